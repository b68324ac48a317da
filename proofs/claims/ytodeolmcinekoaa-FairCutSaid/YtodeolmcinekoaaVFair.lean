/- A part of proofs about functions of one program: a condition over a partial memory that is enough for a call, and what calls answer by it. No condition of its own. -/
import Derived.Test.YtodeolmcinekoaaCx
namespace Go.Proofs
open Go.AF
set_option linter.unusedVariables false
set_option maxRecDepth 100000
theorem vc_shunterlaw24_FairCut (B0 : Option Addr) (m0 c0 : Nat) (x1 : Int) (M : Mem) (K : Value → Mem → Prop) (Kp : List PanicEntry → Mem → Prop) (h :
ACalls Try.prog 18 #[] M (fun v1 M2 =>
exB (some v1) fun t3 =>
bsp (!t3)
 (K (.bool false) M2)
 (∀ k4 : Nat, (M2 k4 = none) → ∃ J5 : List Value → Mem → Prop, (∃ I6 : Nat → List Value → Mem → Prop, (∃ k7 : Nat, I6 k7 [(.slice (some ⟨k4, 0, none⟩) 0 0), (.int .i64 0)] (Mem.set M2 k4 (.cells #[] 30 (0, 0)))) ∧
   ∀ k8 : Nat, ∀ junk9 : Nat → Value, ∀ A10 : Option Addr, ∀ k11 : Nat, ∀ k12 : Nat, ∀ n13 : Int, ∀ M14 : Mem, (I6 k8 [(.slice A10 k11 k12), (.int .i64 n13)] M14) → bsp (decide ((n13 : Int) < ((m0 : Nat) : Int)))
    (bsp (decide ((n13 : Int) < 40))
      (((0 : Int) ≤ n13) ∧
       ((n13 : Int) < ((m0 : Nat) : Int)) ∧
       nilc B0 fun k15 k16 =>
       exI (Mem.ld M14 ⟨k15, (k16 + (Int.toNat n13)), none⟩) .i64 fun n17 =>
       ∀ k18 : Nat, (M14 k18 = none) → semK Try.prog (Go.Builtin.append_ #[26, 26] 26 #[(.slice A10 k11 k12), (.slice (some ⟨k18, 0, none⟩) 1 1)]) (Mem.set M14 k18 (.cells #[(.int .i64 1), (.int .u64 (IntKind.wrap .u64 (IntKind.wrap .i64 (((Nat.bitwise and (BitVec.ofInt IntKind.i64.bits n17).toNat (BitVec.ofInt IntKind.i64.bits 3).toNat) : Nat) : Int))))] 30 (0, 0))) (fun v19 M20 =>
       exSl (some v19) fun A21 k22 k23 =>
       ∃ k24 : Nat, (k24 < k8) ∧
       I6 k24 [(.slice A21 k22 k23), (.int .i64 (IntKind.wrap .i64 (n13 + 1)))] M20) Kp)
      (J5 [(.slice A10 k11 k12)] M14))
    (J5 [(.slice A10 k11 k12)] M14)) ∧
  ∀ junk25 : Nat → Value, ∀ A26 : Option Addr, ∀ k27 : Nat, ∀ k28 : Nat, ∀ M29 : Mem, (J5 [(.slice A26 k27 k28)] M29) → (((IntKind.wrap .i64 (((k27 : Nat) : Int) + 1)) : Int) ≠ 0) ∧
  ((0 : Int) ≤ ((k28 : Nat) : Int)) ∧
  ((((k28 : Nat) : Int) : Int) ≤ ((k28 : Nat) : Int)) ∧
  ((0 : Int) ≤ (Int.tmod (IntKind.wrap .i64 (((Nat.bitwise and (BitVec.ofInt IntKind.i64.bits x1).toNat (BitVec.ofInt IntKind.i64.bits 255).toNat) : Nat) : Int)) (IntKind.wrap .i64 (((k27 : Nat) : Int) + 1)))) ∧
  (((Int.tmod (IntKind.wrap .i64 (((Nat.bitwise and (BitVec.ofInt IntKind.i64.bits x1).toNat (BitVec.ofInt IntKind.i64.bits 255).toNat) : Nat) : Int)) (IntKind.wrap .i64 (((k27 : Nat) : Int) + 1))) : Int) ≤ ((k28 : Nat) : Int)) ∧
  ((0 : Int) ≤ 0) ∧
  ((0 : Int) ≤ (Int.tmod (IntKind.wrap .i64 (((Nat.bitwise and (BitVec.ofInt IntKind.i64.bits x1).toNat (BitVec.ofInt IntKind.i64.bits 255).toNat) : Nat) : Int)) (IntKind.wrap .i64 (((k27 : Nat) : Int) + 1)))) ∧
  ACalls Try.prog 21 #[(.slice (slA A26 0 (Int.toNat ((k28 : Nat) : Int)) 2) ((Int.toNat (Int.tmod (IntKind.wrap .i64 (((Nat.bitwise and (BitVec.ofInt IntKind.i64.bits x1).toNat (BitVec.ofInt IntKind.i64.bits 255).toNat) : Nat) : Int)) (IntKind.wrap .i64 (((k27 : Nat) : Int) + 1)))) - 0) ((Int.toNat ((k28 : Nat) : Int)) - 0)), (.int .i64 3)] M29 (fun v30 M31 =>
  exI (some v30) .i64 fun n32 =>
  ACalls Try.prog 21 #[(.slice A26 k27 k28), (.int .i64 3)] M31 (fun v33 M34 =>
  exI (some v33) .i64 fun n35 =>
  bsp (n32 == 0)
   (K (.bool true) M34)
   (bsp (decide ((n35 : Int) ≥ n32))
     (K (.bool (decide ((n35 : Int) ≤ (IntKind.wrap .i64 ((IntKind.wrap .i64 (n32 + ((k27 : Nat) : Int))) - (Int.tmod (IntKind.wrap .i64 (((Nat.bitwise and (BitVec.ofInt IntKind.i64.bits x1).toNat (BitVec.ofInt IntKind.i64.bits 255).toNat) : Nat) : Int)) (IntKind.wrap .i64 (((k27 : Nat) : Int) + 1)))))))) M34)
     (K (.bool false) M34))) Kp) Kp)) Kp) :
  ACalls Try.prog 4 ([.slice B0 m0 c0, .int .i64 x1] : List Value).toArray M K Kp :=
  acalls_vc (C := Cx) good [(1000000, .cut [(5, .c .sl)]), (2000000, .loop [(5, .c .sl), (6, .c (.int .i64))])] Try.func4 (by kernel_rfl) (by kernel_rfl) h

theorem vc_shunterlaw24_awake  (M : Mem) (K : Value → Mem → Prop) (Kp : List PanicEntry → Mem → Prop) (h :
∀ k1 : Nat, (M k1 = none) → ACalls Try.prog 21 #[(.slice (some ⟨k1, 0, none⟩) 3 3), (.int .i64 2)] (Mem.set M k1 (.cells #[(.int .i64 1), (.int .u64 0), (.int .i64 1), (.int .u64 1), (.int .i64 1), (.int .u64 0)] 30 (0, 0))) (fun v2 M3 =>
exI (some v2) .i64 fun n4 =>
bsp (n4 == 2)
 (ACalls Try.prog 24 #[(.agg #[(.int .i64 0), (.int .i64 0), (.int .i64 2), (.int .i64 1)]), (.int .i64 1), (.int .i64 1)] M3 (fun v5 M6 =>
  exI (some v5) .i64 fun n7 =>
  K (.bool (n7 == 156)) M6) Kp)
 (K (.bool false) M3)) Kp) :
  ACalls Try.prog 18 ([] : List Value).toArray M K Kp :=
  acalls_vc (C := Cx) good [] Try.func18 (by kernel_rfl) (by kernel_rfl) h

theorem vc_fair_Window (B0 : Option Addr) (m0 c0 : Nat) (x1 : Int) (M : Mem) (K : Value → Mem → Prop) (Kp : List PanicEntry → Mem → Prop) (h :
semK Try.prog (Go.Instr.makeSlice 39 (.int .i64 (if (0 : Int) > x1 then 0 else x1)) (.int .i64 (if (0 : Int) > x1 then 0 else x1))) M (fun v1 M2 =>
exSl (some v1) fun A3 k4 k5 =>
∃ I6 : Nat → List Value → Mem → Prop, (∃ k7 : Nat, I6 k7 [(.int .i64 0)] M2) ∧
∀ k8 : Nat, ∀ junk9 : Nat → Value, ∀ n10 : Int, ∀ M11 : Mem, (I6 k8 [(.int .i64 n10)] M11) → bsp (decide ((n10 : Int) < ((k4 : Nat) : Int)))
 (((0 : Int) ≤ n10) ∧
  ((n10 : Int) < ((k4 : Nat) : Int)) ∧
  nilc A3 fun k12 k13 =>
  (Mem.wr M11 ⟨k12, (k13 + (Int.toNat n10)), none⟩ = true) ∧
  ∃ k14 : Nat, (k14 < k8) ∧
  I6 k14 [(.int .i64 (IntKind.wrap .i64 (n10 + 1)))] (Mem.put M11 ⟨k12, (k13 + (Int.toNat n10)), none⟩ (.int .i64 (-1))))
 (semK Try.prog (Go.Instr.makeSlice 76 (.int .i64 ((k4 : Nat) : Int)) (.int .i64 ((k4 : Nat) : Int))) M11 (fun v15 M16 =>
  exSl (some v15) fun A17 k18 k19 =>
  ∃ I20 : Nat → List Value → Mem → Prop, (∃ k21 : Nat, I20 k21 [(.int .i64 0), (.int .i64 0), (.int .i64 0)] M16) ∧
  ∀ k22 : Nat, ∀ junk23 : Nat → Value, ∀ n24 : Int, ∀ n25 : Int, ∀ n26 : Int, ∀ M27 : Mem, (I20 k22 [(.int .i64 n24), (.int .i64 n25), (.int .i64 n26)] M27) → bsp (decide ((n26 : Int) < ((m0 : Nat) : Int)))
   (((0 : Int) ≤ n26) ∧
    ((n26 : Int) < ((m0 : Nat) : Int)) ∧
    nilc B0 fun k28 k29 =>
    exI (Mem.ld M27 ⟨k28, (k29 + ((Int.toNat n26) * 2)), none⟩) .i64 fun n30 =>
    exI (Mem.ld M27 ⟨k28, ((k29 + ((Int.toNat n26) * 2)) + 1), none⟩) .u64 fun n31 =>
    ∀ k32 : Nat, (M27 k32 = none) → (Mem.wr (Mem.set M27 k32 (.cells #[(.int .i64 0), (.int .u64 0)] 30 (0, 0))) ⟨k32, 0, none⟩ = true) ∧
    (Mem.wr (Mem.put (Mem.set M27 k32 (.cells #[(.int .i64 0), (.int .u64 0)] 30 (0, 0))) ⟨k32, 0, none⟩ (.int .i64 n30)) ⟨k32, (0 + 1), none⟩ = true) ∧
    exI (Mem.ld (Mem.put (Mem.put (Mem.set M27 k32 (.cells #[(.int .i64 0), (.int .u64 0)] 30 (0, 0))) ⟨k32, 0, none⟩ (.int .i64 n30)) ⟨k32, (0 + 1), none⟩ (.int .u64 n31)) ⟨k32, 0, none⟩) .i64 fun n33 =>
    bsp (n33 != 1)
     (∃ k34 : Nat, (k34 < k22) ∧
      I20 k34 [(.int .i64 n24), (.int .i64 n25), (.int .i64 (IntKind.wrap .i64 (n26 + 1)))] (Mem.put (Mem.put (Mem.set M27 k32 (.cells #[(.int .i64 0), (.int .u64 0)] 30 (0, 0))) ⟨k32, 0, none⟩ (.int .i64 n30)) ⟨k32, (0 + 1), none⟩ (.int .u64 n31)))
     (exI (Mem.ld (Mem.put (Mem.put (Mem.set M27 k32 (.cells #[(.int .i64 0), (.int .u64 0)] 30 (0, 0))) ⟨k32, 0, none⟩ (.int .i64 n30)) ⟨k32, (0 + 1), none⟩ (.int .u64 n31)) ⟨k32, (0 + 1), none⟩) .u64 fun n35 =>
      bsp (decide ((n35 : Int) < (IntKind.wrap .u64 ((k4 : Nat) : Int))))
       (exI (Mem.ld (Mem.put (Mem.put (Mem.set M27 k32 (.cells #[(.int .i64 0), (.int .u64 0)] 30 (0, 0))) ⟨k32, 0, none⟩ (.int .i64 n30)) ⟨k32, (0 + 1), none⟩ (.int .u64 n31)) ⟨k32, (0 + 1), none⟩) .u64 fun n36 =>
        ((0 : Int) ≤ n36) ∧
        ((n36 : Int) < ((k4 : Nat) : Int)) ∧
        nilc A3 fun k37 k38 =>
        exI (Mem.ld (Mem.put (Mem.put (Mem.set M27 k32 (.cells #[(.int .i64 0), (.int .u64 0)] 30 (0, 0))) ⟨k32, 0, none⟩ (.int .i64 n30)) ⟨k32, (0 + 1), none⟩ (.int .u64 n31)) ⟨k37, (k38 + (Int.toNat n36)), none⟩) .i64 fun n39 =>
        exI (Mem.ld (Mem.put (Mem.put (Mem.set M27 k32 (.cells #[(.int .i64 0), (.int .u64 0)] 30 (0, 0))) ⟨k32, 0, none⟩ (.int .i64 n30)) ⟨k32, (0 + 1), none⟩ (.int .u64 n31)) ⟨k32, (0 + 1), none⟩) .u64 fun n40 =>
        ((0 : Int) ≤ n40) ∧
        ((n40 : Int) < ((k4 : Nat) : Int)) ∧
        nilc A3 fun k41 k42 =>
        exI (Mem.ld (Mem.put (Mem.put (Mem.set M27 k32 (.cells #[(.int .i64 0), (.int .u64 0)] 30 (0, 0))) ⟨k32, 0, none⟩ (.int .i64 n30)) ⟨k32, (0 + 1), none⟩ (.int .u64 n31)) ⟨k32, (0 + 1), none⟩) .u64 fun n43 =>
        (Mem.wr (Mem.put (Mem.put (Mem.set M27 k32 (.cells #[(.int .i64 0), (.int .u64 0)] 30 (0, 0))) ⟨k32, 0, none⟩ (.int .i64 n30)) ⟨k32, (0 + 1), none⟩ (.int .u64 n31)) ⟨k41, (k42 + (Int.toNat n40)), none⟩ = true) ∧
        ((Mem.ld (Mem.put (Mem.put (Mem.put (Mem.set M27 k32 (.cells #[(.int .i64 0), (.int .u64 0)] 30 (0, 0))) ⟨k32, 0, none⟩ (.int .i64 n30)) ⟨k32, (0 + 1), none⟩ (.int .u64 n31)) ⟨k41, (k42 + (Int.toNat n40)), none⟩ (.int .i64 n24)) ⟨k32, (0 + 1), none⟩) = (some (.int .u64 n43))) ∧
        ((0 : Int) ≤ n43) ∧
        ((n43 : Int) < ((k18 : Nat) : Int)) ∧
        nilc A17 fun k44 k45 =>
        (Mem.wr (Mem.put (Mem.put (Mem.put (Mem.set M27 k32 (.cells #[(.int .i64 0), (.int .u64 0)] 30 (0, 0))) ⟨k32, 0, none⟩ (.int .i64 n30)) ⟨k32, (0 + 1), none⟩ (.int .u64 n31)) ⟨k41, (k42 + (Int.toNat n40)), none⟩ (.int .i64 n24)) ⟨k44, (k45 + (Int.toNat n43)), none⟩ = true) ∧
        ((Mem.ld (Mem.put (Mem.put (Mem.put (Mem.put (Mem.set M27 k32 (.cells #[(.int .i64 0), (.int .u64 0)] 30 (0, 0))) ⟨k32, 0, none⟩ (.int .i64 n30)) ⟨k32, (0 + 1), none⟩ (.int .u64 n31)) ⟨k41, (k42 + (Int.toNat n40)), none⟩ (.int .i64 n24)) ⟨k44, (k45 + (Int.toNat n43)), none⟩ (.bool true)) ⟨k32, (0 + 1), none⟩) = (some (.int .u64 n43))) ∧
        ∃ k46 : Nat, (k46 < k22) ∧
        I20 k46 [(.int .i64 (IntKind.wrap .i64 (n24 + 1))), (.int .i64 (if ((IntKind.wrap .i64 (n24 - n39)) : Int) > n25 then (IntKind.wrap .i64 (n24 - n39)) else n25)), (.int .i64 (IntKind.wrap .i64 (n26 + 1)))] (Mem.put (Mem.put (Mem.put (Mem.put (Mem.set M27 k32 (.cells #[(.int .i64 0), (.int .u64 0)] 30 (0, 0))) ⟨k32, 0, none⟩ (.int .i64 n30)) ⟨k32, (0 + 1), none⟩ (.int .u64 n31)) ⟨k41, (k42 + (Int.toNat n40)), none⟩ (.int .i64 n24)) ⟨k44, (k45 + (Int.toNat n43)), none⟩ (.bool true)))
       (∃ k47 : Nat, (k47 < k22) ∧
        I20 k47 [(.int .i64 (IntKind.wrap .i64 (n24 + 1))), (.int .i64 n25), (.int .i64 (IntKind.wrap .i64 (n26 + 1)))] (Mem.put (Mem.put (Mem.set M27 k32 (.cells #[(.int .i64 0), (.int .u64 0)] 30 (0, 0))) ⟨k32, 0, none⟩ (.int .i64 n30)) ⟨k32, (0 + 1), none⟩ (.int .u64 n31)))))
   (∃ I48 : Nat → List Value → Mem → Prop, (∃ k49 : Nat, I48 k49 [(.int .i64 n25), (.int .i64 0)] M27) ∧
    ∀ k50 : Nat, ∀ junk51 : Nat → Value, ∀ n52 : Int, ∀ n53 : Int, ∀ M54 : Mem, (I48 k50 [(.int .i64 n52), (.int .i64 n53)] M54) → bsp (decide ((n53 : Int) < ((k4 : Nat) : Int)))
     (((0 : Int) ≤ n53) ∧
      ((n53 : Int) < ((k4 : Nat) : Int)) ∧
      nilc A3 fun k55 k56 =>
      exI (Mem.ld M54 ⟨k55, (k56 + (Int.toNat n53)), none⟩) .i64 fun n57 =>
      ((0 : Int) ≤ n53) ∧
      ((n53 : Int) < ((k18 : Nat) : Int)) ∧
      nilc A17 fun k58 k59 =>
      exB (Mem.ld M54 ⟨k58, (k59 + (Int.toNat n53)), none⟩) fun t60 =>
      bsp (!t60)
       (K (.int .i64 0) M54)
       (∃ k61 : Nat, (k61 < k50) ∧
        I48 k61 [(.int .i64 (if ((IntKind.wrap .i64 (n24 - n57)) : Int) > n52 then (IntKind.wrap .i64 (n24 - n57)) else n52)), (.int .i64 (IntKind.wrap .i64 (n53 + 1)))] M54))
     (K (.int .i64 n52) M54))) Kp)) Kp) :
  ACalls Try.prog 21 ([.slice B0 m0 c0, .int .i64 x1] : List Value).toArray M K Kp :=
  acalls_vc (C := Cx) good [(2000000, .loop [(19, .c (.int .i64))]), (2000002, .loop [(8, .c (.int .i64)), (9, .c (.int .i64)), (31, .c (.int .i64))]), (15, .reg [0, 0, 2, 0, 0, 16, 0, 71, 199, 511, 1023] (.step 0 (.step 1 (.step 3 (.step 4 (.step 6 (.step 2 (.step 7 (.prom 5 (.step 8 (.step 9 (.step 10 .done)))))))))))), (2000004, .loop [(9, .c (.int .i64)), (67, .c (.int .i64))])] Try.func21 (by kernel_rfl) (by kernel_rfl) h

theorem vc_fair_Bound (x0_0 : Int) (x0_1 : Int) (x0_2 : Int) (x0_3 : Int) (x1 : Int) (x2 : Int) (M : Mem) (K : Value → Mem → Prop) (Kp : List PanicEntry → Mem → Prop) (h :
∀ k1 : Nat, (M k1 = none) → exI (Mem.ld (Mem.set M k1 (.cells #[(.int .i64 x0_0), (.int .i64 x0_1), (.int .i64 x0_2), (.int .i64 x0_3)] 36 (0, 0))) ⟨k1, (0 + 3), none⟩) .i64 fun n2 =>
exI (Mem.ld (Mem.set M k1 (.cells #[(.int .i64 x0_0), (.int .i64 x0_1), (.int .i64 x0_2), (.int .i64 x0_3)] 36 (0, 0))) ⟨k1, (0 + 2), none⟩) .i64 fun n3 =>
K (.int .i64 (IntKind.wrap .i64 ((IntKind.wrap .i64 ((IntKind.wrap .i64 ((IntKind.wrap .i64 ((IntKind.wrap .i64 (2 * n2)) + 2)) * x1)) * (IntKind.wrap .i64 ((IntKind.wrap .i64 (7 * (IntKind.wrap .i64 (x2 + 2)))) + (IntKind.wrap .i64 (4 * (IntKind.wrap .i64 (n3 + 2)))))))) + (IntKind.wrap .i64 (8 * x1))))) (Mem.set M k1 (.cells #[(.int .i64 x0_0), (.int .i64 x0_1), (.int .i64 x0_2), (.int .i64 x0_3)] 36 (0, 0)))) :
  ACalls Try.prog 24 ([.agg #[.int .i64 x0_0, .int .i64 x0_1, .int .i64 x0_2, .int .i64 x0_3], .int .i64 x1, .int .i64 x2] : List Value).toArray M K Kp :=
  acalls_vc (C := Cx) good [] Try.func24 (by kernel_rfl) (by kernel_rfl) h

end Go.Proofs
