/- A part of proofs about functions of one program: a condition over a partial memory that is enough for a call, and what calls answer by it. No condition of its own. -/
import Derived.Test.YtodeolmcinekoaaCx
namespace Go.Proofs
open Go.AF
set_option linter.unusedVariables false
set_option maxRecDepth 100000
theorem vc_shunterlaw24_awake  {M : Mem} {K : Value → Mem → Prop} {Kp : List PanicEntry → Mem → Prop} (h :
nwc M (.cells #[(.int .i64 1), (.int .u64 0), (.int .i64 1), (.int .u64 1), (.int .i64 1), (.int .u64 0)] 30 (0, 0)) fun k1 M2 =>
ACalls Try.prog 21 #[(.slice (some ⟨k1, 0, none⟩) 3 3), (.int .i64 2)] M2 (fun v3 M4 =>
exI (some v3) .i64 fun n5 =>
bsp (n5 == 2)
 (ACalls Try.prog 24 #[(.agg #[(.int .i64 0), (.int .i64 0), (.int .i64 2), (.int .i64 1)]), (.int .i64 1), (.int .i64 1)] M4 (fun v6 M7 =>
  exI (some v6) .i64 fun n8 =>
  K (.bool (n8 == 156)) M7) Kp)
 (K (.bool false) M4)) Kp) :
  ACalls Try.prog 18 ([] : List Value).toArray M K Kp :=
  acalls_vc (C := Cx) good [] Try.func18 (by kernel_rfl) (by kernel_rfl) h

theorem vc_shunterlaw02_Some {B0 : Option Addr} {m0 c0 : Nat} {M : Mem} {K : Value → Mem → Prop} {Kp : List PanicEntry → Mem → Prop} (h :
nwc M (.cells #[] 30 (0, 0)) fun k1 M2 =>
∃ I3 : Nat → List Value → Mem → Prop, (∃ k4 : Nat, I3 k4 [(.slice (some ⟨k1, 0, none⟩) 0 0), (.int .i64 0)] M2) ∧
∀ k5 : Nat, ∀ junk6 : Nat → Value, ∀ A7 : Option Addr, ∀ k8 : Nat, ∀ k9 : Nat, ∀ n10 : Int, ∀ M11 : Mem, (I3 k5 [(.slice A7 k8 k9), (.int .i64 n10)] M11) → bsp (decide ((n10 : Int) < ((m0 : Nat) : Int)))
 (bsp (decide ((n10 : Int) < 40))
   (((0 : Int) ≤ n10) ∧
    ((n10 : Int) < ((m0 : Nat) : Int)) ∧
    nilc B0 fun k12 k13 =>
    ((0 : Int) ≤ n10) ∧
    ((n10 : Int) < ((m0 : Nat) : Int)) ∧
    nilc B0 fun k14 k15 =>
    exI (Mem.ld M11 ⟨k12, (k13 + ((Int.toNat n10) * 2)), none⟩) .i64 fun n16 =>
    ((4 : Int) ≠ 0) ∧
    exI (Mem.ld M11 ⟨k14, ((k15 + ((Int.toNat n10) * 2)) + 1), none⟩) .u64 fun n17 =>
    nwc M11 (.cells #[(.int .i64 (IntKind.wrap .i64 (1 + (Int.tmod (IntKind.wrap .i64 (((Nat.bitwise and (BitVec.ofInt IntKind.i64.bits n16).toNat (BitVec.ofInt IntKind.i64.bits 255).toNat) : Nat) : Int)) 4)))), (.int .u64 (IntKind.wrap .u64 (((Nat.bitwise and (BitVec.ofInt IntKind.u64.bits n17).toNat (BitVec.ofInt IntKind.u64.bits 4611686018427387903).toNat) : Nat) : Int)))] 30 (0, 0)) fun k18 M19 =>
    semK Try.prog (Go.Builtin.append_ #[26, 26] 26 #[(.slice A7 k8 k9), (.slice (some ⟨k18, 0, none⟩) 1 1)]) M19 (fun v20 M21 =>
    exSl (some v20) fun A22 k23 k24 =>
    ∃ k25 : Nat, (k25 < k5) ∧
    I3 k25 [(.slice A22 k23 k24), (.int .i64 (IntKind.wrap .i64 (n10 + 1)))] M21) Kp)
   (K (.slice A7 k8 k9) M11))
 (K (.slice A7 k8 k9) M11)) :
  ACalls Try.prog 19 ([.slice B0 m0 c0] : List Value).toArray M K Kp :=
  acalls_vc (C := Cx) good [(2000000, .loop [(3, .c .sl), (4, .c (.int .i64))]), (5, .reg [0, 0, 0, 6, 14, 30, 62, 126, 254, 0, 0, 1536, 3584, 7680, 15872, 32766, 65534, 131071, 262143] (.step 0 (.step 1 (.step 2 (.step 3 (.step 4 (.step 9 (.step 10 (.step 11 (.step 12 (.step 5 (.step 6 (.step 7 (.step 8 (.step 13 (.step 14 (.step 15 (.step 16 (.step 17 (.step 18 .done))))))))))))))))))))] Try.func19 (by kernel_rfl) (by kernel_rfl) h

theorem vc_shunterlaw18_Some {x0_0 : Int} {x0_1 : Int} {x0_2 : Int} {x0_3 : Int} {M : Mem} {K : Value → Mem → Prop} {Kp : List PanicEntry → Mem → Prop} (h :
nwc M (.cells #[(.int .i64 x0_0), (.int .i64 x0_1), (.int .i64 x0_2), (.int .i64 x0_3)] 24 (0, 0)) fun k1 M2 =>
nwc M2 (.cells #[(.int .i64 0), (.int .i64 0), (.int .i64 0), (.int .i64 0)] 24 (0, 0)) fun k3 M4 =>
exI (Mem.ld M4 ⟨k1, 0, none⟩) .i64 fun n5 =>
exI (Mem.ld M4 ⟨k1, (0 + 1), none⟩) .i64 fun n6 =>
exI (Mem.ld M4 ⟨k1, (0 + 2), none⟩) .i64 fun n7 =>
exI (Mem.ld M4 ⟨k1, (0 + 3), none⟩) .i64 fun n8 =>
ACalls Try.prog 79 #[(.int .i64 n5), (.int .i64 5)] M4 (fun v9 M10 =>
exI (some v9) .i64 fun n11 =>
((Mem.ld M10 ⟨k1, (0 + 3), none⟩) = (some (.int .i64 n8))) ∧
((Mem.ld M10 ⟨k1, (0 + 2), none⟩) = (some (.int .i64 n7))) ∧
((Mem.ld M10 ⟨k1, (0 + 1), none⟩) = (some (.int .i64 n6))) ∧
ACalls Try.prog 79 #[(.int .i64 n6), (.int .i64 5)] M10 (fun v12 M13 =>
exI (some v12) .i64 fun n14 =>
((Mem.ld M13 ⟨k1, (0 + 3), none⟩) = (some (.int .i64 n8))) ∧
((Mem.ld M13 ⟨k1, (0 + 2), none⟩) = (some (.int .i64 n7))) ∧
((Mem.ld M13 ⟨k1, (0 + 1), none⟩) = (some (.int .i64 n6))) ∧
ACalls Try.prog 79 #[(.int .i64 n7), (.int .i64 5)] M13 (fun v15 M16 =>
exI (some v15) .i64 fun n17 =>
((Mem.ld M16 ⟨k1, (0 + 3), none⟩) = (some (.int .i64 n8))) ∧
((Mem.ld M16 ⟨k1, (0 + 2), none⟩) = (some (.int .i64 n7))) ∧
((Mem.ld M16 ⟨k1, (0 + 1), none⟩) = (some (.int .i64 n6))) ∧
ACalls Try.prog 79 #[(.int .i64 n8), (.int .i64 12)] M16 (fun v18 M19 =>
exI (some v18) .i64 fun n20 =>
((Mem.ld M19 ⟨k1, (0 + 3), none⟩) = (some (.int .i64 n8))) ∧
((Mem.ld M19 ⟨k1, (0 + 2), none⟩) = (some (.int .i64 n7))) ∧
((Mem.ld M19 ⟨k1, (0 + 1), none⟩) = (some (.int .i64 n6))) ∧
stc M19 ⟨k3, 0, none⟩ (.int .i64 (IntKind.wrap .i64 (1 + n11))) fun M21 =>
stc M21 ⟨k3, (0 + 1), none⟩ (.int .i64 (IntKind.wrap .i64 (1 + n14))) fun M22 =>
stc M22 ⟨k3, (0 + 2), none⟩ (.int .i64 (IntKind.wrap .i64 (2 + n17))) fun M23 =>
stc M23 ⟨k3, (0 + 3), none⟩ (.int .i64 (IntKind.wrap .i64 (1 + n20))) fun M24 =>
((Mem.ld M24 ⟨k1, (0 + 3), none⟩) = (some (.int .i64 n8))) ∧
((Mem.ld M24 ⟨k1, (0 + 2), none⟩) = (some (.int .i64 n7))) ∧
((Mem.ld M24 ⟨k1, (0 + 1), none⟩) = (some (.int .i64 n6))) ∧
exI (Mem.ld M24 ⟨k3, 0, none⟩) .i64 fun n25 =>
exI (Mem.ld M24 ⟨k3, (0 + 1), none⟩) .i64 fun n26 =>
exI (Mem.ld M24 ⟨k3, (0 + 2), none⟩) .i64 fun n27 =>
exI (Mem.ld M24 ⟨k3, (0 + 3), none⟩) .i64 fun n28 =>
K (.agg #[(.int .i64 n25), (.int .i64 n26), (.int .i64 n27), (.int .i64 n28)]) M24) Kp) Kp) Kp) Kp) :
  ACalls Try.prog 20 ([.agg #[.int .i64 x0_0, .int .i64 x0_1, .int .i64 x0_2, .int .i64 x0_3]] : List Value).toArray M K Kp :=
  acalls_vc (C := Cx) good [(2, .reg [0, 0, 2, 7, 15, 0, 0, 64, 239, 495, 0, 0, 2048, 7663, 15855, 0, 0, 65536, 245231, 507375, 1048575, 2097151] (.step 0 (.step 1 (.step 5 (.step 6 (.step 10 (.step 11 (.step 15 (.step 16 (.step 2 (.prom 7 (.prom 12 (.prom 17 (.step 3 (.step 4 (.step 8 (.step 9 (.step 13 (.step 14 (.step 18 (.step 19 (.step 20 (.step 21 .done)))))))))))))))))))))))] Try.func20 (by kernel_rfl) (by kernel_rfl) h

theorem vc_fair_Window {B0 : Option Addr} {m0 c0 : Nat} {x1 : Int} {M : Mem} {K : Value → Mem → Prop} {Kp : List PanicEntry → Mem → Prop} (h :
semK Try.prog (Go.Instr.makeSlice 39 (.int .i64 (if (0 : Int) > x1 then 0 else x1)) (.int .i64 (if (0 : Int) > x1 then 0 else x1))) M (fun v1 M2 =>
exSl (some v1) fun A3 k4 k5 =>
∃ I6 : Nat → List Value → Mem → Prop, (∃ k7 : Nat, I6 k7 [(.int .i64 0)] M2) ∧
∀ k8 : Nat, ∀ junk9 : Nat → Value, ∀ n10 : Int, ∀ M11 : Mem, (I6 k8 [(.int .i64 n10)] M11) → bsp (decide ((n10 : Int) < ((k4 : Nat) : Int)))
 (((0 : Int) ≤ n10) ∧
  ((n10 : Int) < ((k4 : Nat) : Int)) ∧
  nilc A3 fun k12 k13 =>
  stc M11 ⟨k12, (k13 + (Int.toNat n10)), none⟩ (.int .i64 (-1)) fun M14 =>
  ∃ k15 : Nat, (k15 < k8) ∧
  I6 k15 [(.int .i64 (IntKind.wrap .i64 (n10 + 1)))] M14)
 (semK Try.prog (Go.Instr.makeSlice 76 (.int .i64 ((k4 : Nat) : Int)) (.int .i64 ((k4 : Nat) : Int))) M11 (fun v16 M17 =>
  exSl (some v16) fun A18 k19 k20 =>
  ∃ I21 : Nat → List Value → Mem → Prop, (∃ k22 : Nat, I21 k22 [(.int .i64 0), (.int .i64 0), (.int .i64 0)] M17) ∧
  ∀ k23 : Nat, ∀ junk24 : Nat → Value, ∀ n25 : Int, ∀ n26 : Int, ∀ n27 : Int, ∀ M28 : Mem, (I21 k23 [(.int .i64 n25), (.int .i64 n26), (.int .i64 n27)] M28) → bsp (decide ((n27 : Int) < ((m0 : Nat) : Int)))
   (((0 : Int) ≤ n27) ∧
    ((n27 : Int) < ((m0 : Nat) : Int)) ∧
    nilc B0 fun k29 k30 =>
    exI (Mem.ld M28 ⟨k29, (k30 + ((Int.toNat n27) * 2)), none⟩) .i64 fun n31 =>
    exI (Mem.ld M28 ⟨k29, ((k30 + ((Int.toNat n27) * 2)) + 1), none⟩) .u64 fun n32 =>
    nwc M28 (.cells #[(.int .i64 0), (.int .u64 0)] 30 (0, 0)) fun k33 M34 =>
    stc M34 ⟨k33, 0, none⟩ (.int .i64 n31) fun M35 =>
    stc M35 ⟨k33, (0 + 1), none⟩ (.int .u64 n32) fun M36 =>
    exI (Mem.ld M36 ⟨k33, 0, none⟩) .i64 fun n37 =>
    bsp (n37 != 1)
     (∃ k38 : Nat, (k38 < k23) ∧
      I21 k38 [(.int .i64 n25), (.int .i64 n26), (.int .i64 (IntKind.wrap .i64 (n27 + 1)))] M36)
     (exI (Mem.ld M36 ⟨k33, (0 + 1), none⟩) .u64 fun n39 =>
      bsp (decide ((n39 : Int) < (IntKind.wrap .u64 ((k4 : Nat) : Int))))
       (exI (Mem.ld M36 ⟨k33, (0 + 1), none⟩) .u64 fun n40 =>
        ((0 : Int) ≤ n40) ∧
        ((n40 : Int) < ((k4 : Nat) : Int)) ∧
        nilc A3 fun k41 k42 =>
        exI (Mem.ld M36 ⟨k41, (k42 + (Int.toNat n40)), none⟩) .i64 fun n43 =>
        exI (Mem.ld M36 ⟨k33, (0 + 1), none⟩) .u64 fun n44 =>
        ((0 : Int) ≤ n44) ∧
        ((n44 : Int) < ((k4 : Nat) : Int)) ∧
        nilc A3 fun k45 k46 =>
        exI (Mem.ld M36 ⟨k33, (0 + 1), none⟩) .u64 fun n47 =>
        stc M36 ⟨k45, (k46 + (Int.toNat n44)), none⟩ (.int .i64 n25) fun M48 =>
        ((Mem.ld M48 ⟨k33, (0 + 1), none⟩) = (some (.int .u64 n47))) ∧
        ((0 : Int) ≤ n47) ∧
        ((n47 : Int) < ((k19 : Nat) : Int)) ∧
        nilc A18 fun k49 k50 =>
        stc M48 ⟨k49, (k50 + (Int.toNat n47)), none⟩ (.bool true) fun M51 =>
        ((Mem.ld M51 ⟨k33, (0 + 1), none⟩) = (some (.int .u64 n47))) ∧
        ∃ k52 : Nat, (k52 < k23) ∧
        I21 k52 [(.int .i64 (IntKind.wrap .i64 (n25 + 1))), (.int .i64 (if ((IntKind.wrap .i64 (n25 - n43)) : Int) > n26 then (IntKind.wrap .i64 (n25 - n43)) else n26)), (.int .i64 (IntKind.wrap .i64 (n27 + 1)))] M51)
       (∃ k53 : Nat, (k53 < k23) ∧
        I21 k53 [(.int .i64 (IntKind.wrap .i64 (n25 + 1))), (.int .i64 n26), (.int .i64 (IntKind.wrap .i64 (n27 + 1)))] M36)))
   (∃ I54 : Nat → List Value → Mem → Prop, (∃ k55 : Nat, I54 k55 [(.int .i64 n26), (.int .i64 0)] M28) ∧
    ∀ k56 : Nat, ∀ junk57 : Nat → Value, ∀ n58 : Int, ∀ n59 : Int, ∀ M60 : Mem, (I54 k56 [(.int .i64 n58), (.int .i64 n59)] M60) → bsp (decide ((n59 : Int) < ((k4 : Nat) : Int)))
     (((0 : Int) ≤ n59) ∧
      ((n59 : Int) < ((k4 : Nat) : Int)) ∧
      nilc A3 fun k61 k62 =>
      exI (Mem.ld M60 ⟨k61, (k62 + (Int.toNat n59)), none⟩) .i64 fun n63 =>
      ((0 : Int) ≤ n59) ∧
      ((n59 : Int) < ((k19 : Nat) : Int)) ∧
      nilc A18 fun k64 k65 =>
      exB (Mem.ld M60 ⟨k64, (k65 + (Int.toNat n59)), none⟩) fun t66 =>
      bsp (!t66)
       (K (.int .i64 0) M60)
       (∃ k67 : Nat, (k67 < k56) ∧
        I54 k67 [(.int .i64 (if ((IntKind.wrap .i64 (n25 - n63)) : Int) > n58 then (IntKind.wrap .i64 (n25 - n63)) else n58)), (.int .i64 (IntKind.wrap .i64 (n59 + 1)))] M60))
     (K (.int .i64 n58) M60))) Kp)) Kp) :
  ACalls Try.prog 21 ([.slice B0 m0 c0, .int .i64 x1] : List Value).toArray M K Kp :=
  acalls_vc (C := Cx) good [(2000000, .loop [(19, .c (.int .i64))]), (2000002, .loop [(8, .c (.int .i64)), (9, .c (.int .i64)), (31, .c (.int .i64))]), (15, .reg [0, 0, 2, 0, 0, 16, 0, 71, 199, 511, 1023] (.step 0 (.step 1 (.step 3 (.step 4 (.step 6 (.step 2 (.step 7 (.prom 5 (.step 8 (.step 9 (.step 10 .done)))))))))))), (2000004, .loop [(9, .c (.int .i64)), (67, .c (.int .i64))])] Try.func21 (by kernel_rfl) (by kernel_rfl) h

theorem vc_shunterref24_Window {B0 : Option Addr} {m0 c0 : Nat} {x1 : Int} {M : Mem} {K : Value → Mem → Prop} {Kp : List PanicEntry → Mem → Prop} (h :
nwc M (.cells #[] 28 (0, 0)) fun k1 M2 =>
∃ I3 : Nat → List Value → Mem → Prop, (∃ k4 : Nat, I3 k4 [(.slice (some ⟨k1, 0, none⟩) 0 0), (.int .i64 0)] M2) ∧
∀ k5 : Nat, ∀ junk6 : Nat → Value, ∀ A7 : Option Addr, ∀ k8 : Nat, ∀ k9 : Nat, ∀ n10 : Int, ∀ M11 : Mem, (I3 k5 [(.slice A7 k8 k9), (.int .i64 n10)] M11) → bsp (decide ((n10 : Int) < ((m0 : Nat) : Int)))
 (((0 : Int) ≤ n10) ∧
  ((n10 : Int) < ((m0 : Nat) : Int)) ∧
  nilc B0 fun k12 k13 =>
  exI (Mem.ld M11 ⟨k12, (k13 + ((Int.toNat n10) * 2)), none⟩) .i64 fun n14 =>
  exI (Mem.ld M11 ⟨k12, ((k13 + ((Int.toNat n10) * 2)) + 1), none⟩) .u64 fun n15 =>
  nwc M11 (.cells #[(.int .i64 0), (.int .u64 0)] 142 (0, 0)) fun k16 M17 =>
  stc M17 ⟨k16, 0, none⟩ (.int .i64 n14) fun M18 =>
  stc M18 ⟨k16, (0 + 1), none⟩ (.int .u64 n15) fun M19 =>
  exI (Mem.ld M19 ⟨k16, 0, none⟩) .i64 fun n20 =>
  bsp (n20 == 1)
   (exI (Mem.ld M19 ⟨k16, (0 + 1), none⟩) .u64 fun n21 =>
    nwc M19 (.cells #[(.int .u64 n21)] 28 (0, 0)) fun k22 M23 =>
    semK Try.prog (Go.Builtin.append_ #[144, 144] 144 #[(.slice A7 k8 k9), (.slice (some ⟨k22, 0, none⟩) 1 1)]) M23 (fun v24 M25 =>
    exSl (some v24) fun A26 k27 k28 =>
    ∃ k29 : Nat, (k29 < k5) ∧
    I3 k29 [(.slice A26 k27 k28), (.int .i64 (IntKind.wrap .i64 (n10 + 1)))] M25) Kp)
   (∃ k30 : Nat, (k30 < k5) ∧
    I3 k30 [(.slice A7 k8 k9), (.int .i64 (IntKind.wrap .i64 (n10 + 1)))] M19))
 (∃ I31 : Nat → List Value → Mem → Prop, (∃ k32 : Nat, I31 k32 [(.int .i64 0), (.int .i64 0)] M11) ∧
  ∀ k33 : Nat, ∀ junk34 : Nat → Value, ∀ n35 : Int, ∀ n36 : Int, ∀ M37 : Mem, (I31 k33 [(.int .i64 n35), (.int .i64 n36)] M37) → bsp (decide ((n36 : Int) < x1))
   (∃ I38 : Nat → List Value → Mem → Prop, (∃ k39 : Nat, I38 k39 [(.int .i64 0), (.int .i64 0), (.bool false), (.int .i64 0)] M37) ∧
    ∀ k40 : Nat, ∀ junk41 : Nat → Value, ∀ n42 : Int, ∀ n43 : Int, ∀ t44 : Bool, ∀ n45 : Int, ∀ M46 : Mem, (I38 k40 [(.int .i64 n42), (.int .i64 n43), (.bool t44), (.int .i64 n45)] M46) → bsp (decide ((n45 : Int) < ((k8 : Nat) : Int)))
     (((0 : Int) ≤ n45) ∧
      ((n45 : Int) < ((k8 : Nat) : Int)) ∧
      nilc A7 fun k47 k48 =>
      exI (Mem.ld M46 ⟨k47, (k48 + (Int.toNat n45)), none⟩) .u64 fun n49 =>
      bsp (n49 == (IntKind.wrap .u64 n36))
       (∃ k50 : Nat, (k50 < k40) ∧
        I38 k50 [(.int .i64 (if (0 : Int) > n42 then 0 else n42)), (.int .i64 0), (.bool true), (.int .i64 (IntKind.wrap .i64 (n45 + 1)))] M46)
       (∃ k51 : Nat, (k51 < k40) ∧
        I38 k51 [(.int .i64 (if ((IntKind.wrap .i64 (n43 + 1)) : Int) > n42 then (IntKind.wrap .i64 (n43 + 1)) else n42)), (.int .i64 (IntKind.wrap .i64 (n43 + 1))), (.bool t44), (.int .i64 (IntKind.wrap .i64 (n45 + 1)))] M46))
     (bsp (!t44)
       (K (.int .i64 0) M46)
       (∃ k52 : Nat, (k52 < k33) ∧
        I31 k52 [(.int .i64 (if ((IntKind.wrap .i64 (n42 + 1)) : Int) > n35 then (IntKind.wrap .i64 (n42 + 1)) else n35)), (.int .i64 (IntKind.wrap .i64 (n36 + 1)))] M46)))
   (K (.int .i64 n35) M37))) :
  ACalls Try.prog 22 ([.slice B0 m0 c0, .int .i64 x1] : List Value).toArray M K Kp :=
  acalls_vc (C := Cx) good [(2000000, .loop [(5, .c .sl), (18, .c (.int .i64))]), (2000002, .loop [(8, .c (.int .i64)), (9, .c (.int .i64))]), (2000004, .loop [(10, .c (.int .i64)), (11, .c (.int .i64)), (12, .c .bool), (38, .c (.int .i64))])] Try.func22 (by kernel_rfl) (by kernel_rfl) h

theorem vc_shunterlaw02_Told {B0 : Option Addr} {m0 c0 : Nat} {M : Mem} {K : Value → Mem → Prop} {Kp : List PanicEntry → Mem → Prop} (h :
nwc M (.cells #[] 142 (0, 0)) fun k1 M2 =>
∃ I3 : Nat → List Value → Mem → Prop, (∃ k4 : Nat, I3 k4 [(.slice (some ⟨k1, 0, none⟩) 0 0), (.int .i64 0)] M2) ∧
∀ k5 : Nat, ∀ junk6 : Nat → Value, ∀ A7 : Option Addr, ∀ k8 : Nat, ∀ k9 : Nat, ∀ n10 : Int, ∀ M11 : Mem, (I3 k5 [(.slice A7 k8 k9), (.int .i64 n10)] M11) → bsp (decide ((n10 : Int) < ((m0 : Nat) : Int)))
 (((0 : Int) ≤ n10) ∧
  ((n10 : Int) < ((m0 : Nat) : Int)) ∧
  nilc B0 fun k12 k13 =>
  exI (Mem.ld M11 ⟨k12, (k13 + ((Int.toNat n10) * 2)), none⟩) .i64 fun n14 =>
  exI (Mem.ld M11 ⟨k12, ((k13 + ((Int.toNat n10) * 2)) + 1), none⟩) .u64 fun n15 =>
  nwc M11 (.cells #[(.int .i64 0), (.int .u64 0)] 30 (0, 0)) fun k16 M17 =>
  stc M17 ⟨k16, 0, none⟩ (.int .i64 n14) fun M18 =>
  stc M18 ⟨k16, (0 + 1), none⟩ (.int .u64 n15) fun M19 =>
  exI (Mem.ld M19 ⟨k16, 0, none⟩) .i64 fun n20 =>
  exI (Mem.ld M19 ⟨k16, (0 + 1), none⟩) .u64 fun n21 =>
  nwc M19 (.cells #[(.int .i64 n20), (.int .u64 n21)] 142 (0, 0)) fun k22 M23 =>
  semK Try.prog (Go.Builtin.append_ #[22, 22] 22 #[(.slice A7 k8 k9), (.slice (some ⟨k22, 0, none⟩) 1 1)]) M23 (fun v24 M25 =>
  exSl (some v24) fun A26 k27 k28 =>
  ∃ k29 : Nat, (k29 < k5) ∧
  I3 k29 [(.slice A26 k27 k28), (.int .i64 (IntKind.wrap .i64 (n10 + 1)))] M25) Kp)
 (K (.slice A7 k8 k9) M11)) :
  ACalls Try.prog 23 ([.slice B0 m0 c0] : List Value).toArray M K Kp :=
  acalls_vc (C := Cx) good [(2000000, .loop [(3, .c .sl), (9, .c (.int .i64))])] Try.func23 (by kernel_rfl) (by kernel_rfl) h

theorem vc_fair_Bound {x0_0 : Int} {x0_1 : Int} {x0_2 : Int} {x0_3 : Int} {x1 : Int} {x2 : Int} {M : Mem} {K : Value → Mem → Prop} {Kp : List PanicEntry → Mem → Prop} (h :
nwc M (.cells #[(.int .i64 x0_0), (.int .i64 x0_1), (.int .i64 x0_2), (.int .i64 x0_3)] 36 (0, 0)) fun k1 M2 =>
exI (Mem.ld M2 ⟨k1, (0 + 3), none⟩) .i64 fun n3 =>
exI (Mem.ld M2 ⟨k1, (0 + 2), none⟩) .i64 fun n4 =>
K (.int .i64 (IntKind.wrap .i64 ((IntKind.wrap .i64 ((IntKind.wrap .i64 ((IntKind.wrap .i64 ((IntKind.wrap .i64 (2 * n3)) + 2)) * x1)) * (IntKind.wrap .i64 ((IntKind.wrap .i64 (7 * (IntKind.wrap .i64 (x2 + 2)))) + (IntKind.wrap .i64 (4 * (IntKind.wrap .i64 (n4 + 2)))))))) + (IntKind.wrap .i64 (8 * x1))))) M2) :
  ACalls Try.prog 24 ([.agg #[.int .i64 x0_0, .int .i64 x0_1, .int .i64 x0_2, .int .i64 x0_3], .int .i64 x1, .int .i64 x2] : List Value).toArray M K Kp :=
  acalls_vc (C := Cx) good [] Try.func24 (by kernel_rfl) (by kernel_rfl) h

theorem vc_shunterref24_Bound {x0_0 : Int} {x0_1 : Int} {x0_2 : Int} {x0_3 : Int} {x1 : Int} {x2 : Int} {M : Mem} {K : Value → Mem → Prop} {Kp : List PanicEntry → Mem → Prop} (h :
nwc M (.cells #[(.int .i64 x0_0), (.int .i64 x0_1), (.int .i64 x0_2), (.int .i64 x0_3)] 24 (0, 0)) fun k1 M2 =>
exI (Mem.ld M2 ⟨k1, (0 + 3), none⟩) .i64 fun n3 =>
exI (Mem.ld M2 ⟨k1, (0 + 2), none⟩) .i64 fun n4 =>
K (.int .i64 (IntKind.wrap .i64 ((IntKind.wrap .i64 ((IntKind.wrap .i64 ((IntKind.wrap .i64 (2 * (IntKind.wrap .i64 (n3 + 1)))) * x1)) * (IntKind.wrap .i64 ((IntKind.wrap .i64 ((IntKind.wrap .i64 ((IntKind.wrap .i64 (7 * x2)) + 14)) + (IntKind.wrap .i64 (4 * n4)))) + 8)))) + (IntKind.wrap .i64 (8 * x1))))) M2) :
  ACalls Try.prog 25 ([.agg #[.int .i64 x0_0, .int .i64 x0_1, .int .i64 x0_2, .int .i64 x0_3], .int .i64 x1, .int .i64 x2] : List Value).toArray M K Kp :=
  acalls_vc (C := Cx) good [] Try.func25 (by kernel_rfl) (by kernel_rfl) h

theorem vc_shunterlaw18_Some_1 {x0 : Int} {x1 : Int} {M : Mem} {K : Value → Mem → Prop} {Kp : List PanicEntry → Mem → Prop} (h :
((x1 : Int) ≠ 0) ∧
K (.int .i64 (Int.tmod (IntKind.wrap .i64 (((Nat.bitwise and (BitVec.ofInt IntKind.i64.bits x0).toNat (BitVec.ofInt IntKind.i64.bits 255).toNat) : Nat) : Int)) x1)) M) :
  ACalls Try.prog 79 ([.int .i64 x0, .int .i64 x1] : List Value).toArray M K Kp :=
  acalls_vc (C := Cx) good [] Try.func79 (by kernel_rfl) (by kernel_rfl) h

end Go.Proofs
