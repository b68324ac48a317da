/- A part of proofs about functions of one program: a condition over a partial memory that is enough for a call, and what calls answer by it. No condition of its own. -/
import Derived.Test.YtodeolmcinekoaaCx
namespace Go.Proofs
open Go.AF
set_option linter.unusedVariables false
set_option maxRecDepth 100000
theorem vc_ring_New (x0 : Int) (M : Mem) (K : Value → Mem → Prop) (Kp : List PanicEntry → Mem → Prop) (h :
semK Try.prog (Go.Instr.makeSlice 39 (.int .i64 (if (1024 : Int) < (if (1 : Int) > x0 then 1 else x0) then 1024 else (if (1 : Int) > x0 then 1 else x0))) (.int .i64 (if (1024 : Int) < (if (1 : Int) > x0 then 1 else x0) then 1024 else (if (1 : Int) > x0 then 1 else x0)))) M (fun v1 M2 =>
exSl (some v1) fun A3 k4 k5 =>
∀ k6 : Nat, (M2 k6 = none) → K (.pointer (some ⟨k6, 0, none⟩)) (Mem.set M2 k6 (.cells #[(.slice A3 k4 k5), (.int .i64 0), (.int .i64 0)] 146 (0, 0)))) Kp) :
  ACalls Try.prog 27 ([.int .i64 x0] : List Value).toArray M K Kp :=
  acalls_vc (C := Cx) good [] Try.func27 (by kernel_rfl) (by kernel_rfl) h

theorem vc_ring_Ring_Room (b0 o0 : Nat) (M : Mem) (K : Value → Mem → Prop) (Kp : List PanicEntry → Mem → Prop) (h :
exSl (Mem.ld M ⟨b0, o0, none⟩) fun A1 k2 k3 =>
K (.int .i64 ((k2 : Nat) : Int)) M) :
  ACalls Try.prog 28 ([.pointer (some ⟨b0, o0, none⟩)] : List Value).toArray M K Kp :=
  acalls_vc (C := Cx) good [] Try.func28 (by kernel_rfl) (by kernel_rfl) h

theorem vc_ring_Ring_Push (b0 o0 : Nat) (x1 : Int) (M : Mem) (K : Value → Mem → Prop) (Kp : List PanicEntry → Mem → Prop) (h :
exI (Mem.ld M ⟨b0, (o0 + 2), none⟩) .i64 fun n1 =>
exSl (Mem.ld M ⟨b0, o0, none⟩) fun A2 k3 k4 =>
bsp (n1 == ((k3 : Nat) : Int))
 (K (.bool false) M)
 (exSl (Mem.ld M ⟨b0, o0, none⟩) fun A5 k6 k7 =>
  exI (Mem.ld M ⟨b0, (o0 + 1), none⟩) .i64 fun n8 =>
  exI (Mem.ld M ⟨b0, (o0 + 2), none⟩) .i64 fun n9 =>
  exSl (Mem.ld M ⟨b0, o0, none⟩) fun A10 k11 k12 =>
  ((((k11 : Nat) : Int) : Int) ≠ 0) ∧
  ((0 : Int) ≤ (Int.tmod (IntKind.wrap .i64 (n8 + n9)) ((k11 : Nat) : Int))) ∧
  (((Int.tmod (IntKind.wrap .i64 (n8 + n9)) ((k11 : Nat) : Int)) : Int) < ((k6 : Nat) : Int)) ∧
  nilc A5 fun k13 k14 =>
  (Mem.wr M ⟨k13, (k14 + (Int.toNat (Int.tmod (IntKind.wrap .i64 (n8 + n9)) ((k11 : Nat) : Int)))), none⟩ = true) ∧
  exI (Mem.ld (Mem.put M ⟨k13, (k14 + (Int.toNat (Int.tmod (IntKind.wrap .i64 (n8 + n9)) ((k11 : Nat) : Int)))), none⟩ (.int .i64 x1)) ⟨b0, (o0 + 2), none⟩) .i64 fun n15 =>
  (Mem.wr (Mem.put M ⟨k13, (k14 + (Int.toNat (Int.tmod (IntKind.wrap .i64 (n8 + n9)) ((k11 : Nat) : Int)))), none⟩ (.int .i64 x1)) ⟨b0, (o0 + 2), none⟩ = true) ∧
  K (.bool true) (Mem.put (Mem.put M ⟨k13, (k14 + (Int.toNat (Int.tmod (IntKind.wrap .i64 (n8 + n9)) ((k11 : Nat) : Int)))), none⟩ (.int .i64 x1)) ⟨b0, (o0 + 2), none⟩ (.int .i64 (IntKind.wrap .i64 (n15 + 1)))))) :
  ACalls Try.prog 29 ([.pointer (some ⟨b0, o0, none⟩), .int .i64 x1] : List Value).toArray M K Kp :=
  acalls_vc (C := Cx) good [(1, .reg [0, 1, 3, 7, 0, 16, 48, 112, 240, 511] (.step 0 (.step 1 (.step 2 (.step 4 (.step 5 (.step 6 (.step 3 (.step 7 (.step 8 (.step 9 .done))))))))))), (3, .reg [0, 1, 3, 7, 0, 16, 48, 112, 0, 256, 768, 1792, 4080, 0, 8192, 24576, 57344, 122880, 262128, 0, 1048575, 2097151] (.step 0 (.step 1 (.step 2 (.step 4 (.step 5 (.step 6 (.step 8 (.step 9 (.step 10 (.step 13 (.step 14 (.step 15 (.step 19 (.step 3 (.step 7 (.step 11 (.step 12 (.step 16 (.step 17 (.step 18 (.step 20 (.step 21 .done)))))))))))))))))))))))] Try.func29 (by kernel_rfl) (by kernel_rfl) h

theorem vc_ring_Ring_Pop (b0 o0 : Nat) (M : Mem) (K : Value → Mem → Prop) (Kp : List PanicEntry → Mem → Prop) (h :
exI (Mem.ld M ⟨b0, (o0 + 2), none⟩) .i64 fun n1 =>
bsp (n1 == 0)
 (K (.tuple #[(.int .i64 0), (.bool false)]) M)
 (exSl (Mem.ld M ⟨b0, o0, none⟩) fun A2 k3 k4 =>
  exI (Mem.ld M ⟨b0, (o0 + 1), none⟩) .i64 fun n5 =>
  ((0 : Int) ≤ n5) ∧
  ((n5 : Int) < ((k3 : Nat) : Int)) ∧
  nilc A2 fun k6 k7 =>
  exI (Mem.ld M ⟨k6, (k7 + (Int.toNat n5)), none⟩) .i64 fun n8 =>
  exI (Mem.ld M ⟨b0, (o0 + 1), none⟩) .i64 fun n9 =>
  exSl (Mem.ld M ⟨b0, o0, none⟩) fun A10 k11 k12 =>
  ((((k11 : Nat) : Int) : Int) ≠ 0) ∧
  (Mem.wr M ⟨b0, (o0 + 1), none⟩ = true) ∧
  exI (Mem.ld (Mem.put M ⟨b0, (o0 + 1), none⟩ (.int .i64 (Int.tmod (IntKind.wrap .i64 (n9 + 1)) ((k11 : Nat) : Int)))) ⟨b0, (o0 + 2), none⟩) .i64 fun n13 =>
  (Mem.wr (Mem.put M ⟨b0, (o0 + 1), none⟩ (.int .i64 (Int.tmod (IntKind.wrap .i64 (n9 + 1)) ((k11 : Nat) : Int)))) ⟨b0, (o0 + 2), none⟩ = true) ∧
  K (.tuple #[(.int .i64 n8), (.bool true)]) (Mem.put (Mem.put M ⟨b0, (o0 + 1), none⟩ (.int .i64 (Int.tmod (IntKind.wrap .i64 (n9 + 1)) ((k11 : Nat) : Int)))) ⟨b0, (o0 + 2), none⟩ (.int .i64 (IntKind.wrap .i64 (n13 - 1)))))) :
  ACalls Try.prog 30 ([.pointer (some ⟨b0, o0, none⟩)] : List Value).toArray M K Kp :=
  acalls_vc (C := Cx) good [(3, .reg [0, 1, 3, 7, 0, 16, 48, 112, 255, 511, 1023] (.step 0 (.step 1 (.step 2 (.step 4 (.step 5 (.step 6 (.step 3 (.step 7 (.step 8 (.step 9 (.step 10 .done)))))))))))), (4, .reg [0, 0, 2, 6, 14, 30, 0, 64, 192, 448, 960, 2046, 4095, 8191, 16383] (.step 0 (.step 1 (.step 2 (.step 3 (.step 6 (.step 7 (.step 8 (.step 4 (.step 5 (.step 9 (.step 10 (.step 11 (.step 12 (.step 13 (.step 14 .done))))))))))))))))] Try.func30 (by kernel_rfl) (by kernel_rfl) h

theorem vc_ring_Ring_Len (b0 o0 : Nat) (M : Mem) (K : Value → Mem → Prop) (Kp : List PanicEntry → Mem → Prop) (h :
exI (Mem.ld M ⟨b0, (o0 + 2), none⟩) .i64 fun n1 =>
K (.int .i64 n1) M) :
  ACalls Try.prog 31 ([.pointer (some ⟨b0, o0, none⟩)] : List Value).toArray M K Kp :=
  acalls_vc (C := Cx) good [] Try.func31 (by kernel_rfl) (by kernel_rfl) h

theorem vc_ring_Ring_Take (b0 o0 : Nat) (x1 : Int) (M : Mem) (K : Value → Mem → Prop) (Kp : List PanicEntry → Mem → Prop) (h :
∃ I1 : Nat → List Value → Mem → Prop, (∃ k2 : Nat, I1 k2 [(.slice none 0 0)] M) ∧
∀ k3 : Nat, ∀ junk4 : Nat → Value, ∀ A5 : Option Addr, ∀ k6 : Nat, ∀ k7 : Nat, ∀ M8 : Mem, (I1 k3 [(.slice A5 k6 k7)] M8) → bsp (decide ((((k6 : Nat) : Int) : Int) < x1))
 (ACalls Try.prog 30 #[(.pointer (some ⟨b0, o0, none⟩))] M8 (fun v9 M10 =>
  ∃ n11 : Int, ∃ t12 : Bool, (v9 = (.tuple #[(.int .i64 n11), (.bool t12)])) ∧
  bsp (!t12)
   (K (.slice A5 k6 k7) M10)
   (∀ k13 : Nat, (M10 k13 = none) → semK Try.prog (Go.Builtin.append_ #[39, 39] 39 #[(.slice A5 k6 k7), (.slice (some ⟨k13, 0, none⟩) 1 1)]) (Mem.set M10 k13 (.cells #[(.int .i64 n11)] 3 (0, 0))) (fun v14 M15 =>
    exSl (some v14) fun A16 k17 k18 =>
    ∃ k19 : Nat, (k19 < k3) ∧
    I1 k19 [(.slice A16 k17 k18)] M15) Kp)) Kp)
 (K (.slice A5 k6 k7) M8)) :
  ACalls Try.prog 32 ([.pointer (some ⟨b0, o0, none⟩), .int .i64 x1] : List Value).toArray M K Kp :=
  acalls_vc (C := Cx) good [(2000000, .loop [(5, .c .sl)])] Try.func32 (by kernel_rfl) (by kernel_rfl) h

theorem vc_ring_Ring_List (b0 o0 : Nat) (M : Mem) (K : Value → Mem → Prop) (Kp : List PanicEntry → Mem → Prop) (h :
exI (Mem.ld M ⟨b0, (o0 + 2), none⟩) .i64 fun n1 =>
∃ I2 : Nat → List Value → Mem → Prop, (∃ k3 : Nat, I2 k3 [(.slice none 0 0), (.int .i64 0)] M) ∧
∀ k4 : Nat, ∀ junk5 : Nat → Value, ∀ A6 : Option Addr, ∀ k7 : Nat, ∀ k8 : Nat, ∀ n9 : Int, ∀ M10 : Mem, (I2 k4 [(.slice A6 k7 k8), (.int .i64 n9)] M10) → bsp (decide ((n9 : Int) < n1))
 (exSl (Mem.ld M10 ⟨b0, o0, none⟩) fun A11 k12 k13 =>
  exI (Mem.ld M10 ⟨b0, (o0 + 1), none⟩) .i64 fun n14 =>
  exSl (Mem.ld M10 ⟨b0, o0, none⟩) fun A15 k16 k17 =>
  ((((k16 : Nat) : Int) : Int) ≠ 0) ∧
  ((0 : Int) ≤ (Int.tmod (IntKind.wrap .i64 (n14 + n9)) ((k16 : Nat) : Int))) ∧
  (((Int.tmod (IntKind.wrap .i64 (n14 + n9)) ((k16 : Nat) : Int)) : Int) < ((k12 : Nat) : Int)) ∧
  nilc A11 fun k18 k19 =>
  exI (Mem.ld M10 ⟨k18, (k19 + (Int.toNat (Int.tmod (IntKind.wrap .i64 (n14 + n9)) ((k16 : Nat) : Int)))), none⟩) .i64 fun n20 =>
  ∀ k21 : Nat, (M10 k21 = none) → semK Try.prog (Go.Builtin.append_ #[39, 39] 39 #[(.slice A6 k7 k8), (.slice (some ⟨k21, 0, none⟩) 1 1)]) (Mem.set M10 k21 (.cells #[(.int .i64 n20)] 3 (0, 0))) (fun v22 M23 =>
  exSl (some v22) fun A24 k25 k26 =>
  ∃ k27 : Nat, (k27 < k4) ∧
  I2 k27 [(.slice A24 k25 k26), (.int .i64 (IntKind.wrap .i64 (n9 + 1)))] M23) Kp)
 (K (.slice A6 k7 k8) M10)) :
  ACalls Try.prog 43 ([.pointer (some ⟨b0, o0, none⟩)] : List Value).toArray M K Kp :=
  acalls_vc (C := Cx) good [(2000000, .loop [(3, .c .sl), (9, .c (.int .i64))]), (5, .reg [0, 0, 2, 6, 14, 0, 32, 96, 224, 0, 992, 0, 2048, 6144, 14336, 30720, 65504, 131070, 262142, 524286, 1048575, 2097151] (.step 0 (.step 1 (.step 2 (.step 3 (.step 5 (.step 6 (.step 7 (.step 9 (.step 11 (.step 12 (.step 13 (.step 4 (.step 8 (.step 10 (.step 14 (.step 15 (.step 16 (.step 17 (.step 18 (.step 19 (.step 20 (.step 21 .done)))))))))))))))))))))))] Try.func43 (by kernel_rfl) (by kernel_rfl) h

theorem vc_shunterlaw07_awake  (M : Mem) (K : Value → Mem → Prop) (Kp : List PanicEntry → Mem → Prop) (h :
ACalls Try.prog 27 #[(.int .i64 2)] M (fun v1 M2 =>
exP (some v1) fun A3 =>
bsp (Option.isNone A3)
 (K (.bool false) M2)
 (ACalls Try.prog 29 #[(.pointer A3), (.int .i64 5)] M2 (fun v4 M5 =>
  exB (some v4) fun t6 =>
  ACalls Try.prog 29 #[(.pointer A3), (.int .i64 6)] M5 (fun v7 M8 =>
  exB (some v7) fun t9 =>
  ACalls Try.prog 29 #[(.pointer A3), (.int .i64 7)] M8 (fun v10 M11 =>
  exB (some v10) fun t12 =>
  ACalls Try.prog 30 #[(.pointer A3)] M11 (fun v13 M14 =>
  ∃ n15 : Int, ∃ t16 : Bool, (v13 = (.tuple #[(.int .i64 n15), (.bool t16)])) ∧
  bsp t6
   (bsp t9
     (bsp (!t12)
       (bsp (n15 == 5)
         (bsp t16
           (ACalls Try.prog 31 #[(.pointer A3)] M14 (fun v17 M18 =>
            exI (some v17) .i64 fun n19 =>
            K (.bool (n19 == 1)) M18) Kp)
           (K (.bool false) M14))
         (K (.bool false) M14))
       (K (.bool false) M14))
     (K (.bool false) M14))
   (K (.bool false) M14)) Kp) Kp) Kp) Kp)) Kp) :
  ACalls Try.prog 26 ([] : List Value).toArray M K Kp :=
  acalls_vc (C := Cx) good [] Try.func26 (by kernel_rfl) (by kernel_rfl) h

theorem vc_shunterlaw07_RingRound (x0 : Int) (x1 : Int) (M : Mem) (K : Value → Mem → Prop) (Kp : List PanicEntry → Mem → Prop) (h :
ACalls Try.prog 26 #[] M (fun v1 M2 =>
exB (some v1) fun t3 =>
bsp (!t3)
 (K (.bool false) M2)
 (ACalls Try.prog 27 #[(.int .i64 x0)] M2 (fun v4 M5 =>
  exP (some v4) fun A6 =>
  ACalls Try.prog 28 #[(.pointer A6)] M5 (fun v7 M8 =>
  exI (some v7) .i64 fun n9 =>
  ((3000 : Int) ≠ 0) ∧
  ∃ I10 : Nat → List Value → Mem → Prop, (∃ k11 : Nat, I10 k11 [(.int .i64 0)] M8) ∧
  ∀ k12 : Nat, ∀ junk13 : Nat → Value, ∀ n14 : Int, ∀ M15 : Mem, (I10 k12 [(.int .i64 n14)] M15) → bsp (decide ((n14 : Int) < (Int.tmod (IntKind.wrap .i64 (((Nat.bitwise and (BitVec.ofInt IntKind.i64.bits x1).toNat (BitVec.ofInt IntKind.i64.bits 65535).toNat) : Nat) : Int)) 3000)))
   (ACalls Try.prog 29 #[(.pointer A6), (.int .i64 n14)] M15 (fun v16 M17 =>
    exB (some v16) fun t18 =>
    ACalls Try.prog 30 #[(.pointer A6)] M17 (fun v19 M20 =>
    ∃ n21 : Int, ∃ t22 : Bool, (v19 = (.tuple #[(.int .i64 n21), (.bool t22)])) ∧
    bsp (!t18)
     (K (.bool false) M20)
     (bsp (!t22)
       (K (.bool false) M20)
       (bsp (n21 != n14)
         (K (.bool false) M20)
         (∃ k23 : Nat, (k23 < k12) ∧
          I10 k23 [(.int .i64 (IntKind.wrap .i64 (n14 + 1)))] M20)))) Kp) Kp)
   (∃ I24 : Nat → List Value → Mem → Prop, (∃ k25 : Nat, I24 k25 [(.int .i64 0)] M15) ∧
    ∀ k26 : Nat, ∀ junk27 : Nat → Value, ∀ n28 : Int, ∀ M29 : Mem, (I24 k26 [(.int .i64 n28)] M29) → bsp (decide ((n28 : Int) < n9))
     (ACalls Try.prog 29 #[(.pointer A6), (.int .i64 n28)] M29 (fun v30 M31 =>
      exB (some v30) fun t32 =>
      bsp (!t32)
       (K (.bool false) M31)
       (∃ k33 : Nat, (k33 < k26) ∧
        I24 k33 [(.int .i64 (IntKind.wrap .i64 (n28 + 1)))] M31)) Kp)
     (ACalls Try.prog 29 #[(.pointer A6), (.int .i64 0)] M29 (fun v34 M35 =>
      exB (some v34) fun t36 =>
      bsp t36
       (K (.bool false) M35)
       (ACalls Try.prog 31 #[(.pointer A6)] M35 (fun v37 M38 =>
        exI (some v37) .i64 fun n39 =>
        bsp (n39 != n9)
         (K (.bool false) M38)
         (ACalls Try.prog 32 #[(.pointer A6), (.int .i64 (IntKind.wrap .i64 (n9 + 5)))] M38 (fun v40 M41 =>
          exSl (some v40) fun A42 k43 k44 =>
          ∃ I45 : Nat → List Value → Mem → Prop, (∃ k46 : Nat, I45 k46 [(.int .i64 0)] M41) ∧
          ∀ k47 : Nat, ∀ junk48 : Nat → Value, ∀ n49 : Int, ∀ M50 : Mem, (I45 k47 [(.int .i64 n49)] M50) → bsp (decide ((n49 : Int) < ((k43 : Nat) : Int)))
           (((0 : Int) ≤ n49) ∧
            ((n49 : Int) < ((k43 : Nat) : Int)) ∧
            nilc A42 fun k51 k52 =>
            exI (Mem.ld M50 ⟨k51, (k52 + (Int.toNat n49)), none⟩) .i64 fun n53 =>
            bsp (n53 != n49)
             (K (.bool false) M50)
             (∃ k54 : Nat, (k54 < k47) ∧
              I45 k54 [(.int .i64 (IntKind.wrap .i64 (n49 + 1)))] M50))
           (ACalls Try.prog 31 #[(.pointer A6)] M50 (fun v55 M56 =>
            exI (some v55) .i64 fun n57 =>
            K (.bool (n57 == 0)) M56) Kp)) Kp)) Kp)) Kp))) Kp) Kp)) Kp) :
  ACalls Try.prog 5 ([.int .i64 x0, .int .i64 x1] : List Value).toArray M K Kp :=
  acalls_vc (C := Cx) good [(2000000, .loop [(23, .c (.int .i64))]), (2000002, .loop [(47, .c (.int .i64))]), (2000004, .loop [(68, .c (.int .i64))])] Try.func5 (by kernel_rfl) (by kernel_rfl) h

theorem vc_shunterlaw07_RingHalves (x0 : Int) (x1 : Int) (M : Mem) (K : Value → Mem → Prop) (Kp : List PanicEntry → Mem → Prop) (h :
ACalls Try.prog 26 #[] M (fun v1 M2 =>
exB (some v1) fun t3 =>
bsp (!t3)
 (K (.bool false) M2)
 (((60 : Int) ≠ 0) ∧
  ACalls Try.prog 27 #[(.int .i64 (Int.tmod (IntKind.wrap .i64 (((Nat.bitwise and (BitVec.ofInt IntKind.i64.bits x0).toNat (BitVec.ofInt IntKind.i64.bits 255).toNat) : Nat) : Int)) 60))] M2 (fun v4 M5 =>
  exP (some v4) fun A6 =>
  ACalls Try.prog 28 #[(.pointer A6)] M5 (fun v7 M8 =>
  exI (some v7) .i64 fun n9 =>
  (((IntKind.wrap .i64 (n9 + 1)) : Int) ≠ 0) ∧
  ∃ I10 : Nat → List Value → Mem → Prop, (∃ k11 : Nat, I10 k11 [(.int .i64 0)] M8) ∧
  ∀ k12 : Nat, ∀ junk13 : Nat → Value, ∀ n14 : Int, ∀ M15 : Mem, (I10 k12 [(.int .i64 n14)] M15) → bsp (decide ((n14 : Int) < (Int.tmod (IntKind.wrap .i64 (((Nat.bitwise and (BitVec.ofInt IntKind.i64.bits x1).toNat (BitVec.ofInt IntKind.i64.bits 255).toNat) : Nat) : Int)) (IntKind.wrap .i64 (n9 + 1)))))
   (ACalls Try.prog 29 #[(.pointer A6), (.int .i64 n14)] M15 (fun v16 M17 =>
    exB (some v16) fun t18 =>
    bsp (!t18)
     (K (.bool false) M17)
     (∃ k19 : Nat, (k19 < k12) ∧
      I10 k19 [(.int .i64 (IntKind.wrap .i64 (n14 + 1)))] M17)) Kp)
   (((2 : Int) ≠ 0) ∧
    ACalls Try.prog 32 #[(.pointer A6), (.int .i64 (IntKind.wrap .i64 (Int.tdiv (Int.tmod (IntKind.wrap .i64 (((Nat.bitwise and (BitVec.ofInt IntKind.i64.bits x1).toNat (BitVec.ofInt IntKind.i64.bits 255).toNat) : Nat) : Int)) (IntKind.wrap .i64 (n9 + 1))) 2)))] M15 (fun v20 M21 =>
    exSl (some v20) fun A22 k23 k24 =>
    ACalls Try.prog 43 #[(.pointer A6)] M21 (fun v25 M26 =>
    exSl (some v25) fun A27 k28 k29 =>
    ACalls Try.prog 32 #[(.pointer A6), (.int .i64 (Int.tmod (IntKind.wrap .i64 (((Nat.bitwise and (BitVec.ofInt IntKind.i64.bits x1).toNat (BitVec.ofInt IntKind.i64.bits 255).toNat) : Nat) : Int)) (IntKind.wrap .i64 (n9 + 1))))] M26 (fun v30 M31 =>
    exSl (some v30) fun A32 k33 k34 =>
    ((2 : Int) ≠ 0) ∧
    bsp (((k23 : Nat) : Int) != (IntKind.wrap .i64 (Int.tdiv (Int.tmod (IntKind.wrap .i64 (((Nat.bitwise and (BitVec.ofInt IntKind.i64.bits x1).toNat (BitVec.ofInt IntKind.i64.bits 255).toNat) : Nat) : Int)) (IntKind.wrap .i64 (n9 + 1))) 2)))
     (K (.bool false) M31)
     (((2 : Int) ≠ 0) ∧
      bsp (((k28 : Nat) : Int) != (IntKind.wrap .i64 ((Int.tmod (IntKind.wrap .i64 (((Nat.bitwise and (BitVec.ofInt IntKind.i64.bits x1).toNat (BitVec.ofInt IntKind.i64.bits 255).toNat) : Nat) : Int)) (IntKind.wrap .i64 (n9 + 1))) - (IntKind.wrap .i64 (Int.tdiv (Int.tmod (IntKind.wrap .i64 (((Nat.bitwise and (BitVec.ofInt IntKind.i64.bits x1).toNat (BitVec.ofInt IntKind.i64.bits 255).toNat) : Nat) : Int)) (IntKind.wrap .i64 (n9 + 1))) 2)))))
       (K (.bool false) M31)
       (ACalls Try.prog 42 #[(.slice A27 k28 k29), (.slice A32 k33 k34)] M31 (fun v35 M36 =>
        exI (some v35) .i64 fun n37 =>
        bsp (n37 != 0)
         (K (.bool false) M36)
         (semK Try.prog (Go.Builtin.append_ #[39, 39] 39 #[(.slice A22 k23 k24), (.slice A32 k33 k34)]) M36 (fun v38 M39 =>
          exSl (some v38) fun A40 k41 k42 =>
          ∃ I43 : Nat → List Value → Mem → Prop, (∃ k44 : Nat, I43 k44 [(.int .i64 0)] M39) ∧
          ∀ k45 : Nat, ∀ junk46 : Nat → Value, ∀ n47 : Int, ∀ M48 : Mem, (I43 k45 [(.int .i64 n47)] M48) → bsp (decide ((n47 : Int) < ((k41 : Nat) : Int)))
           (((0 : Int) ≤ n47) ∧
            ((n47 : Int) < ((k41 : Nat) : Int)) ∧
            nilc A40 fun k49 k50 =>
            exI (Mem.ld M48 ⟨k49, (k50 + (Int.toNat n47)), none⟩) .i64 fun n51 =>
            bsp (n51 != n47)
             (K (.bool false) M48)
             (∃ k52 : Nat, (k52 < k45) ∧
              I43 k52 [(.int .i64 (IntKind.wrap .i64 (n47 + 1)))] M48))
           (ACalls Try.prog 30 #[(.pointer A6)] M48 (fun v53 M54 =>
            ∃ n55 : Int, ∃ t56 : Bool, (v53 = (.tuple #[(.int .i64 n55), (.bool t56)])) ∧
            K (.bool (!t56)) M54) Kp)) Kp)) Kp))) Kp) Kp) Kp)) Kp) Kp)) Kp) :
  ACalls Try.prog 8 ([.int .i64 x0, .int .i64 x1] : List Value).toArray M K Kp :=
  acalls_vc (C := Cx) good [(2000000, .loop [(27, .c (.int .i64))]), (2000002, .loop [(68, .c (.int .i64))])] Try.func8 (by kernel_rfl) (by kernel_rfl) h

theorem vc_shunterlaw07_Same (B0 : Option Addr) (m0 c0 : Nat) (B1 : Option Addr) (m1 c1 : Nat) (M : Mem) (K : Value → Mem → Prop) (Kp : List PanicEntry → Mem → Prop) (h :
bsp (((m0 : Nat) : Int) != ((m1 : Nat) : Int))
 (K (.int .i64 (-1)) M)
 (∃ I1 : Nat → List Value → Mem → Prop, (∃ k2 : Nat, I1 k2 [(.int .i64 0)] M) ∧
  ∀ k3 : Nat, ∀ junk4 : Nat → Value, ∀ n5 : Int, ∀ M6 : Mem, (I1 k3 [(.int .i64 n5)] M6) → bsp (decide ((n5 : Int) < ((m1 : Nat) : Int)))
   (((0 : Int) ≤ n5) ∧
    ((n5 : Int) < ((m0 : Nat) : Int)) ∧
    nilc B0 fun k7 k8 =>
    ((0 : Int) ≤ n5) ∧
    ((n5 : Int) < ((m1 : Nat) : Int)) ∧
    nilc B1 fun k9 k10 =>
    exI (Mem.ld M6 ⟨k7, (k8 + (Int.toNat n5)), none⟩) .i64 fun n11 =>
    exI (Mem.ld M6 ⟨k9, (k10 + (Int.toNat n5)), none⟩) .i64 fun n12 =>
    bsp (n11 != n12)
     (K (.int .i64 (-1)) M6)
     (∃ k13 : Nat, (k13 < k3) ∧
      I1 k13 [(.int .i64 (IntKind.wrap .i64 (n5 + 1)))] M6))
   (K (.int .i64 0) M6))) :
  ACalls Try.prog 42 ([.slice B0 m0 c0, .slice B1 m1 c1] : List Value).toArray M K Kp :=
  acalls_vc (C := Cx) good [(2000000, .loop [(13, .c (.int .i64))]), (6, .reg [0, 0, 3, 7, 0, 0, 48, 112, 255] (.step 0 (.step 1 (.step 2 (.step 4 (.step 5 (.step 6 (.step 3 (.step 7 (.step 8 .done))))))))))] Try.func42 (by kernel_rfl) (by kernel_rfl) h

theorem vc_shunterref07_New (x0 : Int) (M : Mem) (K : Value → Mem → Prop) (Kp : List PanicEntry → Mem → Prop) (h :
∀ k1 : Nat, (M k1 = none) → (Mem.wr (Mem.set M k1 (.cells #[(.slice none 0 0), (.int .i64 0)] 65 (0, 0))) ⟨k1, 0, none⟩ = true) ∧
(Mem.wr (Mem.put (Mem.set M k1 (.cells #[(.slice none 0 0), (.int .i64 0)] 65 (0, 0))) ⟨k1, 0, none⟩ (.slice none 0 0)) ⟨k1, (0 + 1), none⟩ = true) ∧
exSl (Mem.ld (Mem.put (Mem.put (Mem.set M k1 (.cells #[(.slice none 0 0), (.int .i64 0)] 65 (0, 0))) ⟨k1, 0, none⟩ (.slice none 0 0)) ⟨k1, (0 + 1), none⟩ (.int .i64 (if ((if (1024 : Int) < x0 then 1024 else x0) : Int) > 1 then (if (1024 : Int) < x0 then 1024 else x0) else 1))) ⟨k1, 0, none⟩) fun A2 k3 k4 =>
exI (Mem.ld (Mem.put (Mem.put (Mem.set M k1 (.cells #[(.slice none 0 0), (.int .i64 0)] 65 (0, 0))) ⟨k1, 0, none⟩ (.slice none 0 0)) ⟨k1, (0 + 1), none⟩ (.int .i64 (if ((if (1024 : Int) < x0 then 1024 else x0) : Int) > 1 then (if (1024 : Int) < x0 then 1024 else x0) else 1))) ⟨k1, (0 + 1), none⟩) .i64 fun n5 =>
K (.agg #[(.slice A2 k3 k4), (.int .i64 n5)]) (Mem.put (Mem.put (Mem.set M k1 (.cells #[(.slice none 0 0), (.int .i64 0)] 65 (0, 0))) ⟨k1, 0, none⟩ (.slice none 0 0)) ⟨k1, (0 + 1), none⟩ (.int .i64 (if ((if (1024 : Int) < x0 then 1024 else x0) : Int) > 1 then (if (1024 : Int) < x0 then 1024 else x0) else 1)))) :
  ACalls Try.prog 39 ([.int .i64 x0] : List Value).toArray M K Kp :=
  acalls_vc (C := Cx) good [] Try.func39 (by kernel_rfl) (by kernel_rfl) h

theorem vc_shunterref07_Push (B0_0 : Option Addr) (m0_0 c0_0 : Nat) (x0_1 : Int) (x1 : Int) (M : Mem) (K : Value → Mem → Prop) (Kp : List PanicEntry → Mem → Prop) (h :
∀ k1 : Nat, (M k1 = none) → ∀ k2 : Nat, ((Mem.set M k1 (.cells #[(.slice B0_0 m0_0 c0_0), (.int .i64 x0_1)] 65 (0, 0))) k2 = none) → exSl (Mem.ld (Mem.set (Mem.set M k1 (.cells #[(.slice B0_0 m0_0 c0_0), (.int .i64 x0_1)] 65 (0, 0))) k2 (.cells #[(.slice none 0 0), (.int .i64 0)] 65 (0, 0))) ⟨k1, 0, none⟩) fun A3 k4 k5 =>
exI (Mem.ld (Mem.set (Mem.set M k1 (.cells #[(.slice B0_0 m0_0 c0_0), (.int .i64 x0_1)] 65 (0, 0))) k2 (.cells #[(.slice none 0 0), (.int .i64 0)] 65 (0, 0))) ⟨k1, (0 + 1), none⟩) .i64 fun n6 =>
bsp (((k4 : Nat) : Int) == n6)
 (exSl (Mem.ld (Mem.set (Mem.set M k1 (.cells #[(.slice B0_0 m0_0 c0_0), (.int .i64 x0_1)] 65 (0, 0))) k2 (.cells #[(.slice none 0 0), (.int .i64 0)] 65 (0, 0))) ⟨k1, 0, none⟩) fun A7 k8 k9 =>
  exI (Mem.ld (Mem.set (Mem.set M k1 (.cells #[(.slice B0_0 m0_0 c0_0), (.int .i64 x0_1)] 65 (0, 0))) k2 (.cells #[(.slice none 0 0), (.int .i64 0)] 65 (0, 0))) ⟨k1, (0 + 1), none⟩) .i64 fun n10 =>
  (Mem.wr (Mem.set (Mem.set M k1 (.cells #[(.slice B0_0 m0_0 c0_0), (.int .i64 x0_1)] 65 (0, 0))) k2 (.cells #[(.slice none 0 0), (.int .i64 0)] 65 (0, 0))) ⟨k2, 0, none⟩ = true) ∧
  (Mem.wr (Mem.put (Mem.set (Mem.set M k1 (.cells #[(.slice B0_0 m0_0 c0_0), (.int .i64 x0_1)] 65 (0, 0))) k2 (.cells #[(.slice none 0 0), (.int .i64 0)] 65 (0, 0))) ⟨k2, 0, none⟩ (.slice A7 k8 k9)) ⟨k2, (0 + 1), none⟩ = true) ∧
  exSl (Mem.ld (Mem.put (Mem.put (Mem.set (Mem.set M k1 (.cells #[(.slice B0_0 m0_0 c0_0), (.int .i64 x0_1)] 65 (0, 0))) k2 (.cells #[(.slice none 0 0), (.int .i64 0)] 65 (0, 0))) ⟨k2, 0, none⟩ (.slice A7 k8 k9)) ⟨k2, (0 + 1), none⟩ (.int .i64 n10)) ⟨k2, 0, none⟩) fun A11 k12 k13 =>
  exI (Mem.ld (Mem.put (Mem.put (Mem.set (Mem.set M k1 (.cells #[(.slice B0_0 m0_0 c0_0), (.int .i64 x0_1)] 65 (0, 0))) k2 (.cells #[(.slice none 0 0), (.int .i64 0)] 65 (0, 0))) ⟨k2, 0, none⟩ (.slice A7 k8 k9)) ⟨k2, (0 + 1), none⟩ (.int .i64 n10)) ⟨k2, (0 + 1), none⟩) .i64 fun n14 =>
  K (.tuple #[(.agg #[(.slice A11 k12 k13), (.int .i64 n14)]), (.bool false)]) (Mem.put (Mem.put (Mem.set (Mem.set M k1 (.cells #[(.slice B0_0 m0_0 c0_0), (.int .i64 x0_1)] 65 (0, 0))) k2 (.cells #[(.slice none 0 0), (.int .i64 0)] 65 (0, 0))) ⟨k2, 0, none⟩ (.slice A7 k8 k9)) ⟨k2, (0 + 1), none⟩ (.int .i64 n10)))
 (∀ k15 : Nat, ((Mem.set (Mem.set M k1 (.cells #[(.slice B0_0 m0_0 c0_0), (.int .i64 x0_1)] 65 (0, 0))) k2 (.cells #[(.slice none 0 0), (.int .i64 0)] 65 (0, 0))) k15 = none) → exSl (Mem.ld (Mem.set (Mem.set (Mem.set M k1 (.cells #[(.slice B0_0 m0_0 c0_0), (.int .i64 x0_1)] 65 (0, 0))) k2 (.cells #[(.slice none 0 0), (.int .i64 0)] 65 (0, 0))) k15 (.cells #[] 3 (0, 0))) ⟨k1, 0, none⟩) fun A16 k17 k18 =>
  semK Try.prog (Go.Builtin.append_ #[39, 39] 39 #[(.slice (some ⟨k15, 0, none⟩) 0 0), (.slice A16 k17 k18)]) (Mem.set (Mem.set (Mem.set M k1 (.cells #[(.slice B0_0 m0_0 c0_0), (.int .i64 x0_1)] 65 (0, 0))) k2 (.cells #[(.slice none 0 0), (.int .i64 0)] 65 (0, 0))) k15 (.cells #[] 3 (0, 0))) (fun v19 M20 =>
  exSl (some v19) fun A21 k22 k23 =>
  ∀ k24 : Nat, (M20 k24 = none) → semK Try.prog (Go.Builtin.append_ #[39, 39] 39 #[(.slice A21 k22 k23), (.slice (some ⟨k24, 0, none⟩) 1 1)]) (Mem.set M20 k24 (.cells #[(.int .i64 x1)] 3 (0, 0))) (fun v25 M26 =>
  exSl (some v25) fun A27 k28 k29 =>
  (Mem.wr M26 ⟨k1, 0, none⟩ = true) ∧
  exSl (Mem.ld (Mem.put M26 ⟨k1, 0, none⟩ (.slice A27 k28 k29)) ⟨k1, 0, none⟩) fun A30 k31 k32 =>
  exI (Mem.ld (Mem.put M26 ⟨k1, 0, none⟩ (.slice A27 k28 k29)) ⟨k1, (0 + 1), none⟩) .i64 fun n33 =>
  (Mem.wr (Mem.put M26 ⟨k1, 0, none⟩ (.slice A27 k28 k29)) ⟨k2, 0, none⟩ = true) ∧
  (Mem.wr (Mem.put (Mem.put M26 ⟨k1, 0, none⟩ (.slice A27 k28 k29)) ⟨k2, 0, none⟩ (.slice A30 k31 k32)) ⟨k2, (0 + 1), none⟩ = true) ∧
  exSl (Mem.ld (Mem.put (Mem.put (Mem.put M26 ⟨k1, 0, none⟩ (.slice A27 k28 k29)) ⟨k2, 0, none⟩ (.slice A30 k31 k32)) ⟨k2, (0 + 1), none⟩ (.int .i64 n33)) ⟨k2, 0, none⟩) fun A34 k35 k36 =>
  exI (Mem.ld (Mem.put (Mem.put (Mem.put M26 ⟨k1, 0, none⟩ (.slice A27 k28 k29)) ⟨k2, 0, none⟩ (.slice A30 k31 k32)) ⟨k2, (0 + 1), none⟩ (.int .i64 n33)) ⟨k2, (0 + 1), none⟩) .i64 fun n37 =>
  K (.tuple #[(.agg #[(.slice A34 k35 k36), (.int .i64 n37)]), (.bool true)]) (Mem.put (Mem.put (Mem.put M26 ⟨k1, 0, none⟩ (.slice A27 k28 k29)) ⟨k2, 0, none⟩ (.slice A30 k31 k32)) ⟨k2, (0 + 1), none⟩ (.int .i64 n33))) Kp) Kp)) :
  ACalls Try.prog 40 ([.agg #[.slice B0_0 m0_0 c0_0, .int .i64 x0_1], .int .i64 x1] : List Value).toArray M K Kp :=
  acalls_vc (C := Cx) good [] Try.func40 (by kernel_rfl) (by kernel_rfl) h

theorem vc_shunterref07_Take (B0_0 : Option Addr) (m0_0 c0_0 : Nat) (x0_1 : Int) (x1 : Int) (M : Mem) (K : Value → Mem → Prop) (Kp : List PanicEntry → Mem → Prop) (h :
∀ k1 : Nat, (M k1 = none) → ∀ k2 : Nat, ((Mem.set M k1 (.cells #[(.slice B0_0 m0_0 c0_0), (.int .i64 x0_1)] 65 (0, 0))) k2 = none) → exSl (Mem.ld (Mem.set (Mem.set M k1 (.cells #[(.slice B0_0 m0_0 c0_0), (.int .i64 x0_1)] 65 (0, 0))) k2 (.cells #[(.slice none 0 0), (.int .i64 0)] 65 (0, 0))) ⟨k1, 0, none⟩) fun A3 k4 k5 =>
∀ k6 : Nat, ((Mem.set (Mem.set M k1 (.cells #[(.slice B0_0 m0_0 c0_0), (.int .i64 x0_1)] 65 (0, 0))) k2 (.cells #[(.slice none 0 0), (.int .i64 0)] 65 (0, 0))) k6 = none) → exSl (Mem.ld (Mem.set (Mem.set (Mem.set M k1 (.cells #[(.slice B0_0 m0_0 c0_0), (.int .i64 x0_1)] 65 (0, 0))) k2 (.cells #[(.slice none 0 0), (.int .i64 0)] 65 (0, 0))) k6 (.cells #[] 3 (0, 0))) ⟨k1, 0, none⟩) fun A7 k8 k9 =>
((0 : Int) ≤ ((k9 : Nat) : Int)) ∧
((((k9 : Nat) : Int) : Int) ≤ ((k9 : Nat) : Int)) ∧
((0 : Int) ≤ (if ((if (((k4 : Nat) : Int) : Int) < x1 then ((k4 : Nat) : Int) else x1) : Int) > 0 then (if (((k4 : Nat) : Int) : Int) < x1 then ((k4 : Nat) : Int) else x1) else 0)) ∧
(((if ((if (((k4 : Nat) : Int) : Int) < x1 then ((k4 : Nat) : Int) else x1) : Int) > 0 then (if (((k4 : Nat) : Int) : Int) < x1 then ((k4 : Nat) : Int) else x1) else 0) : Int) ≤ ((k9 : Nat) : Int)) ∧
((0 : Int) ≤ 0) ∧
((0 : Int) ≤ (if ((if (((k4 : Nat) : Int) : Int) < x1 then ((k4 : Nat) : Int) else x1) : Int) > 0 then (if (((k4 : Nat) : Int) : Int) < x1 then ((k4 : Nat) : Int) else x1) else 0)) ∧
semK Try.prog (Go.Builtin.append_ #[39, 39] 39 #[(.slice (some ⟨k6, 0, none⟩) 0 0), (.slice (slA A7 0 (Int.toNat ((k9 : Nat) : Int)) 1) ((Int.toNat (if ((if (((k4 : Nat) : Int) : Int) < x1 then ((k4 : Nat) : Int) else x1) : Int) > 0 then (if (((k4 : Nat) : Int) : Int) < x1 then ((k4 : Nat) : Int) else x1) else 0)) - 0) ((Int.toNat ((k9 : Nat) : Int)) - 0))]) (Mem.set (Mem.set (Mem.set M k1 (.cells #[(.slice B0_0 m0_0 c0_0), (.int .i64 x0_1)] 65 (0, 0))) k2 (.cells #[(.slice none 0 0), (.int .i64 0)] 65 (0, 0))) k6 (.cells #[] 3 (0, 0))) (fun v10 M11 =>
exSl (some v10) fun A12 k13 k14 =>
∀ k15 : Nat, (M11 k15 = none) → exSl (Mem.ld (Mem.set M11 k15 (.cells #[] 3 (0, 0))) ⟨k1, 0, none⟩) fun A16 k17 k18 =>
((0 : Int) ≤ ((k18 : Nat) : Int)) ∧
((((k18 : Nat) : Int) : Int) ≤ ((k18 : Nat) : Int)) ∧
((0 : Int) ≤ ((k17 : Nat) : Int)) ∧
((((k17 : Nat) : Int) : Int) ≤ ((k18 : Nat) : Int)) ∧
((0 : Int) ≤ (if ((if (((k4 : Nat) : Int) : Int) < x1 then ((k4 : Nat) : Int) else x1) : Int) > 0 then (if (((k4 : Nat) : Int) : Int) < x1 then ((k4 : Nat) : Int) else x1) else 0)) ∧
(((if ((if (((k4 : Nat) : Int) : Int) < x1 then ((k4 : Nat) : Int) else x1) : Int) > 0 then (if (((k4 : Nat) : Int) : Int) < x1 then ((k4 : Nat) : Int) else x1) else 0) : Int) ≤ ((k17 : Nat) : Int)) ∧
semK Try.prog (Go.Builtin.append_ #[39, 39] 39 #[(.slice (some ⟨k15, 0, none⟩) 0 0), (.slice (slA A16 (Int.toNat (if ((if (((k4 : Nat) : Int) : Int) < x1 then ((k4 : Nat) : Int) else x1) : Int) > 0 then (if (((k4 : Nat) : Int) : Int) < x1 then ((k4 : Nat) : Int) else x1) else 0)) (Int.toNat ((k18 : Nat) : Int)) 1) ((Int.toNat ((k17 : Nat) : Int)) - (Int.toNat (if ((if (((k4 : Nat) : Int) : Int) < x1 then ((k4 : Nat) : Int) else x1) : Int) > 0 then (if (((k4 : Nat) : Int) : Int) < x1 then ((k4 : Nat) : Int) else x1) else 0))) ((Int.toNat ((k18 : Nat) : Int)) - (Int.toNat (if ((if (((k4 : Nat) : Int) : Int) < x1 then ((k4 : Nat) : Int) else x1) : Int) > 0 then (if (((k4 : Nat) : Int) : Int) < x1 then ((k4 : Nat) : Int) else x1) else 0))))]) (Mem.set M11 k15 (.cells #[] 3 (0, 0))) (fun v19 M20 =>
exSl (some v19) fun A21 k22 k23 =>
(Mem.wr M20 ⟨k1, 0, none⟩ = true) ∧
exSl (Mem.ld (Mem.put M20 ⟨k1, 0, none⟩ (.slice A21 k22 k23)) ⟨k1, 0, none⟩) fun A24 k25 k26 =>
exI (Mem.ld (Mem.put M20 ⟨k1, 0, none⟩ (.slice A21 k22 k23)) ⟨k1, (0 + 1), none⟩) .i64 fun n27 =>
(Mem.wr (Mem.put M20 ⟨k1, 0, none⟩ (.slice A21 k22 k23)) ⟨k2, 0, none⟩ = true) ∧
(Mem.wr (Mem.put (Mem.put M20 ⟨k1, 0, none⟩ (.slice A21 k22 k23)) ⟨k2, 0, none⟩ (.slice A24 k25 k26)) ⟨k2, (0 + 1), none⟩ = true) ∧
exSl (Mem.ld (Mem.put (Mem.put (Mem.put M20 ⟨k1, 0, none⟩ (.slice A21 k22 k23)) ⟨k2, 0, none⟩ (.slice A24 k25 k26)) ⟨k2, (0 + 1), none⟩ (.int .i64 n27)) ⟨k2, 0, none⟩) fun A28 k29 k30 =>
exI (Mem.ld (Mem.put (Mem.put (Mem.put M20 ⟨k1, 0, none⟩ (.slice A21 k22 k23)) ⟨k2, 0, none⟩ (.slice A24 k25 k26)) ⟨k2, (0 + 1), none⟩ (.int .i64 n27)) ⟨k2, (0 + 1), none⟩) .i64 fun n31 =>
K (.tuple #[(.agg #[(.slice A28 k29 k30), (.int .i64 n31)]), (.slice A12 k13 k14)]) (Mem.put (Mem.put (Mem.put M20 ⟨k1, 0, none⟩ (.slice A21 k22 k23)) ⟨k2, 0, none⟩ (.slice A24 k25 k26)) ⟨k2, (0 + 1), none⟩ (.int .i64 n27))) Kp) Kp) :
  ACalls Try.prog 41 ([.agg #[.slice B0_0 m0_0 c0_0, .int .i64 x0_1], .int .i64 x1] : List Value).toArray M K Kp :=
  acalls_vc (C := Cx) good [] Try.func41 (by kernel_rfl) (by kernel_rfl) h

end Go.Proofs
