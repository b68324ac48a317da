/- A part of proofs about functions of one program: a condition over a partial memory that is enough for a call, and what calls answer by it. No condition of its own. -/
import Derived.Test.YtodeolmcinekoaaCx
namespace Go.Proofs
open Go.AF
set_option linter.unusedVariables false
set_option maxRecDepth 100000
theorem vc_shunterlaw24_FairWindows {B0 : Option Addr} {m0 c0 : Nat} {x1 : Int} {x2_0 : Int} {x2_1 : Int} {x2_2 : Int} {x2_3 : Int} {x3 : Int} {x4 : Int} {M : Mem} {K : Value → Mem → Prop} {Kp : List PanicEntry → Mem → Prop} (h :
nwc M (.cells #[(.int .i64 x2_0), (.int .i64 x2_1), (.int .i64 x2_2), (.int .i64 x2_3)] 24 (0, 0)) fun k1 M2 =>
ACalls Try.prog 18 #[] M2 (fun v3 M4 =>
exB (some v3) fun t5 =>
bsp (!t5)
 (K (.bool false) M4)
 (nwc M4 (.cells #[] 30 (0, 0)) fun k6 M7 =>
  ACalls Try.prog 19 #[(.slice B0 m0 c0)] M7 (fun v8 M9 =>
  exSl (some v8) fun A10 k11 k12 =>
  ∃ I13 : Nat → List Value → Mem → Prop, (∃ k14 : Nat, I13 k14 [(.slice (some ⟨k6, 0, none⟩) 0 0), (.int .i64 0)] M9) ∧
  ∀ k15 : Nat, ∀ junk16 : Nat → Value, ∀ A17 : Option Addr, ∀ k18 : Nat, ∀ k19 : Nat, ∀ n20 : Int, ∀ M21 : Mem, (I13 k15 [(.slice A17 k18 k19), (.int .i64 n20)] M21) → bsp (decide ((n20 : Int) < ((k11 : Nat) : Int)))
   (((0 : Int) ≤ n20) ∧
    ((n20 : Int) < ((k11 : Nat) : Int)) ∧
    nilc A10 fun k22 k23 =>
    exI (Mem.ld M21 ⟨k22, (k23 + ((Int.toNat n20) * 2)), none⟩) .i64 fun n24 =>
    exI (Mem.ld M21 ⟨k22, ((k23 + ((Int.toNat n20) * 2)) + 1), none⟩) .u64 fun n25 =>
    nwc M21 (.cells #[(.int .i64 0), (.int .u64 0)] 30 (0, 0)) fun k26 M27 =>
    stc M27 ⟨k26, 0, none⟩ (.int .i64 n24) fun M28 =>
    stc M28 ⟨k26, (0 + 1), none⟩ (.int .u64 n25) fun M29 =>
    exI (Mem.ld M29 ⟨k26, (0 + 1), none⟩) .u64 fun n30 =>
    ((7 : Int) ≠ 0) ∧
    stc M29 ⟨k26, (0 + 1), none⟩ (.int .u64 (Int.tmod n30 7)) fun M31 =>
    exI (Mem.ld M31 ⟨k26, 0, none⟩) .i64 fun n32 =>
    exI (Mem.ld M31 ⟨k26, (0 + 1), none⟩) .u64 fun n33 =>
    nwc M31 (.cells #[(.int .i64 n32), (.int .u64 n33)] 30 (0, 0)) fun k34 M35 =>
    semK Try.prog (Go.Builtin.append_ #[26, 26] 26 #[(.slice A17 k18 k19), (.slice (some ⟨k34, 0, none⟩) 1 1)]) M35 (fun v36 M37 =>
    exSl (some v36) fun A38 k39 k40 =>
    ∃ k41 : Nat, (k41 < k15) ∧
    I13 k41 [(.slice A38 k39 k40), (.int .i64 (IntKind.wrap .i64 (n20 + 1)))] M37) Kp)
   (exI (Mem.ld M21 ⟨k1, 0, none⟩) .i64 fun n42 =>
    exI (Mem.ld M21 ⟨k1, (0 + 1), none⟩) .i64 fun n43 =>
    exI (Mem.ld M21 ⟨k1, (0 + 2), none⟩) .i64 fun n44 =>
    exI (Mem.ld M21 ⟨k1, (0 + 3), none⟩) .i64 fun n45 =>
    ACalls Try.prog 20 #[(.agg #[(.int .i64 n42), (.int .i64 n43), (.int .i64 n44), (.int .i64 n45)])] M21 (fun v46 M47 =>
    ∃ n48 : Int, ∃ n49 : Int, ∃ n50 : Int, ∃ n51 : Int, (v46 = (.agg #[(.int .i64 n48), (.int .i64 n49), (.int .i64 n50), (.int .i64 n51)])) ∧
    nwc M47 (.cells #[(.int .i64 0), (.int .i64 0), (.int .i64 0), (.int .i64 0)] 24 (0, 0)) fun k52 M53 =>
    stc M53 ⟨k52, 0, none⟩ (.int .i64 n48) fun M54 =>
    stc M54 ⟨k52, (0 + 1), none⟩ (.int .i64 n49) fun M55 =>
    stc M55 ⟨k52, (0 + 2), none⟩ (.int .i64 n50) fun M56 =>
    stc M56 ⟨k52, (0 + 3), none⟩ (.int .i64 n51) fun M57 =>
    ((100000 : Int) ≠ 0) ∧
    ((100000 : Int) ≠ 0) ∧
    ACalls Try.prog 21 #[(.slice A17 k18 k19), (.int .i64 (if (6 : Int) < x1 then 6 else x1))] M57 (fun v58 M59 =>
    exI (some v58) .i64 fun n60 =>
    ACalls Try.prog 23 #[(.slice A17 k18 k19)] M59 (fun v61 M62 =>
    exSl (some v61) fun A63 k64 k65 =>
    ACalls Try.prog 22 #[(.slice A63 k64 k65), (.int .i64 (if (6 : Int) < x1 then 6 else x1))] M62 (fun v66 M67 =>
    exI (some v66) .i64 fun n68 =>
    bsp (n60 == n68)
     (exI (Mem.ld M67 ⟨k52, 0, none⟩) .i64 fun n69 =>
      exI (Mem.ld M67 ⟨k52, (0 + 1), none⟩) .i64 fun n70 =>
      exI (Mem.ld M67 ⟨k52, (0 + 2), none⟩) .i64 fun n71 =>
      exI (Mem.ld M67 ⟨k52, (0 + 3), none⟩) .i64 fun n72 =>
      exI (Mem.ld M67 ⟨k52, 0, none⟩) .i64 fun n73 =>
      exI (Mem.ld M67 ⟨k52, (0 + 1), none⟩) .i64 fun n74 =>
      exI (Mem.ld M67 ⟨k52, (0 + 2), none⟩) .i64 fun n75 =>
      exI (Mem.ld M67 ⟨k52, (0 + 3), none⟩) .i64 fun n76 =>
      ACalls Try.prog 24 #[(.agg #[(.int .i64 n69), (.int .i64 n70), (.int .i64 n71), (.int .i64 n72)]), (.int .i64 (Int.tmod (IntKind.wrap .i64 (((Nat.bitwise and (BitVec.ofInt IntKind.i64.bits x3).toNat (BitVec.ofInt IntKind.i64.bits 1048575).toNat) : Nat) : Int)) 100000)), (.int .i64 (Int.tmod (IntKind.wrap .i64 (((Nat.bitwise and (BitVec.ofInt IntKind.i64.bits x4).toNat (BitVec.ofInt IntKind.i64.bits 1048575).toNat) : Nat) : Int)) 100000))] M67 (fun v77 M78 =>
      exI (some v77) .i64 fun n79 =>
      ((Mem.lds M78 ⟨k52, 0, none⟩ 0 4) = some [(.int .i64 n73), (.int .i64 n74), (.int .i64 n75), (.int .i64 n76)]) ∧
      ACalls Try.prog 25 #[(.agg #[(.int .i64 n73), (.int .i64 n74), (.int .i64 n75), (.int .i64 n76)]), (.int .i64 (Int.tmod (IntKind.wrap .i64 (((Nat.bitwise and (BitVec.ofInt IntKind.i64.bits x3).toNat (BitVec.ofInt IntKind.i64.bits 1048575).toNat) : Nat) : Int)) 100000)), (.int .i64 (Int.tmod (IntKind.wrap .i64 (((Nat.bitwise and (BitVec.ofInt IntKind.i64.bits x4).toNat (BitVec.ofInt IntKind.i64.bits 1048575).toNat) : Nat) : Int)) 100000))] M78 (fun v80 M81 =>
      exI (some v80) .i64 fun n82 =>
      ((Mem.lds M81 ⟨k52, 0, none⟩ 0 4) = some [(.int .i64 n73), (.int .i64 n74), (.int .i64 n75), (.int .i64 n76)]) ∧
      K (.bool (n79 == n82)) M81) Kp) Kp)
     (K (.bool false) M67)) Kp) Kp) Kp) Kp)) Kp)) Kp) :
  ACalls Try.prog 3 ([.slice B0 m0 c0, .int .i64 x1, .agg #[.int .i64 x2_0, .int .i64 x2_1, .int .i64 x2_2, .int .i64 x2_3], .int .i64 x3, .int .i64 x4] : List Value).toArray M K Kp :=
  acalls_vc (C := Cx) good [(2000000, .loop [(11, .c .sl), (21, .c (.int .i64))]), (13, .reg [0, 0, 3, 0, 15, 0, 63, 127, 255, 511, 511, 511, 4095, 511, 511, 511, 65535, 131071, 262143, 524287] (.step 0 (.step 1 (.step 3 (.step 5 (.step 2 (.step 4 (.step 6 (.step 7 (.step 8 (.step 10 (.step 11 (.step 14 (.step 15 (.step 9 (.prom 13 (.step 12 (.step 16 (.step 17 (.step 18 (.step 19 .done)))))))))))))))))))))] Try.func3 (by kernel_rfl) (by kernel_rfl) h

end Go.Proofs
