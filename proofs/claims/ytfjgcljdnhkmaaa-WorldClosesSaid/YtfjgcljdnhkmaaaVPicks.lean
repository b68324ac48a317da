/- A part of proofs about functions of one program: a condition over a partial memory that is enough for a call, and what calls answer by it. No condition of its own. -/
import Derived.Test.YtfjgcljdnhkmaaaCx
namespace Go.Proofs
open Go.AF
set_option linter.unusedVariables false
set_option maxRecDepth 100000
theorem vc_picks_Enabled {B0 : Option Addr} {m0 c0 : Nat} {B1 : Option Addr} {m1 c1 : Nat} {M : Mem} {K : Value → Mem → Prop} {Kp : List PanicEntry → Mem → Prop} (h :
∃ I1 : Nat → List Value → Mem → Prop, (∃ k2 : Nat, I1 k2 [(.slice none 0 0), (.int .i64 0)] M) ∧
∀ k3 : Nat, ∀ junk4 : Nat → Value, ∀ A5 : Option Addr, ∀ k6 : Nat, ∀ k7 : Nat, ∀ n8 : Int, ∀ M9 : Mem, (I1 k3 [(.slice A5 k6 k7), (.int .i64 n8)] M9) → bsp (decide ((n8 : Int) < ((m0 : Nat) : Int)))
 (((0 : Int) ≤ n8) ∧
  ((n8 : Int) < ((m0 : Nat) : Int)) ∧
  nilc B0 fun k10 k11 =>
  exI (Mem.ld M9 ⟨k10, (k11 + ((Int.toNat n8) * 3)), none⟩) .i64 fun n12 =>
  exI (Mem.ld M9 ⟨k10, ((k11 + ((Int.toNat n8) * 3)) + 1), none⟩) .i64 fun n13 =>
  exI (Mem.ld M9 ⟨k10, ((k11 + ((Int.toNat n8) * 3)) + 2), none⟩) .i64 fun n14 =>
  nwc M9 (.cells #[(.int .i64 0), (.int .i64 0), (.int .i64 0)] 34 (0, 0)) fun k15 M16 =>
  stc M16 ⟨k15, 0, none⟩ (.int .i64 n12) fun M17 =>
  stc M17 ⟨k15, (0 + 1), none⟩ (.int .i64 n13) fun M18 =>
  stc M18 ⟨k15, (0 + 2), none⟩ (.int .i64 n14) fun M19 =>
  exI (Mem.ld M19 ⟨k15, 0, none⟩) .i64 fun n20 =>
  exI (Mem.ld M19 ⟨k15, (0 + 1), none⟩) .i64 fun n21 =>
  exI (Mem.ld M19 ⟨k15, (0 + 2), none⟩) .i64 fun n22 =>
  ACalls Try.prog 69 #[(.agg #[(.int .i64 n20), (.int .i64 n21), (.int .i64 n22)]), (.slice B1 m1 c1)] M19 (fun v23 M24 =>
  exB (some v23) fun t25 =>
  bsp t25
   (nwc M24 (.cells #[(.int .i64 n8)] 3 (0, 0)) fun k26 M27 =>
    semK Try.prog (Go.Builtin.append_ #[25, 25] 25 #[(.slice A5 k6 k7), (.slice (some ⟨k26, 0, none⟩) 1 1)]) M27 (fun v28 M29 =>
    exSl (some v28) fun A30 k31 k32 =>
    ∃ k33 : Nat, (k33 < k3) ∧
    I1 k33 [(.slice A30 k31 k32), (.int .i64 (IntKind.wrap .i64 (n8 + 1)))] M29) Kp)
   (∃ k34 : Nat, (k34 < k3) ∧
    I1 k34 [(.slice A5 k6 k7), (.int .i64 (IntKind.wrap .i64 (n8 + 1)))] M24)) Kp)
 (K (.slice A5 k6 k7) M9)) :
  ACalls Try.prog 39 ([.slice B0 m0 c0, .slice B1 m1 c1] : List Value).toArray M K Kp :=
  acalls_vc (C := Cx) good [(2000000, .loop [(5, .c .sl), (10, .c (.int .i64))])] Try.func39 (by kernel_rfl) (by kernel_rfl) h

theorem vc_picks_Else {B0 : Option Addr} {m0 c0 : Nat} {M : Mem} {K : Value → Mem → Prop} {Kp : List PanicEntry → Mem → Prop} (h :
∃ I1 : Nat → List Value → Mem → Prop, (∃ k2 : Nat, I1 k2 [(.int .i64 0)] M) ∧
∀ k3 : Nat, ∀ junk4 : Nat → Value, ∀ n5 : Int, ∀ M6 : Mem, (I1 k3 [(.int .i64 n5)] M6) → bsp (decide ((n5 : Int) < ((m0 : Nat) : Int)))
 (((0 : Int) ≤ n5) ∧
  ((n5 : Int) < ((m0 : Nat) : Int)) ∧
  nilc B0 fun k7 k8 =>
  exI (Mem.ld M6 ⟨k7, (k8 + ((Int.toNat n5) * 3)), none⟩) .i64 fun n9 =>
  exI (Mem.ld M6 ⟨k7, ((k8 + ((Int.toNat n5) * 3)) + 1), none⟩) .i64 fun n10 =>
  exI (Mem.ld M6 ⟨k7, ((k8 + ((Int.toNat n5) * 3)) + 2), none⟩) .i64 fun n11 =>
  nwc M6 (.cells #[(.int .i64 0), (.int .i64 0), (.int .i64 0)] 34 (0, 0)) fun k12 M13 =>
  stc M13 ⟨k12, 0, none⟩ (.int .i64 n9) fun M14 =>
  stc M14 ⟨k12, (0 + 1), none⟩ (.int .i64 n10) fun M15 =>
  stc M15 ⟨k12, (0 + 2), none⟩ (.int .i64 n11) fun M16 =>
  exI (Mem.ld M16 ⟨k12, 0, none⟩) .i64 fun n17 =>
  bsp (n17 == 2)
   (K (.tuple #[(.int .i64 n5), (.bool true)]) M16)
   (∃ k18 : Nat, (k18 < k3) ∧
    I1 k18 [(.int .i64 (IntKind.wrap .i64 (n5 + 1)))] M16))
 (K (.tuple #[(.int .i64 0), (.bool false)]) M6)) :
  ACalls Try.prog 40 ([.slice B0 m0 c0] : List Value).toArray M K Kp :=
  acalls_vc (C := Cx) good [(2000000, .loop [(8, .c (.int .i64))])] Try.func40 (by kernel_rfl) (by kernel_rfl) h

theorem vc_picks_Wait {x0 : Int} {B1 : Option Addr} {m1 c1 : Nat} {B2 : Option Addr} {m2 c2 : Nat} {B3 : Option Addr} {m3 c3 : Nat} {M : Mem} {K : Value → Mem → Prop} {Kp : List PanicEntry → Mem → Prop} (h :
∃ I1 : Nat → List Value → Mem → Prop, (∃ k2 : Nat, I1 k2 [(.int .i64 0)] M) ∧
∀ k3 : Nat, ∀ junk4 : Nat → Value, ∀ n5 : Int, ∀ M6 : Mem, (I1 k3 [(.int .i64 n5)] M6) → bsp (decide ((n5 : Int) < ((m1 : Nat) : Int)))
 (((0 : Int) ≤ n5) ∧
  ((n5 : Int) < ((m1 : Nat) : Int)) ∧
  nilc B1 fun k7 k8 =>
  exI (Mem.ld M6 ⟨k7, (k8 + ((Int.toNat n5) * 3)), none⟩) .i64 fun n9 =>
  exI (Mem.ld M6 ⟨k7, ((k8 + ((Int.toNat n5) * 3)) + 1), none⟩) .i64 fun n10 =>
  exI (Mem.ld M6 ⟨k7, ((k8 + ((Int.toNat n5) * 3)) + 2), none⟩) .i64 fun n11 =>
  nwc M6 (.cells #[(.int .i64 0), (.int .i64 0), (.int .i64 0)] 34 (0, 0)) fun k12 M13 =>
  stc M13 ⟨k12, 0, none⟩ (.int .i64 n9) fun M14 =>
  stc M14 ⟨k12, (0 + 1), none⟩ (.int .i64 n10) fun M15 =>
  stc M15 ⟨k12, (0 + 2), none⟩ (.int .i64 n11) fun M16 =>
  exI (Mem.ld M16 ⟨k12, 0, none⟩) .i64 fun n17 =>
  bsp (n17 == 0)
   (exI (Mem.ld M16 ⟨k12, (0 + 1), none⟩) .i64 fun n18 =>
    ((0 : Int) ≤ n18) ∧
    ((n18 : Int) < ((m3 : Nat) : Int)) ∧
    nilc B3 fun k19 k20 =>
    exP (Mem.ld M16 ⟨k19, (k20 + (Int.toNat n18)), none⟩) fun A21 =>
    ACalls Try.prog 70 #[(.pointer A21), (.agg #[(.int .i64 x0), (.int .i64 n5), (.int .i64 0)])] M16 (fun v22 M23 =>
    (v22 = (.tuple #[])) ∧
    ∃ k24 : Nat, (k24 < k3) ∧
    I1 k24 [(.int .i64 (IntKind.wrap .i64 (n5 + 1)))] M23) Kp)
   (bsp (n17 == 1)
     (exI (Mem.ld M16 ⟨k12, (0 + 1), none⟩) .i64 fun n25 =>
      ((0 : Int) ≤ n25) ∧
      ((n25 : Int) < ((m3 : Nat) : Int)) ∧
      nilc B3 fun k26 k27 =>
      exP (Mem.ld M16 ⟨k26, (k27 + (Int.toNat n25)), none⟩) fun A28 =>
      exI (Mem.ld M16 ⟨k12, (0 + 2), none⟩) .i64 fun n29 =>
      ((0 : Int) ≤ n29) ∧
      ((n29 : Int) < ((m2 : Nat) : Int)) ∧
      nilc B2 fun k30 k31 =>
      exI (Mem.ld M16 ⟨k30, (k31 + (Int.toNat n29)), none⟩) .i64 fun n32 =>
      ACalls Try.prog 71 #[(.pointer A28), (.agg #[(.int .i64 x0), (.int .i64 n5), (.int .i64 n32)])] M16 (fun v33 M34 =>
      (v33 = (.tuple #[])) ∧
      ∃ k35 : Nat, (k35 < k3) ∧
      I1 k35 [(.int .i64 (IntKind.wrap .i64 (n5 + 1)))] M34) Kp)
     (∃ k36 : Nat, (k36 < k3) ∧
      I1 k36 [(.int .i64 (IntKind.wrap .i64 (n5 + 1)))] M16)))
 (K (.tuple #[]) M6)) :
  ACalls Try.prog 41 ([.int .i64 x0, .slice B1 m1 c1, .slice B2 m2 c2, .slice B3 m3 c3] : List Value).toArray M K Kp :=
  acalls_vc (C := Cx) good [(2000000, .loop [(12, .c (.int .i64))]), (7, .reg [0, 0, 2, 7, 15, 0, 0, 0, 0, 256, 896, 1920, 4064, 8191] (.step 0 (.step 1 (.step 5 (.step 6 (.step 7 (.step 8 (.step 2 (.step 3 (.step 4 (.step 9 (.step 10 (.step 11 (.step 12 (.step 13 .done)))))))))))))))] Try.func41 (by kernel_rfl) (by kernel_rfl) h

theorem vc_picks_can {x0_0 : Int} {x0_1 : Int} {x0_2 : Int} {B1 : Option Addr} {m1 c1 : Nat} {M : Mem} {K : Value → Mem → Prop} {Kp : List PanicEntry → Mem → Prop} (h :
nwc M (.cells #[(.int .i64 x0_0), (.int .i64 x0_1), (.int .i64 x0_2)] 34 (0, 0)) fun k1 M2 =>
exI (Mem.ld M2 ⟨k1, 0, none⟩) .i64 fun n3 =>
bsp (n3 == 0)
 (exI (Mem.ld M2 ⟨k1, (0 + 1), none⟩) .i64 fun n4 =>
  ((0 : Int) ≤ n4) ∧
  ((n4 : Int) < ((m1 : Nat) : Int)) ∧
  nilc B1 fun k5 k6 =>
  exP (Mem.ld M2 ⟨k5, (k6 + (Int.toNat n4)), none⟩) fun A7 =>
  ACalls Try.prog 84 #[(.pointer A7)] M2 (fun v8 M9 =>
  exB (some v8) fun t10 =>
  K (.bool t10) M9) Kp)
 (bsp (n3 == 1)
   (exI (Mem.ld M2 ⟨k1, (0 + 1), none⟩) .i64 fun n11 =>
    ((0 : Int) ≤ n11) ∧
    ((n11 : Int) < ((m1 : Nat) : Int)) ∧
    nilc B1 fun k12 k13 =>
    exP (Mem.ld M2 ⟨k12, (k13 + (Int.toNat n11)), none⟩) fun A14 =>
    ACalls Try.prog 85 #[(.pointer A14)] M2 (fun v15 M16 =>
    exB (some v15) fun t17 =>
    K (.bool t17) M16) Kp)
   (K (.bool false) M2))) :
  ACalls Try.prog 69 ([.agg #[.int .i64 x0_0, .int .i64 x0_1, .int .i64 x0_2], .slice B1 m1 c1] : List Value).toArray M K Kp :=
  acalls_vc (C := Cx) good [] Try.func69 (by kernel_rfl) (by kernel_rfl) h

theorem vc_picks_Leave {x0 : Int} {B1 : Option Addr} {m1 c1 : Nat} {M : Mem} {K : Value → Mem → Prop} {Kp : List PanicEntry → Mem → Prop} (h :
∃ I1 : Nat → List Value → Mem → Prop, (∃ k2 : Nat, I1 k2 [(.int .i64 0)] M) ∧
∀ k3 : Nat, ∀ junk4 : Nat → Value, ∀ n5 : Int, ∀ M6 : Mem, (I1 k3 [(.int .i64 n5)] M6) → bsp (decide ((n5 : Int) < ((m1 : Nat) : Int)))
 (((0 : Int) ≤ n5) ∧
  ((n5 : Int) < ((m1 : Nat) : Int)) ∧
  nilc B1 fun k7 k8 =>
  exP (Mem.ld M6 ⟨k7, (k8 + (Int.toNat n5)), none⟩) fun A9 =>
  ACalls Try.prog 89 #[(.pointer A9), (.int .i64 x0)] M6 (fun v10 M11 =>
  (v10 = (.tuple #[])) ∧
  ∃ k12 : Nat, (k12 < k3) ∧
  I1 k12 [(.int .i64 (IntKind.wrap .i64 (n5 + 1)))] M11) Kp)
 (K (.tuple #[]) M6)) :
  ACalls Try.prog 88 ([.int .i64 x0, .slice B1 m1 c1] : List Value).toArray M K Kp :=
  acalls_vc (C := Cx) good [(2000000, .loop [(8, .c (.int .i64))])] Try.func88 (by kernel_rfl) (by kernel_rfl) h

end Go.Proofs
