/- A part of proofs about functions of one program: a condition over a partial memory that is enough for a call, and what calls answer by it. No condition of its own. -/
import Derived.Test.YtfjgcljdnhkmaaaCx
namespace Go.Proofs
open Go.AF
set_option linter.unusedVariables false
set_option maxRecDepth 100000
theorem vc_shunterlaw16_awake  {M : Mem} {K : Value → Mem → Prop} {Kp : List PanicEntry → Mem → Prop} (h :
nwc M (.cells #[(.int .i64 20), (.int .i64 0), (.int .i64 0), (.int .i64 0), (.int .i64 10), (.int .i64 0), (.int .i64 0), (.int .i64 0)] 31 (0, 0)) fun k1 M2 =>
nwc M2 (.cells #[(.slice (some ⟨k1, 0, none⟩) 2 2)] 32 (0, 0)) fun k3 M4 =>
ACalls Try.prog 7 #[(.agg #[(.slice (some ⟨k3, 0, none⟩) 1 1), (.slice none 0 0), (.int .i64 0), (.slice none 0 0)])] M4 (fun v5 M6 =>
exP (some v5) fun A7 =>
bsp (Option.isNone A7)
 (K (.bool false) M6)
 (ACalls Try.prog 9 #[(.pointer A7), (.int .i64 0), (.func (.func 21) #[] #[])] M6 (fun v8 M9 =>
  ∃ t10 : Bool, ∃ A11 : Option Addr, ∃ k12 : Nat, ∃ k13 : Nat, (v8 = (.agg #[(.bool t10), (.slice A11 k12 k13)])) ∧
  ACalls Try.prog 9 #[(.pointer A7), (.int .i64 0), (.func (.func 21) #[] #[])] M9 (fun v14 M15 =>
  ∃ t16 : Bool, ∃ A17 : Option Addr, ∃ k18 : Nat, ∃ k19 : Nat, (v14 = (.agg #[(.bool t16), (.slice A17 k18 k19)])) ∧
  nwc M15 (.cells #[(.bool false), (.slice none 0 0)] 39 (0, 0)) fun k20 M21 =>
  nwc M21 (.cells #[(.bool false), (.slice none 0 0)] 39 (0, 0)) fun k22 M23 =>
  stc M23 ⟨k20, 0, none⟩ (.bool t10) fun M24 =>
  stc M24 ⟨k20, (0 + 1), none⟩ (.slice A11 k12 k13) fun M25 =>
  stc M25 ⟨k22, 0, none⟩ (.bool t16) fun M26 =>
  stc M26 ⟨k22, (0 + 1), none⟩ (.slice A17 k18 k19) fun M27 =>
  ACalls Try.prog 16 #[(.pointer A7)] M27 (fun v28 M29 =>
  ∃ n30 : Int, ∃ n31 : Int, (v28 = (.tuple #[(.int .i64 n30), (.int .i64 n31)])) ∧
  ACalls Try.prog 19 #[(.pointer A7)] M29 (fun v32 M33 =>
  exSl (some v32) fun A34 k35 k36 =>
  exB (Mem.ld M33 ⟨k20, 0, none⟩) fun t37 =>
  bsp t37
   (exB (Mem.ld M33 ⟨k22, 0, none⟩) fun t38 =>
    bsp (!t38)
     (bsp (n30 == 1)
       (bsp (((k35 : Nat) : Int) == 1)
         (((0 : Int) ≤ 0) ∧
          ((0 : Int) < ((k35 : Nat) : Int)) ∧
          nilc A34 fun k39 k40 =>
          exI (Mem.ld M33 ⟨k39, (k40 + 0), none⟩) .i64 fun n41 =>
          bsp (n41 == 0)
           (ACalls Try.prog 13 #[(.pointer A7), (.int .i64 0)] M33 (fun v42 M43 =>
            exI (some v42) .i64 fun n44 =>
            K (.bool (n44 == 4)) M43) Kp)
           (K (.bool false) M33))
         (K (.bool false) M33))
       (K (.bool false) M33))
     (K (.bool false) M33))
   (K (.bool false) M33)) Kp) Kp) Kp) Kp)) Kp) :
  ACalls Try.prog 6 ([] : List Value).toArray M K Kp :=
  acalls_vc (C := Cx) good [] Try.func6 (by kernel_rfl) (by kernel_rfl) h

end Go.Proofs
