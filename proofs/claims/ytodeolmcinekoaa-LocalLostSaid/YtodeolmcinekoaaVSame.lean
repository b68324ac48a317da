/- A part of proofs about functions of one program: a condition over a partial memory that is enough for a call, and what calls answer by it. No condition of its own. -/
import Derived.Test.YtodeolmcinekoaaCx
namespace Go.Proofs
open Go.AF
set_option linter.unusedVariables false
set_option maxRecDepth 100000
theorem vc_shunterlaw07_Same {B0 : Option Addr} {m0 c0 : Nat} {B1 : Option Addr} {m1 c1 : Nat} {M : Mem} {K : Value → Mem → Prop} {Kp : List PanicEntry → Mem → Prop} (h :
bsp (((m0 : Nat) : Int) != ((m1 : Nat) : Int))
 (K (.int .i64 (-1)) M)
 (∃ I1 : Nat → List Value → Mem → Prop, (∃ k2 : Nat, I1 k2 [(.int .i64 0)] M) ∧
  ∀ k3 : Nat, ∀ junk4 : Nat → Value, ∀ n5 : Int, ∀ M6 : Mem, (I1 k3 [(.int .i64 n5)] M6) → bsp (decide ((n5 : Int) < ((m1 : Nat) : Int)))
   (((0 : Int) ≤ n5) ∧
    ((n5 : Int) < ((m0 : Nat) : Int)) ∧
    nilc B0 fun k7 k8 =>
    ((0 : Int) ≤ n5) ∧
    ((n5 : Int) < ((m1 : Nat) : Int)) ∧
    nilc B1 fun k9 k10 =>
    exI (Mem.ld M6 ⟨k7, (k8 + (Int.toNat n5)), none⟩) .i64 fun n11 =>
    exI (Mem.ld M6 ⟨k9, (k10 + (Int.toNat n5)), none⟩) .i64 fun n12 =>
    bsp (n11 != n12)
     (K (.int .i64 (-1)) M6)
     (∃ k13 : Nat, (k13 < k3) ∧
      I1 k13 [(.int .i64 (IntKind.wrap .i64 (n5 + 1)))] M6))
   (K (.int .i64 0) M6))) :
  ACalls Try.prog 42 ([.slice B0 m0 c0, .slice B1 m1 c1] : List Value).toArray M K Kp :=
  acalls_vc (C := Cx) good [(2000000, .loop [(13, .c (.int .i64))]), (6, .reg [0, 0, 3, 7, 0, 0, 48, 112, 255] (.step 0 (.step 1 (.step 2 (.step 4 (.step 5 (.step 6 (.step 3 (.step 7 (.step 8 .done))))))))))] Try.func42 (by kernel_rfl) (by kernel_rfl) h

end Go.Proofs
