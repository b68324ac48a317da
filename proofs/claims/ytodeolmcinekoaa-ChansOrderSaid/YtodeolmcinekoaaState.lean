/- A part of proofs about functions of one program: a condition over a partial memory that is enough for a call, and what calls answer by it. No condition of its own. -/
import Derived.Test.YtodeolmcinekoaaChanA
namespace Go.Proofs
open Go.AF
set_option linter.unusedVariables false
set_option maxRecDepth 100000

theorem chans_State {b R : Nat} {F : List Nat} {buf : List Int} {snd rcv : List Wt} {closed : Bool} {M : Mem} {K : Value → Mem → Prop} {Kp : List PanicEntry → Mem → Prop}
    (hC : ChanAt M b F R buf snd rcv closed) (hn : buf.length ≤ 100000 ∧ snd.length ≤ 100000 ∧ rcv.length ≤ 100000)
    (h : ∀ A c B d D e M', Own M' 1 2 A buf.length c (buf.map iv) → Own M' 3 54 B snd.length d (wCells snd) → Own M' 3 54 D rcv.length e (wCells rcv) → Fr0 M A → Fr0 M B → Fr0 M D → Chg [] M M' →
      K (.agg #[.slice A buf.length c, .slice B snd.length d, .slice D rcv.length e, .bool closed]) M') :
    ACalls Try.prog 44 #[.pointer (some ⟨b, 0, none⟩)] M K Kp := by
  obtain ⟨T, Ab, cb, As, cs, Ar, cr, g1, g2, g3, g4, g5, g6, g7, g8⟩ := id hC
  refine vc_chans_Chan_State b 0 M K Kp ?_
  intro k1 hk1
  have nb1 := none_ne hk1 g1
  have nb1' := Ne.symm nb1
  have c1 : Chg [] M (M.set k1 (.cells #[.slice none 0 0, .slice none 0 0, .slice none 0 0, .bool false] 79 (0, 0))) := (Chg.refl _ _).set (.inr hk1)
  have w1 : (M.set k1 (.cells #[.slice none 0 0, .slice none 0 0, .slice none 0 0, .bool false] 79 (0, 0))) k1 = some (.cells #[.slice none 0 0, .slice none 0 0, .slice none 0 0, .bool false] 79 (0, 0)) := set_same
  generalize M.set k1 _ = N at *
  have gb := c1.at g1 (by simp)
  simp only [ld_of gb, Nat.zero_add, lit_get1, lit_get2, lit_get3, lit_get4, exSl_some, exB_some]
  intro k2 hk2
  refine ⟨trivial, trivial, ?_⟩
  refine el_i64.copy hk2 (g2.sl.chg c1 (by simp)) (by simp) iv_plain (by omega) fun A cA M2 ownA c2 frA => ?_
  rw [exSl_some]
  have gb2 := c2.at gb (by simp)
  simp only [ld_of gb2, lit_get2, lit_get3, lit_get4]
  refine ⟨trivial, trivial, trivial, ?_⟩
  intro k3 hk3
  refine ⟨trivial, ?_⟩
  have c12 := c1.trans c2 (fun x hx => .inl hx)
  refine el_wait.copy hk3 (g3.sl.chg c12 (by simp)) (wCells_len _) (wCells_plain _) (by omega) fun B cB M3 ownB c3 frB => ?_
  rw [exSl_some]
  have gb3 := c3.at gb2 (by simp)
  simp only [ld_of gb3, lit_get2, lit_get3, lit_get4]
  refine ⟨trivial, trivial, trivial, ?_⟩
  intro k4 hk4
  have c13 := c12.trans c3 (fun x hx => .inl hx)
  refine el_wait.copy hk4 (g4.sl.chg c13 (by simp)) (wCells_len _) (wCells_plain _) (by omega) fun D cD M4 ownD c4 frD => ?_
  rw [exSl_some]
  have gb4 := c4.at gb3 (by simp)
  have w4 := c4.at (c3.at (c2.at w1 (by simp)) (by simp)) (by simp)
  have c14 := c13.trans c4 (fun x hx => .inl hx)
  simp only [ld_of gb4, put_of w4, wr_of' w4, put_set_eq, wr_set_eq, ld_set_eq, ld_set_ne nb1, List.setIfInBounds_toArray, List.set_cons_zero, List.set_cons_succ, lit_get0, lit_get1, lit_get2, lit_get3, lit_get4, exSl_some, exB_some]
  refine ⟨trivial, trivial, trivial, by simp, by simp, by simp, by simp, trivial, trivial, trivial, ?_⟩
  have c5 : ∀ Z : Obj, Chg [k1] M4 (M4.set k1 Z) := fun Z => (Chg.refl _ _).set (.inl (by simp))
  have nk : ∀ {m : Mem} {A : Option Addr} {o : Obj}, Fr0 m A → m k1 = some o → ∀ x ∈ blk A, x ∉ [k1] := fun hf ho x hx hL => by
    simp only [List.mem_singleton] at hL; subst hL
    exact hf.notin ho hx
  have w2 := c2.at w1 (by simp)
  have w3 := c3.at w2 (by simp)
  exact h A cA B cB D cD _ (((ownA.chg c3 (by simp)).chg c4 (by simp)).chg (c5 _) (nk frA w1)) ((ownB.chg c4 (by simp)).chg (c5 _) (nk frB w2)) (ownD.chg (c5 _) (nk frD w3)) (frA.back c1) (frB.back c12) (frD.back c13) (c14.trans (c5 _) (fun x hx => by simp only [List.mem_singleton] at hx; subst hx; exact .inr hk1))
end Go.Proofs
