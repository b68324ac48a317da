/- A part of proofs about functions of one program: a condition over a partial memory that is enough for a call, and what calls answer by it. No condition of its own. -/
import Derived.Test.YtfjgcljdnhkmaaaWJ
/- What is told of a world. -/
namespace Go.Proofs
open Go.AF
set_option linter.unusedVariables false
set_option maxRecDepth 100000
set_option maxHeartbeats 1000000
attribute [local irreducible] exI exB exS exP exSl exV nilc stc nwc semK semU bsp
section
variable {R : Mem} {L L' L2 : List HP} {M : Mem} {K : Value → Mem → Prop} {Kp : List PanicEntry → Mem → Prop} {pa : PA} {p : Prg} {gg : List GA} {dr : Value} {b : Nat} {x : Wd} {g : Int}
theorem world_Len (h : Hp R L M) [o : IAt b L pa p x L'] (k : K (.int .i64 (x.gs.length : Int)) M) : ACalls Try.prog 15 #[.pointer (some ⟨b, 0, none⟩)] M K Kp := by
  refine vc_world_World_Len ?_
  have h' := idle_open h (b := b)
  clear h
  obtain ⟨a, gg, dr, n, hl, h⟩ := h'
  refine t_exSl h ?_
  rw [hl.1]
  exact k
theorem world_End (h : Hp R L M) [o : IAt b L pa p x L'] (k : K (.tuple #[.int .i64 x.end_, .int .i64 x.code]) M) : ACalls Try.prog 16 #[.pointer (some ⟨b, 0, none⟩)] M K Kp := by
  refine vc_world_World_End ?_
  have h' := idle_open h (b := b)
  clear h
  obtain ⟨a, gg, dr, n, hl, h⟩ := h'
  refine t_exI h (t_exI h ?_)
  exact k
theorem world_Status (h : Hp R L M) [o : IAt b L pa p x L'] (h0 : 0 ≤ g) (h1 : g < x.gs.length) (k : K (.int .i64 (gorAt x g).st) M) : ACalls Try.prog 13 #[.pointer (some ⟨b, 0, none⟩), .int .i64 g] M K Kp := by
  refine vc_world_World_Status ?_
  have h' := idle_open h (b := b)
  clear h
  obtain ⟨a, gg, dr, n, hl, h⟩ := h'
  have hl' := hl
  obtain ⟨l1, l2, l3, l4⟩ := hl'
  refine bsp_dec.2 ⟨fun hn => by omega, fun _ => ?_⟩
  refine t_exSl h ?_
  refine bsp_dec.2 ⟨fun hn => by omega, fun _ => ?_⟩
  refine t_exSl h ?_
  refine ⟨h0, by omega, ?_⟩
  obtain ⟨gb, hgb⟩ := idx_ex (l := a.gb) (i := g.toNat) (by omega)
  refine w_g h hgb fun q hq => ?_
  obtain ⟨ga, hga⟩ := idx_ex (l := gg) (i := g.toNat) (by omega)
  obtain ⟨y, hy⟩ := idx_ex (l := x.gs) (i := g.toNat) (by omega)
  have ey : gorAt x g = y := by simp [gorAt, hy]
  rw [ey] at k
  refine u_nilc ?_
  have hld : M.ld ⟨gb, 0, none⟩ = some (.int .i64 y.st) := by
    have h9 := gor_open (b := gb) (h.objs_out gorR hgb (zip_atL hy hga))
    exact t_ld h9
  rw [hld]
  exact u_exI k
theorem world_Stack (h : Hp R L M) [o : IAt b L pa p x L'] (hg : gorOk x g)
    (k : ∀ bs c M', Hp R (rowF (some ⟨bs, 0, none⟩) c (gorAt x g).fs :: L) M' → K (.slice (some ⟨bs, 0, none⟩) (gorAt x g).fs.length c) M') : ACalls Try.prog 10 #[.pointer (some ⟨b, 0, none⟩), .int .i64 g] M K Kp := by
  refine vc_world_World_Stack ?_
  obtain ⟨h0, h1, h2, h3⟩ := hg
  have hC := h
  have h' := idle_open h (b := b)
  clear h
  obtain ⟨a, gg, dr, n, hl, h⟩ := h'
  have hl' := hl
  obtain ⟨l1, l2, l3, l4⟩ := hl'
  refine bsp_dec.2 ⟨fun hn => by omega, fun _ => ?_⟩
  refine t_exSl h ?_
  refine bsp_dec.2 ⟨fun hn => by omega, fun _ => ?_⟩
  refine t_exSl h ?_
  refine ⟨h0, by omega, ?_⟩
  obtain ⟨gb, hgb⟩ := idx_ex (l := a.gb) (i := g.toNat) (by omega)
  refine w_g h hgb fun q hq => ?_
  obtain ⟨⟨A, c⟩, hga⟩ := idx_ex (l := gg) (i := g.toNat) (by omega)
  obtain ⟨y, hy⟩ := idx_ex (l := x.gs) (i := g.toNat) (by omega)
  have ey : gorAt x g = y := by simp [gorAt, hy]
  rw [ey] at k h2 h3
  refine u_nilc ?_
  have h9 := gor_open (b := gb) (h.objs_out gorR hgb (zip_atL hy hga))
  refine t_exSl h9 ?_
  have hsrc : Sl M A (frmE.cells y.fs) := (h9.src (A := A)) M h9
  clear h9 h
  -- the clone is read where it stands
  have hs2 : Src R (fact (Sl M A (frmE.cells y.fs)) :: L) A (frmE.cells y.fs) → True := fun _ => trivial
  refine vc_frame_Stack_Clone ?_
  have h10 := hC.row_nil frmE 53
  refine Hp.rowAppendM h10 (l := []) el_frm hsrc rfl (by simp; omega) ?_
  clear hC h10 hsrc
  intro A' c' M h
  refine u_exSl (u_exSl ?_)
  obtain ⟨bs, rfl⟩ := h.row_some (A := A') (by simpa using h2) (by decide)
  exact k _ _ _ h
theorem world_Out (h : Hp R L M) [o : IAt b L pa p x L'] (hs : x.out.length ≤ 1000000) (k : ∀ A c M', Hp R (rowB A c x.out :: L) M' → K (.slice A x.out.length c) M') : ACalls Try.prog 19 #[.pointer (some ⟨b, 0, none⟩)] M K Kp := by
  refine vc_world_World_Out ?_
  refine s_nwc h ?_
  clear h; intro kb M h
  have hC := h
  have h' := idle_open h (b := b)
  clear h
  obtain ⟨a, gg, dr, n, hl, h⟩ := h'
  refine t_exSl h ?_
  have hsrc : Sl M a.ao (intE.cells x.out) := (h.src (A := a.ao)) M h
  clear h
  have h10 : Hp R (rowP intE 2 (some ⟨kb, 0, none⟩) ([] : List Int).length [] :: L) M := hC.row_pt rfl
  refine Hp.rowAppendM h10 (l := []) el_i64 hsrc rfl (by simp; omega) ?_
  clear hC h10 hsrc
  intro A' c' M h
  exact u_exSl (k _ _ _ h)
end
end Go.Proofs
