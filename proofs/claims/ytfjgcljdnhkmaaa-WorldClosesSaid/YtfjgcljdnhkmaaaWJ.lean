/- A part of proofs about functions of one program: a condition over a partial memory that is enough for a call, and what calls answer by it. No condition of its own. -/
import Derived.Test.YtfjgcljdnhkmaaaWI
import Derived.Test.YtfjgcljdnhkmaaaVNw
/- The world between its instructions. -/
namespace Go.Proofs
open Go.AF
set_option linter.unusedVariables false
set_option maxRecDepth 100000
set_option maxHeartbeats 1000000
attribute [local irreducible] exI exB exS exP exSl exV nilc stc nwc semK semU bsp
abbrev wCellsI (pa : PA) (p : Prg) (dr : Value) (a : WA) (x : Wd) (n : Nat) : List Value :=
  [.slice pa.f p.funcs.length pa.fc, .slice pa.c p.chs.length pa.cc, .int .i64 p.locks, .slice pa.k p.cases.length pa.kc, .slice a.ag a.gb.length a.cg, .int .u64 x.clock,
   .slice a.ac a.cb.length a.cc, .slice a.al a.lb.length a.cl, .slice a.ah x.hl.length a.ch, .int .u64 x.hseq, .slice a.ao x.out.length a.co, .int .i64 x.end_, .int .i64 x.code, .slice a.ar n a.cr, dr]
abbrev wRestI (a : WA) (x : Wd) (L : List HP) : List HP :=
  rowPG a.ag a.cg a.gb :: rowPC a.ac a.cc a.cb :: objsP chanR a.cb x.chans :: rowPL a.al a.cl a.lb :: objsP lockR a.lb x.locks :: rowH a.ah a.ch x.hl :: rowB a.ao a.co x.out :: L
/-- A world stands at b, while nothing goes on in it. -/
def idleR (pa : PA) (p : Prg) : Rep Wd := ⟨fun b x => exs fun q : WA × List GA × Value × Nat =>
  sep (pt b (wCellsI pa p q.2.2.1 q.1 x q.2.2.2) 76 :: objsP gorR q.1.gb (x.gs.zip q.2.1) :: fact (wLens q.2.1 q.1 x) :: wRestI q.1 x [])⟩
section
variable {R : Mem} {L L' L2 : List HP} {M : Mem} {K : Value → Mem → Prop} {Kp : List PanicEntry → Mem → Prop} {pa : PA} {p : Prg} {gg : List GA} {dr : Value} {b : Nat} {x : Wd} {g : Int}
class IAt (b : Nat) (L : List HP) (pa : outParam PA) (p : outParam Prg) (x : outParam Wd) (L' : outParam (List HP)) : Prop where
  pick : Pick L (objP (idleR pa p) b x) L'
instance IAt.here : IAt b (objP (idleR pa p) b x :: L) pa p x L := ⟨.here⟩
instance (priority := low) IAt.there {Q : HP} [h : IAt b L pa p x L'] : IAt b (Q :: L) pa p x (Q :: L') := ⟨.there h.pick⟩
theorem idle_open (h : Hp R L M) [o : IAt b L pa p x L'] : ∃ (a : WA) (gg : List GA) (dr : Value) (n : Nat), wLens gg a x ∧ Hp R (pt b (wCellsI pa p dr a x n) 76 :: objsP gorR a.gb (x.gs.zip gg) :: wRestI a x L') M := by
  have := h.pick o.pick
  unfold objP at this
  simp only [idleR, wRestI, Hp.ex_iff, Hp.sep_iff, List.cons_append, List.nil_append] at this
  obtain ⟨⟨a, gg, dr, n⟩, h⟩ := this
  have h2 := h.pick (P := fact (wLens gg a x)) (.there (.there .here))
  exact ⟨a, gg, dr, n, (Hp.fact_iff.1 h2).1, (Hp.fact_iff.1 h2).2⟩
theorem idle_mk {a : WA} {n : Nat} (hl : wLens gg a x) (h : Hp R (pt b (wCellsI pa p dr a x n) 76 :: objsP gorR a.gb (x.gs.zip gg) :: wRestI a x L) M) : Hp R (objP (idleR pa p) b x :: L) M := by
  refine Hp.objI ?_
  simp only [idleR, wRestI, Hp.ex_iff, Hp.sep_iff, List.cons_append, List.nil_append]
  refine ⟨(a, gg, dr, n), ?_⟩
  have h2 : Hp R (fact (wLens gg a x) :: pt b (wCellsI pa p dr a x n) 76 :: objsP gorR a.gb (x.gs.zip gg) :: wRestI a x L) M := Hp.fact_iff.2 ⟨hl, h⟩
  exact h2.unpick (.there (.there .here))
/-- Who could go on: is kept. -/
def keepOf (x : Wd) (g : Int) (rest : Bool) : Bool := !rest && x.end_ == 0 && (gorAt x g).st == 1
theorem world_Exec {code : List Ins} {r : Out Wd} {rest : Bool} (h : Hp R L M) [o : IAt b L pa p x L'] (hp : PrgR R pa p) (hg : gorOk x g) (he : x.end_ = 0) (hst : (gorAt x g).st = 1)
    (hfn : 0 ≤ (gorAt x g).top.fn) (hcode : p.funcs[(gorAt x g).top.fn.toNat]? = some code)
    (hpc : 0 ≤ (gorAt x g).top.pc ∧ (gorAt x g).top.pc < 1000000000) (hdr : ∃ f c d, dr = .func f c d) (hs : ∀ Q, Step R pa p dr { x with ready := [] } g code r rest (Q :: L') (Q :: L2)) (hlen : g < r.fin.gs.length)
    (k : ∀ R' A c M', R.le R' → RS intE R' A c r.fin.ready → Hp R' (objP (idleR pa p) b r.fin :: L2) M' → K (.agg #[.bool (keepOf r.fin g rest), .slice A r.fin.ready.length c]) M') :
    ACalls Try.prog 9 #[.pointer (some ⟨b, 0, none⟩), .int .i64 g, dr] M K Kp := by
  refine vc_world_World_Exec ?_
  have hg' := hg
  obtain ⟨h0, h1, h2, h3⟩ := hg'
  refine s_nwc h ?_
  clear h
  intro kb M h
  have h' := idle_open h (b := b)
  clear h
  obtain ⟨a, gg, dr0, n0, hl, h⟩ := h'
  have hl' := hl
  obtain ⟨l1, l2, l3, l4⟩ := hl'
  refine bsp_dec.2 ⟨fun hn => by omega, fun _ => ?_⟩
  refine t_exSl h ?_
  refine bsp_dec.2 ⟨fun hn => by omega, fun _ => ?_⟩
  refine t_exI h ?_
  refine bsp_ne.2 ⟨fun hn => absurd he hn, fun _ => ?_⟩
  refine t_exSl h ?_
  refine ⟨h0, by omega, ?_⟩
  obtain ⟨gb, hgb⟩ := idx_ex (l := a.gb) (i := g.toNat) (by omega)
  refine w_g h hgb fun q hq => ?_
  obtain ⟨ga, hga⟩ := idx_ex (l := gg) (i := g.toNat) (by omega)
  obtain ⟨y, hy⟩ := idx_ex (l := x.gs) (i := g.toNat) (by omega)
  have ey : gorAt x g = y := by simp [gorAt, hy]
  rw [ey] at hst
  refine u_nilc ?_
  have hld : M.ld ⟨gb, 0, none⟩ = some (.int .i64 y.st) := by
    have h9 := gor_open (b := gb) (h.objs_out gorR hgb (zip_atL hy hga))
    exact t_ld h9
  rw [hld]
  refine u_exI ?_
  refine bsp_ne.2 ⟨fun hn => absurd hst hn, fun _ => ?_⟩
  refine s_stc h ?_
  clear h hld; intro M h
  have hpc2 : ∀ X : Prop, X → pcell dr X := by
    obtain ⟨f, c, d, rfl⟩ := hdr
    intro X hX; exact hX
  refine hpc2 _ ?_
  refine s_stc h ?_
  clear h; intro M h
  have h4 := h.row_nil intE 3
  have h5 : Hp R (objP (worldR pa p gg dr) b { x with ready := [] } :: pt kb [.bool false, .slice none 0 0] 39 :: L') M := world_mk (a := { a with ar := none, cr := 0 }) (x := { x with ready := [] }) hl (h4.sub (by repeat (first | exact Sub.refl | refine Sub.cons (by first | exact Pick.here | exact (.there .here) | exact (.there (.there .here)) | exact (.there (.there (.there .here))) | exact (.there (.there (.there (.there .here)))) | exact (.there (.there (.there (.there (.there .here))))) | exact (.there (.there (.there (.there (.there (.there .here)))))) | exact (.there (.there (.there (.there (.there (.there (.there .here))))))) | exact (.there (.there (.there (.there (.there (.there (.there (.there .here)))))))) | exact (.there (.there (.there (.there (.there (.there (.there (.there (.there .here))))))))) | exact (.there (.there (.there (.there (.there (.there (.there (.there (.there (.there .here)))))))))) | exact (.there (.there (.there (.there (.there (.there (.there (.there (.there (.there (.there .here))))))))))) | exact (.there (.there (.there (.there (.there (.there (.there (.there (.there (.there (.there (.there .here)))))))))))) | exact (.there (.there (.there (.there (.there (.there (.there (.there (.there (.there (.there (.there (.there .here))))))))))))) | exact (.there (.there (.there (.there (.there (.there (.there (.there (.there (.there (.there (.there (.there (.there .here)))))))))))))) | exact (.there (.there (.there (.there (.there (.there (.there (.there (.there (.there (.there (.there (.there (.there (.there .here)))))))))))))))) ?_ | refine Sub.drop ?_)))
  clear h h4
  refine world_do (b := b) (x := { x with ready := [] }) h5 hp hg hfn hcode hpc (hs _) ?_
  clear h5
  intro gg' M h
  generalize r.fin = z at h k hlen
  have h' := world_open h (b := b)
  clear h
  obtain ⟨a2, hl2, h⟩ := h'
  have hl2' := hl2
  obtain ⟨m1, m2, m3, m4⟩ := hl2'
  have fin : ∀ t : Bool, t = keepOf z g rest → stc M ⟨kb, 0, none⟩ (.bool t) fun M58 =>
        stc M58 ⟨kb, (0 + 1), none⟩ (.slice a2.ar z.ready.length a2.cr) fun M59 =>
        exB (Mem.ld M59 ⟨kb, 0, none⟩) fun t60 =>
        exSl (Mem.ld M59 ⟨kb, (0 + 1), none⟩) fun A61 k62 k63 =>
        K (.agg #[(.bool t60), (.slice A61 k62 k63)]) M59 := by
    intro t ht
    refine s_stc h ?_
    clear h; intro M h
    refine s_stc h ?_
    clear h; intro M h
    refine t_exB h (t_exSl h ?_)
    obtain ⟨R', hle, hrs, h6⟩ := h.sealRow a2.ar
    subst ht
    exact k R' _ _ _ hle hrs (idle_mk (a := a2) (n := z.ready.length) (gg := gg') (dr := dr) hl2 (h6.sub (by repeat (first | exact Sub.refl | refine Sub.cons (by first | exact Pick.here | exact (.there .here) | exact (.there (.there .here)) | exact (.there (.there (.there .here))) | exact (.there (.there (.there (.there .here)))) | exact (.there (.there (.there (.there (.there .here))))) | exact (.there (.there (.there (.there (.there (.there .here)))))) | exact (.there (.there (.there (.there (.there (.there (.there .here))))))) | exact (.there (.there (.there (.there (.there (.there (.there (.there .here)))))))) | exact (.there (.there (.there (.there (.there (.there (.there (.there (.there .here))))))))) | exact (.there (.there (.there (.there (.there (.there (.there (.there (.there (.there .here)))))))))) | exact (.there (.there (.there (.there (.there (.there (.there (.there (.there (.there (.there .here))))))))))) | exact (.there (.there (.there (.there (.there (.there (.there (.there (.there (.there (.there (.there .here)))))))))))) | exact (.there (.there (.there (.there (.there (.there (.there (.there (.there (.there (.there (.there (.there .here))))))))))))) | exact (.there (.there (.there (.there (.there (.there (.there (.there (.there (.there (.there (.there (.there (.there .here)))))))))))))) | exact (.there (.there (.there (.there (.there (.there (.there (.there (.there (.there (.there (.there (.there (.there (.there .here)))))))))))))))) ?_ | refine Sub.drop ?_))))
  refine u_exB ?_
  cases rest with
  | true =>
    refine u_bspF ?_
    refine t_exSl h ?_
    exact fin false (by simp [keepOf])
  | false =>
    refine u_bspT ?_
    refine t_exI h ?_
    refine bsp_eq.2 ⟨fun e0 => ?_, fun e0 => ?_⟩
    · refine t_exSl h ?_
      refine ⟨h0, by omega, ?_⟩
      obtain ⟨gb2, hgb2⟩ := idx_ex (l := a2.gb) (i := g.toNat) (by omega)
      refine w_g h hgb2 fun q2 hq2 => ?_
      obtain ⟨ga2, hga2⟩ := idx_ex (l := gg') (i := g.toNat) (by omega)
      obtain ⟨y2, hy2⟩ := idx_ex (l := z.gs) (i := g.toNat) (by omega)
      have ey2 : gorAt z g = y2 := by simp [gorAt, hy2]
      refine u_nilc ?_
      have hld : M.ld ⟨gb2, 0, none⟩ = some (.int .i64 y2.st) := by
        have h9 := gor_open (b := gb2) (h.objs_out gorR hgb2 (zip_atL hy2 hga2))
        exact t_ld h9
      rw [hld]
      refine u_exI ?_
      refine t_exSl h ?_
      exact fin (y2.st == 1) (by simp [keepOf, e0, ey2])
    · refine t_exSl h ?_
      have : (z.end_ == 0) = false := by simpa using e0
      exact fin false (by simp [keepOf, this])
end
end Go.Proofs
