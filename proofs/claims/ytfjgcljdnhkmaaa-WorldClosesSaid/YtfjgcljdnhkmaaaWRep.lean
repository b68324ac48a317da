/- A part of proofs about functions of one program: a condition over a partial memory that is enough for a call, and what calls answer by it. No condition of its own. -/
import Derived.Test.YtfjgcljdnhkmaaaFr2
/- The world, as it stands in memory. -/
namespace Go.Proofs
open Go.AF
set_option linter.unusedVariables false
set_option maxRecDepth 100000
set_option maxHeartbeats 1000000
attribute [local irreducible] exI exB exS exP exSl exV nilc stc nwc semK semU bsp
/-- Where the program's rows stand. -/
structure PA where
  f : Option Addr
  fc : Nat
  c : Option Addr
  cc : Nat
  k : Option Addr
  kc : Nat
abbrev GA := Option Addr × Nat
abbrev gorCells (y : Gor) (A : Option Addr) (c : Nat) : List Value := [.int .i64 y.st, .slice A y.fs.length c, .int .i64 y.wt.op, .int .i64 y.wt.a, .int .i64 y.wt.b, .int .i64 y.wt.c]
def gorR : Rep (Gor × GA) := ⟨fun b x => sep [pt b (gorCells x.1 x.2.1 x.2.2) 68, rowF x.2.1 x.2.2 x.1.fs]⟩
structure WA where
  ag : Option Addr
  cg : Nat
  gb : List Nat
  ac : Option Addr
  cc : Nat
  cb : List Nat
  al : Option Addr
  cl : Nat
  lb : List Nat
  ah : Option Addr
  ch : Nat
  ao : Option Addr
  co : Nat
  ar : Option Addr
  cr : Nat
abbrev wCells (pa : PA) (p : Prg) (dr : Value) (a : WA) (x : Wd) : List Value :=
  [.slice pa.f p.funcs.length pa.fc, .slice pa.c p.chs.length pa.cc, .int .i64 p.locks, .slice pa.k p.cases.length pa.kc, .slice a.ag a.gb.length a.cg, .int .u64 x.clock,
   .slice a.ac a.cb.length a.cc, .slice a.al a.lb.length a.cl, .slice a.ah x.hl.length a.ch, .int .u64 x.hseq, .slice a.ao x.out.length a.co, .int .i64 x.end_, .int .i64 x.code, .slice a.ar x.ready.length a.cr, dr]
abbrev rowPG (A : Option Addr) (c : Nat) (l : List Nat) : HP := rowP ptrE 65 A c l
abbrev rowPC (A : Option Addr) (c : Nat) (l : List Nat) : HP := rowP ptrE 77 A c l
abbrev rowPL (A : Option Addr) (c : Nat) (l : List Nat) : HP := rowP ptrE 79 A c l
abbrev rowH (A : Option Addr) (c : Nat) (l : List HItem) : HP := rowP itemE 86 A c l
abbrev wRest (a : WA) (x : Wd) (L : List HP) : List HP :=
  rowPG a.ag a.cg a.gb :: rowPC a.ac a.cc a.cb :: objsP chanR a.cb x.chans :: rowPL a.al a.cl a.lb :: objsP lockR a.lb x.locks :: rowH a.ah a.ch x.hl :: rowB a.ao a.co x.out :: rowI a.ar a.cr x.ready :: L
def wLens (gg : List GA) (a : WA) (x : Wd) : Prop := a.gb.length = x.gs.length ∧ gg.length = x.gs.length ∧ a.cb.length = x.chans.length ∧ a.lb.length = x.locks.length
/-- A world stands at b, while something goes on in it. -/
def worldR (pa : PA) (p : Prg) (gg : List GA) (dr : Value) : Rep Wd := ⟨fun b x => exs fun a : WA =>
  sep (pt b (wCells pa p dr a x) 76 :: objsP gorR a.gb (x.gs.zip gg) :: fact (wLens gg a x) :: wRest a x [])⟩
class WAt (b : Nat) (L : List HP) (pa : outParam PA) (p : outParam Prg) (gg : outParam (List GA)) (dr : outParam Value) (x : outParam Wd) (L' : outParam (List HP)) : Prop where
  pick : Pick L (objP (worldR pa p gg dr) b x) L'
instance WAt.here {pa : PA} {p : Prg} {gg : List GA} {dr : Value} {b : Nat} {x : Wd} {L : List HP} : WAt b (objP (worldR pa p gg dr) b x :: L) pa p gg dr x L := ⟨.here⟩
instance (priority := low) WAt.there {pa : PA} {p : Prg} {gg : List GA} {dr : Value} {b : Nat} {x : Wd} {Q : HP} {L L' : List HP} [h : WAt b L pa p gg dr x L'] : WAt b (Q :: L) pa p gg dr x (Q :: L') := ⟨.there h.pick⟩
section
variable {R : Mem} {L L' : List HP} {M : Mem} {K : Value → Mem → Prop} {Kp : List PanicEntry → Mem → Prop} {pa : PA} {p : Prg} {gg : List GA} {dr : Value} {b : Nat} {x : Wd}

theorem world_open (h : Hp R L M) [o : WAt b L pa p gg dr x L'] : ∃ a : WA, wLens gg a x ∧ Hp R (pt b (wCells pa p dr a x) 76 :: objsP gorR a.gb (x.gs.zip gg) :: wRest a x L') M := by
  have := h.pick o.pick
  unfold objP at this
  simp only [worldR, wRest, Hp.ex_iff, Hp.sep_iff, List.cons_append, List.nil_append] at this
  obtain ⟨a, h⟩ := this
  have h2 := h.pick (P := fact (wLens gg a x)) (.there (.there .here))
  exact ⟨a, (Hp.fact_iff.1 h2).1, (Hp.fact_iff.1 h2).2⟩
theorem world_mk {a : WA} (hl : wLens gg a x) (h : Hp R (pt b (wCells pa p dr a x) 76 :: objsP gorR a.gb (x.gs.zip gg) :: wRest a x L) M) : Hp R (objP (worldR pa p gg dr) b x :: L) M := by
  refine Hp.objI ?_
  simp only [worldR, wRest, Hp.ex_iff, Hp.sep_iff, List.cons_append, List.nil_append]
  refine ⟨a, ?_⟩
  have h2 : Hp R (fact (wLens gg a x) :: pt b (wCells pa p dr a x) 76 :: objsP gorR a.gb (x.gs.zip gg) :: wRest a x L) M := Hp.fact_iff.2 ⟨hl, h⟩
  exact h2.unpick (.there (.there .here))
/-- The same, from parts in any order. -/
theorem world_close {a : WA} {L0 L1 L2 L3 L4 L5 L6 L7 L8 L9 : List HP} (hl : wLens gg a x) (h : Hp R L M) (b : Nat)
    [p0 : PtAt b L (wCells pa p dr a x) 76 L0] [p1 : ObjsAt gorR L0 a.gb (x.gs.zip gg) L1] [p2 : RowAt a.ag L1 Nat ptrE 65 a.cg a.gb L2] [p3 : RowAt a.ac L2 Nat ptrE 77 a.cc a.cb L3]
    [p4 : ObjsAt chanR L3 a.cb x.chans L4] [p5 : RowAt a.al L4 Nat ptrE 79 a.cl a.lb L5] [p6 : ObjsAt lockR L5 a.lb x.locks L6] [p7 : RowAt a.ah L6 HItem itemE 86 a.ch x.hl L7] [p8 : RowAt a.ao L7 Int intE 2 a.co x.out L8]
    [p9 : RowAt a.ar L8 Int intE 3 a.cr x.ready L9] : Hp R (objP (worldR pa p gg dr) b x :: L9) M :=
  world_mk hl (h.sub (.cons p0.pick (.cons p1.pick (.cons p2.pick (.cons p3.pick (.cons p4.pick (.cons p5.pick (.cons p6.pick (.cons p7.pick (.cons p8.pick (.cons p9.pick .refl)))))))))))
theorem zip_setL {α β : Type} : ∀ {l : List α} {m : List β} {i : Nat} {u : α} {v : β}, m[i]? = some v → (l.zip m).set i (u, v) = (l.set i u).zip m
  | [], _, _, _, _, _ => by simp
  | a :: l, [], i, u, v, h => by simp at h
  | a :: l, w :: m, 0, u, v, h => by simp at h; subst h; rfl
  | a :: l, w :: m, i + 1, u, v, h => by
    have := zip_setL (l := l) (u := u) (show m[i]? = some v from by simpa using h)
    simp [this]
theorem zip_atL {α β : Type} : ∀ {l : List α} {m : List β} {i : Nat} {u : α} {v : β}, l[i]? = some u → m[i]? = some v → (l.zip m)[i]? = some (u, v)
  | [], _, _, _, _, h, _ => by simp at h
  | a :: l, [], i, u, v, _, h => by simp at h
  | a :: l, w :: m, 0, u, v, h, g => by simp at h g; subst h; subst g; rfl
  | a :: l, w :: m, i + 1, u, v, h, g => by simpa using zip_atL (show l[i]? = some u from by simpa using h) (show m[i]? = some v from by simpa using g)
theorem gor_open {c : Nat} {y : Gor} {A : Option Addr} (h : Hp R L M) [o : ObjAt gorR b L (y, (A, c)) L'] : Hp R (pt b (gorCells y A c) 68 :: rowF A c y.fs :: L') M := by
  have := h.obj gorR b
  simpa only [gorR, Hp.sep_iff, List.cons_append, List.nil_append] using this
theorem gor_close {A : Option Addr} {n c : Nat} {st o1 o2 o3 o4 : Int} {fs : List Frm} {L1 L2 : List HP} (h : Hp R L M) (b : Nat) [p : PtAt b L [.int .i64 st, .slice A n c, .int .i64 o1, .int .i64 o2, .int .i64 o3, .int .i64 o4] 68 L1] [p1 : RowAt A L1 Frm frmE 53 c fs L2]
    (e : n = fs.length := by first | rfl | simp) : Hp R (objP gorR b (⟨st, fs, ⟨o1, o2, o3, o4⟩⟩, (A, c)) :: L2) M := by
  subst e
  refine Hp.objI ?_
  simp only [gorR, Hp.sep_iff, List.cons_append, List.nil_append]
  exact h.sub (.cons p.pick (.cons p1.pick .refl))
/-- A world of which one goroutine lies open. -/
theorem world_at {g : Int} (h : Hp R L M) [o : WAt b L pa p gg dr x L'] (h0 : 0 ≤ g) (hg : g < x.gs.length) :
    ∃ (a : WA) (gb : Nat) (A : Option Addr) (c : Nat), wLens gg a x ∧ a.gb[g.toNat]? = some gb ∧ gg[g.toNat]? = some (A, c) ∧
      Hp R (pt gb (gorCells (gorAt x g) A c) 68 :: rowF A c (gorAt x g).fs :: pt b (wCells pa p dr a x) 76 :: objsX gorR a.gb (x.gs.zip gg) g.toNat :: wRest a x L') M := by
  obtain ⟨a, hl, h1⟩ := world_open h (b := b)
  obtain ⟨l1, l2, l3, l4⟩ := hl
  obtain ⟨gb, hgb⟩ := idx_ex (l := a.gb) (i := g.toNat) (by omega)
  obtain ⟨⟨A, c⟩, hgg⟩ := idx_ex (l := gg) (i := g.toNat) (by omega)
  obtain ⟨y, hy⟩ := idx_ex (l := x.gs) (i := g.toNat) (by omega)
  have e : gorAt x g = y := by simp [gorAt, hy]
  rw [e]
  have h2 := h1.objs_out gorR hgb (zip_atL hy hgg)
  have h3 := gor_open (b := gb) h2
  exact ⟨a, gb, A, c, ⟨l1, l2, l3, l4⟩, hgb, hgg, h3.sub (by repeat (first | exact Sub.refl | refine Sub.cons (by first | exact Pick.here | exact (.there .here) | exact (.there (.there .here)) | exact (.there (.there (.there .here))) | exact (.there (.there (.there (.there .here)))) | exact (.there (.there (.there (.there (.there .here))))) | exact (.there (.there (.there (.there (.there (.there .here)))))) | exact (.there (.there (.there (.there (.there (.there (.there .here))))))) | exact (.there (.there (.there (.there (.there (.there (.there (.there .here)))))))) | exact (.there (.there (.there (.there (.there (.there (.there (.there (.there .here))))))))) | exact (.there (.there (.there (.there (.there (.there (.there (.there (.there (.there .here)))))))))) | exact (.there (.there (.there (.there (.there (.there (.there (.there (.there (.there (.there .here))))))))))) | exact (.there (.there (.there (.there (.there (.there (.there (.there (.there (.there (.there (.there .here)))))))))))) | exact (.there (.there (.there (.there (.there (.there (.there (.there (.there (.there (.there (.there (.there .here))))))))))))) | exact (.there (.there (.there (.there (.there (.there (.there (.there (.there (.there (.there (.there (.there (.there .here)))))))))))))) | exact (.there (.there (.there (.there (.there (.there (.there (.there (.there (.there (.there (.there (.there (.there (.there .here)))))))))))))))) ?_ | refine Sub.drop ?_))⟩
/-- It goes back, and all that lies beside it. -/
theorem world_in {a : WA} {A : Option Addr} {c n : Nat} {g : Int} {st o1 o2 o3 o4 : Int} {fs : List Frm} {L1 L2 L3 : List HP} (h : Hp R L M) (gb : Nat) (hl : wLens gg a x) (hgb : a.gb[g.toNat]? = some gb) (hgg : gg[g.toNat]? = some (A, c))
    [p1 : PtAt gb L [.int .i64 st, .slice A n c, .int .i64 o1, .int .i64 o2, .int .i64 o3, .int .i64 o4] 68 L1] [p2 : RowAt A L1 Frm frmE 53 c fs L2]
    [p3 : ObjsX gorR L2 a.gb (x.gs.zip gg) g.toNat L3] (e : n = fs.length := by first | rfl | simp) : Hp R (objsP gorR a.gb ((x.gs.set g.toNat ⟨st, fs, ⟨o1, o2, o3, o4⟩⟩).zip gg) :: L3) M := by
  have h1 := gor_close h gb e
  obtain ⟨l1, l2, l3, l4⟩ := hl
  have hi := (List.getElem?_eq_some_iff.1 hgb).1
  have h2 := h1.objs_in gorR gb hgb (by rw [List.length_zip]; omega)
  rwa [zip_setL hgg] at h2
end
end Go.Proofs
