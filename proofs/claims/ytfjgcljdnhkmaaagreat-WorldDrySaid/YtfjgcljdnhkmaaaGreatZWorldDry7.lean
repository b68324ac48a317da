/- A part of proofs about one program. -/
import Derived.WideShapes
import Derived.Test.YtfjgcljdnhkmaaaGreatZWorldDry6
set_option linter.unusedVariables false
namespace Go.AF
theorem tf {P : Program} {w : World} {r : Reach} {base : Nat} {t e : TypeId} {A : Option Addr} {n c : Nat} (hu : P.underlying t = some (.slice e)) (h : Value.okWide P w r base t (.slice A n c)) : ∀ x, A = some x → x.spot = none := by
 intro x hx
 subst hx
 simp only [Value.okWide, hu, Cell.okWide, Cell.ok, World.has] at h
 exact h.2.2.2.1
end Go.AF
namespace Go.AF
open Go.Deep
structure Act where
 tick : Bool
 g : Int
 d : Int
 deriving Inhabited
def N2 : jP Act := ⟨3, fun x => [.bool x.tick, .int .i64 x.g, .int .i64 x.d], fun _ => rfl, fun w v hv => by
 simp only [List.mem_cons, List.not_mem_nil, or_false] at hv; obtain rfl | rfl | rfl := hv <;> rfl⟩
def Fg (M : Mem) (A : Option Addr) (n c : Nat) : Prop := ∃ l : List Act, l.length = n ∧ n ≤ 9223372036854775807 ∧ RS N2 M A c l
section
variable {H : Type} {enc : TypeId × Value → H} {P : Program} {w : World} {base : Nat} {spare : Nat → Bool} {held : Bool}
theorem Ki {e tb ti fuel : Nat} {fs : Array Field} {cs : List Value} {x : DataW H × List MemPlace} (hu : P.underlying e = some (.struct fs)) (hb : P.underlying tb = some .bool) (hi : P.underlying ti = some (.int .i64)) (hc : P.cellsOf tb = 1 ∧ P.cellsOf ti = 1)
  (f0 : (fs[0]?).map (fun f => (f.type, f.offset)) = some (tb, 0)) (f1 : (fs[1]?).map (fun f => (f.type, f.offset)) = some (ti, 1)) (f2 : (fs[2]?).map (fun f => (f.type, f.offset)) = some (ti, 2))
  (h : DataW.trod enc P w base spare held fuel e cs = some x) : ∃ a : Act, cs[0]? = some (.bool a.tick) ∧ cs[1]? = some (.int .i64 a.g) ∧ cs[2]? = some (.int .i64 a.d) := by
 obtain ⟨xs, m, _, _, hl, Wu, Rn⟩ := DataW.trod_struct hu h
 have get : ∀ (j t o : Nat), (fs[j]?).map (fun f => (f.type, f.offset)) = some (t, o) → ∃ y fu, DataW.trod enc P w base spare held fu t ((cs.drop o).take (P.cellsOf t)) = some y := by
  intro j t o hj
  obtain ⟨f, hf, he⟩ := Option.map_eq_some_iff.1 hj
  cases he
  have hj' : j < xs.length := by rw [Wu]; exact (Array.getElem?_eq_some_iff.1 hf).1
  have := Rn j f hf
  rw [List.getElem?_eq_getElem hj'] at this
  exact ⟨_, _, this⟩
 have one : ∀ (o : Nat) (v : Value), (cs.drop o).take 1 = [v] → cs[o]? = some v := by
  intro o v hv
  have hh : ((cs.drop o).take 1)[0]? = some v := by rw [hv]; rfl
  simpa using hh
 obtain ⟨_, _, g0⟩ := get 0 tb 0 f0
 obtain ⟨_, _, g1⟩ := get 1 ti 1 f1
 obtain ⟨_, _, g2⟩ := get 2 ti 2 f2
 rw [hc.1] at g0
 rw [hc.2] at g1 g2
 obtain ⟨b, b1, _⟩ := DataW.trod_bool hb g0
 obtain ⟨n, n1, _⟩ := DataW.trod_int hi g1
 obtain ⟨k, k1, _⟩ := DataW.trod_int hi g2
 exact ⟨⟨b, n, k⟩, one _ _ b1, one _ _ n1, one _ _ k1⟩
theorem Fg.tx {t e tb ti : Nat} {fs : Array Field} {A : Option Addr} {n c : Nat} {d : DataW H} {ps : List MemPlace} (ht : P.underlying t = some (.slice e)) (hce : P.cellsOf e = 3) (hu : P.underlying e = some (.struct fs)) (hb : P.underlying tb = some .bool) (hi : P.underlying ti = some (.int .i64)) (hc : P.cellsOf tb = 1 ∧ P.cellsOf ti = 1)
  (f0 : (fs[0]?).map (fun f => (f.type, f.offset)) = some (tb, 0)) (f1 : (fs[1]?).map (fun f => (f.type, f.offset)) = some (ti, 1)) (f2 : (fs[2]?).map (fun f => (f.type, f.offset)) = some (ti, 2))
  (hs : ∀ x, A = some x → x.spot = none) (h : DataW.Trod enc P w base spare held t (.slice A n c) d ps) : Fg (kf w) A n c := by
 obtain ⟨fuel, hf⟩ := h
 rcases Go.Deep.open_slice ht hf with ⟨h0, _⟩ | ⟨a, len, cap, m, n', D, Pl, hcs, hbk, hl, hm, hmm, hx, hel⟩
 ·have h0' : [Value.slice A n c] = [.slice none 0 0] := h0
  cases h0'
  exact ⟨[], rfl, by omega, RS.nil _ _⟩
 ·have K7 : [Value.slice A n c] = [.slice (some a) len cap] := hcs
  cases K7
  have hlm : n ≤ m := by rw [hmm]; split <;> omega
  have each : ∀ i, i < n → ∃ q : Act, ∀ j v, (N2.f q)[j]? = some v → w.cell? ((a.add (i * 3)).add j) = some v := by
   intro i hi'
   obtain ⟨cs', h1, h2⟩ := hel i (by omega)
   rw [hce] at h1
   obtain ⟨_, hlen, hcell⟩ := World.cells?_some h1
   obtain ⟨q, q0, q1, q2⟩ := Ki hu hb hi hc f0 f1 f2 h2
   refine ⟨q, fun j v hj => ?_⟩
   match j, hj with
   | 0, hj => cases hj; rw [hcell 0 (by omega), q0]
   | 1, hj => cases hj; rw [hcell 1 (by omega), q1]
   | 2, hj => cases hj; rw [hcell 2 (by omega), q2]
   | j + 3, hj => simp [N2] at hj
  obtain ⟨g, hg⟩ := Go.Deep.choose_lt each
  have hsp := hs a rfl
  obtain ⟨b, o, sp⟩ := a
  simp only at hsp; subst hsp
  refine ⟨(List.range n).map g, by simp, Nat.le_trans (by omega) (show Go.maxLen ≤ 9223372036854775807 by decide), ⟨?_, by simpa using hl⟩⟩
  intro t' ht'
  rw [jP.dW, List.length_map, List.length_range] at ht'
  have hz : N2.z = 3 := rfl
  rw [hz] at ht'
  have h1 : t' / 3 < n := Nat.div_lt_of_lt_mul (by rw [Nat.mul_comm]; exact ht')
  have h2 : t' % 3 < 3 := Nat.mod_lt _ (by decide)
  obtain ⟨v, hv⟩ : ∃ v, (N2.f (g (t' / 3)))[t' % 3]? = some v := ⟨_, List.getElem?_eq_getElem (by simpa [N2] using h2)⟩
  have h3 := hg _ h1 _ v hv
  rw [add_eq, add_eq] at h3
  have e1 : o + t' / 3 * 3 + t' % 3 = o + t' := by omega
  rw [e1] at h3
  have h4 := jP.wU (E := N2) (l := (List.range n).map g) (i := t' / 3) (j := t' % 3) (by rw [List.getElem?_map, List.getElem?_range h1]; rfl) hv
  rw [hz, show t' / 3 * 3 + t' % 3 = t' from by omega] at h4
  show Mem.ld _ ⟨b, o + t', none⟩ = _
  rw [h4]
  exact h3
end
end Go.AF
namespace Go.Proofs
open Go.AF
set_option maxRecDepth 100000
set_option maxHeartbeats 1000000
attribute [local irreducible] bG dF ff dP aF fa aE b7 aO bk bJ aM
attribute [local irreducible] zm dO
abbrev strV : List PanicEntry := [{ v := (.iface 9 (.string { data := #[100, 114, 121] })), recovered := false }]
theorem Kj {p : cy} : (Wd.new p).doc = Wd.new p := rfl
section
variable {R : Mem} {L L' : List HP} {M : Mem} {K : Value → Mem → Prop} {Kp : List PanicEntry → Mem → Prop} {pa : PA} {p : cy} {x : Wd} {b N : Nat} {g : Int} {i : bZ}
theorem Wn {l : List PanicEntry} {r : Out Wd} {rest : Bool} (he : lK p x g (.fF l) = some (r, rest)) (oX : iI { x with ready := [] } g) (hin : kq p { x with ready := [] } g = some i) (RB : i.op = 21) : ∃ y, r = .fF l y := by
 unfold lK at he
 dsimp only at he
 rw [if_pos oX] at he
 split at he
 ·unfold kq at hin
  cases fC : p.funcs[(aa { x with ready := [] } g).top.fn.toNat]? with
  | none => rw [fC] at hin; cases hin
  | some code =>
   rw [fC] at he hin
   dsimp only at he hin
   rw [hin] at he
   dsimp only at he
   rw [if_neg (by omega), if_neg (by omega), if_pos RB] at he
   split at he
   ·split at he
    ·cases he; exact ⟨_, rfl⟩
    ·cases he
   ·cases he
 ·cases he
theorem Wo {kind n : Int} : ie R (.func (.func 80) #[] #[]) kind n (.fF strV) L L := by
 intro Q M K Kp h k
 refine EA ⟨by decide, by show _ < 228; decide⟩ ?_
 exact qI (k _ h)
theorem Fh (h : Hp R L M) [o : Ap b L pa p x L'] (hx : WV p x) (hp : eJ p) (WM : nQ R pa p) (oX : iI { x with ready := [] } g) (hin : kq p { x with ready := [] } g = some i) (hop : i.op = 16 ∨ i.op = 21)
  (k1 : ∀ M', Hp R (bj (cq pa p) b { x with ready := [] } :: L') M' → K (.bool true) M')
  (k2 : i.op = 16 → ∀ R' y M', R.le R' → Hp R' (bj (cq pa p) b y :: L') M' → K (.bool false) M') :
  ae Tryz.prog 39 #[.pointer (some ⟨b, 0, none⟩), .int .i64 g] M K Kp := by
 refine uZ ?_
 replace h := h.pick o.pick
 clear o
 refine ai h ?_
 clear h
 intro q M h
 obtain ⟨r, rest, he, hres⟩ := JN (d := .fF strV) hx hp oX.1 (fun v kd n e => by cases e)
 replace h : Hp R (bj (cq pa p) b x :: pt q [.bool false] 4 :: L') M := h.sub bz
 refine tM (b := b) (L2 := pt q [.bool false] 4 :: L') h WM ⟨_, _, _, rfl⟩ he (by
  cases asks p { x with ready := [] } g with
  | none => rfl
  | some kn => exact Wo) ?_
 clear h
 rcases hres with ⟨Sa, _⟩ | ⟨l, e1, e2, _⟩
 ·have QZ : ∀ l y, r ≠ .fF l y := fun l y e => by subst e; exact Sa
  have mh : i.op = 16 := by
   rcases hop with e | e
   ·exact e
   ·obtain ⟨y, hy⟩ := Wn he oX hin e
    exact absurd hy (QZ _ _)
  refine Wm QZ ?_
  intro R1 A c t M l1 r1 h
  refine ⟨_, _, _, _, rfl, ?_⟩
  refine ak h ?_
  clear h
  intro M h
  refine QD ?_
  refine ak h ?_
  clear h
  intro M h
  exact ⟨q, false, rfl, cv h, k2 mh R1 _ _ l1 (h.sub bz)⟩
 ·cases e1
  subst e2
  refine ⟨_, fun b v M K Kp h => QC h, fun M h => ?_⟩
  refine MZ ?_
  refine ak h ?_
  clear h
  intro M h
  exact ⟨q, true, rfl, cv h, k1 _ (h.sub bz)⟩
end
section
variable {R : Mem} {L L' : List HP} {M : Mem} {K : Value → Mem → Prop} {Kp : List PanicEntry → Mem → Prop} {pa : PA} {p : cy}
theorem Kk {B : Option Addr} {m cb : Nat} (ha : wA M pa p) (hB : Fg M B m cb) (k : ∀ M', pn [] M M' → K (.bool true) M') :
  ae Tryz.prog 9 #[GZ pa p, .slice B m cb] M K Kp := by
 refine nN ?_
 have k' : ∀ (R : Mem) (L : List HP) M', M.le R → Hp R L M' → K (.bool true) M' := fun R L M' hle h => k M' (qk.chg (fun b o hb => h.le b o (hle b o hb)) [])
 clear k
 obtain ⟨acts, n1, n2, hacts⟩ := hB
 subst n1
 have h := Hp.start M
 refine ai h ?_
 clear h
 intro k1 M1 h
 refine Kh h ?_
 clear h; intro R1 M2 l1 h
 refine lF (au (ax h (ax h (az h (ax h ?_)))))
 refine VR h (ha.le l1) ?_
 clear h; intro R4 C7 M3 l2 WM rB h
 have hok := Q5 p
 have hfn : (ir p).funcs.length ≤ 1000000 := by have := zd p; simp [ir]; omega
 generalize ir p = p2 at WM rB h hok hfn ⊢
 refine ⟨_, _, _, _, _, _, _, _, _, _, rfl, ?_⟩
 refine ai h ?_
 clear h
 intro gV M4 h
 repeat (refine ak h ?_; clear h; intro M4 h)
 have lM : M.le R4 := Mem.le_trans l1 l2
 refine ax h ?_
 refine ax h ?_
 refine az h ?_
 refine ax h ?_
 refine ax h ?_
 refine ax h ?_
 refine az h ?_
 refine ax h ?_
 refine ⟨trivial, ?_⟩
 refine Y2 (pa := C7) (p := p2) h WM rB hok hfn ?_
 clear h; intro R5 p5 M8 l5 hp5 hc5 h
 refine ⟨_, _, _, _, _, _, _, _, _, _, rfl, fA h rfl, trivial, ?_⟩
 refine EJ (p := p2) (pa := p5) h hc5 (by have := hok.ch; omega) (by have := hok.lk; omega) ?_
 clear h; intro b M9 h
 refine Bq ⟨fA h rfl, trivial, ?_⟩
 refine Ra (pa := C7) (p := p2) h (WM.le l5) (rB.le l5) hok ?_
 clear h; intro R6 a mV l6 epa hw h
 refine ⟨_, _, _, _, _, _, _, _, _, _, _, _, _, _, rfl, fA h rfl, ?_⟩
 refine ai h ?_
 clear h
 intro yP iQ h
 refine bl h rfl rfl rfl ?_
 clear h; intro wJ h
 refine ⟨fA h rfl, ?_⟩
 have h0 : Hp R6 (pt yP (ke a p2 (Wd.new p2)) 81 :: pt gV [.slice C7.f p2.funcs.length C7.fc, .slice C7.c p2.dB.length C7.cc, .int .i64 p2.aC, .slice C7.k p2.cases.length C7.kc] 73 :: bj (cq p5 p2) b (Wd.new p2) :: []) wJ := h.sub bz
 rw [show ke a p2 (Wd.new p2) = ke a p2 (Wd.new p2).doc from by rw [Kj]] at h0
 replace hw : eM R6 a p2 (Wd.new p2).doc := by rw [Kj]; exact hw
 have hx0 := qj.new hok
 have hpw := hp5.le l6
 have hpq := WM.le (Mem.le_trans l5 l6)
 have lM6 : M.le R6 := Mem.le_trans lM (Mem.le_trans l5 l6)
 have CV : (Wd.new p2).ready.length ≤ 100 := by show (0 : Nat) ≤ 100; omega
 clear h
 generalize Wd.new p2 = x0 at h0 hw hx0 CV
 clear epa WM rB hp5 hc5
 generalize hP : pt gV [.slice C7.f p2.funcs.length C7.fc, .slice C7.c p2.dB.length C7.cc, .int .i64 p2.aC, .slice C7.k p2.cases.length C7.kc] 73 = P at h0
 refine ⟨fun vs M' => vs = [] ∧ ∃ (j : Nat) (x : Wd) (R' : Mem) (a' : Av), j ≤ 40 ∧ qj p2 j x ∧ x.ready.length ≤ 100 ∧ R6.le R' ∧ eM R' a' p2 x.doc ∧ Hp R' (pt yP (ke a' p2 x.doc) 81 :: P :: bj (cq p5 p2) b x :: []) M',
  ⟨fun dd vs M' => ∃ (j : Nat) (x : Wd) (R' : Mem) (a' : Av), vs = [.int .i64 (j : Int)] ∧ dd = 40 - j ∧ j ≤ 40 ∧ qj p2 j x ∧ x.ready.length ≤ 100 ∧ R6.le R' ∧ eM R' a' p2 x.doc ∧ Hp R' (pt yP (ke a' p2 x.doc) 81 :: P :: bj (cq p5 p2) b x :: []) M', ⟨_, 0, x0, R6, a, rfl, rfl, by omega, hx0, CV, Mem.le_refl _, hw, h0⟩, ?_⟩, ?_⟩
 ·clear h0 hx0 CV hw
  rintro dd _ nn lG ⟨j, x, R7, a7, he, hd, hj, hx, hr, l7, hw, h⟩
  simp only [List.cons.injEq, Value.int.injEq, and_true, true_and] at he
  subst he
  refine aH.2 ⟨fun c1 => ?_, fun c1 => ⟨rfl, j, x, R7, a7, hj, hx, hr, l7, hw, h⟩⟩
  refine aH.2 ⟨fun c2 => ?_, fun c2 => ⟨rfl, j, x, R7, a7, hj, hx, hr, l7, hw, h⟩⟩
  obtain ⟨act, hact⟩ := aJ (l := acts) (i := j) (by omega)
  have hac := hacts.le (Mem.le_trans lM6 l7)
  obtain ⟨b1, o1, lg⟩ := hac.some (by omega) (by decide)
  rw [lg] at hac
  refine ⟨by omega, c1, bq lg (aI h rfl ?_)⟩
  refine u9 (Src.at hac.src h hact (j := 0) rfl rfl) ?_
  refine aj (Src.at hac.src h hact (j := 1) rfl rfl) ?_
  refine aj (Src.at hac.src h hact (j := 2) rfl rfl) ?_
  refine N1 (b := b) h hx (by omega) hok (hpw.le l7) hw (by omega) ?_
  clear h; intro y t R8 a8 ql hy hyr l8 hw8 h
  refine ⟨ke a8 p2 y.doc, rfl, _, rfl, ?_⟩
  refine bl h rfl rfl rfl ?_
  clear h; intro Dt h
  exact ⟨40 - (j + 1), by omega, j + 1, y, R8, a8, by rw [aS (by omega)], rfl, by omega, hy, hyr, Mem.le_trans l7 l8, hw8, h.sub bz⟩
 clear h0 hx0 CV hw
 rintro nn lG ⟨_, j, x, R7, a7, hj, hx, hr, l7, hw, h⟩
 clear nn
 refine ax h ?_
 have hv := CT hx.wv hx.hl
 have lM7 := Mem.le_trans lM6 l7
 have hpw7 := hpw.le l7
 have hpq7 := hpq.le l7
 obtain ⟨rs, bx, dQ⟩ := hw.gs
 generalize hC : pt yP (ke a7 p2 x.doc) 81 = C at h
 refine ⟨fun dd vs M' => ∃ (i : Nat) (r : List Int), vs = [.int .i64 (i : Int)] ∧ dd = x.doc.gs.length - i ∧ i ≤ x.doc.gs.length ∧ Hp R7 (C :: P :: bj (cq p5 p2) b { x with ready := r } :: []) M', ⟨_, 0, x.ready, rfl, rfl, by omega, h⟩, ?_⟩
 clear h
 rintro dd _ nn ql ⟨i, r, he, hd, hi, h⟩
 simp only [List.cons.injEq, Value.int.injEq, and_true, true_and] at he
 subst he
 refine aH.2 ⟨fun hlt => ?_, fun hge => k' R7 _ _ lM7 h⟩
 refine ⟨fun vs M' => vs = [] ∧ ∃ r, Hp R7 (C :: P :: bj (cq p5 p2) b { x with ready := r } :: []) M', ?_, ?_⟩
 ·have qZ := hv.n2
  have g1 : (i : Int) < x.doc.gs.length := hlt
  have zO := hv.aT (g := (i : Int)) (by omega) g1
  obtain ⟨_, _, g2, g3⟩ := zO
  obtain ⟨⟨oV, rA, rn, rc, AU⟩, Ey, e1, e2, e3, e4⟩ := dQ.at (bM (x := x.doc) (g := (i : Int)) (by omega) g1)
  rw [Int.toNat_natCast] at Ey
  dsimp only at e1 e2 e3 e4
  subst e1; subst e2; subst e4
  obtain ⟨b0, o0, jG⟩ := bx.some (by rw [dQ.1]; omega) (by decide)
  rw [jG] at bx
  refine ⟨by omega, hlt, bq jG ?_⟩
  rw [Int.toNat_natCast]
  refine aj (Src.at bx.src h Ey (j := 0) rfl (by simp [tS])) ?_
  refine bu (Src.at bx.src h Ey (j := 1) rfl rfl) ?_
  refine aj (Src.at bx.src h Ey (j := 2) rfl rfl) ?_
  refine aj (Src.at bx.src h Ey (j := 3) rfl rfl) ?_
  refine aj (Src.at bx.src h Ey (j := 4) rfl rfl) ?_
  refine aj (Src.at bx.src h Ey (j := 5) rfl rfl) ?_
  refine ai h ?_
  clear h
  intro q129 Dt h
  repeat (refine ak h ?_; clear h; intro Dt h)
  refine az h (cY.2 ⟨fun _ => ⟨rfl, r, h.sub bz⟩, fun s1 => ?_⟩)
  have hendE : ∀ (Q : List HP) (M : Mem) (n : Int) (G : Int → Prop), Hp R7 (C :: Q) M → G x.doc.end_ → bG (M.ld ⟨yP, (0 + 11), none⟩) .i64 G := fun Q M n G h g => by subst hC; exact az h g
  have hC2 : Hp R7 (C :: pt q129 [.int .i64 (aa x.doc (i : Int)).st, .slice rA (aa x.doc (i : Int)).fs.length rc, .int .i64 (aa x.doc (i : Int)).wt.op, .int .i64 (aa x.doc (i : Int)).wt.a, .int .i64 (aa x.doc (i : Int)).wt.b, .int .i64 (aa x.doc (i : Int)).wt.c] 111 :: P :: bj (cq p5 p2) b { x with ready := r } :: []) Dt := h.sub bz
  clear h
  refine hendE _ _ 0 _ hC2 ?_
  have h := hC2
  clear hC2 hendE
  refine cY.2 ⟨fun _ => ⟨rfl, r, h.sub bz⟩, fun hend => ?_⟩
  obtain ⟨bf, of, qK⟩ := e3.some (by omega) (by decide)
  subst qK
  refine ax h (ax h ?_)
  rw [cK g2 (by omega)]
  refine ⟨by omega, by omega, aV ?_⟩
  rw [Int.toNat_natCast]
  have ht := bR g2
  refine aj (Src.at e3.src h ht (j := 0) rfl rfl) ?_
  refine aj (Src.at e3.src h ht (j := 1) rfl rfl) ?_
  refine aj (Src.at e3.src h ht (j := 2) rfl rfl) ?_
  refine aj (Src.at e3.src h ht (j := 3) rfl rfl) ?_
  refine aj (Src.at e3.src h ht (j := 4) rfl rfl) ?_
  refine aj (Src.at e3.src h ht (j := 5) rfl rfl) ?_
  refine aj (Src.at e3.src h ht (j := 6) rfl rfl) ?_
  refine aj (Src.at e3.src h ht (j := 7) rfl rfl) ?_
  refine aj (Src.at e3.src h ht (j := 8) rfl rfl) ?_
  refine aj (Src.at e3.src h ht (j := 9) rfl rfl) ?_
  refine aj (Src.at e3.src h ht (j := 10) rfl rfl) ?_
  refine ai h ?_
  clear h
  intro q158 gj h
  repeat (refine ak h ?_; clear h; intro gj h)
  obtain ⟨t1, t2, t3, t4, t5⟩ := (hv.ij (g := (i : Int)) (by omega) g1).top
  subst hP
  obtain ⟨ts, hts, htl, htf⟩ := hpq7.funcs
  obtain ⟨f, hf⟩ := aJ (l := p2.funcs) (i := (aa x.doc (i : Int)).top.fn.toNat) (by omega)
  obtain ⟨tt, C8⟩ := aJ (l := ts) (i := (aa x.doc (i : Int)).top.fn.toNat) (by omega)
  obtain ⟨gL, htn⟩ := htf _ _ _ C8 hf
  obtain ⟨bt, ot, NS⟩ := hts.some (by omega) (by decide)
  rw [NS] at hts
  refine az h (ax h (az h ⟨t1, t2, bq NS ?_⟩))
  refine bu (Src.at hts.src h C8 (j := 0) rfl (by simp [tL])) ?_
  try dsimp only
  refine aH.2 ⟨fun _ => ⟨rfl, r, h.sub bz⟩, fun sS => ?_⟩
  refine ax h (az h ⟨t1, t2, bq NS ?_⟩)
  refine bu (Src.at hts.src h C8 (j := 0) rfl (by simp [tL])) ?_
  try dsimp only
  obtain ⟨ins, hin⟩ := aJ (l := f) (i := (aa x.doc (i : Int)).top.pc.toNat) (by omega)
  obtain ⟨bi, oi, Y9⟩ := gL.some (by omega) (by decide)
  rw [Y9] at gL
  refine az h ⟨t3, by omega, bq Y9 ?_⟩
  refine aj (Src.at gL.src h hin (j := 0) rfl (by simp [jE])) ?_
  have oX : ∀ r : List Int, iI { ({ x with ready := r } : Wd) with ready := [] } (i : Int) := fun r => by
   refine ⟨by show (0 : Int) ≤ i; omega, by show (i : Int) < x.gs.length; rw [← nC]; exact g1, hend, ?_⟩
   show (aa x (i : Int)).st = 1
   rw [td, kN] at s1; exact s1
  have hia : ∀ r : List Int, kq p2 { ({ x with ready := r } : Wd) with ready := [] } (i : Int) = some ins := fun r => by
   show kq p2 x (i : Int) = some ins
   rw [← Fc]
   unfold kq
   rw [hf]; exact hin
  have hsame : ∀ (Q : List HP) (M : Mem) (G : Prop), True := fun _ _ _ => trivial
  clear hsame
  replace h : Hp R7 (bj (cq p5 p2) b { x with ready := r } :: pt q158 (gJ (aa x.doc (i : Int)).top) 114 :: C :: pt gV [.slice C7.f p2.funcs.length C7.fc, .slice C7.c p2.dB.length C7.cc, .int .i64 p2.aC, .slice C7.k p2.cases.length C7.kc] 73 :: []) gj := h.sub bz
  refine cY.2 ⟨fun nI => cY.2 ⟨fun _ => ⟨rfl, r, h.sub bz⟩, fun QG => ?_⟩, fun C5 => ?_⟩
  ·refine Fh (b := b) (x := { x with ready := r }) h hx.wv.ready hok hpw7 (oX r) (hia r) (.inr QG) ?_ (fun e => absurd e nI)
   clear h; intro mW h
   refine lF (aq ?_)
   subst hC
   refine aI h rfl ?_
   refine CU (x := { x with ready := [] }) (r := x.ready) (b := b) h hx.ready hok hw ?_
   clear h; intro lR h
   exact eY (aD rfl (au ⟨rfl, [], h.sub bz⟩))
  ·refine Fh (b := b) (x := { x with ready := r }) h hx.wv.ready hok hpw7 (oX r) (hia r) (.inl C5) ?_ (fun _ => ?_)
   ·clear h; intro mW h
    refine lF (aq ?_)
    subst hC
    refine aI h rfl ?_
    refine CU (x := { x with ready := [] }) (r := x.ready) (b := b) h hx.ready hok hw ?_
    clear h; intro lR h
    exact eY (aD rfl (au ⟨rfl, [], h.sub bz⟩))
   ·clear h; intro R8 y mW l8 h
    refine lF (au (aq ?_))
    unfold gJ at h
    have hts8 := hts.le l8
    have hins8 := gL.le l8
    refine ax h (az h ⟨t1, t2, bq NS ?_⟩)
    refine bu (Src.at hts8.src h C8 (j := 0) rfl (by simp [tL])) ?_
    try dsimp only
    refine az h ⟨t3, by omega, bq Y9 ?_⟩
    refine aj (Src.at hins8.src h hin (j := 0) rfl (by simp [jE])) ?_
    rw [show (ins.op == 16) = true from beq_iff_eq.2 C5]
    exact k' R8 _ _ (Mem.le_trans lM7 l8) h
 ·rintro nn Dt ⟨_, r2, h2⟩
  exact ⟨x.doc.gs.length - (i + 1), by omega, i + 1, r2, by rw [aS (by have := hv.n2; omega)], rfl, by omega, h2⟩
end
end Go.Proofs
