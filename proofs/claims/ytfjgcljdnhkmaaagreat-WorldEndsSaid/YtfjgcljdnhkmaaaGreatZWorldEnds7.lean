/- A part of proofs about one program. -/
import Derived.WideShapes
import Derived.Test.YtfjgcljdnhkmaaaGreatZWorldEnds6
set_option linter.unusedVariables false
namespace Go.AF
theorem sZ {P : Program} {w : World} {r : Reach} {base : Nat} {t e : TypeId} {A : Option Addr} {n c : Nat} (hu : P.underlying t = some (.slice e)) (h : Value.okWide P w r base t (.slice A n c)) : ∀ x, A = some x → x.spot = none := by
 intro x hx
 subst hx
 simp only [Value.okWide, hu, Cell.okWide, Cell.ok, World.has] at h
 exact h.2.2.2.1
end Go.AF
namespace Go.AF
open Go.Deep
structure Act where
 tick : Bool
 g : Int
 d : Int
 deriving Inhabited
def Nt : jM Act := ⟨3, fun x => [.bool x.tick, .int .i64 x.g, .int .i64 x.d], fun _ => rfl, fun w v hv => by
 simp only [List.mem_cons, List.not_mem_nil, or_false] at hv; obtain rfl | rfl | rfl := hv <;> rfl⟩
def EU (M : Mem) (A : Option Addr) (n c : Nat) : Prop := ∃ l : List Act, l.length = n ∧ n ≤ 9223372036854775807 ∧ RS Nt M A c l
section
variable {H : Type} {enc : TypeId × Value → H} {P : Program} {w : World} {base : Nat} {spare : Nat → Bool} {held : Bool}
theorem JP {e tb ti fuel : Nat} {fs : Array Field} {cs : List Value} {x : DataW H × List MemPlace} (hu : P.underlying e = some (.struct fs)) (hb : P.underlying tb = some .bool) (hi : P.underlying ti = some (.int .i64)) (hc : P.cellsOf tb = 1 ∧ P.cellsOf ti = 1)
  (f0 : (fs[0]?).map (fun f => (f.type, f.offset)) = some (tb, 0)) (f1 : (fs[1]?).map (fun f => (f.type, f.offset)) = some (ti, 1)) (f2 : (fs[2]?).map (fun f => (f.type, f.offset)) = some (ti, 2))
  (h : DataW.trod enc P w base spare held fuel e cs = some x) : ∃ a : Act, cs[0]? = some (.bool a.tick) ∧ cs[1]? = some (.int .i64 a.g) ∧ cs[2]? = some (.int .i64 a.d) := by
 obtain ⟨xs, m, _, _, hl, VK, QF⟩ := DataW.trod_struct hu h
 have get : ∀ (j t o : Nat), (fs[j]?).map (fun f => (f.type, f.offset)) = some (t, o) → ∃ y fu, DataW.trod enc P w base spare held fu t ((cs.drop o).take (P.cellsOf t)) = some y := by
  intro j t o hj
  obtain ⟨f, hf, he⟩ := Option.map_eq_some_iff.1 hj
  cases he
  have hj' : j < xs.length := by rw [VK]; exact (Array.getElem?_eq_some_iff.1 hf).1
  have := QF j f hf
  rw [List.getElem?_eq_getElem hj'] at this
  exact ⟨_, _, this⟩
 have one : ∀ (o : Nat) (v : Value), (cs.drop o).take 1 = [v] → cs[o]? = some v := by
  intro o v hv
  have hh : ((cs.drop o).take 1)[0]? = some v := by rw [hv]; rfl
  simpa using hh
 obtain ⟨_, _, g0⟩ := get 0 tb 0 f0
 obtain ⟨_, _, g1⟩ := get 1 ti 1 f1
 obtain ⟨_, _, g2⟩ := get 2 ti 2 f2
 rw [hc.1] at g0
 rw [hc.2] at g1 g2
 obtain ⟨b, b1, _⟩ := DataW.trod_bool hb g0
 obtain ⟨n, n1, _⟩ := DataW.trod_int hi g1
 obtain ⟨k, k1, _⟩ := DataW.trod_int hi g2
 exact ⟨⟨b, n, k⟩, one _ _ b1, one _ _ n1, one _ _ k1⟩
theorem EU.tu {t e tb ti : Nat} {fs : Array Field} {A : Option Addr} {n c : Nat} {d : DataW H} {ps : List MemPlace} (ht : P.underlying t = some (.slice e)) (hce : P.cellsOf e = 3) (hu : P.underlying e = some (.struct fs)) (hb : P.underlying tb = some .bool) (hi : P.underlying ti = some (.int .i64)) (hc : P.cellsOf tb = 1 ∧ P.cellsOf ti = 1)
  (f0 : (fs[0]?).map (fun f => (f.type, f.offset)) = some (tb, 0)) (f1 : (fs[1]?).map (fun f => (f.type, f.offset)) = some (ti, 1)) (f2 : (fs[2]?).map (fun f => (f.type, f.offset)) = some (ti, 2))
  (hs : ∀ x, A = some x → x.spot = none) (h : DataW.Trod enc P w base spare held t (.slice A n c) d ps) : EU (j8 w) A n c := by
 obtain ⟨fuel, hf⟩ := h
 rcases Go.Deep.open_slice ht hf with ⟨h0, _⟩ | ⟨a, len, cap, m, n', D, Pl, hcs, hbk, hl, hm, Z8, hx, hel⟩
 ·have Z3 : [Value.slice A n c] = [.slice none 0 0] := h0
  cases Z3
  exact ⟨[], rfl, by omega, RS.nil _ _⟩
 ·have KE : [Value.slice A n c] = [.slice (some a) len cap] := hcs
  cases KE
  have hlm : n ≤ m := by rw [Z8]; split <;> omega
  have each : ∀ i, i < n → ∃ q : Act, ∀ j v, (Nt.f q)[j]? = some v → w.cell? ((a.add (i * 3)).add j) = some v := by
   intro i hi'
   obtain ⟨cs', h1, h2⟩ := hel i (by omega)
   rw [hce] at h1
   obtain ⟨_, hlen, hcell⟩ := World.cells?_some h1
   obtain ⟨q, q0, q1, q2⟩ := JP hu hb hi hc f0 f1 f2 h2
   refine ⟨q, fun j v hj => ?_⟩
   match j, hj with
   | 0, hj => cases hj; rw [hcell 0 (by omega), q0]
   | 1, hj => cases hj; rw [hcell 1 (by omega), q1]
   | 2, hj => cases hj; rw [hcell 2 (by omega), q2]
   | j + 3, hj => simp [Nt] at hj
  obtain ⟨g, hg⟩ := Go.Deep.choose_lt each
  have hsp := hs a rfl
  obtain ⟨b, o, sp⟩ := a
  simp only at hsp; subst hsp
  refine ⟨(List.range n).map g, by simp, Nat.le_trans (by omega) (show Go.maxLen ≤ 9223372036854775807 by decide), ⟨?_, by simpa using hl⟩⟩
  intro t' ht'
  rw [jM.dX, List.length_map, List.length_range] at ht'
  have hz : Nt.z = 3 := rfl
  rw [hz] at ht'
  have h1 : t' / 3 < n := Nat.div_lt_of_lt_mul (by rw [Nat.mul_comm]; exact ht')
  have h2 : t' % 3 < 3 := Nat.mod_lt _ (by decide)
  obtain ⟨v, hv⟩ : ∃ v, (Nt.f (g (t' / 3)))[t' % 3]? = some v := ⟨_, List.getElem?_eq_getElem (by simpa [Nt] using h2)⟩
  have h3 := hg _ h1 _ v hv
  rw [add_eq, add_eq] at h3
  have e1 : o + t' / 3 * 3 + t' % 3 = o + t' := by omega
  rw [e1] at h3
  have h4 := jM.wM (E := Nt) (l := (List.range n).map g) (i := t' / 3) (j := t' % 3) (by rw [List.getElem?_map, List.getElem?_range h1]; rfl) hv
  rw [hz, show t' / 3 * 3 + t' % 3 = t' from by omega] at h4
  show Mem.ld _ ⟨b, o + t', none⟩ = _
  rw [h4]
  exact h3
end
end Go.AF
namespace Go.Proofs
open Go.AF
set_option maxRecDepth 100000
set_option maxHeartbeats 1000000
attribute [local irreducible] bF dG fa dP aF eY aE b7 aO bj bJ aM
attribute [local irreducible] zd dO
def pT (p : cy) (f : List bY) (t : Int) : cy := { dQ p with funcs := (dQ p).funcs.set 0 (f ++ [⟨22, t, 0, 0⟩]) }
theorem QC {p : cy} {f : List bY} {t : Int} (hf : (dQ p).funcs[0]? = some f) : f.length ≤ 20 ∧ eK (pT p f t) := by
 have h := Ey p
 have h20 : f.length ≤ 20 := by
  obtain ⟨f0, _, rfl⟩ := List.mem_map.1 (List.mem_of_getElem? hf)
  have := y5 f0
  simp [sR]; omega
 refine ⟨h20, by simpa [pT] using h.f1, h.ch, h.lk, h.cs, h.cas, fun g hg => ?_⟩
 have el : (pT p f t).funcs.length = (dQ p).funcs.length := by simp [pT]
 rcases List.mem_or_eq_of_mem_set hg with hg | rfl
 ·obtain ⟨a, b, c⟩ := h.code g hg
  refine ⟨a, b, fun i hi => ?_⟩
  have := c i hi
  unfold iA at this ⊢
  rw [el]; exact this
 ·obtain ⟨a, b, c⟩ := h.code f (List.mem_of_getElem? hf)
  refine ⟨by simp, by simp; omega, fun i hi => ?_⟩
  rcases List.mem_append.1 hi with hi | hi
  ·obtain ⟨a0, a1, a2, a7, a8, a9, ar⟩ := c i hi
   unfold iA
   rw [el, List.length_append, List.length_singleton]
   exact ⟨a0, a1, a2, fun e => by have := a7 e; omega, fun e => by have := a8 e; omega, a9, ar⟩
  ·rw [List.mem_singleton.1 hi]
   simp [iA, bY.cM]
section
variable {p : cy} {x : Wd} {g : Int}
theorem VH (he : x.end_ ≠ 0) {d : iz} : lC p x g d = some (.on { x with ready := [] }, true) ∧ asks p { x with ready := [] } g = none := by
 have hn : ¬ jy { x with ready := [] } g := fun hc => he hc.2.2.1
 exact ⟨by unfold lC; rw [if_neg hn], by unfold asks; rw [if_neg hn]⟩
theorem Ot : (Wd.new p).doc = Wd.new p := rfl
theorem VI (he : x.end_ ≠ 0) : x.tick = { x with ready := [] } := by unfold Wd.tick; rw [if_pos he]
end
section
variable {R : Mem} {L L' : List HP} {M : Mem} {K : Value → Mem → Prop} {Kp : List PanicEntry → Mem → Prop} {pa : PA} {p : cy}
theorem GU {B : Option Addr} {m cb : Nat} {x2 : Int} (ha : yY M pa p) (hB : EU M B m cb) (k : ∀ M', oX [] M M' → K (.bool true) M') :
  ae Tryz.prog 10 #[MU pa p, .slice B m cb, .int .i64 x2] M K Kp := by
 refine mQ ?_
 have k' : ∀ (R : Mem) (L : List HP) M', M.le R → Hp R L M' → K (.bool true) M' := fun R L M' hle h => k M' (qg.Z2 (fun b o hb => h.le b o (hle b o hb)) [])
 clear k
 obtain ⟨acts, n1, n2, hacts⟩ := hB
 subst n1
 have h := Hp.start M
 refine ai h ?_
 clear h
 intro k1 M1 h
 refine JO h ?_
 clear h; intro R1 M2 l1 h
 refine mU (au (ax h (ax h (az h (ax h ?_)))))
 refine Qn h (ha.le l1) ?_
 clear h; intro R2 pa1 q us M3 l2 ef Yk hd rC rB h
 obtain ⟨paf, JQ, pac, Nu, pak, QD⟩ := pa1
 dsimp only at ef rC rB h ⊢
 subst ef
 have HB := (Ey p).f1
 obtain ⟨f, hf⟩ := aL (l := (dQ p).funcs) (i := 0) HB
 obtain ⟨⟨A, n, c⟩, hu⟩ := aL (l := us) (i := 0) (by omega)
 obtain ⟨rA, en⟩ := hd 0 _ _ hu hf
 dsimp only at rA en
 subst en
 obtain ⟨h20, hok⟩ := QC (t := IntKind.wrap .i64 (((Nat.bitwise and (BitVec.ofInt IntKind.i64.bits x2).toNat (BitVec.ofInt IntKind.i64.bits 65535).toNat) : Nat) : Int)) hf
 generalize IntKind.wrap .i64 (((Nat.bitwise and (BitVec.ofInt IntKind.i64.bits x2).toNat (BitVec.ofInt IntKind.i64.bits 65535).toNat) : Nat) : Int) = tr at hok ⊢
 have hcap := rA.2
 refine ⟨_, _, _, _, _, _, _, _, _, _, rfl, ?_⟩
 refine ai h ?_
 clear h
 intro gS M4 h
 repeat (refine ak h ?_; clear h; intro M4 h)
 have hrow : ∀ j v, (sN.f (A, f.length, c))[j]? = some v → M4.ld ⟨q, 0 + (0 * sN.z + j), none⟩ = some v := fun j v hj => Src.at (Src.row (A := some ⟨q, 0, none⟩)) h hu hj rfl
 have J7 : M4.ld ⟨q, 0 + 0, none⟩ = some (.slice A f.length c) := hrow 0 _ rfl
 refine ax h ⟨by omega, by omega, aT (br J7 ?_)⟩
 refine ax h ⟨by omega, by omega, aT (br J7 ?_)⟩
 refine ax h ⟨by omega, by omega, aT (br J7 ?_)⟩
 refine ⟨by omega, by omega, by omega, by omega, by omega, by omega, ax h ?_⟩
 simp only [Int.toNat_natCast]
 clear hrow J7
 refine ai h ?_
 clear h
 intro tB M5 h
 have hsl := Src.drop (m := 0) (c := f.length) (rA.src (L := pt tB (jf.cells [⟨22, tr, 0, 0⟩]) 109 :: pt gS [.slice (some ⟨q, 0, none⟩) (dQ p).funcs.length JQ, .slice pac (dQ p).dB.length Nu, .int .i64 (dQ p).aC, .slice pak (dQ p).cases.length QD] 73 :: cu sN 115 (some ⟨q, 0, none⟩) JQ us :: [])) (Nat.le_refl _)
 rw [List.drop_zero] at hsl
 have h2 : Hp R2 (pt tB (jf.cells [⟨22, tr, 0, 0⟩]) 109 :: pt gS [.slice (some ⟨q, 0, none⟩) (dQ p).funcs.length JQ, .slice pac (dQ p).dB.length Nu, .int .i64 (dQ p).aC, .slice pak (dQ p).cases.length QD] 73 :: cu sN 115 (some ⟨q, 0, none⟩) JQ us :: []) M5 := h.sub bx
 clear h
 refine Hp.N5 (E := jf) (r := [⟨22, tr, 0, 0⟩]) h2 hsl rfl Oi rfl rfl (by simp) (by simp; omega) ?_
 clear h2 hsl; intro qn cn M6 h
 refine aU ⟨cw h, by omega, by omega, aT ?_⟩
 obtain ⟨R3, l3, rN, h3⟩ := h.bz (some ⟨qn, 0, none⟩)
 clear h
 refine gK (a' := ((some ⟨qn, 0, none⟩, (f ++ [(⟨22, tr, 0, 0⟩ : bY)]).length, cn) : Option Addr × Nat × Nat)) 0 0 h3 hu (by decide) rfl rfl ?_
 clear h3; intro M7 h
 obtain ⟨R4, l4, rF, h4⟩ := h.bz (some ⟨q, 0, none⟩)
 clear h
 replace h := h4
 clear h4
 have Zy := Mem.le_trans l3 l4
 have hfn : (pT p f tr).funcs.length ≤ 1000000 := by have := yZ p; simp [pT, dQ]; omega
 generalize hp2 : pT p f tr = p2 at hok hfn
 have ef : p2.funcs.length = (dQ p).funcs.length := by rw [← hp2]; simp [pT]
 have hpr : oG R4 ⟨some ⟨q, 0, none⟩, JQ, pac, Nu, pak, QD⟩ p2 := by
  subst hp2
  refine ⟨⟨_, rF, by simp [pT, Yk], fun i t g a b => ?_⟩, rC.le Zy⟩
  by_cases hi : i = 0
  ·subst hi
   rw [List.getElem?_set_self (by omega)] at a
   cases a
   have b' : ((dQ p).funcs.set 0 (f ++ [⟨22, tr, 0, 0⟩]))[0]? = some g := b
   rw [List.getElem?_set_self HB] at b'
   cases b'
   exact ⟨rN.le l4, rfl⟩
  ·rw [List.getElem?_set_ne (by omega)] at a
   have b' : ((dQ p).funcs.set 0 (f ++ [⟨22, tr, 0, 0⟩]))[i]? = some g := b
   rw [List.getElem?_set_ne (by omega)] at b'
   obtain ⟨g1, g2⟩ := hd i t g a b'
   exact ⟨g1.le Zy, g2⟩
 have rB2 : RS bR R4 pac Nu p2.dB := by subst hp2; exact rB.le Zy
 rw [← ef]
 have h0 : Hp R4 (pt gS [.slice (some ⟨q, 0, none⟩) p2.funcs.length JQ, .slice pac p2.dB.length Nu, .int .i64 p2.aC, .slice pak p2.cases.length QD] 73 :: []) M7 := by rw [ef]; subst hp2; exact h.sub bx
 clear h hp2 rB rC rF rN hd Yk hu hf ef
 replace h := h0
 clear h0
 have lM : M.le R4 := Mem.le_trans l1 (Mem.le_trans l2 Zy)
 refine ⟨cw h, ?_⟩
 refine ax h ?_
 refine ax h ?_
 refine az h ?_
 refine ax h ?_
 refine ax h ?_
 refine ax h ?_
 refine az h ?_
 refine ax h ?_
 refine ⟨trivial, ?_⟩
 refine Yo (pa := ⟨some ⟨q, 0, none⟩, JQ, pac, Nu, pak, QD⟩) (p := p2) h hpr rB2 hok hfn ?_
 clear h; intro R5 p5 M8 l5 hp5 hc5 h
 refine ⟨_, _, _, _, _, _, _, _, _, _, rfl, fy h rfl, trivial, ?_⟩
 refine Ej (p := p2) (pa := p5) h hc5 (by have := hok.ch; omega) (by have := hok.lk; omega) ?_
 clear h; intro b M9 h
 refine Bl ⟨fy h rfl, trivial, ?_⟩
 refine Qr (pa := ⟨some ⟨q, 0, none⟩, JQ, pac, Nu, pak, QD⟩) (p := p2) h (hpr.le l5) (rB2.le l5) hok ?_
 clear h; intro R6 a mO l6 epa hw h
 refine ⟨_, _, _, _, _, _, _, _, _, _, _, _, _, _, rfl, fy h rfl, ?_⟩
 refine ai h ?_
 clear h
 intro ox iL h
 refine bk h rfl rfl rfl ?_
 clear h; intro wm h
 refine ⟨fy h rfl, ?_⟩
 have h0 : Hp R6 (pt ox (jZ a p2 (Wd.new p2)) 81 :: bl (cK p5 p2) b (Wd.new p2) :: []) wm := h.sub bx
 rw [show jZ a p2 (Wd.new p2) = jZ a p2 (Wd.new p2).doc from by rw [Ot]] at h0
 replace hw : eN R6 a p2 (Wd.new p2).doc := by rw [Ot]; exact hw
 have hx0 := qf.new hok
 have hpw := hp5.le l6
 have lM6 : M.le R6 := Mem.le_trans lM (Mem.le_trans l5 l6)
 have Em : (Wd.new p2).ready.length ≤ 100 := by show (0 : Nat) ≤ 100; omega
 clear h
 generalize Wd.new p2 = x0 at h0 hw hx0 Em
 clear epa hpr rB2 hp5 hc5 HB
 refine ⟨fun vs M' => vs = [] ∧ ∃ (j : Nat) (x : Wd) (R' : Mem) (a' : Al), j ≤ 80 ∧ qf p2 j x ∧ x.ready.length ≤ 100 ∧ R6.le R' ∧ eN R' a' p2 x.doc ∧ Hp R' (pt ox (jZ a' p2 x.doc) 81 :: bl (cK p5 p2) b x :: []) M',
  ⟨fun dd vs M' => ∃ (j : Nat) (x : Wd) (R' : Mem) (a' : Al), vs = [.int .i64 (j : Int)] ∧ dd = 80 - j ∧ j ≤ 80 ∧ qf p2 j x ∧ x.ready.length ≤ 100 ∧ R6.le R' ∧ eN R' a' p2 x.doc ∧ Hp R' (pt ox (jZ a' p2 x.doc) 81 :: bl (cK p5 p2) b x :: []) M', ⟨_, 0, x0, R6, a, rfl, rfl, by omega, hx0, Em, Mem.le_refl _, hw, h0⟩, ?_⟩, ?_⟩
 ·clear h0 hx0 Em hw
  rintro dd _ nn lu ⟨j, x, R7, a7, he, hd, hj, hx, hr, l7, hw, h⟩
  simp only [List.cons.injEq, Value.int.injEq, and_true, true_and] at he
  subst he
  refine aH.2 ⟨fun c1 => ?_, fun c1 => ⟨rfl, j, x, R7, a7, hj, hx, hr, l7, hw, h⟩⟩
  refine aH.2 ⟨fun c2 => ?_, fun c2 => ⟨rfl, j, x, R7, a7, hj, hx, hr, l7, hw, h⟩⟩
  refine az h (bh.2 ⟨fun c3 => ?_, fun c3 => ⟨rfl, j, x, R7, a7, hj, hx, hr, l7, hw, h⟩⟩)
  obtain ⟨act, hact⟩ := aL (l := acts) (i := j) (by omega)
  have hac := hacts.le (Mem.le_trans lM6 l7)
  obtain ⟨b1, o1, kW⟩ := hac.some (by omega) (by decide)
  rw [kW] at hac
  refine ⟨by omega, c1, bB kW (aI h rfl ?_)⟩
  refine uZ (Src.at hac.src h hact (j := 0) rfl rfl) ?_
  refine aj (Src.at hac.src h hact (j := 1) rfl rfl) ?_
  refine aj (Src.at hac.src h hact (j := 2) rfl rfl) ?_
  refine Ns (b := b) h hx (by omega) hok (hpw.le l7) hw (by omega) ?_
  clear h; intro y t R8 a8 qh hy hyr l8 hw8 h
  refine ⟨jZ a8 p2 y.doc, rfl, _, rfl, ?_⟩
  refine bk h rfl rfl rfl ?_
  clear h; intro Fo h
  exact ⟨80 - (j + 1), by omega, j + 1, y, R8, a8, by rw [aS (by omega)], rfl, by omega, hy, hyr, Mem.le_trans l7 l8, hw8, h.sub bx⟩
 clear h0 hx0 Em hw
 rintro nn lu ⟨_, j, x, R7, a7, hj, hx, hr, l7, hw, h⟩
 clear nn
 refine az h (bh.2 ⟨fun c3 => k' R7 _ _ (Mem.le_trans lM6 l7) h, fun c3 => ?_⟩)
 have hend : x.end_ ≠ 0 := c3
 refine ⟨fun dd vs M' => ∃ (i : Nat) (r : List Int) (R' : Mem), vs = [.int .i64 (i : Int)] ∧ dd = 5 - i ∧ i ≤ 5 ∧ R7.le R' ∧ Hp R' (pt ox (jZ a7 p2 x.doc) 81 :: bl (cK p5 p2) b { x with ready := r } :: []) M', ⟨_, 0, x.ready, R7, rfl, rfl, by omega, Mem.le_refl _, h⟩, ?_⟩
 clear h
 rintro dd _ nn qh ⟨i, r, R8, he, hd, hi, l8, h⟩
 simp only [List.cons.injEq, Value.int.injEq, and_true, true_and] at he
 subst he
 have lM8 : M.le R8 := Mem.le_trans lM6 (Mem.le_trans l7 l8)
 refine aH.2 ⟨fun hlt => ?_, fun hge => ?_⟩
 ·obtain ⟨hex, nI⟩ := VH (p := p2) (x := { x with ready := r }) (g := (i : Int)) (d := .num 0) hend
  refine tJ (b := b) (L2 := pt ox (jZ a7 p2 x.doc) 81 :: []) h (hpw.le (Mem.le_trans l7 l8)) ⟨_, _, _, rfl⟩ hex (by rw [nI]) ?_
  clear h
  intro R9 A c Fo l9 r9 h
  refine ⟨_, _, _, _, rfl, ?_⟩
  refine ai h ?_
  clear h
  intro rR gh h
  refine ak h ?_
  clear h
  intro gh h
  refine ak h ?_
  clear h
  intro gh h
  refine me h (au (ax h (aD rfl ?_)))
  have hwt := hx.wv.ready (r := [])
  refine Cl (b := b) h (by have := hx.wv.En; show x.hl.length ≤ 1000000; omega) (Gt hwt).1 ?_
  clear h
  rw [VI (x := { x with ready := [] }) hend]
  intro R10 A2 c2 nA l10 r10 h
  refine aU (aD rfl ?_)
  exact ⟨5 - (i + 1), by omega, i + 1, [], R10, by rw [aS (by omega)], rfl, by omega, Mem.le_trans l8 (Mem.le_trans l9 l10), h.sub bx⟩
 ·refine aI h rfl ?_
  refine Nr (x := { x with ready := r }) (r := x.ready) (b := b) h hx.ready hok (hw.le l8) ?_
  clear h; intro Fo h
  refine ff (bV rfl ?_)
  refine zK (b := b) h (by have := hx.wv.n2; show x.gs.length ≤ 1000000; omega) (mU ?_)
  have hst : ({ x with ready := r } : Wd).stuck = false := by
   unfold Wd.stuck
   show (x.end_ == 0 && _) = false
   rw [beq_eq_false_iff_ne.2 hend]; rfl
  rw [hst]
  exact k' R8 _ _ lM8 h
end
end Go.Proofs
