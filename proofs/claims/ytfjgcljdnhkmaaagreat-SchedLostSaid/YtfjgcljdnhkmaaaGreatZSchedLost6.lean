/- A part of proofs about one program. -/
import Derived.ChangeArms
import Derived.Deep.Slices
import Derived.OpenShut
import Derived.Recover
import Derived.Scope
import Derived.Test.YtfjgcljdnhkmaaaGreatProg
import Derived.WalkKit
import Derived.Test.YtfjgcljdnhkmaaaGreatZSchedLostBase
import Derived.Test.YtfjgcljdnhkmaaaGreatZSchedLostOps
import Derived.Test.YtfjgcljdnhkmaaaGreatZSchedLostOpsB
import Derived.Test.YtfjgcljdnhkmaaaGreatZSchedLostOpC
import Derived.Test.YtfjgcljdnhkmaaaGreatZSchedLostFrame
import Derived.Test.YtfjgcljdnhkmaaaGreatZSchedLostReg
import Derived.Test.YtfjgcljdnhkmaaaGreatZSchedLostRegB
import Derived.Test.YtfjgcljdnhkmaaaGreatZSchedLostRegL
import Derived.Test.YtfjgcljdnhkmaaaGreatZSchedLostRegC
import Derived.Test.YtfjgcljdnhkmaaaGreatZSchedLostExec
import Derived.Test.YtfjgcljdnhkmaaaGreatZSchedLostSound
import Derived.Test.YtfjgcljdnhkmaaaGreatZSchedLostSoundB
import Derived.Test.YtfjgcljdnhkmaaaGreatZSchedLostLib
import Derived.Test.YtfjgcljdnhkmaaaGreatZSchedLostHp
import Derived.Test.YtfjgcljdnhkmaaaGreatZSchedLostRow
import Derived.Test.YtfjgcljdnhkmaaaGreatZSchedLostBig
import Derived.Test.YtfjgcljdnhkmaaaGreatZSchedLostStC
import Derived.Test.YtfjgcljdnhkmaaaGreatZSchedLostMod
import Derived.Test.YtfjgcljdnhkmaaaGreatZSchedLostOpen
import Derived.Test.YtfjgcljdnhkmaaaGreatZSchedLostArgs
import Derived.Test.YtfjgcljdnhkmaaaGreatZSchedLostDefer
import Derived.Test.YtfjgcljdnhkmaaaGreatZSchedLostDefer2
import Derived.Test.YtfjgcljdnhkmaaaGreatZSchedLostAgg
import Derived.Test.YtfjgcljdnhkmaaaGreatZSchedLost0
import Derived.Test.YtfjgcljdnhkmaaaGreatZSchedLost1
import Derived.Test.YtfjgcljdnhkmaaaGreatZSchedLost2
import Derived.Test.YtfjgcljdnhkmaaaGreatZSchedLost3
import Derived.Test.YtfjgcljdnhkmaaaGreatZSchedLost4
import Derived.Test.YtfjgcljdnhkmaaaGreatZSchedLost5
set_option linter.unusedVariables false
namespace Go.Proofs
open Go.AF Go.Deep
def E5 : List IntKind := [.i64, .i64, .i64, .i64]
def R9 : List IntKind := [.i64, .i64, .i64]
def Sa (g : Nat → Int) : cC := ⟨g 0, g 1, g 2, g 3⟩
def Sb (g : Nat → Int) : nZ := ⟨g 0, g 1, g 2⟩
theorem KG (l : List (Nat → Int)) : (kE E5).cells l = iW.cells (l.map Sa) := by
 induction l with
 | nil => rfl
 | cons g l ih => rw [gy.bV, List.map_cons, gy.bV, ih]; rfl
theorem KH (l : List (Nat → Int)) : (kE R9).cells l = ij.cells (l.map Sb) := by
 induction l with
 | nil => rfl
 | cons g l ih => rw [gy.bV, List.map_cons, gy.bV, ih]; rfl
theorem KI (l : List (Nat → Int)) : (kE [.i64]).cells l = bu.cells (l.map (· 0)) := by
 induction l with
 | nil => rfl
 | cons g l ih => rw [gy.bV, List.map_cons, gy.bV, ih]; rfl
structure tp (M : Mem) (pa : PA) (p : bZ) : Prop where
 n1 : p.funcs.length ≤ 9223372036854775807
 n2 : p.dk.length ≤ 9223372036854775807
 n3 : p.cases.length ≤ 9223372036854775807
 ZR : p.funcs.length ≤ pa.fc
 funcs : 0 < p.funcs.length → ∃ ts : List (Option Addr × Nat × Nat), RS xG M pa.f pa.fc ts ∧ ts.length = p.funcs.length ∧ ∀ (i : Nat) t f, ts[i]? = some t → p.funcs[i]? = some f → t.2.1 = f.length ∧ f.length ≤ 9223372036854775807 ∧ f.length ≤ t.2.2 ∧ (0 < f.length → RS iW M t.1 t.2.2 f)
 dk : 0 < p.dk.length → RS bu M pa.c pa.cc p.dk
 cases : 0 < p.cases.length → RS ij M pa.k pa.kc p.cases
theorem tp.le {M M' : Mem} {pa : PA} {p : bZ} (h : tp M pa p) (hle : M.le M') : tp M' pa p := by
 obtain ⟨a1, a2, a3, a4, a5, a6, a7⟩ := h
 refine ⟨a1, a2, a3, a4, fun h0 => ?_, fun h0 => (a6 h0).le hle, fun h0 => (a7 h0).le hle⟩
 obtain ⟨ts, t1, t2, t3⟩ := a5 h0
 exact ⟨ts, t1.le hle, t2, fun i t f a b => ⟨(t3 i t f a b).1, (t3 i t f a b).2.1, (t3 i t f a b).2.2.1, fun h => ((t3 i t f a b).2.2.2 h).le hle⟩⟩
theorem my.rs {α : Type} {E : gy α} {M : Mem} {A : Option Addr} {n c : Nat} {ks : List IntKind} (h : my M A n c ks) (f : (Nat → Int) → α) (hc : ∀ l, (kE ks).cells l = E.cells (l.map f)) : ∃ l : List α, l.length = n ∧ n ≤ c ∧ n ≤ 9223372036854775807 ∧ (0 < n → RS E M A c l) := by
 obtain ⟨l, rfl, h1, h2, h3, _⟩ := h
 refine ⟨l.map f, by simp, h1, Nat.le_trans h2 (by decide), fun h0 => ⟨?_, by simpa using h1⟩⟩
 rw [← hc]
 exact h3 h0
section
variable {H : Type} {enc : TypeId × Value → H} {P : Program} {w : World} {base : Nat} {spare : Nat → Bool} {held : Bool}
theorem Ao {t e e2 : TypeId} {A : Option Addr} {n c fuel : Nat} {x : DataW H × List MemPlace} (ht : P.underlying t = some (.slice e)) (he : P.underlying e = some (.slice e2)) (Oh : P.cellsOf e = 1) (hk : iC P 8 e2 = some E5) (hc : P.cellsOf e2 = E5.length ∧ 0 < E5.length)
  (h : DataW.trod enc P w base spare held fuel t [.slice A n c] = some x) : ∃ fs : List (List cC), fs.length = n ∧ n ≤ c ∧ n ≤ 9223372036854775807 ∧ (0 < n → ∃ ts : List (Option Addr × Nat × Nat), RS xG (iN w) A c ts ∧ ts.length = n ∧ ∀ (i : Nat) t f, ts[i]? = some t → fs[i]? = some f → t.2.1 = f.length ∧ f.length ≤ 9223372036854775807 ∧ f.length ≤ t.2.2 ∧ (0 < f.length → RS iW (iN w) t.1 t.2.2 f)) := by
 rcases open_slice1 ht Oh h with ⟨h0, _⟩ | ⟨a, len, cap, m, n', V, D, Pl, hcs, hb, hl, hm, DT, hx, hel⟩
 ·cases h0
  exact ⟨[], rfl, Nat.le_refl _, by omega, fun h => absurd h (by omega)⟩
 ·cases hcs
  have hlm : n ≤ m := by rw [DT]; split <;> omega
  have each : ∀ i, i < n → ∃ q : (Option Addr × Nat × Nat) × List cC, w.cell? (a.add i) = some (.slice q.1.1 q.1.2.1 q.1.2.2) ∧ q.1.2.1 = q.2.length ∧ q.2.length ≤ 9223372036854775807 ∧ q.2.length ≤ q.1.2.2 ∧ (0 < q.2.length → RS iW (iN w) q.1.1 q.1.2.2 q.2) := by
   intro i hi
   obtain ⟨h1, h2⟩ := hel i (by omega)
   rcases Go.Deep.open_slice he h2 with ⟨h0, _⟩ | ⟨a', len', cap', _, _, _, _, FW, _, _, _, _, _, _⟩
   ·refine ⟨((none, 0, 0), []), ?_, rfl, by simp, by simp, fun h => by simp at h⟩
    rw [h1]; simpa using h0
   ·have hv : V i = .slice (some a') len' cap' := by simpa using FW
    rw [hv] at h2 h1
    obtain ⟨l, l1, l2, l3, l4⟩ := my.rs (E := iW) (my.qq he hk hc ⟨n', h2⟩) Sa KG
    subst l1
    exact ⟨((some a', l.length, cap'), l), h1, rfl, l3, l2, l4⟩
  obtain ⟨q, hq⟩ := Go.Deep.choose_lt each
  refine ⟨(List.range n).map fun i => (q i).2, by simp, hl, Nat.le_trans hl (Nat.le_trans hm (by decide)), fun hn => ⟨(List.range n).map fun i => (q i).1, ⟨?_, by simpa using hl⟩, by simp, fun i t f h1 h2 => ?_⟩⟩
  ·have hs := World.cell?_spot (hq 0 hn).1
   obtain ⟨b, o, sp⟩ := a
   have hsp : sp = none := by simpa [Addr.add] using hs
   subst hsp
   intro i hi
   rw [gy.dD, List.length_map, List.length_range] at hi
   have hi' : i < n := by simpa [xG] using hi
   have h3 := (hq i hi').1
   rw [add_eq] at h3
   show (iN w).ld ⟨b, o + i, none⟩ = _
   have h4 := gy.iA (E := xG) (l := (List.range n).map fun i => (q i).1) (i := i) (j := 0) (a := (q i).1) (by rw [List.getElem?_map, List.getElem?_range hi']; rfl) rfl
   have e : i * xG.z + 0 = i := by simp [xG]
   rw [e] at h4
   rw [h4]
   exact h3
  ·rw [List.getElem?_map] at h1 h2
   obtain ⟨j, hj, rfl⟩ := Option.map_eq_some_iff.1 h1
   obtain ⟨j', hj', rfl⟩ := Option.map_eq_some_iff.1 h2
   obtain ⟨hl1, e1⟩ := List.getElem?_eq_some_iff.1 hj
   rw [hj] at hj'
   cases hj'
   have V0 : j < n := by rw [← e1]; simpa using hl1
   exact (hq j V0).2
theorem E6 {t t1 t2 t3 t4 e1 e11 e2 e4 : TypeId} {fs : Array Field} {v : Value} {d : DataW H} {ps : List MemPlace} (hu : P.underlying t = some (.struct fs)) (hf : fs.toList.map (fun (f : Field) => (f.offset, f.type)) = [(0, t1), (1, t2), (2, t3), (3, t4)])
  (u1 : P.underlying t1 = some (.slice e1)) (u11 : P.underlying e1 = some (.slice e11)) (u2 : P.underlying t2 = some (.slice e2)) (u3 : P.underlying t3 = some (.int .i64)) (u4 : P.underlying t4 = some (.slice e4))
  (c1 : P.cellsOf t1 = 1) (c2 : P.cellsOf t2 = 1) (c3 : P.cellsOf t3 = 1) (c4 : P.cellsOf t4 = 1) (c11 : P.cellsOf e1 = 1) (k1 : iC P 8 e11 = some E5) (k2 : iC P 8 e2 = some [.i64]) (k4 : iC P 8 e4 = some R9)
  (d1 : P.cellsOf e11 = 4) (d2 : P.cellsOf e2 = 1) (d4 : P.cellsOf e4 = 3) (ct : P.cellsOf t = 4)
  (hs : ∃ cs, v = .agg cs ∧ cs.size = P.cellsOf t)
  (h : DataW.Trod enc P w base spare held t v d ps) : ∃ (pa : PA) (p : bZ), v = .agg #[.slice pa.f p.funcs.length pa.fc, .slice pa.c p.dk.length pa.cc, .int .i64 p.aM, .slice pa.k p.cases.length pa.kc] ∧ tp (iN w) pa p := by
 obtain ⟨cs, rfl, hsz⟩ := hs
 obtain ⟨fuel, hh⟩ := h
 obtain ⟨xs, m, _, _, hl, Rl, LW⟩ := DataW.trod_struct hu hh
 have e0 : (Value.agg cs).cells = cs := rfl
 rw [e0] at LW hl
 rw [ct] at hsz
 obtain ⟨cl⟩ := cs
 simp only [List.size_toArray] at hsz
 have hfl : fs.size = 4 := by have := congrArg List.length hf; simpa using this
 have ZU : ∀ (i o : Nat) (ty : TypeId), ([(0, t1), (1, t2), (2, t3), (3, t4)] : List (Nat × TypeId))[i]? = some (o, ty) → ∃ (f : Field) (x : DataW H × List MemPlace), fs[i]? = some f ∧ f.offset = o ∧ f.type = ty ∧ DataW.trod enc P w base spare held m ty ((cl.drop o).take (P.cellsOf ty)) = some x := by
  intro i o ty hi
  rw [← hf, List.getElem?_map] at hi
  obtain ⟨f, Jk, DF⟩ := Option.map_eq_some_iff.1 hi
  cases DF
  have hf3 : fs[i]? = some f := by simpa using Jk
  have := LW i f hf3
  have hi4 : i < xs.length := by rw [Rl]; exact (Array.getElem?_eq_some_iff.1 hf3).1
  rw [List.getElem?_eq_getElem hi4] at this
  exact ⟨f, _, hf3, rfl, rfl, this⟩
 match cl, hsz with
 | [w0, w1, w2, w3], _ =>
  obtain ⟨_, x1, _, _, _, a1⟩ := ZU 0 0 t1 rfl
  obtain ⟨_, x2, _, _, _, a2⟩ := ZU 1 1 t2 rfl
  obtain ⟨_, x3, _, _, _, a3⟩ := ZU 2 2 t3 rfl
  obtain ⟨_, x4, _, _, _, a4⟩ := ZU 3 3 t4 rfl
  rw [c1] at a1
  rw [c2] at a2
  rw [c3] at a3
  rw [c4] at a4
  have sl : ∀ {ty e : TypeId} {u : Value} {x : DataW H × List MemPlace}, P.underlying ty = some (.slice e) → DataW.trod enc P w base spare held m ty [u] = some x → ∃ A n c, u = .slice A n c := by
   intro ty e u x hu h
   rcases Go.Deep.open_slice hu h with ⟨h0, _⟩ | ⟨a, len, cap, _, _, _, _, h0, _⟩
   ·cases h0; exact ⟨_, _, _, rfl⟩
   ·cases h0; exact ⟨_, _, _, rfl⟩
  obtain ⟨A1, n1, q1, rfl⟩ := sl u1 a1
  obtain ⟨A2, n2, q2, rfl⟩ := sl u2 a2
  obtain ⟨A4, n4, q4, rfl⟩ := sl u4 a4
  obtain ⟨lk, b3, _⟩ := DataW.trod_int u3 a3
  have b3' : w2 = .int .i64 lk := by simpa using b3
  subst b3'
  obtain ⟨fs', f1, f2, f3, f4⟩ := Ao u1 u11 c11 k1 ⟨d1, by decide⟩ a1
  obtain ⟨l2, g1, g2, g3, g4⟩ := my.rs (E := bu) (my.qq u2 k2 ⟨d2, by decide⟩ ⟨m, a2⟩) (· 0) KI
  obtain ⟨l4, j1, j2, j3, j4⟩ := my.rs (E := ij) (my.qq u4 k4 ⟨d4, by decide⟩ ⟨m, a4⟩) Sb KH
  subst f1; subst g1; subst j1
  exact ⟨⟨A1, q1, A2, q2, A4, q4⟩, ⟨fs', l2, lk, l4⟩, rfl, ⟨f3, g3, j3, f2, f4, g4, j4⟩⟩
end
end Go.Proofs
namespace Go.Proofs
open Go.AF
set_option maxRecDepth 100000
set_option maxHeartbeats 1000000
attribute [local irreducible] aK cD fH bL aD fx aI aO bj aS bI aV
def cI (p : bZ) : List Int := (p.dk.take 4).map (aH · 4)
def jT (nc : Nat) (c : nZ) : nZ := if nc = 0 then ⟨2, 0, 0⟩ else ⟨aH c.way 3, aH c.ch nc, aH c.bS 8⟩
def fS (p : bZ) : List nZ := (p.cases.take 8).map (jT (cI p).length)
def dI (p : bZ) : List (List cC) := if (p.funcs.take 5).length = 0 then [[.zero]] else p.funcs.take 5
def gx (f : List cC) : List cC := if (f.take 20).length = 0 then [.zero] else f.take 20
def tq (p : bZ) (f : List cC) : List cC := (gx f).map (wP (dI p).length (cI p).length (fS p).length (aH p.aM 4) (gx f).length)
def fG (p : bZ) : bZ := ⟨(dI p).map (tq p), cI p, aH p.aM 4, fS p⟩
theorem vQ (p : bZ) : 1 ≤ (dI p).length ∧ (dI p).length ≤ 5 := by
 unfold dI
 split
 ·simp
 ·rename_i h; rw [List.length_take] at h ⊢; omega
theorem BS (f : List cC) : 1 ≤ (gx f).length ∧ (gx f).length ≤ 20 := by
 unfold gx
 split
 ·simp
 ·rename_i h; rw [List.length_take] at h ⊢; omega
theorem BT (p : bZ) : (cI p).length ≤ 4 := by unfold cI; rw [List.length_map, List.length_take]; omega
theorem BU (p : bZ) : (fS p).length ≤ 8 := by unfold fS; rw [List.length_map, List.length_take]; omega
theorem lk10 (p : bZ) : 0 ≤ aH p.aM 4 ∧ aH p.aM 4 ≤ 3 := by have := c6 (n := p.aM) (m := 4) (by omega) (by omega); omega
theorem BV (p : bZ) : fN (fG p) := by
 have h1 := vQ p
 have h2 := BT p
 have h3 := BU p
 have h4 := lk10 p
 refine ⟨by simp [fG]; omega, by show (cI p).length ≤ 8; omega, by show 0 ≤ aH p.aM 4 ∧ aH p.aM 4 ≤ 8; omega, by show (fS p).length ≤ 32; omega, fun c hc => ?_, fun f hf => ?_⟩
 ·obtain ⟨c0, _, rfl⟩ := List.mem_map.1 hc
  have a3 := c6 (n := c0.way) (m := 3) (by omega) (by omega)
  have a8 := c6 (n := c0.bS) (m := 8) (by omega) (by omega)
  unfold jT
  split
  ·exact ⟨⟨by decide, by decide, fun h => absurd rfl h⟩, by decide, by decide⟩
  ·rename_i hn
   have ac := c6 (n := c0.ch) (m := ((cI p).length : Int)) (by omega) (by omega)
   exact ⟨⟨by dsimp only; omega, by dsimp only; omega, fun _ => ⟨ac.1, ac.2, a8.1, a8.2⟩⟩, a8.1, a8.2⟩
 ·obtain ⟨f0, _, rfl⟩ := List.mem_map.1 hf
  have h5 := BS f0
  have hl : (tq p f0).length = (gx f0).length := by simp [tq]
  refine ⟨by omega, by omega, fun i hi => ?_⟩
  obtain ⟨i0, _, rfl⟩ := List.mem_map.1 hi
  refine cT.ok ?_
  have e1 : (fG p).funcs.length = (dI p).length := by simp [fG]
  rw [e1, hl]
  show cT _ ((cI p).length : Nat) ((fS p).length : Nat) (aH p.aM 4) _ _
  exact Ou (by omega) (by omega) (by omega) h4 (by omega)
theorem QX : bh Tryz.prog 115 109 4 32 [.int .i64 0, .int .i64 0, .int .i64 0, .int .i64 0] := bh.mk' (zv := .agg #[.int .i64 0, .int .i64 0, .int .i64 0, .int .i64 0]) (by kernel_rfl) (by kernel_rfl) rfl (by omega)
theorem QY : bh Tryz.prog 71 171 3 24 [.int .i64 0, .int .i64 0, .int .i64 0] := bh.mk' (zv := .agg #[.int .i64 0, .int .i64 0, .int .i64 0]) (by kernel_rfl) (by kernel_rfl) rfl (by omega)
theorem VD : bh Tryz.prog 70 115 1 24 [.slice none 0 0] := bh.mk' (zv := .slice none 0 0) (by kernel_rfl) (by kernel_rfl) rfl (by omega)
abbrev C2 (pa : PA) (p : bZ) : Value := .agg #[.slice pa.f p.funcs.length pa.fc, .slice pa.c p.dk.length pa.cc, .int .i64 p.aM, .slice pa.k p.cases.length pa.kc]
abbrev YP (A : Option Addr) (n c : Nat) (B : Option Addr) (m d : Nat) (lk : Int) (C : Option Addr) (q e : Nat) : List Value := [.slice A n c, .slice B m d, .int .i64 lk, .slice C q e]
section
variable {R : Mem} {L L' : List HP} {M : Mem} {K : Value → Mem → Prop} {Kp : List PanicEntry → Mem → Prop} {pa : PA} {p : bZ}
theorem take_succ {α : Type} {l : List α} {j : Nat} {v : α} (h : l[j]? = some v) : l.take (j + 1) = l.take j ++ [v] := by
 obtain ⟨hj, rfl⟩ := List.getElem?_eq_some_iff.1 h
 rw [List.take_add_one, List.getElem?_eq_getElem hj]; rfl
def wQ (R : Mem) (A : Option Addr) (c : Nat) (fs : List (List cC)) : Prop := ∃ ts : List (Option Addr × Nat × Nat), RS xG R A c ts ∧ ts.length = fs.length ∧ ∀ (i : Nat) t f, ts[i]? = some t → fs[i]? = some f → t.2.1 = f.length ∧ f.length ≤ 9223372036854775807 ∧ f.length ≤ t.2.2 ∧ (0 < f.length → RS iW R t.1 t.2.2 f)
theorem wQ.le {R R' : Mem} {A : Option Addr} {c : Nat} {fs : List (List cC)} (h : wQ R A c fs) (hle : R.le R') : wQ R' A c fs := by
 obtain ⟨ts, h1, h2, h3⟩ := h
 exact ⟨ts, h1.le hle, h2, fun i t f a b => ⟨(h3 i t f a b).1, (h3 i t f a b).2.1, (h3 i t f a b).2.2.1, fun h => ((h3 i t f a b).2.2.2 h).le hle⟩⟩
theorem wQ.cut {R : Mem} {A : Option Addr} {c : Nat} {fs : List (List cC)} (h : wQ R A c fs) (q : Nat) : wQ R (lj A 0 c 1) (c - 0) (fs.take q) := by
 obtain ⟨ts, h1, h2, h3⟩ := h
 have h4 := (h1.drop 0 (Nat.zero_le _)).take q
 rw [List.drop_zero] at h4
 refine ⟨ts.take q, h4, by rw [List.length_take, List.length_take, h2], fun i t f a b => ?_⟩
 rw [List.getElem?_take] at a b
 split at a
 ·rename_i hi
  rw [if_pos hi] at b
  exact h3 i t f a b
 ·cases a
theorem RS.cut {α : Type} {E : gy α} {R : Mem} {A : Option Addr} {c : Nat} {l : List α} (h : RS E R A c l) (q : Nat) : RS E R (lj A 0 c E.z) (c - 0) (l.take q) := by
 have h4 := (h.drop 0 (Nat.zero_le _)).take q
 rwa [List.drop_zero] at h4
abbrev dB (k : Nat) (A : Option Addr) (n c : Nat) (B : Option Addr) (m d : Nat) (lk : Int) (C : Option Addr) (q e : Nat) : HP := pt k (YP A n c B m d lk C q e) 73
theorem Ov (h : Hp R L M) (ha : tp R pa p) (k : ∀ R' C3 M', R.le R' → kU R' C3 (fG p) → RS bu R' C3.c C3.cc (fG p).dk → Hp R' L M' → K (C2 C3 (fG p)) M') :
  ae Tryz.prog 35 #[C2 pa p] M K Kp := by
 refine pP ?_
 have OQ := BT p
 have hkl := BU p
 have n1 := ha.n1
 have n2 := ha.n2
 have n3 := ha.n3
 have ZR := ha.ZR
 refine av h ?_
 clear h
 intro k1 M h
 refine av h ?_
 clear h
 intro k3 M h
 refine aJ h (bE (cE ?_))
 refine av h ?_
 clear h
 intro k9 M h
 repeat (refine az h ?_; clear h; intro M h)
 generalize hlk : aH p.aM 4 = lk at h
 have h0 : Hp R (bG bu 3 none 0 [] :: dB k9 none 0 0 none 0 0 lk none 0 0 :: dB k3 none 0 0 none 0 0 0 none 0 0 :: dB k1 pa.f p.funcs.length pa.fc pa.c p.dk.length pa.cc p.aM pa.k p.cases.length pa.kc :: L) M := h.bT bu 3
 clear h
 refine ⟨fun vs M => vs = [] ∧ ∃ B c, Hp R (bG bu 3 B c (cI p) :: dB k9 none 0 0 B (cI p).length c lk none 0 0 :: dB k3 none 0 0 none 0 0 0 none 0 0 :: dB k1 pa.f p.funcs.length pa.fc pa.c p.dk.length pa.cc p.aM pa.k p.cases.length pa.kc :: L) M,
  ⟨fun dd vs M => ∃ (j : Nat) (B : Option Addr) (c : Nat), vs = [.int .i64 (j : Int)] ∧ dd = 4 - j ∧ j ≤ 4 ∧ j ≤ p.dk.length ∧ Hp R (bG bu 3 B c ((p.dk.take j).map (aH · 4)) :: dB k9 none 0 0 B j c lk none 0 0 :: dB k3 none 0 0 none 0 0 0 none 0 0 :: dB k1 pa.f p.funcs.length pa.fc pa.c p.dk.length pa.cc p.aM pa.k p.cases.length pa.kc :: L) M, ⟨_, 0, none, 0, rfl, rfl, by omega, by omega, h0⟩, ?_⟩, ?_⟩
 ·clear h0
  rintro dd _ nn M ⟨j, B, c, he, hd, hj, KO, h⟩
  simp only [List.cons.injEq, Value.int.injEq, and_true, true_and] at he
  subst he
  have hlen : ((p.dk.take j).map (aH · 4)).length = j := by rw [List.length_map, List.length_take]; omega
  have hout : ¬ (j < p.dk.length ∧ j < 4) → (p.dk.take j).map (aH · 4) = cI p ∧ j = (cI p).length := fun hn => by
   have e : p.dk.take j = p.dk.take 4 := by
    rcases Nat.lt_or_ge j 4 with h4 | h4
    ·rw [List.take_of_length_le (by omega), List.take_of_length_le (by omega)]
    ·rw [show j = 4 from by omega]
   refine ⟨by rw [cI, e], ?_⟩
   rw [← hlen, e]; rfl
  refine aR h ?_
  by_cases hc : j < p.dk.length ∧ j < 4
  ·obtain ⟨c1, c2⟩ := hc
   refine u9 (by simp; omega) (u9 (by simp; omega) ?_)
   have hr := ha.dk (by omega)
   obtain ⟨b, o, hb⟩ := hr.some (by omega) (by decide)
   rw [hb] at hr h
   obtain ⟨v, hv⟩ := aQ c1
   have QZ : (p.dk.take (j + 1)).map (aH · 4) = (p.dk.take j).map (aH · 4) ++ [aH v 4] := by rw [take_succ hv, List.map_append]; rfl
   have hstep : ∀ M B c, Hp R (bG bu 3 B c ((p.dk.take j).map (aH · 4) ++ [aH v 4]) :: dB k9 none 0 0 B (j + 1) c lk none 0 0 :: dB k3 none 0 0 none 0 0 0 none 0 0 :: dB k1 pa.f p.funcs.length pa.fc (some ⟨b, o, none⟩) p.dk.length pa.cc p.aM pa.k p.cases.length pa.kc :: L) M →
     ∃ (j' : Nat) (B : Option Addr) (c : Nat), [Value.int .i64 (IntKind.wrap .i64 ((j : Int) + 1))] = [.int .i64 (j' : Int)] ∧ 4 - (j + 1) = 4 - j' ∧ j' ≤ 4 ∧ j' ≤ p.dk.length ∧ Hp R (bG bu 3 B c ((p.dk.take j').map (aH · 4)) :: dB k9 none 0 0 B j' c lk none 0 0 :: dB k3 none 0 0 none 0 0 0 none 0 0 :: dB k1 pa.f p.funcs.length pa.fc pa.c p.dk.length pa.cc p.aM pa.k p.cases.length pa.kc :: L) M := by
    intro M B c h
    refine ⟨j + 1, B, c, by rw [aT (by omega)], rfl, by omega, by omega, ?_⟩
    rw [QZ, hb]
    exact h
   refine ⟨fun vs M => vs = [] ∧ ∃ B c, Hp R (bG bu 3 B c ((p.dk.take j).map (aH · 4) ++ [aH v 4]) :: dB k9 none 0 0 B (j + 1) c lk none 0 0 :: dB k3 none 0 0 none 0 0 0 none 0 0 :: dB k1 pa.f p.funcs.length pa.fc (some ⟨b, o, none⟩) p.dk.length pa.cc p.aM pa.k p.cases.length pa.kc :: L) M, ?_, ?_⟩
   ·refine aR h ⟨by omega, by omega, br ?_⟩
    refine be (Src.at hr.src h (i := j) (j := 0) hv rfl (by simp [bu])) ?_
    refine ⟨?_, ?_, trivial⟩
    ·refine aR h (bE (cE ?_))
     refine av h ?_
     clear h
     intro wC M h
     refine h.dn (A := B) sD [aH v 4] rfl hlen.symm rfl (by simp; omega) ?_
     clear h; intro A' c' M h
     refine aY ?_
     refine az h ?_
     clear h
     intro M h
     exact ⟨rfl, _, _, h.sub (by repeat (first | exact .refl | refine .cons (by repeat (first | exact .here | apply aF.there)) ?_ | apply Sub.drop))⟩
    ·refine bE (cE (aR h ?_))
     refine av h ?_
     clear h
     intro wC M h
     refine h.dn (A := B) sD [aH v 4] rfl hlen.symm rfl (by simp; omega) ?_
     clear h; intro A' c' M h
     refine aY ?_
     refine az h ?_
     clear h
     intro M h
     exact ⟨rfl, _, _, h.sub (by repeat (first | exact .refl | refine .cons (by repeat (first | exact .here | apply aF.there)) ?_ | apply Sub.drop))⟩
   ·clear h
    rintro nn M ⟨_, B', c', h⟩
    exact ⟨4 - (j + 1), by omega, hstep M B' c' h⟩
  ·have ho := hout hc
   obtain ⟨e1, e2⟩ := ho
   rw [e1] at h
   refine Ik ⟨rfl, B, c, ?_⟩ fun h1 h2 => absurd ⟨by omega, by omega⟩ hc
   rw [← e2]; exact h
 clear h0
 rintro nn M ⟨_, B, c, h⟩
 clear nn
 have h0 : Hp R (bG ij 171 none 0 [] :: bG bu 3 B c (cI p) :: dB k9 none 0 0 B (cI p).length c lk none 0 0 :: dB k3 none 0 0 none 0 0 0 none 0 0 :: dB k1 pa.f p.funcs.length pa.fc pa.c p.dk.length pa.cc p.aM pa.k p.cases.length pa.kc :: L) M := h.bT ij _
 clear h
 refine ⟨fun vs M => vs = [] ∧ ∃ C d, Hp R (bG ij 171 C d (fS p) :: bG bu 3 B c (cI p) :: dB k9 none 0 0 B (cI p).length c lk C (fS p).length d :: dB k3 none 0 0 none 0 0 0 none 0 0 :: dB k1 pa.f p.funcs.length pa.fc pa.c p.dk.length pa.cc p.aM pa.k p.cases.length pa.kc :: L) M,
  ⟨fun dd vs M => ∃ (j : Nat) (C : Option Addr) (d : Nat), vs = [.int .i64 (j : Int)] ∧ dd = 8 - j ∧ j ≤ 8 ∧ j ≤ p.cases.length ∧ Hp R (bG ij 171 C d ((p.cases.take j).map (jT (cI p).length)) :: bG bu 3 B c (cI p) :: dB k9 none 0 0 B (cI p).length c lk C j d :: dB k3 none 0 0 none 0 0 0 none 0 0 :: dB k1 pa.f p.funcs.length pa.fc pa.c p.dk.length pa.cc p.aM pa.k p.cases.length pa.kc :: L) M, ⟨_, 0, none, 0, rfl, rfl, by omega, by omega, h0⟩, ?_⟩, ?_⟩
 ·clear h0
  rintro dd _ nn M ⟨j, C, d, he, hd, hj, KO, h⟩
  simp only [List.cons.injEq, Value.int.injEq, and_true, true_and] at he
  subst he
  have hlen : ((p.cases.take j).map (jT (cI p).length)).length = j := by rw [List.length_map, List.length_take]; omega
  have hout : ¬ (j < p.cases.length ∧ j < 8) → (p.cases.take j).map (jT (cI p).length) = fS p ∧ j = (fS p).length := fun hn => by
   have e : p.cases.take j = p.cases.take 8 := by
    rcases Nat.lt_or_ge j 8 with h4 | h4
    ·rw [List.take_of_length_le (by omega), List.take_of_length_le (by omega)]
    ·rw [show j = 8 from by omega]
   refine ⟨by rw [fS, e], ?_⟩
   rw [← hlen, e]; rfl
  refine aR h ?_
  by_cases hc : j < p.cases.length ∧ j < 8
  ·obtain ⟨c1, c2⟩ := hc
   refine u9 (by simp; omega) (u9 (by simp; omega) ?_)
   have hr := ha.cases (by omega)
   obtain ⟨b, o, hb⟩ := hr.some (by omega) (by decide)
   rw [hb] at hr h
   obtain ⟨v, hv⟩ := aQ c1
   have QZ : (p.cases.take (j + 1)).map (jT (cI p).length) = (p.cases.take j).map (jT (cI p).length) ++ [jT (cI p).length v] := by rw [take_succ hv, List.map_append]; rfl
   refine aR h ⟨by omega, by omega, br ?_⟩
   refine be (Src.at hr.src h (i := j) (j := 0) hv rfl (by simp [ij])) ?_
   refine be (Src.at hr.src h (i := j) (j := 1) hv rfl (by simp [ij]; omega)) ?_
   refine be (Src.at hr.src h (i := j) (j := 2) hv rfl (by simp [ij]; omega)) ?_
   refine av h ?_
   clear h
   intro Pz M h
   repeat (first | refine bE ?_ | (refine av h ?_; clear h; intro kb M h) | (refine az h ?_; clear h; intro M h) | refine St.to h ?_ | (apply Exists.intro; (repeat apply Exists.intro); refine And.intro rfl ?_) | (refine And.intro ?_ ?_; first | exact rfl | (refine aa (aj h) ?_; (repeat (refine aa (aj h) ?_)); exact ai) | omega) | refine aq ?_ | refine au ?_)
   refine ⟨fun vs M => vs = [] ∧ Hp R (pt kb (ij.f (jT (cI p).length v)) 171 :: bG ij 171 C d ((p.cases.take j).map (jT (cI p).length)) :: bG bu 3 B c (cI p) :: dB k9 none 0 0 B (cI p).length c lk C j d :: dB k3 none 0 0 none 0 0 0 none 0 0 :: dB k1 pa.f p.funcs.length pa.fc pa.c p.dk.length pa.cc p.aM (some ⟨b, o, none⟩) p.cases.length pa.kc :: L) M, ?_, ?_⟩
   ·refine aZ.2 ⟨fun hz => ?_, fun hz => ?_⟩
    ·have ez : jT (cI p).length v = ⟨2, 0, 0⟩ := by unfold jT; rw [if_pos (by omega)]
     rw [ez]
     repeat (first | (refine av h ?_; clear h; intro kb M h) | (refine az h ?_; clear h; intro M h) | refine St.to h ?_ | (apply Exists.intro; (repeat apply Exists.intro); refine And.intro rfl ?_) | (refine And.intro ?_ ?_; first | exact rfl | (refine aa (aj h) ?_; (repeat (refine aa (aj h) ?_)); exact ai) | omega) | refine aq ?_ | refine au ?_)
     exact h.sub (by repeat (first | exact .refl | refine .cons (by repeat (first | exact .here | apply aF.there)) ?_ | apply Sub.drop))
    ·have ez : jT (cI p).length v = ⟨aH v.way 3, aH v.ch (cI p).length, aH v.bS 8⟩ := by unfold jT; rw [if_neg (by omega)]
     rw [ez]
     exact ⟨rfl, h.sub (by repeat (first | exact .refl | refine .cons (by repeat (first | exact .here | apply aF.there)) ?_ | apply Sub.drop))⟩
   ·clear h
    rintro nn M ⟨_, h⟩
    generalize jT (cI p).length v = w at h QZ
    have h : Hp R (pt kb [.int .i64 w.way, .int .i64 w.ch, .int .i64 w.bS] 171 :: bG ij 171 C d ((p.cases.take j).map (jT (cI p).length)) :: bG bu 3 B c (cI p) :: dB k9 none 0 0 B (cI p).length c lk C j d :: dB k3 none 0 0 none 0 0 0 none 0 0 :: dB k1 pa.f p.funcs.length pa.fc pa.c p.dk.length pa.cc p.aM (some ⟨b, o, none⟩) p.cases.length pa.kc :: L) M := h
    refine aR h (aJ h (aJ h (aJ h ?_)))
    refine av h ?_
    clear h
    intro Wc M h
    refine h.dn (A := C) QY [w] rfl hlen.symm rfl (by simp; omega) ?_
    clear h; intro C' d' M h
    refine aY ?_
    refine az h ?_
    clear h
    intro M h
    refine ⟨8 - (j + 1), by omega, j + 1, C', d', by rw [aT (by omega)], rfl, by omega, by omega, ?_⟩
    rw [QZ, hb]
    exact h.sub (by repeat (first | exact .refl | refine .cons (by repeat (first | exact .here | apply aF.there)) ?_ | apply Sub.drop))
  ·have ho := hout hc
   obtain ⟨e1, e2⟩ := ho
   rw [e1] at h
   refine Ik ⟨rfl, C, d, ?_⟩ fun h1 h2 => absurd ⟨by omega, by omega⟩ hc
   rw [← e2]; exact h
 clear h0
 rintro nn M ⟨_, C, d, h⟩
 clear nn
 obtain ⟨R1, l1, rC, h1⟩ := h.cU C
 obtain ⟨R2, l2, rB, h2⟩ := h1.cU B
 clear h h1
 replace rC := rC.le l2
 have kM : R.le R2 := Mem.le_trans l1 l2
 replace h := h2
 clear h2 l1 l2
 have e5 : Int.toNat (if (5 : Int) < ((p.funcs.length : Nat) : Int) then 5 else ((p.funcs.length : Nat) : Int)) - 0 = min 5 p.funcs.length := by split <;> omega
 refine aR h (aR h ⟨by omega, by omega, by split <;> omega, by split <;> omega, by omega, by split <;> omega, ?_⟩)
 simp only [e5, Int.toNat_natCast]
 refine ⟨fun vs M => ∃ R' A c', vs = [.slice A (dI p).length c'] ∧ R2.le R' ∧ wQ R' A c' (dI p) ∧ Hp R' (dB k9 none 0 0 B (cI p).length c lk C (fS p).length d :: dB k3 none 0 0 none 0 0 0 none 0 0 :: dB k1 pa.f p.funcs.length pa.fc pa.c p.dk.length pa.cc p.aM pa.k p.cases.length pa.kc :: L) M, ?_, ?_⟩
 ·refine aZ.2 ⟨fun hz => ?_, fun hz => ?_⟩
  ·have ez : dI p = [[.zero]] := by unfold dI; rw [if_pos (by rw [List.length_take]; omega)]
   rw [ez]
   refine av h ?_
   clear h
   intro ka M h
   obtain ⟨R3, l3, r3, h3⟩ := ((h.pt ka).gW (E := iW) (l := [.zero]) rfl).cU (some ⟨ka, 0, none⟩)
   clear h
   refine av h3 ?_
   clear h3; intro kb M h
   obtain ⟨R4, l4, r4, h4⟩ := ((h.pt kb).gW (E := xG) (l := [(some ⟨ka, 0, none⟩, 1, 1)]) rfl).cU (some ⟨kb, 0, none⟩)
   clear h
   refine ⟨R4, _, _, rfl, Mem.le_trans l3 l4, ⟨_, r4, rfl, fun i t f a b => ?_⟩, h4⟩
   match i, a, b with
   | 0, a, b => cases a; cases b; exact ⟨rfl, by simp, by simp, fun _ => r3.le l4⟩
   | i + 1, a, b => simp at a
  ·have ez : dI p = p.funcs.take 5 := by unfold dI; rw [if_neg (by rw [List.length_take]; omega)]
   have hf : wQ R pa.f pa.fc p.funcs := ha.funcs (by omega)
   rw [ez]
   refine ⟨R2, _, _, by rw [List.length_take], Mem.le_refl _, (hf.cut 5).le kM, h⟩
 clear h
 rintro nn A' n' c' M ⟨R3, A, cA, he, l3, YQ, h⟩
 simp only [List.cons.injEq, Value.slice.injEq, and_true] at he
 obtain ⟨rfl, rfl, rfl⟩ := he
 clear nn e5
 replace rC := rC.le l3
 replace rB := rB.le l3
 have Qk : R.le R3 := Mem.le_trans kM l3
 clear l3 kM
 have hfl := vQ p
 refine h.Ce (E := xG) (a := (none, 0, 0)) VD (by omega) ?_
 clear h; intro q M h
 refine aY ?_
 refine az h ?_
 clear h
 intro M h
 obtain ⟨ts, hts1, hts2, hts3⟩ := YQ
 refine ⟨fun dd vs M => ∃ (j : Nat) (R4 : Mem) (us : List (Option Addr × Nat × Nat)), vs = [.int .i64 (j : Int)] ∧ dd = (dI p).length - j ∧ j ≤ (dI p).length ∧ R3.le R4 ∧ us.length = (dI p).length ∧ (∀ (i : Nat) t f, i < j → us[i]? = some t → (dI p)[i]? = some f → RS iW R4 t.1 t.2.2 (tq p f) ∧ t.2.1 = (tq p f).length) ∧
  Hp R4 (bG xG 115 (some ⟨q, 0, none⟩) (dI p).length us :: dB k9 (some ⟨q, 0, none⟩) (dI p).length (dI p).length B (cI p).length c lk C (fS p).length d :: dB k3 none 0 0 none 0 0 0 none 0 0 :: dB k1 pa.f p.funcs.length pa.fc pa.c p.dk.length pa.cc p.aM pa.k p.cases.length pa.kc :: L) M,
  ⟨_, 0, R3, List.replicate (dI p).length (none, 0, 0), rfl, rfl, by omega, Mem.le_refl _, by simp, fun i t f hi => absurd hi (by omega), h.sub (by repeat (first | exact .refl | refine .cons (by repeat (first | exact .here | apply aF.there)) ?_ | apply Sub.drop))⟩, ?_⟩
 clear h
 rintro dd _ nn M ⟨j, R4, us, he, hd, hj, l4, OV, E7, h⟩
 simp only [List.cons.injEq, Value.int.injEq, and_true, true_and] at he
 subst he
 refine aP.2 ⟨fun hlt => ?_, fun hge => ?_⟩
 ·obtain ⟨t, ht⟩ := aQ (l := ts) (i := j) (by omega)
  obtain ⟨f, hf⟩ := aQ (l := dI p) (i := j) (by omega)
  obtain ⟨u1, u2, u3, u4⟩ := hts3 j t f ht hf
  obtain ⟨tA, tn, tc⟩ := t
  dsimp only at u1 u3 u4
  subst u1
  have Hu := hts1.le l4
  obtain ⟨b, o, hb⟩ := Hu.some (by omega) (by decide)
  rw [hb] at Hu
  rw [hb]
  refine ⟨by omega, hlt, br ?_⟩
  refine Cd (Src.at Hu.src h (i := j) (j := 0) ht rfl (by simp [xG])) ?_
  dsimp only
  have e20 : Int.toNat (if (20 : Int) < ((f.length : Nat) : Int) then 20 else ((f.length : Nat) : Int)) - 0 = min 20 f.length := by split <;> omega
  refine ⟨by omega, by omega, by split <;> omega, by split <;> omega, by omega, by split <;> omega, ?_⟩
  simp only [e20, Int.toNat_natCast]
  refine ⟨fun vs M => ∃ R' A c', vs = [.slice A (gx f).length c'] ∧ R4.le R' ∧ RS iW R' A c' (gx f) ∧ Hp R' (bG xG 115 (some ⟨q, 0, none⟩) (dI p).length us :: dB k9 (some ⟨q, 0, none⟩) (dI p).length (dI p).length B (cI p).length c lk C (fS p).length d :: dB k3 none 0 0 none 0 0 0 none 0 0 :: dB k1 pa.f p.funcs.length pa.fc pa.c p.dk.length pa.cc p.aM pa.k p.cases.length pa.kc :: L) M, ?_, ?_⟩
  ·refine aZ.2 ⟨fun hz => ?_, fun hz => ?_⟩
   ·have ez : gx f = [.zero] := by unfold gx; rw [if_pos (by rw [List.length_take]; omega)]
    rw [ez]
    refine av h ?_
    clear h
    intro ka M h
    obtain ⟨R5, l5, r5, h5⟩ := ((h.pt ka).gW (E := iW) (l := [.zero]) rfl).cU (some ⟨ka, 0, none⟩)
    clear h
    exact ⟨R5, _, _, rfl, l5, r5, h5⟩
   ·have ez : gx f = f.take 20 := by unfold gx; rw [if_neg (by rw [List.length_take]; omega)]
    rw [ez]
    refine ⟨R4, _, _, by rw [List.length_take]; rfl, Mem.le_refl _, RS.le (RS.cut (E := iW) (u4 (by omega)) 20) l4, h⟩
  clear h
  rintro nn Q1 zJ YR M ⟨R5, F, cF, he, l5, hF, h⟩
  simp only [List.cons.injEq, Value.slice.injEq, and_true] at he
  obtain ⟨rfl, rfl, rfl⟩ := he
  clear nn e20
  have h5 := BS f
  refine av h ?_
  clear h
  intro kr M h
  have h0 := (h.pt kr).gW (E := iW) (l := []) rfl
  clear h
  refine ⟨fun dd vs M => ∃ (i : Nat) (A : Option Addr) (c' : Nat), vs = [.slice A i c', .int .i64 (i : Int)] ∧ dd = (gx f).length - i ∧ i ≤ (gx f).length ∧ Hp R5 (bG iW 109 A c' (((gx f).take i).map (wP (dI p).length (cI p).length (fS p).length lk (gx f).length)) :: bG xG 115 (some ⟨q, 0, none⟩) (dI p).length us :: dB k9 (some ⟨q, 0, none⟩) (dI p).length (dI p).length B (cI p).length c lk C (fS p).length d :: dB k3 none 0 0 none 0 0 0 none 0 0 :: dB k1 pa.f p.funcs.length pa.fc pa.c p.dk.length pa.cc p.aM pa.k p.cases.length pa.kc :: L) M,
   ⟨_, 0, _, _, rfl, rfl, by omega, h0⟩, ?_⟩
  clear h0
  rintro dd _ Q1 zJ YR nn M ⟨i, A2, c2, he, OS, hi, h⟩
  simp only [List.cons.injEq, Value.int.injEq, Value.slice.injEq, and_true, true_and] at he
  obtain ⟨⟨rfl, rfl, rfl⟩, rfl⟩ := he
  have hlen : (((gx f).take zJ).map (wP (dI p).length (cI p).length (fS p).length lk (gx f).length)).length = zJ := by rw [List.length_map, List.length_take]; omega
  refine aP.2 ⟨fun Ey => ?_, fun QK => ?_⟩
  ·obtain ⟨x, hx⟩ := aQ (l := gx f) (i := zJ) (by omega)
   obtain ⟨b', o', hb'⟩ := hF.some (by omega) (by decide)
   rw [hb'] at hF
   rw [hb']
   refine ⟨by omega, Ey, br ?_⟩
   refine be (Src.at hF.src h (i := zJ) (j := 0) hx rfl (by simp [iW])) ?_
   refine be (Src.at hF.src h (i := zJ) (j := 1) hx rfl (by simp [iW]; omega)) ?_
   refine be (Src.at hF.src h (i := zJ) (j := 2) hx rfl (by simp [iW]; omega)) ?_
   refine be (Src.at hF.src h (i := zJ) (j := 3) hx rfl (by simp [iW]; omega)) ?_
   repeat (first | (refine av h ?_; clear h; intro kb M h) | (refine az h ?_; clear h; intro M h) | refine St.to h ?_ | (apply Exists.intro; (repeat apply Exists.intro); refine And.intro rfl ?_) | (refine And.intro ?_ ?_; first | exact rfl | (refine aa (aj h) ?_; (repeat (refine aa (aj h) ?_)); exact ai) | omega) | refine aq ?_ | refine au ?_)
   refine QW h (by omega) ?_
   clear h; intro M h
   refine ⟨_, _, _, _, rfl, ?_⟩
   refine av h ?_
   clear h
   intro kz M h
   refine h.dn (A := Q1) QX [wP (dI p).length (cI p).length (fS p).length lk (gx f).length x] rfl hlen.symm rfl (by simp; omega) ?_
   clear h; intro A3 c3 M h
   refine aY ⟨(gx f).length - (zJ + 1), by omega, zJ + 1, A3, c3, ?_, rfl, by omega, ?_⟩
   ·rw [aT (by omega)]
   ·rw [take_succ hx, List.map_append]
    exact h.sub (by repeat (first | exact .refl | refine .cons (by repeat (first | exact .here | apply aF.there)) ?_ | apply Sub.drop))
  ·have hin : zJ = (gx f).length := by omega
   subst hin
   rw [List.take_of_length_le (Nat.le_refl _)] at h
   obtain ⟨R6, l6, r6, h6⟩ := h.cU Q1
   clear h
   refine aR h6 ⟨by omega, by omega, br ?_⟩
   obtain ⟨u, hu⟩ := aQ (l := us) (i := j) (by omega)
   refine iB (a' := (Q1, (gx f).length, YR)) j 0 h6 hu (by decide) rfl (by simp [xG]) ?_
   clear h6; intro M h
   refine ⟨(dI p).length - (j + 1), by omega, j + 1, R6, _, by rw [aT (by omega)], rfl, by omega, Mem.le_trans l4 (Mem.le_trans l5 l6), ?_, ?_, h.sub (by repeat (first | exact .refl | refine .cons (by repeat (first | exact .here | apply aF.there)) ?_ | apply Sub.drop))⟩
   ·simp [OV]
   ·intro i t' f' hi' ht' Fz
    by_cases hij : i = j
    ·subst hij
     rw [List.getElem?_set_self (by omega)] at ht'
     cases ht'
     rw [hf] at Fz
     cases Fz
     subst hlk
     exact ⟨r6, by simp [tq]⟩
    ·rw [List.getElem?_set_ne (by omega)] at ht'
     obtain ⟨g1, g2⟩ := E7 i t' f' (by omega) ht' Fz
     exact ⟨g1.le (Mem.le_trans l5 l6), g2⟩
 ·obtain ⟨R5, l5, r5, h5⟩ := h.cU (some ⟨q, 0, none⟩)
  clear h
  replace h := h5
  clear h5
  repeat (first | (refine av h ?_; clear h; intro kb M h) | (refine az h ?_; clear h; intro M h) | refine St.to h ?_ | (apply Exists.intro; (repeat apply Exists.intro); refine And.intro rfl ?_) | (refine And.intro ?_ ?_; first | exact rfl | (refine aa (aj h) ?_; (repeat (refine aa (aj h) ?_)); exact ai) | omega) | refine aq ?_ | refine au ?_)
  subst hlk
  have YF := Mem.le_trans l4 l5
  have ef : (fG p).funcs.length = (dI p).length := by simp [fG]
  have hk := fun M' => k R5 ⟨some ⟨q, 0, none⟩, (dI p).length, B, c, C, d⟩ M' (Mem.le_trans Qk YF) ⟨⟨us, r5, by simp [fG, OV], fun i t f a b => ?_⟩, rC.le YF⟩ (rB.le YF)
  ·rw [C2, ef] at hk
   exact hk _ (h.sub (by repeat (first | exact .refl | refine .cons (by repeat (first | exact .here | apply aF.there)) ?_ | apply Sub.drop)))
  ·have b' : ((dI p).map (tq p))[i]? = some f := b
   rw [List.getElem?_map] at b'
   obtain ⟨f0, b1, rfl⟩ := Option.map_eq_some_iff.1 b'
   obtain ⟨g1, g2⟩ := E7 i t f0 (by have := (List.getElem?_eq_some_iff.1 b1).1; omega) a b1
   exact ⟨g1.le l5, g2⟩
end
end Go.Proofs
namespace Go.Proofs
open Go.AF
set_option maxRecDepth 100000
set_option maxHeartbeats 1000000
attribute [local irreducible] aK cD fH bL aD fx aI aO bj aS bI aV
theorem Q2 : bh Tryz.prog 31 34 4 32 [.int .i64 0, .int .i64 0, .int .i64 0, .int .i64 0] := bh.mk' (zv := .agg #[.int .i64 0, .int .i64 0, .int .i64 0, .int .i64 0]) (by kernel_rfl) (by kernel_rfl) rfl (by omega)
theorem Q3 : bh Tryz.prog 39 172 3 24 [.int .i64 0, .int .i64 0, .int .i64 0] := bh.mk' (zv := .agg #[.int .i64 0, .int .i64 0, .int .i64 0]) (by kernel_rfl) (by kernel_rfl) rfl (by omega)
theorem VE : bh Tryz.prog 37 31 1 24 [.slice none 0 0] := bh.mk' (zv := .slice none 0 0) (by kernel_rfl) (by kernel_rfl) rfl (by omega)
theorem C4 {A : Option Addr} {b o : Nat} {G : Nat → Nat → Prop} (e : A = some ⟨b, o, none⟩) (g : G b o) : aI A G := by subst e; exact br g
abbrev Ap (k : Nat) (A : Option Addr) (n c : Nat) (B : Option Addr) (m d : Nat) (lk : Int) (C : Option Addr) (q e : Nat) : HP := pt k (YP A n c B m d lk C q e) 41
section
variable {R : Mem} {L L' : List HP} {M : Mem} {K : Value → Mem → Prop} {Kp : List PanicEntry → Mem → Prop} {pa : PA} {p : bZ}
theorem Q4 (h : Hp R L M) (ha : kU R pa p) (hc : RS bu R pa.c pa.cc p.dk) (hp : fN p) (hfn : p.funcs.length ≤ 1000000) (k : ∀ R' C3 M', R.le R' → kU R' C3 p → RS bu R' C3.c C3.cc p.dk → Hp R' L M' → K (C2 C3 p) M') :
  ae Tryz.prog 29 #[C2 pa p] M K Kp := by
 refine rG ?_
 have p1 := hp.ch
 have p2 := hp.cs
 obtain ⟨ts, t1, t2, t3⟩ := ha.funcs
 have t4 := t1.2
 refine av h ?_
 clear h
 intro k1 M h
 refine av h ?_
 clear h
 intro k3 M h
 refine aR h (aJ h ?_)
 refine av h ?_
 clear h
 intro k9 M h
 refine ⟨trivial, ?_⟩
 refine h.jX bu sD p.dk hc.src rfl (by omega) ?_
 clear h; intro B c M h
 refine aY ⟨aj h, ?_⟩
 refine av h ?_
 clear h
 intro dF M h
 repeat (refine az h ?_; clear h; intro M h)
 refine ⟨aj h, aR h ?_⟩
 obtain ⟨R1, l1, rB, h1⟩ := h.cU B
 clear h
 have h0 : Hp R1 (bG xG 31 none 0 [] :: Ap dF none 0 0 B p.dk.length c p.aM none 0 0 :: Ap k3 none 0 0 none 0 0 0 none 0 0 :: dB k1 pa.f p.funcs.length pa.fc pa.c p.dk.length pa.cc p.aM pa.k p.cases.length pa.kc :: L) M := (h1.bT xG _).sub (by repeat (first | exact .refl | refine .cons (by repeat (first | exact .here | apply aF.there)) ?_ | apply Sub.drop))
 clear h1
 refine ⟨fun dd vs M => ∃ (j : Nat) (R2 : Mem) (A : Option Addr) (cA : Nat) (us : List (Option Addr × Nat × Nat)), vs = [.int .i64 (j : Int)] ∧ dd = p.funcs.length - j ∧ j ≤ p.funcs.length ∧ R1.le R2 ∧ us.length = j ∧ (∀ (i : Nat) t f, us[i]? = some t → p.funcs[i]? = some f → RS iW R2 t.1 t.2.2 f ∧ t.2.1 = f.length) ∧
  Hp R2 (bG xG 31 A cA us :: Ap dF A j cA B p.dk.length c p.aM none 0 0 :: Ap k3 none 0 0 none 0 0 0 none 0 0 :: dB k1 pa.f p.funcs.length pa.fc pa.c p.dk.length pa.cc p.aM pa.k p.cases.length pa.kc :: L) M,
  ⟨_, 0, R1, none, 0, [], rfl, rfl, by omega, Mem.le_refl _, rfl, fun i t f a => by simp at a, h0⟩, ?_⟩
 clear h0
 rintro dd _ nn M ⟨j, R2, A, cA, us, he, hd, hj, l2, OV, E7, h⟩
 simp only [List.cons.injEq, Value.int.injEq, and_true, true_and] at he
 subst he
 refine aP.2 ⟨fun hlt => ?_, fun hge => ?_⟩
 ·obtain ⟨t, ht⟩ := aQ (l := ts) (i := j) (by omega)
  obtain ⟨f, hf⟩ := aQ (l := p.funcs) (i := j) (by omega)
  obtain ⟨u1, u2⟩ := t3 j t f ht hf
  have hfl := (hp.code f (List.mem_of_getElem? hf)).2.1
  obtain ⟨tA, tn, tc⟩ := t
  dsimp only at u1 u2
  subst u2
  have Hu := t1.le (Mem.le_trans l1 l2)
  obtain ⟨b, o, hb⟩ := Hu.some (by omega) (by decide)
  rw [hb] at Hu
  refine ⟨by omega, hlt, C4 hb ?_⟩
  refine Cd (Src.at Hu.src h (i := j) (j := 0) ht rfl (by simp [xG])) ?_
  dsimp only
  have hF := u1.le (Mem.le_trans l1 l2)
  refine av h ?_
  clear h
  intro kr M h
  have h0 := (h.pt kr).gW (E := iW) (l := []) rfl
  clear h
  refine ⟨fun dd vs M => ∃ (i : Nat) (A2 : Option Addr) (c' : Nat), vs = [.slice A2 i c', .int .i64 (i : Int)] ∧ dd = f.length - i ∧ i ≤ f.length ∧ Hp R2 (bG iW 34 A2 c' (f.take i) :: bG xG 31 A cA us :: Ap dF A j cA B p.dk.length c p.aM none 0 0 :: Ap k3 none 0 0 none 0 0 0 none 0 0 :: dB k1 pa.f p.funcs.length pa.fc pa.c p.dk.length pa.cc p.aM pa.k p.cases.length pa.kc :: L) M,
   ⟨_, 0, _, _, rfl, rfl, by omega, h0⟩, ?_⟩
  clear h0
  rintro dd _ Q1 zJ YR nn M ⟨i, A2, c2, he, OS, hi, h⟩
  simp only [List.cons.injEq, Value.int.injEq, Value.slice.injEq, and_true, true_and] at he
  obtain ⟨⟨rfl, rfl, rfl⟩, rfl⟩ := he
  have hlen : (f.take zJ).length = zJ := by rw [List.length_take]; omega
  refine aP.2 ⟨fun Ey => ?_, fun QK => ?_⟩
  ·obtain ⟨x, hx⟩ := aQ (l := f) (i := zJ) (by omega)
   obtain ⟨b', o', hb'⟩ := hF.some (by omega) (by decide)
   rw [hb'] at hF
   refine ⟨by omega, Ey, C4 hb' ?_⟩
   refine be (Src.at hF.src h (i := zJ) (j := 0) hx rfl (by simp [iW])) ?_
   refine be (Src.at hF.src h (i := zJ) (j := 1) hx rfl (by simp [iW]; omega)) ?_
   refine be (Src.at hF.src h (i := zJ) (j := 2) hx rfl (by simp [iW]; omega)) ?_
   refine be (Src.at hF.src h (i := zJ) (j := 3) hx rfl (by simp [iW]; omega)) ?_
   repeat (first | (refine av h ?_; clear h; intro kb M h) | (refine az h ?_; clear h; intro M h) | refine St.to h ?_ | (apply Exists.intro; (repeat apply Exists.intro); refine And.intro rfl ?_) | (refine And.intro ?_ ?_; first | exact rfl | (refine aa (aj h) ?_; (repeat (refine aa (aj h) ?_)); exact ai) | omega) | refine aq ?_ | refine au ?_)
   refine h.dn (A := Q1) Q2 [x] rfl hlen.symm rfl (by simp; omega) ?_
   clear h; intro A3 c3 M h
   refine aY ⟨f.length - (zJ + 1), by omega, zJ + 1, A3, c3, ?_, rfl, by omega, ?_⟩
   ·rw [aT (by omega)]
   ·rw [take_succ hx]
    exact h.sub (by repeat (first | exact .refl | refine .cons (by repeat (first | exact .here | apply aF.there)) ?_ | apply Sub.drop))
  ·have hin : zJ = f.length := by omega
   subst hin
   rw [List.take_of_length_le (Nat.le_refl _)] at h
   obtain ⟨R6, l6, r6, h6⟩ := h.cU Q1
   clear h
   refine aR h6 ?_
   refine av h6 ?_
   clear h6; intro kz M h
   refine h.dn (A := A) VE [(Q1, f.length, YR)] rfl OV.symm rfl (by simp; omega) ?_
   clear h; intro A3 c3 M h
   refine aY ?_
   refine az h ?_
   clear h
   intro M h
   refine ⟨p.funcs.length - (j + 1), by omega, j + 1, R6, A3, c3, us ++ [(Q1, f.length, YR)], by rw [aT (by omega)], rfl, by omega, Mem.le_trans l2 l6, by simp [OV], ?_, h.sub (by repeat (first | exact .refl | refine .cons (by repeat (first | exact .here | apply aF.there)) ?_ | apply Sub.drop))⟩
   intro i t' f' ht' Fz
   rcases Nat.lt_or_ge i us.length with hi' | hi'
   ·rw [List.getElem?_append_left hi'] at ht'
    obtain ⟨g1, g2⟩ := E7 i t' f' ht' Fz
    exact ⟨g1.le l6, g2⟩
   ·rw [List.getElem?_append_right hi'] at ht'
    have hi0 : i - us.length = 0 := by
     rcases Nat.eq_zero_or_pos (i - us.length) with e | e
     ·exact e
     ·rw [List.getElem?_eq_none (by simp; omega)] at ht'; cases ht'
    rw [hi0] at ht'
    cases ht'
    have : i = j := by omega
    subst this
    rw [hf] at Fz
    cases Fz
    exact ⟨r6, rfl⟩
 ·have xu : j = p.funcs.length := by omega
  subst xu
  obtain ⟨R3, l3, rA, h3⟩ := h.cU A
  clear h
  refine aR h3 ?_
  have h0 : Hp R3 (bG ij 172 none 0 [] :: Ap dF A p.funcs.length cA B p.dk.length c p.aM none 0 0 :: Ap k3 none 0 0 none 0 0 0 none 0 0 :: dB k1 pa.f p.funcs.length pa.fc pa.c p.dk.length pa.cc p.aM pa.k p.cases.length pa.kc :: L) M := h3.bT ij _
  clear h3
  have YS := Mem.le_trans l1 (Mem.le_trans l2 l3)
  have hk := ha.cases.le YS
  refine ⟨fun dd vs M => ∃ (i : Nat) (A2 : Option Addr) (c' : Nat), vs = [.int .i64 (i : Int)] ∧ dd = p.cases.length - i ∧ i ≤ p.cases.length ∧ Hp R3 (bG ij 172 A2 c' (p.cases.take i) :: Ap dF A p.funcs.length cA B p.dk.length c p.aM A2 i c' :: Ap k3 none 0 0 none 0 0 0 none 0 0 :: dB k1 pa.f p.funcs.length pa.fc pa.c p.dk.length pa.cc p.aM pa.k p.cases.length pa.kc :: L) M,
   ⟨_, 0, none, 0, rfl, rfl, by omega, h0⟩, ?_⟩
  clear h0
  rintro dd _ nn M ⟨i, A2, c2, he, OS, hi, h⟩
  simp only [List.cons.injEq, Value.int.injEq, and_true, true_and] at he
  subst he
  have hlen : (p.cases.take i).length = i := by rw [List.length_take]; omega
  refine aP.2 ⟨fun Ey => ?_, fun QK => ?_⟩
  ·obtain ⟨x, hx⟩ := aQ (l := p.cases) (i := i) (by omega)
   obtain ⟨b', o', hb'⟩ := hk.some (by omega) (by decide)
   rw [hb'] at hk
   refine ⟨by omega, Ey, C4 hb' ?_⟩
   refine be (Src.at hk.src h (i := i) (j := 0) hx rfl (by simp [ij])) ?_
   refine be (Src.at hk.src h (i := i) (j := 1) hx rfl (by simp [ij]; omega)) ?_
   refine be (Src.at hk.src h (i := i) (j := 2) hx rfl (by simp [ij]; omega)) ?_
   repeat (first | (refine av h ?_; clear h; intro kb M h) | (refine az h ?_; clear h; intro M h) | refine St.to h ?_ | (apply Exists.intro; (repeat apply Exists.intro); refine And.intro rfl ?_) | (refine And.intro ?_ ?_; first | exact rfl | (refine aa (aj h) ?_; (repeat (refine aa (aj h) ?_)); exact ai) | omega) | refine aq ?_ | refine au ?_)
   refine h.dn (A := A2) Q3 [x] rfl hlen.symm rfl (by simp; omega) ?_
   clear h; intro A3 c3 M h
   refine aY ?_
   refine az h ?_
   clear h
   intro M h
   refine ⟨p.cases.length - (i + 1), by omega, i + 1, A3, c3, ?_, rfl, by omega, ?_⟩
   ·rw [aT (by omega)]
   ·rw [take_succ hx]
    exact h.sub (by repeat (first | exact .refl | refine .cons (by repeat (first | exact .here | apply aF.there)) ?_ | apply Sub.drop))
  ·have hin : i = p.cases.length := by omega
   subst hin
   rw [List.take_of_length_le (Nat.le_refl _)] at h
   obtain ⟨R6, l6, r6, h6⟩ := h.cU A2
   clear h
   replace h := h6
   clear h6
   repeat (first | (refine av h ?_; clear h; intro kb M h) | (refine az h ?_; clear h; intro M h) | refine St.to h ?_ | (apply Exists.intro; (repeat apply Exists.intro); refine And.intro rfl ?_) | (refine And.intro ?_ ?_; first | exact rfl | (refine aa (aj h) ?_; (repeat (refine aa (aj h) ?_)); exact ai) | omega) | refine aq ?_ | refine au ?_)
   have l16 := Mem.le_trans YS l6
   refine k R6 ⟨A, cA, B, c, A2, c2⟩ _ l16 ⟨⟨us, rA.le l6, OV, fun i t f a b => ?_⟩, r6⟩ (rB.le (Mem.le_trans l2 (Mem.le_trans l3 l6))) (h.sub (by repeat (first | exact .refl | refine .cons (by repeat (first | exact .here | apply aF.there)) ?_ | apply Sub.drop)))
   obtain ⟨g1, g2⟩ := E7 i t f a b
   exact ⟨g1.le (Mem.le_trans l3 l6), g2⟩
end
end Go.Proofs
namespace Go.Proofs
open Go.AF
set_option maxRecDepth 100000
set_option maxHeartbeats 1000000
attribute [local irreducible] aK cD fH bL aD fx aI aO bj aS bI aV
def C5 {ρ α : Type} (P : Mem → ρ → α → Prop) (R : Mem) (xs : List ρ) (ys : List α) : Prop := xs.length = ys.length ∧ ∀ (i : Nat) (r : ρ) (a : α), xs[i]? = some r → ys[i]? = some a → P R r a
section
variable {ρ α : Type} {P : Mem → ρ → α → Prop} {R R' : Mem} {xs : List ρ} {ys : List α}
theorem C5.nil (P : Mem → ρ → α → Prop) (R : Mem) : C5 P R [] [] := ⟨rfl, fun i r c h => by simp at h⟩
theorem C5.le (hm : ∀ R R' r a, R.le R' → P R r a → P R' r a) (h : C5 P R xs ys) (hle : R.le R') : C5 P R' xs ys := ⟨h.1, fun i r c h1 h2 => hm _ _ _ _ hle (h.2 i r c h1 h2)⟩
theorem C5.snoc {r : ρ} {c : α} (h : C5 P R xs ys) (hr : P R r c) : C5 P R (xs ++ [r]) (ys ++ [c]) := by
 refine ⟨by simp [h.1], fun i r' c' h1 h2 => ?_⟩
 rcases Nat.lt_or_ge i xs.length with hl | hl
 ·rw [List.getElem?_append_left hl] at h1; rw [List.getElem?_append_left (by rw [← h.1]; exact hl)] at h2; exact h.2 i _ _ h1 h2
 ·rw [List.getElem?_append_right hl] at h1; rw [List.getElem?_append_right (by rw [← h.1]; exact hl)] at h2
  have : i - xs.length = 0 := by
   obtain ⟨hh, _⟩ := List.getElem?_eq_some_iff.1 h1; simp at hh; omega
  rw [this] at h1; rw [← h.1, this] at h2
  cases h1; cases h2; exact hr
theorem C5.set {r : ρ} {c : α} (h : C5 P R xs ys) (i : Nat) (hr : P R r c) : C5 P R (xs.set i r) (ys.set i c) := by
 refine ⟨by simp [h.1], fun j r' c' h1 h2 => ?_⟩
 rw [List.getElem?_set] at h1 h2
 split at h1
 ·rename_i e; rw [if_pos e] at h2
  split at h1
  ·split at h2
   ·cases h1; cases h2; exact hr
   ·cases h2
  ·cases h1
 ·rename_i e; rw [if_neg e] at h2; exact h.2 j _ _ h1 h2
theorem C5.at {i : Nat} {a : α} (h : C5 P R xs ys) (ha : ys[i]? = some a) : ∃ r, xs[i]? = some r ∧ P R r a := by
 have hi : i < xs.length := by rw [h.1]; exact (List.getElem?_eq_some_iff.1 ha).1
 exact ⟨xs[i], List.getElem?_eq_getElem hi, h.2 i _ _ (List.getElem?_eq_getElem hi) ha⟩
end
structure RG where
 st : Int
 A : Option Addr
 n : Nat
 c : Nat
 wt : cC
def rgE : gy RG := ⟨6, fun g => [.int .i64 g.st, .slice g.A g.n g.c, .int .i64 g.wt.op, .int .i64 g.wt.a, .int .i64 g.wt.b, .int .i64 g.wt.c], fun _ => rfl, fun w v hv => by
 simp only [List.mem_cons, List.not_mem_nil, or_false] at hv; obtain rfl | rfl | rfl | rfl | rfl | rfl := hv <;> rfl⟩
def Ow (R : Mem) (r : RG) (y : iQ) : Prop := r.st = y.st ∧ r.n = y.fs.length ∧ RS iX R r.A r.c y.fs ∧ r.wt = y.wt
theorem Ow.le (R R' : Mem) (r : RG) (y : iQ) (hle : R.le R') (h : Ow R r y) : Ow R' r y := ⟨h.1, h.2.1, h.2.2.1.le hle, h.2.2.2⟩
def lkL (l : Lk) : List Int := if l.owner = -1 then [] else l.owner :: l.waits
def YT (R : Mem) (t : Option Addr × Nat × Nat) (l : Lk) : Prop := t.2.1 = (lkL l).length ∧ RS bu R t.1 t.2.2 (lkL l)
theorem YT.le (R R' : Mem) (r : Option Addr × Nat × Nat) (y : Lk) (hle : R.le R') (h : YT R r y) : YT R' r y := ⟨h.1, h.2.le hle⟩
structure YU where
 pa : PA
 ag : Option Addr
 cg : Nat
 ac : Option Addr
 cc : Nat
 al : Option Addr
 cl : Nat
 ah : Option Addr
 ch : Nat
 ao : Option Addr
 co : Nat
 ar : Option Addr
 cr : Nat
abbrev rwL (a : YU) (p : bZ) (x : Wd) : List Value :=
 [.slice a.pa.f p.funcs.length a.pa.fc, .slice a.pa.c p.dk.length a.pa.cc, .int .i64 p.aM, .slice a.pa.k p.cases.length a.pa.kc, .slice a.ag x.gs.length a.cg, .int .u64 x.clock, .slice a.ac x.aE.length a.cc, .slice a.al x.aM.length a.cl, .slice a.ah x.hl.length a.ch, .int .u64 x.kO, .slice a.ao x.out.length a.co, .int .i64 x.end_, .int .i64 x.code, .slice a.ar x.ready.length a.cr]
structure Wp (R : Mem) (a : YU) (p : bZ) (x : Wd) : Prop where
 prg : kU R a.pa p
 dk : RS bu R a.pa.c a.pa.cc p.dk
 gs : ∃ rs, RS rgE R a.ag a.cg rs ∧ C5 Ow R rs x.gs
 aE : ∃ rs, RS U1 R a.ac a.cc rs ∧ Gz R rs x.aE
 aM : ∃ rs, RS xG R a.al a.cl rs ∧ C5 YT R rs x.aM
 hl : RS rX R a.ah a.ch x.hl
 out : RS bu R a.ao a.co x.out
 ready : RS bu R a.ar a.cr x.ready
theorem Wp.le {R R' : Mem} {a : YU} {p : bZ} {x : Wd} (h : Wp R a p x) (hle : R.le R') : Wp R' a p x := by
 obtain ⟨h1, h2, ⟨r3, a3, b3⟩, ⟨r4, a4, b4⟩, ⟨r5, a5, b5⟩, h6, h7, h8⟩ := h
 exact ⟨h1.le hle, h2.le hle, ⟨r3, a3.le hle, b3.le Ow.le hle⟩, ⟨r4, a4.le hle, b4.le hle⟩, ⟨r5, a5.le hle, b5.le YT.le hle⟩, h6.le hle, h7.le hle, h8.le hle⟩
theorem Ox : bh Tryz.prog 75 190 5 88 [.int .i64 0, .slice none 0 0, .slice none 0 0, .slice none 0 0, .bool false] := bh.mk' (zv := .agg #[.int .i64 0, .slice none 0 0, .slice none 0 0, .slice none 0 0, .bool false]) (by kernel_rfl) (by kernel_rfl) rfl (by omega)
theorem VF : bh Tryz.prog 76 251 1 24 [.slice none 0 0] := bh.mk' (zv := .agg #[.slice none 0 0]) (by kernel_rfl) (by kernel_rfl) rfl (by omega)
end Go.Proofs
namespace Go.Proofs
open Go.AF
set_option maxRecDepth 100000
set_option maxHeartbeats 1000000
attribute [local irreducible] aK cD fH bL aD fx aI aO bj aS bI aV
attribute [local irreducible] IW KN
section
variable {R : Mem} {L L' : List HP} {M : Mem} {K : Value → Mem → Prop} {Kp : List PanicEntry → Mem → Prop} {pa : PA} {p : bZ}
theorem E8 {fn v : Int} (h : Hp R L M) (k : ∀ R' A c M', R.le R' → RS iX R' A c [gD.begin fn v] → Hp R' L M' → K (.slice A 1 c) M') : ae Tryz.prog 74 #[.int .i64 fn, .int .i64 v] M K Kp := by
 refine oH ?_
 repeat (first | (refine av h ?_; clear h; intro kb M h) | (refine az h ?_; clear h; intro M h) | refine St.to h ?_ | (apply Exists.intro; (repeat apply Exists.intro); refine And.intro rfl ?_) | (refine And.intro ?_ ?_; first | exact rfl | (refine aa (aj h) ?_; (repeat (refine aa (aj h) ?_)); exact ai) | omega) | refine aq ?_ | refine au ?_)
 obtain ⟨R2, l2, r2, h2⟩ := ((h.pt kb).gW (E := iX) (l := [gD.begin fn v]) rfl).cU (some ⟨kb, 0, none⟩)
 clear h
 exact k R2 _ _ _ l2 r2 (h2.sub (by repeat (first | exact .refl | refine .cons (by repeat (first | exact .here | apply aF.there)) ?_ | apply Sub.drop)))
theorem KJ (h : Hp R L M) (hp : kU R pa p) (hc : RS bu R pa.c pa.cc p.dk) (hok : fN p) (k : ∀ R' a M', R.le R' → a.pa = pa → Wp R' a p (Wd.new p) → Hp R' L M' → K (.agg (rwL a p (Wd.new p)).toArray) M') :
  ae Tryz.prog 37 #[C2 pa p] M K Kp := by
 refine rL ?_
 have p1 := hok.ch
 have p2 := hok.lk
 refine av h ?_
 clear h
 intro k1 M h
 refine av h ?_
 clear h
 intro k3 M h
 refine aR h (aR h (aJ h (aR h ⟨trivial, ?_⟩)))
 refine E8 h ?_
 clear h; intro R1 A c M l1 r1 h
 refine aY ⟨gm h rfl, ?_⟩
 refine av h ?_
 clear h
 intro ig M h
 obtain ⟨R2, l2, r2, h2⟩ := ((h.pt ig).gW (E := rgE) (l := [⟨1, A, 1, c, .zero⟩]) rfl).cU (some ⟨ig, 0, none⟩)
 clear h
 refine av h2 ?_
 clear h2; intro gz M h
 refine yd h rfl rfl rfl ?_
 clear h; intro M h
 refine ⟨gm h rfl, aR h ?_⟩
 have l12 := Mem.le_trans l1 l2
 have Cq := hc.le l12
 have W : Option Addr → Nat → Nat → List Value := fun B m d => []
 have h0 := h.bT U1 190
 clear h
 refine ⟨fun dd vs M => ∃ (j : Nat) (B : Option Addr) (d : Nat) (rs : List RC), vs = [.int .i64 (j : Int)] ∧ dd = p.dk.length - j ∧ j ≤ p.dk.length ∧ Gz R2 rs ((p.dk.take j).map aX.new) ∧
  Hp R2 (bG U1 190 B d rs :: pt gz [.slice pa.f p.funcs.length pa.fc, .slice pa.c p.dk.length pa.cc, .int .i64 p.aM, .slice pa.k p.cases.length pa.kc, .slice (some ⟨ig, 0, none⟩) 1 1, .int .u64 0, .slice B j d, .slice none 0 0, .slice none 0 0, .int .u64 0, .slice none 0 0, .int .i64 0, .int .i64 0, .slice none 0 0] 81 ::
   pt k3 [.slice none 0 0, .slice none 0 0, .int .i64 0, .slice none 0 0, .slice none 0 0, .int .u64 0, .slice none 0 0, .slice none 0 0, .slice none 0 0, .int .u64 0, .slice none 0 0, .int .i64 0, .int .i64 0, .slice none 0 0] 81 :: dB k1 pa.f p.funcs.length pa.fc pa.c p.dk.length pa.cc p.aM pa.k p.cases.length pa.kc :: L) M,
  ⟨_, 0, none, 0, [], rfl, rfl, by omega, Gz.nil _, h0.sub (by repeat (first | exact .refl | refine .cons (by repeat (first | exact .here | apply aF.there)) ?_ | apply Sub.drop))⟩, ?_⟩
 clear h0 W
 rintro dd _ nn M ⟨j, B, d, rs, he, hd, hj, nN, h⟩
 simp only [List.cons.injEq, Value.int.injEq, and_true, true_and] at he
 subst he
 have hlen : rs.length = j := by rw [nN.1, List.length_map, List.length_take]; omega
 refine aP.2 ⟨fun hlt => ?_, fun hge => ?_⟩
 ·obtain ⟨v, hv⟩ := aQ (l := p.dk) (i := j) (by omega)
  obtain ⟨b, o, hb⟩ := Cq.some (by omega) (by decide)
  rw [hb] at Cq
  refine ⟨by omega, hlt, C4 hb ?_⟩
  refine be (Src.at Cq.src h (i := j) (j := 0) hv rfl (by simp [bu])) ?_
  refine ⟨fun vs M => vs = [] ∧ ∃ (B : Option Addr) (d : Nat) (Q5 : List RC), Gz R2 Q5 ((p.dk.take (j + 1)).map aX.new) ∧
   Hp R2 (bG U1 190 B d Q5 :: pt gz [.slice pa.f p.funcs.length pa.fc, .slice pa.c p.dk.length pa.cc, .int .i64 p.aM, .slice pa.k p.cases.length pa.kc, .slice (some ⟨ig, 0, none⟩) 1 1, .int .u64 0, .slice B (j + 1) d, .slice none 0 0, .slice none 0 0, .int .u64 0, .slice none 0 0, .int .i64 0, .int .i64 0, .slice none 0 0] 81 ::
   pt k3 [.slice none 0 0, .slice none 0 0, .int .i64 0, .slice none 0 0, .slice none 0 0, .int .u64 0, .slice none 0 0, .slice none 0 0, .slice none 0 0, .int .u64 0, .slice none 0 0, .int .i64 0, .int .i64 0, .slice none 0 0] 81 :: dB k1 pa.f p.funcs.length pa.fc pa.c p.dk.length pa.cc p.aM pa.k p.cases.length pa.kc :: L) M, ?_, ?_⟩
  ·have xE : (p.dk.take (j + 1)).map aX.new = (p.dk.take j).map aX.new ++ [aX.new v] := by rw [take_succ hv, List.map_append]; rfl
   rw [xE]
   refine ⟨?_, ?_, trivial⟩
   ·refine aR h ?_
    refine Bh h ?_
    clear h; intro vs M h hr
    obtain ⟨r, rfl, hr⟩ := hr.rc
    refine ⟨_, _, _, _, _, _, _, _, _, _, _, rfl, ?_⟩
    refine av h ?_
    clear h
    intro kz M h
    refine h.dn (A := B) Ox [r] rfl hlen.symm rfl (by simp; omega) ?_
    clear h; intro A3 c3 M h
    refine aY ?_
    refine az h ?_
    clear h
    intro M h
    exact ⟨rfl, A3, c3, _, nN.snoc hr, h.sub (by repeat (first | exact .refl | refine .cons (by repeat (first | exact .here | apply aF.there)) ?_ | apply Sub.drop))⟩
   ·refine Bh h ?_
    clear h; intro vs M h hr
    obtain ⟨r, rfl, hr⟩ := hr.rc
    refine ⟨_, _, _, _, _, _, _, _, _, _, _, rfl, aR h ?_⟩
    refine av h ?_
    clear h
    intro kz M h
    refine h.dn (A := B) Ox [r] rfl hlen.symm rfl (by simp; omega) ?_
    clear h; intro A3 c3 M h
    refine aY ?_
    refine az h ?_
    clear h
    intro M h
    exact ⟨rfl, A3, c3, _, nN.snoc hr, h.sub (by repeat (first | exact .refl | refine .cons (by repeat (first | exact .here | apply aF.there)) ?_ | apply Sub.drop))⟩
  ·clear h
   rintro nn M ⟨_, B', d', Q5, VG, h⟩
   exact ⟨p.dk.length - (j + 1), by omega, j + 1, B', d', Q5, by rw [aT (by omega)], rfl, by omega, VG, h⟩
 ·have xu : j = p.dk.length := by omega
  subst xu
  rw [List.take_of_length_le (Nat.le_refl _)] at nN
  obtain ⟨R3, l3, r3, h3⟩ := h.cU B
  clear h
  obtain ⟨n, hn⟩ := Int.eq_ofNat_of_zero_le p2.1
  refine aJ h3 ?_
  rw [hn] at h3 ⊢
  refine h3.Ce (E := xG) (a := (none, 0, 0)) VF (by omega) ?_
  clear h3; intro q M h
  refine aY ?_
  refine az h ?_
  clear h
  intro M h
  obtain ⟨R4, l4, r4, h4⟩ := h.cU (some ⟨q, 0, none⟩)
  clear h
  refine AS h4 rfl ?_
  refine yd h4 rfl rfl rfl ?_
  clear h4; intro M h
  refine AS h rfl ?_
  have VH := Mem.le_trans l3 l4
  have YV := Mem.le_trans l2 VH
  have Wq := Mem.le_trans l1 YV
  have hw : Wp R4 ⟨pa, some ⟨ig, 0, none⟩, 1, B, d, some ⟨q, 0, none⟩, n, none, 0, none, 0, none, 0⟩ p (Wd.new p) := by
   refine ⟨hp.le Wq, hc.le Wq, ⟨_, r2.le VH, ⟨rfl, fun i r a h1 h2 => ?_⟩⟩, ⟨rs, r3.le l4, nN.le VH⟩, ⟨_, r4, ⟨by simp [Wd.new, hn], fun i r a h1 h2 => ?_⟩⟩, RS.nil _ _, RS.nil _ _, RS.nil _ _⟩
   ·match i, h1, h2 with
    | 0, h1, h2 =>
     cases h1
     have : a = ⟨1, [gD.begin 0 0], .zero⟩ := by simpa [Wd.new] using h2.symm
     subst this
     exact ⟨rfl, rfl, r1.le YV, rfl⟩
    | i + 1, h1, h2 => simp at h1
   ·have e1 := List.eq_of_mem_replicate (List.mem_of_getElem? h1)
    have e2 := List.eq_of_mem_replicate (List.mem_of_getElem? h2)
    subst e1; subst e2
    exact ⟨rfl, RS.nil _ _⟩
  have hk := fun M' => k R4 _ M' Wq rfl hw
  have e1 : (Wd.new p).aE.length = p.dk.length := by simp [Wd.new]
  have e2 : (Wd.new p).aM.length = n := by simp [Wd.new, hn]
  simp only [rwL, e1, e2, hn] at hk
  exact hk _ (h.sub (by repeat (first | exact .refl | refine .cons (by repeat (first | exact .here | apply aF.there)) ?_ | apply Sub.drop)))
end
end Go.Proofs
namespace Go.Proofs
open Go.AF
set_option maxRecDepth 100000
set_option maxHeartbeats 1000000
attribute [local irreducible] aK cD fH bL aD fx aI aO bj aS bI aV
attribute [local irreducible] IW KN
structure YW where
 next : Int
 A : Option Addr
 n : Nat
 c : Nat
 room : Int
 turns : Int
 gA : Int
def Oy : gy YW := ⟨5, fun w => [.int .i64 w.next, .slice w.A w.n w.c, .int .i64 w.room, .int .i64 w.turns, .int .i64 w.gA], fun _ => rfl, fun w v hv => by
 simp only [List.mem_cons, List.not_mem_nil, or_false] at hv; obtain rfl | rfl | rfl | rfl | rfl := hv <;> rfl⟩
def C6 (R : Mem) (r : YW) (y : cN) : Prop := r.next = y.q.next ∧ r.n = y.q.l.length ∧ RS bu R r.A r.c y.q.l ∧ r.room = (y.q.room : Int) ∧ r.turns = y.turns ∧ r.gA = y.gA
theorem C6.le (R R' : Mem) (r : YW) (y : cN) (hle : R.le R') (h : C6 R r y) : C6 R' r y := ⟨h.1, h.2.1, h.2.2.1.le hle, h.2.2.2⟩
def gv.rP : gv → List Int
 | .xk l i => l.drop i
 | .tape _ _ => []
def gv.Oz : gv → List (Int × Int)
 | .xk _ _ => []
 | .tape l i => l.drop i
def gv.isT : gv → Bool
 | .xk _ _ => false
 | .tape _ _ => true
structure Wr where
 an : Option Addr
 cn : Nat
 at_ : Option Addr
 ct : Nat
 ax : Option Addr
 cx : Nat
structure RSA where
 w : YU
 ap : Option Addr
 cp : Nat
 am : Option Addr
 cm : Nat
 ag : Option Addr
 cg : Nat
 d : Wr
abbrev rdL (a : Wr) (d : lP) : List Value := [.slice a.an d.k.rP.length a.cn, .slice a.at_ d.k.Oz.length a.ct, .bool d.k.isT, .bool false, .slice a.ax d.taken.length a.cx]
abbrev rsL (a : RSA) (p : bZ) (x : Sc) : List Value :=
 [.int .i64 x.c.P, .int .i64 x.c.M, .int .i64 x.c.R, .int .i64 x.c.S, .slice a.w.pa.f p.funcs.length a.w.pa.fc, .slice a.w.pa.c p.dk.length a.w.pa.cc, .int .i64 p.aM, .slice a.w.pa.k p.cases.length a.w.pa.kc, .slice a.w.ag x.w.gs.length a.w.cg, .int .u64 x.w.clock, .slice a.w.ac x.w.aE.length a.w.cc, .slice a.w.al x.w.aM.length a.w.cl, .slice a.w.ah x.w.hl.length a.w.ch, .int .u64 x.w.kO, .slice a.w.ao x.w.out.length a.w.co, .int .i64 x.w.end_, .int .i64 x.w.code, .slice a.w.ar x.w.ready.length a.w.cr,
  .slice a.ap x.ps.length a.cp, .slice a.am x.ms.length a.cm, .slice a.ag x.gl.length a.cg, .slice a.d.an x.d.k.rP.length a.d.cn, .slice a.d.at_ x.d.k.Oz.length a.d.ct, .bool x.d.k.isT, .bool false, .slice a.d.ax x.d.taken.length a.d.cx, .int .i64 x.steps]
structure YX (R : Mem) (a : Wr) (d : lP) : Prop where
 rP : RS zP R a.an a.cn d.k.rP
 Oz : RS Kx R a.at_ a.ct d.k.Oz
 taken : RS Kx R a.ax a.cx d.taken
theorem YX.le {R R' : Mem} {a : Wr} {d : lP} (h : YX R a d) (hle : R.le R') : YX R' a d := ⟨h.1.le hle, h.2.le hle, h.3.le hle⟩
structure Ws (R : Mem) (a : RSA) (p : bZ) (x : Sc) : Prop where
 w : Wp R a.w p x.w
 ps : ∃ rs, RS Oy R a.ap a.cp rs ∧ C5 C6 R rs x.ps
 ms : RS eV R a.am a.cm x.ms
 gl : RS bu R a.ag a.cg x.gl
 d : YX R a.d x.d
theorem Ws.le {R R' : Mem} {a : RSA} {p : bZ} {x : Sc} (h : Ws R a p x) (hle : R.le R') : Ws R' a p x := by
 obtain ⟨h1, ⟨r2, a2, b2⟩, h3, h4, h5⟩ := h
 exact ⟨h1.le hle, ⟨r2, a2.le hle, b2.le C6.le hle⟩, h3.le hle, h4.le hle, h5.le hle⟩
theorem OA : bh Tryz.prog 82 211 5 56 [.int .i64 0, .slice none 0 0, .int .i64 0, .int .i64 0, .int .i64 0] := bh.mk' (zv := .agg #[.int .i64 0, .slice none 0 0, .int .i64 0, .int .i64 0, .int .i64 0]) (by kernel_rfl) (by kernel_rfl) rfl (by omega)
theorem VI : bh Tryz.prog 83 212 3 24 [.int .i64 0, .int .i64 0, .int .i64 0] := bh.mk' (zv := .agg #[.int .i64 0, .int .i64 0, .int .i64 0]) (by kernel_rfl) (by kernel_rfl) rfl (by omega)
abbrev YY (c : Hh) : Value := .agg #[.int .i64 c.P, .int .i64 c.M, .int .i64 c.R, .int .i64 c.S]
abbrev OB (c : Hh) : List Value := [.int .i64 c.P, .int .i64 c.M, .int .i64 c.R, .int .i64 c.S]
section
variable {R : Mem} {L L' : List HP} {M : Mem} {K : Value → Mem → Prop} {Kp : List PanicEntry → Mem → Prop} {pa : PA} {p : bZ}
abbrev OC : List Value := [.int .i64 0, .int .i64 0, .int .i64 0, .int .i64 0, .slice none 0 0, .slice none 0 0, .int .i64 0, .slice none 0 0, .slice none 0 0, .int .u64 0, .slice none 0 0, .slice none 0 0, .slice none 0 0, .int .u64 0, .slice none 0 0, .int .i64 0, .int .i64 0, .slice none 0 0, .slice none 0 0, .slice none 0 0, .slice none 0 0, .slice none 0 0, .slice none 0 0, .bool false, .bool false, .slice none 0 0, .int .i64 0]
abbrev YZ (a : YU) (p : bZ) (c : Hh) (d : Wr) (ds : lP) (g : Nat) (A : Option Addr) (n e : Nat) (B : Option Addr) (m f : Nat) : List Value :=
 [.int .i64 c.P, .int .i64 c.M, .int .i64 c.R, .int .i64 c.S, .slice a.pa.f p.funcs.length a.pa.fc, .slice a.pa.c p.dk.length a.pa.cc, .int .i64 p.aM, .slice a.pa.k p.cases.length a.pa.kc, .slice a.ag (Wd.new p).gs.length a.cg, .int .u64 (Wd.new p).clock, .slice a.ac (Wd.new p).aE.length a.cc, .slice a.al (Wd.new p).aM.length a.cl, .slice a.ah (Wd.new p).hl.length a.ch, .int .u64 (Wd.new p).kO, .slice a.ao (Wd.new p).out.length a.co, .int .i64 (Wd.new p).end_, .int .i64 (Wd.new p).code, .slice a.ar (Wd.new p).ready.length a.cr,
  .slice A n e, .slice B m f, .slice (some ⟨g, 0, none⟩) 1 1, .slice d.an ds.k.rP.length d.cn, .slice d.at_ ds.k.Oz.length d.ct, .bool ds.k.isT, .bool false, .slice d.ax ds.taken.length d.cx, .int .i64 0]
theorem KK {c : Hh} {d : lP} {da : Wr} (h : Hp R L M) (hp : kU R pa p) (hc : RS bu R pa.c pa.cc p.dk) (hok : fN p) (hd : YX R da d) (hP : 0 ≤ c.P ∧ c.P ≤ 1000000) (hM : 0 ≤ c.M ∧ c.M ≤ 1000000)
  (k : ∀ R' a M', R.le R' → Ws R' a p (Sc.new p c d) → Hp R' L M' → K (.agg (rsL a p (Sc.new p c d)).toArray) M') :
  ae Tryz.prog 63 #[C2 pa p, YY c, .agg (rdL da d).toArray] M K Kp := by
 refine rM ?_
 refine av h ?_
 clear h
 intro k1 M h
 refine av h ?_
 clear h
 intro k3 M h
 refine av h ?_
 clear h
 intro k5 M h
 refine av h ?_
 clear h
 intro k7 M h
 repeat (first | (refine AS h rfl ?_) | (refine yd h rfl rfl rfl ?_; clear h; intro M h) | (refine And.intro (gm h rfl) ?_) | (refine av h ?_; clear h; intro kb M h) | (refine az h ?_; clear h; intro M h) | refine St.to h ?_ | (apply Exists.intro; (repeat apply Exists.intro); refine And.intro rfl ?_) | (refine And.intro ?_ ?_; first | exact rfl | (refine aa (aj h) ?_; (repeat (refine aa (aj h) ?_)); exact ai) | omega) | refine aq ?_ | refine au ?_)
 refine KJ h hp hc hok ?_
 clear h; intro R1 a M l1 hpa hw h
 refine ⟨_, _, _, _, _, _, _, _, _, _, _, _, _, _, rfl, gm h rfl, gm h rfl, ?_⟩
 refine av h ?_
 clear h
 intro yh M h
 obtain ⟨R2, l2, rg, h2⟩ := ((h.pt yh).gW (E := bu) (l := [0]) rfl).cU (some ⟨yh, 0, none⟩)
 clear h
 refine av h2 ?_
 clear h2; intro kj M h
 refine yd h rfl rfl rfl ?_
 clear h; intro M h
 refine ⟨gm h rfl, gm h rfl, ?_⟩
 obtain ⟨nP, eP⟩ := Int.eq_ofNat_of_zero_le hP.1
 obtain ⟨nM, eM⟩ := Int.eq_ofNat_of_zero_le hM.1
 have l12 := Mem.le_trans l1 l2
 have h0 : Hp R2 (bG Oy 211 none 0 [] :: pt kj (YZ a p c da d yh none 0 0 none 0 0) 88 :: pt k3 (OB c) 23 :: pt k7 OC 88 :: L) M := by
  rw [← hpa] at h
  exact (h.bT Oy _).sub (by repeat (first | exact .refl | refine .cons (by repeat (first | exact .here | apply aF.there)) ?_ | apply Sub.drop))
 clear h
 have pr0 : ∀ (R : Mem), C6 R ⟨-1, none, 0, 0, (eN c.R : Nat), 0, -1⟩ ⟨⟨-1, eN c.R, []⟩, 0, -1⟩ := fun R => ⟨rfl, rfl, RS.nil _ _, rfl, rfl, rfl⟩
 refine ⟨fun dd vs M => ∃ (j : Nat) (A : Option Addr) (e : Nat) (rs : List YW), vs = [.int .i64 (j : Int)] ∧ dd = nP - j ∧ j ≤ nP ∧ C5 C6 R2 rs (List.replicate j ⟨⟨-1, eN c.R, []⟩, 0, -1⟩) ∧
  Hp R2 (bG Oy 211 A e rs :: pt kj (YZ a p c da d yh A j e none 0 0) 88 :: pt k3 (OB c) 23 :: pt k7 OC 88 :: L) M,
  ⟨_, 0, none, 0, [], rfl, rfl, by omega, C5.nil _ _, h0⟩, ?_⟩
 clear h0
 rintro dd _ nn M ⟨j, A, e, rs, he, OS, hj, nN, h⟩
 simp only [List.cons.injEq, Value.int.injEq, and_true, true_and] at he
 subst he
 have hlen : rs.length = j := by rw [nN.1, List.length_replicate]
 refine aJ h (aP.2 ⟨fun hlt => ?_, fun hge => ?_⟩)
 ·refine ⟨fun vs M => vs = [] ∧ ∃ (A : Option Addr) (e : Nat) (Q5 : List YW), C5 C6 R2 Q5 (List.replicate (j + 1) ⟨⟨-1, eN c.R, []⟩, 0, -1⟩) ∧
   Hp R2 (bG Oy 211 A e Q5 :: pt kj (YZ a p c da d yh A (j + 1) e none 0 0) 88 :: pt k3 (OB c) 23 :: pt k7 OC 88 :: L) M, ?_, ?_⟩
  ·rw [List.replicate_succ']
   refine aJ h ⟨?_, ?_, trivial⟩
   ·refine aR h ?_
    refine By h ?_
    clear h; intro M h
    refine ⟨_, _, _, _, _, rfl, ?_⟩
    refine av h ?_
    clear h
    intro kz M h
    refine h.dn (A := A) OA [⟨-1, none, 0, 0, (eN c.R : Nat), 0, -1⟩] rfl hlen.symm rfl (by simp; omega) ?_
    clear h; intro A3 c3 M h
    refine aY ?_
    refine az h ?_
    clear h
    intro M h
    exact ⟨rfl, A3, c3, _, nN.snoc (pr0 _), h.sub (by repeat (first | exact .refl | refine .cons (by repeat (first | exact .here | apply aF.there)) ?_ | apply Sub.drop))⟩
   ·refine By h ?_
    clear h; intro M h
    refine ⟨_, _, _, _, _, rfl, aR h ?_⟩
    refine av h ?_
    clear h
    intro kz M h
    refine h.dn (A := A) OA [⟨-1, none, 0, 0, (eN c.R : Nat), 0, -1⟩] rfl hlen.symm rfl (by simp; omega) ?_
    clear h; intro A3 c3 M h
    refine aY ?_
    refine az h ?_
    clear h
    intro M h
    exact ⟨rfl, A3, c3, _, nN.snoc (pr0 _), h.sub (by repeat (first | exact .refl | refine .cons (by repeat (first | exact .here | apply aF.there)) ?_ | apply Sub.drop))⟩
  ·clear h
   rintro nn M ⟨_, B', d', Q5, VG, h⟩
   exact ⟨nP - (j + 1), by omega, j + 1, B', d', Q5, by rw [aT (by omega)], rfl, by omega, VG, h⟩
 ·have xu : j = nP := by omega
  subst xu
  obtain ⟨R3, l3, r3, h3⟩ := h.cU A
  clear h
  have h0 : Hp R3 (bG eV 212 none 0 [] :: pt kj (YZ a p c da d yh A j e none 0 0) 88 :: pt k3 (OB c) 23 :: pt k7 OC 88 :: L) M := h3.bT eV _
  clear h3
  refine ⟨fun dd vs M => ∃ (i : Nat) (B : Option Addr) (f : Nat), vs = [.int .i64 (i : Int)] ∧ dd = nM - i ∧ i ≤ nM ∧
   Hp R3 (bG eV 212 B f (List.replicate i ⟨-1, -1, 0⟩) :: pt kj (YZ a p c da d yh A j e B i f) 88 :: pt k3 (OB c) 23 :: pt k7 OC 88 :: L) M,
   ⟨_, 0, none, 0, rfl, rfl, by omega, h0⟩, ?_⟩
  clear h0
  rintro dd _ nn M ⟨i, B, f, he, hd3, hi, h⟩
  simp only [List.cons.injEq, Value.int.injEq, and_true, true_and] at he
  subst he
  refine aJ h (aP.2 ⟨fun hlt => ?_, fun QK => ?_⟩)
  ·refine aR h ?_
   refine av h ?_
   clear h
   intro kz M h
   refine h.dn (A := B) VI [⟨-1, -1, 0⟩] rfl (by simp) rfl (by simp; omega) ?_
   clear h; intro A3 c3 M h
   refine aY ?_
   refine az h ?_
   clear h
   intro M h
   refine ⟨nM - (i + 1), by omega, i + 1, A3, c3, by rw [aT (by omega)], rfl, by omega, ?_⟩
   rw [List.replicate_succ']
   exact h.sub (by repeat (first | exact .refl | refine .cons (by repeat (first | exact .here | apply aF.there)) ?_ | apply Sub.drop))
  ·have hil : i = nM := by omega
   subst hil
   obtain ⟨R4, l4, r4, h4⟩ := h.cU B
   clear h
   refine AS h4 rfl ?_
   refine yd h4 rfl rfl rfl ?_
   clear h4; intro M h
   refine AS h rfl ?_
   have VH := Mem.le_trans l3 l4
   have YV := Mem.le_trans l2 VH
   have Wq := Mem.le_trans l1 YV
   have hs : Ws R4 ⟨a, A, e, B, f, some ⟨yh, 0, none⟩, 1, da⟩ p (Sc.new p c d) := by
    refine ⟨hw.le YV, ⟨rs, r3.le l4, ?_⟩, ?_, rg.le VH, hd.le Wq⟩
    ·have := nN.le C6.le VH
     unfold Sc.new
     rwa [eP, Int.toNat_natCast]
    ·unfold Sc.new
     rw [eM, Int.toNat_natCast]
     exact r4
   have hk := fun M' => k R4 _ M' Wq hs
   have e1 : (Sc.new p c d).ps.length = j := by simp [Sc.new, eP]
   have e2 : (Sc.new p c d).ms.length = i := by simp [Sc.new, eM]
   simp only [rsL, e1, e2] at hk
   exact hk _ (h.sub (by repeat (first | exact .refl | refine .cons (by repeat (first | exact .here | apply aF.there)) ?_ | apply Sub.drop)))
end
end Go.Proofs
namespace Go.Proofs
open Go.AF
set_option maxRecDepth 100000
set_option maxHeartbeats 1000000
attribute [local irreducible] aK cD fH bL aD fx aI aO bj aS bI aV
def OU : bZ := ⟨[[⟨20, 0, 0, 0⟩, ⟨10, 0, 0, 0⟩]], [], 0, []⟩
def evOf : Option (Sc × oM) → Option (Sc × Ev)
 | some (x, .ev e) => some (x, e)
 | _ => none
def x18 : Sc := Sc.new OU ⟨1, 1, 2, 9⟩ ⟨.xk [0, 0, 0, 0] 0, []⟩
def Q6 (x : Sc) : Sc × Ev := (evOf (x.step OU)).getD (x, ⟨0, 0, 0, []⟩)
def Y0 : Sc × Ev := Q6 x18
def Wu : Sc × Ev := Q6 Y0.1
def Y1 : Sc × Ev := Q6 Wu.1
def d18 : Sc × Ev := Q6 Y1.1
theorem VJ : x18.step OU = some (Y0.1, .ev Y0.2) := by kernel_rfl
theorem VK : Y0.1.step OU = some (Wu.1, .ev Wu.2) := by kernel_rfl
theorem VL : Wu.1.step OU = some (Y1.1, .ev Y1.2) := by kernel_rfl
theorem VM : Y1.1.step OU = some (d18.1, .ev d18.2) := by kernel_rfl
theorem dS : x18.d.k.Ok := ⟨by decide, by decide, fun v hv => by simp at hv; subst hv; decide⟩
def Y3 (c : Hh) : Int := if c.P < 1 ∨ c.P > 64 ∨ c.M < 1 ∨ c.M > 64 ∨ c.R < 2 ∨ c.R > 1024 ∨ c.S < 1 ∨ c.S > 1024 then 4 else 0
def cQ (c : Hh) : Hh :=
 let q := fun (x m : Int) => Int.tmod (IntKind.wrap .i64 (((Nat.bitwise and (BitVec.ofInt IntKind.i64.bits x).toNat (BitVec.ofInt IntKind.i64.bits 255).toNat) : Nat) : Int)) m
 ⟨1 + q c.P 5, 1 + q c.M 5, 2 + q c.R 5, 1 + q c.S 12⟩
theorem xM (x : Int) {m : Int} {n : Nat} (e : m = (n : Int)) (hm : 0 < n) : 0 ≤ Int.tmod (IntKind.wrap .i64 (((Nat.bitwise and (BitVec.ofInt IntKind.i64.bits x).toNat (BitVec.ofInt IntKind.i64.bits 255).toNat) : Nat) : Int)) m ∧ Int.tmod (IntKind.wrap .i64 (((Nat.bitwise and (BitVec.ofInt IntKind.i64.bits x).toNat (BitVec.ofInt IntKind.i64.bits 255).toNat) : Nat) : Int)) m < m := by
 obtain ⟨q, hq, _⟩ := mask (x := x) (y := 255) (m := 255) rfl (by omega)
 rw [hq, e, Go.AF.pe]
 have := Nat.mod_lt q hm
 omega
theorem zA (c : Hh) : 1 ≤ (cQ c).P ∧ (cQ c).P ≤ 5 ∧ 1 ≤ (cQ c).M ∧ (cQ c).M ≤ 5 ∧ 2 ≤ (cQ c).R ∧ (cQ c).R ≤ 6 ∧ 1 ≤ (cQ c).S ∧ (cQ c).S ≤ 12 := by
 have a := xM c.P (m := 5) (n := 5) rfl (by omega)
 have b := xM c.M (m := 5) (n := 5) rfl (by omega)
 have d := xM c.R (m := 5) (n := 5) rfl (by omega)
 have e := xM c.S (m := 12) (n := 12) rfl (by omega)
 unfold cQ
 dsimp only
 refine ⟨by omega, ?_, by omega, ?_, by omega, ?_, by omega, ?_⟩ <;> omega
section
variable {R : Mem} {L L' : List HP} {M : Mem} {K : Value → Mem → Prop} {Kp : List PanicEntry → Mem → Prop}
theorem lQ {x m : Int} {n : Nat} (hm : m = (n : Int)) (hn : 0 < n) (k : K (.int .i64 (Int.tmod (IntKind.wrap .i64 (((Nat.bitwise and (BitVec.ofInt IntKind.i64.bits x).toNat (BitVec.ofInt IntKind.i64.bits 255).toNat) : Nat) : Int)) m)) M) : ae Tryz.prog 51 #[.int .i64 x, .int .i64 m] M K Kp := by
 refine nH ⟨by omega, k⟩
theorem Hv {c : Hh} (h : Hp R L M) (k : ∀ M', Hp R L M' → K (.agg #[.int .i64 (cQ c).P, .int .i64 (cQ c).M, .int .i64 (cQ c).R, .int .i64 (cQ c).S]) M') : ae Tryz.prog 15 #[.agg #[.int .i64 c.P, .int .i64 c.M, .int .i64 c.R, .int .i64 c.S]] M K Kp := by
 refine pQ ?_
 refine av h ?_
 clear h; intro k1 M h
 refine av h ?_
 clear h; intro k3 M h
 refine aJ h (aJ h (aJ h (aJ h ?_)))
 refine lQ (n := 5) rfl (by omega) (cE ⟨aj h, aj h, aj h, ?_⟩)
 refine lQ (n := 5) rfl (by omega) (cE ⟨aj h, aj h, aj h, ?_⟩)
 refine lQ (n := 5) rfl (by omega) (cE ⟨aj h, aj h, aj h, ?_⟩)
 refine lQ (n := 12) rfl (by omega) (cE ⟨aj h, aj h, aj h, ?_⟩)
 have ok := zA c
 have e1 : IntKind.wrap .i64 (1 + Int.tmod (IntKind.wrap .i64 (((Nat.bitwise and (BitVec.ofInt IntKind.i64.bits c.P).toNat (BitVec.ofInt IntKind.i64.bits 255).toNat) : Nat) : Int)) 5) = (cQ c).P := cO (z := (cQ c).P) (by omega) (by omega)
 have e2 : IntKind.wrap .i64 (1 + Int.tmod (IntKind.wrap .i64 (((Nat.bitwise and (BitVec.ofInt IntKind.i64.bits c.M).toNat (BitVec.ofInt IntKind.i64.bits 255).toNat) : Nat) : Int)) 5) = (cQ c).M := cO (z := (cQ c).M) (by omega) (by omega)
 have e3 : IntKind.wrap .i64 (2 + Int.tmod (IntKind.wrap .i64 (((Nat.bitwise and (BitVec.ofInt IntKind.i64.bits c.R).toNat (BitVec.ofInt IntKind.i64.bits 255).toNat) : Nat) : Int)) 5) = (cQ c).R := cO (z := (cQ c).R) (by omega) (by omega)
 have e4 : IntKind.wrap .i64 (1 + Int.tmod (IntKind.wrap .i64 (((Nat.bitwise and (BitVec.ofInt IntKind.i64.bits c.S).toNat (BitVec.ofInt IntKind.i64.bits 255).toNat) : Nat) : Int)) 12) = (cQ c).S := cO (z := (cQ c).S) (by omega) (by omega)
 rw [e1, e2, e3, e4]
 refine az h ?_
 clear h; intro M h
 refine az h ?_
 clear h; intro M h
 refine az h ?_
 clear h; intro M h
 refine az h ?_
 clear h; intro M h
 refine ⟨aj h, aj h, aj h, aJ h (aJ h (aJ h (aJ h ?_)))⟩
 exact k _ (h.sub (by repeat (first | exact .refl | refine .cons (by repeat (first | exact .here | apply aF.there)) ?_ | apply Sub.drop)))
theorem uI {pa : PA} {p : bZ} {b wb db : Nat} {x y : Sc} {e : Ev} (h : Hp R L M) [q : mS b L pa p wb db x L'] (hp : kU R pa p) (hd : x.d.k.Ok) (he : x.step p = some (y, .ev e))
  (k : ∀ R' A c M', R.le R' → RS bu R' A c e.ready → y.d.k.Ok → Hp R' (aB (dy pa p wb db) b y :: L') M' → K (Hi e A c) M') : ae Tryz.prog 50 #[.pointer (some ⟨b, 0, none⟩)] M K Kp :=
 zu h hp hd he (fun R' A c M' h1 h2 h3 => k R' A c M' h1 h2 (E4 hd he) h3)
theorem E9 (h : Hp R L M) (k : ∀ R' M', R.le R' → Hp R' L M' → K (.bool true) M') : ae Tryz.prog 12 #[] M K Kp := by
 refine oI ?_
 refine av h ?_
 clear h; intro k1 M h
 refine av h ?_
 clear h; intro k3 M h
 have h1 := (h.pt k1).gW (E := iW) (l := [⟨20, 0, 0, 0⟩, ⟨10, 0, 0, 0⟩]) rfl
 obtain ⟨R1, hle1, xI, h2⟩ := h1.cU (some ⟨k1, 0, none⟩)
 have h3 := h2.gW (E := xG) (l := [(some ⟨k1, 0, none⟩, 2, 2)]) rfl
 obtain ⟨R2, tf, Qj, h4⟩ := h3.cU (some ⟨k3, 0, none⟩)
 clear h h1 h2 h3
 have hp : kU R2 ⟨some ⟨k3, 0, none⟩, 1, none, 0, none, 0⟩ OU := ⟨⟨_, Qj, rfl, fun i t f a b => by
  match i, a, b with
  | 0, a, b => simp at a; cases b; subst a; exact ⟨xI.le tf, rfl⟩
  | i + 1, a, b => simp at a⟩, RS.nil _ _⟩
 have hle : R.le R2 := Mem.le_trans hle1 tf
 refine av h4 ?_
 clear h4; intro k5 M h
 refine az h ?_
 clear h; intro M h
 refine az h ?_
 clear h; intro M h
 refine az h ?_
 clear h; intro M h
 refine az h ?_
 clear h; intro M h
 refine aR h (aR h (aJ h (aR h ?_)))
 refine av h ?_
 clear h; intro fa M h
 replace h := (h.pt fa).gW (E := zP) (l := [0, 0, 0, 0]) rfl
 refine sg (l := [0, 0, 0, 0]) h (Src.row (A := some ⟨fa, 0, none⟩)) rfl (by decide) ?_
 clear h; intro db M h
 refine jk ⟨aa (aj h) (aa (aj h) (aa (aj h) (aa (aj h) ai))), ?_⟩
 refine BP (p := OU) (pa := ⟨some ⟨k3, 0, none⟩, 1, none, 0, none, 0⟩) (c := ⟨1, 1, 2, 9⟩) h (RS.nil _ _) (by decide) (by decide) (by decide) (by decide) ?_
 clear h; intro b wb M h
 refine jk ⟨aa (aj h) (aa (aj h) (aa (aj h) (aa (aj h) ai))), au ?_⟩
 refine uI h hp dS VJ ?_
 clear h; intro R3 A1 c1 M l3 r1 Q7 h
 refine ⟨_, _, _, _, _, _, rfl, ?_⟩
 refine uI h (hp.le l3) Q7 VK ?_
 clear h Q7; intro R4 A2 c2 M l4 r2 Q7 h
 refine ⟨_, _, _, _, _, _, rfl, ?_⟩
 refine uI h (hp.le (Mem.le_trans l3 l4)) Q7 VL ?_
 clear h Q7; intro R5 A3 c3 M l5 r3 Q7 h
 refine ⟨_, _, _, _, _, _, rfl, ?_⟩
 refine av h ?_
 clear h; intro jI M h
 refine av h ?_
 clear h; intro Mu M h
 refine av h ?_
 clear h; intro rZ M h
 refine jS h ?_
 clear h; intro M h
 refine jS h ?_
 clear h; intro M h
 refine jS h ?_
 clear h; intro M h
 refine uI h (hp.le (Mem.le_trans l3 (Mem.le_trans l4 l5))) Q7 VM ?_
 clear h Q7; intro R6 A4 c4 M l6 r4 Q7 h
 refine ⟨_, _, _, _, _, _, rfl, ?_⟩
 refine aJ h ?_
 rw [show Y0.2.kind = 2 from by kernel_rfl]
 refine aq (aJ h ?_)
 rw [show Wu.2.kind = 4 from by kernel_rfl]
 refine aq (aJ h ?_)
 rw [show Wu.2.g = 0 from by kernel_rfl]
 refine aq (aJ h ?_)
 rw [show Y1.2.kind = 7 from by kernel_rfl]
 refine aq ?_
 refine nS h (by rw [show d18.1.w.gs.length = 1 from by kernel_rfl]; decide) ?_
 rw [show d18.1.status = 1 from by kernel_rfl]
 refine cE (aq ?_)
 refine EX h ?_
 rw [show d18.1.steps = 4 from by kernel_rfl]
 exact cE (k R6 _ (Mem.le_trans hle (Mem.le_trans l3 (Mem.le_trans l4 (Mem.le_trans l5 l6)))) (h.sub (by repeat (first | exact .refl | refine .cons (by repeat (first | exact .here | apply aF.there)) ?_ | apply Sub.drop))))
end
end Go.Proofs
namespace Go.Proofs
open Go.AF
set_option maxRecDepth 100000
set_option maxHeartbeats 1000000
attribute [local irreducible] aK cD fH bL aD fx aI aO bj aS bI aV
attribute [local irreducible] IW KN
def zB (p : bZ) (c : Hh) (l : List Int) : Sc := Sc.new (fG p) c ⟨.xk l 0, []⟩
section
variable {R : Mem} {L L' : List HP} {M : Mem} {K : Value → Mem → Prop} {Kp : List PanicEntry → Mem → Prop} {pa : PA} {p : bZ}
theorem Hw {c : Hh} {B : Option Addr} {m cb : Nat} {l : List Int} (h : Hp R L M) (ha : tp R pa p) (hP : 0 ≤ c.P ∧ c.P ≤ 1000000) (hM : 0 ≤ c.M ∧ c.M ≤ 1000000) (hB : RS zP R B cb l) (hm : m = l.length) (hl : l.length ≤ 1000000000)
  (k : ∀ R' a C3 b wb db M', R.le R' → kU R' C3 (fG p) → Ws R' a (fG p) (zB p c l) → Hp R' (aB (dy C3 (fG p) wb db) b (zB p c l) :: L) M' → K (.tuple #[.pointer (some ⟨b, 0, none⟩), .agg (rsL a (fG p) (zB p c l)).toArray, .pointer (some ⟨db, 0, none⟩)]) M') :
  ae Tryz.prog 27 #[C2 pa p, YY c, .slice B m cb] M K Kp := by
 refine pR ?_
 subst hm
 have hok := BV p
 refine av h ?_
 clear h
 intro k1 M h
 refine av h ?_
 clear h
 intro k3 M h
 refine av h ?_
 clear h
 intro k5 M h
 refine aR h (aR h (aJ h (aR h ?_)))
 refine Ov h ha ?_
 clear h; intro R1 p1 M l1 Qb Oh h
 refine ⟨_, _, _, _, _, _, _, _, _, _, rfl, ?_⟩
 refine av h ?_
 clear h
 intro jZ M h
 repeat (refine az h ?_; clear h; intro M h)
 refine sg (l := l) h (hB.le l1).src rfl hl ?_
 clear h; intro db M h
 refine jk (aR h (aR h (aJ h (aR h (aJ h (aJ h (aJ h (aJ h (aR h (aR h (aJ h (aR h (aJ h (aJ h (aJ h (aJ h ?_))))))))))))))))
 refine Q4 h Qb Oh hok (by have := vQ p; simp [fG]; omega) ?_
 clear h; intro R2 p2 M l2 ZG Cq h
 refine ⟨_, _, _, _, _, _, _, _, _, _, rfl, gm h rfl, gm h rfl, gm h rfl, ?_⟩
 refine BP (p := fG p) (pa := p2) (c := c) h Cq (by have := hok.ch; omega) (by have := hok.lk; omega) hP hM ?_
 clear h; intro b wb M h
 refine jk ⟨gm h rfl, gm h rfl, gm h rfl, ?_⟩
 refine KK (c := c) (d := ⟨.xk l 0, []⟩) (da := ⟨B, cb, none, 0, none, 0⟩) h (Qb.le l2) (Oh.le l2) hok ⟨by simpa [gv.rP] using hB.le (Mem.le_trans l1 l2), RS.nil _ _, RS.nil _ _⟩ hP hM ?_
 clear h; intro R3 a M l3 hs h
 refine ⟨_, rfl, rfl, gm h rfl, gm h rfl, gm h rfl, ?_⟩
 refine yd h rfl rfl rfl ?_
 clear h; intro M h
 refine ⟨gm h rfl, gm h rfl, gm h rfl, ?_⟩
 refine AS h rfl ?_
 exact k R3 a p2 b wb db M (Mem.le_trans l1 (Mem.le_trans l2 l3)) (ZG.le l3) hs (h.sub (by repeat (first | exact .refl | refine .cons (by repeat (first | exact .here | apply aF.there)) ?_ | apply Sub.drop)))
end
end Go.Proofs
namespace Go.Proofs
open Go.AF
set_option maxRecDepth 100000
set_option maxHeartbeats 1000000
attribute [local irreducible] aK cD fH bL aD fx aI aO bj aS bI aV
def Q8 : gy (Int × (Option Addr × Nat × Nat) × Int × Int) := ⟨4, fun t => [.int .i64 t.1, .slice t.2.1.1 t.2.1.2.1 t.2.1.2.2, .int .i64 t.2.2.1, .int .i64 t.2.2.2], fun _ => rfl, fun w v hv => by
 simp only [List.mem_cons, List.not_mem_nil, or_false] at hv; obtain rfl | rfl | rfl | rfl := hv <;> rfl⟩
def View (R : Mem) (v : Int × (Option Addr × Nat × Nat) × Int × Int) (pr : cN) : Prop := v.1 = pr.q.next ∧ v.2.1.2.1 = pr.q.l.length ∧ RS bu R v.2.1.1 v.2.1.2.2 pr.q.l ∧ v.2.2.1 = pr.turns ∧ v.2.2.2 = pr.gA
def uJ (R : Mem) (vs : List (Int × (Option Addr × Nat × Nat) × Int × Int)) (ps : List cN) : Prop := vs.length = ps.length ∧ ∀ (i : Nat) v pr, vs[i]? = some v → ps[i]? = some pr → View R v pr
theorem View.le {R R' : Mem} {v : Int × (Option Addr × Nat × Nat) × Int × Int} {pr : cN} (h : View R v pr) (hle : R.le R') : View R' v pr := ⟨h.1, h.2.1, h.2.2.1.le hle, h.2.2.2⟩
theorem uJ.le {R R' : Mem} {vs : List (Int × (Option Addr × Nat × Nat) × Int × Int)} {ps : List cN} (h : uJ R vs ps) (hle : R.le R') : uJ R' vs ps := ⟨h.1, fun i v pr a b => (h.2 i v pr a b).le hle⟩
theorem uJ.snoc {R : Mem} {vs : List (Int × (Option Addr × Nat × Nat) × Int × Int)} {ps : List cN} {n : Nat} {v : Int × (Option Addr × Nat × Nat) × Int × Int} {pr : cN} (h : uJ R vs (ps.take n)) (hp : ps[n]? = some pr) (hv : View R v pr) : uJ R (vs ++ [v]) (ps.take (n + 1)) := by
 obtain ⟨h1, h2⟩ := h
 rw [cq hp]
 refine ⟨by simp [h1], fun i w q a b => ?_⟩
 rcases Nat.lt_trichotomy i vs.length with hi | hi | hi
 ·rw [List.getElem?_append_left hi] at a
  rw [List.getElem?_append_left (by omega)] at b
  exact h2 i w q a b
 ·subst hi
  rw [List.getElem?_append_right (Nat.le_refl _)] at a
  rw [List.getElem?_append_right (by omega)] at b
  simp at a
  rw [show vs.length - (ps.take n).length = 0 from by omega] at b
  simp at b
  subst a; subst b; exact hv
 ·rw [List.getElem?_eq_none (by simp; omega)] at a; cases a
section
variable {R : Mem} {L L' L2 : List HP} {M : Mem} {K : Value → Mem → Prop} {Kp : List PanicEntry → Mem → Prop} {pa : PA} {p : bZ} {b wb db : Nat} {x : Sc} {m i : Int}
theorem mU (h : Hp R L M) [o : mS b L pa p wb db x L'] (hs : x.ps.length ≤ 1000000) (k : ∀ R' A c vs M', R.le R' → uJ R' vs x.ps → Hp R' (bG Q8 53 A c vs :: aB (dy pa p wb db) b x :: L') M' → K (.slice A x.ps.length c) M') : ae Tryz.prog 19 #[.pointer (some ⟨b, 0, none⟩)] M K Kp := by
 refine lp ?_
 have h' := eR h (b := b)
 clear h
 obtain ⟨a, hl, h⟩ := h'
 rw [IN h]
 refine aY ?_
 have elp : bh Tryz.prog 50 53 4 48 [.int .i64 0, .slice none 0 0, .int .i64 0, .int .i64 0] := bh.mk' (zv := .agg #[.int .i64 0, .slice none 0 0, .int .i64 0, .int .i64 0]) (by kernel_rfl) (by kernel_rfl) rfl (by omega)
 replace h := h.bT Q8 53
 refine ⟨fun dd vs M => ∃ (j : Nat) (A : Option Addr) (c : Nat) (R' : Mem) (us : List (Int × (Option Addr × Nat × Nat) × Int × Int)), vs = [.slice A j c, .int .i64 (j : Int)] ∧ dd = x.ps.length - j ∧ j ≤ x.ps.length ∧ R.le R' ∧ uJ R' us (x.ps.take j) ∧ Hp R' (bG Q8 53 A c us :: fO (dH b wb db a x) x.gl :: aB (bF pa p) wb x.w :: aB (cv .nilFunc) db x.d :: ei a x L') M, ⟨_, 0, none, 0, R, [], rfl, rfl, by omega, Mem.le_refl _, ⟨by simp, fun i v pr e => by simp at e⟩, h⟩, ?_⟩
 clear h
 rintro dd _ A n c nn M ⟨j, A', c', R', us, he, hd, hj, hle, hv, h⟩
 simp only [List.cons.injEq, Value.int.injEq, Value.slice.injEq, and_true, true_and] at he
 obtain ⟨⟨rfl, rfl, rfl⟩, rfl⟩ := he
 have hul : us.length = n := by rw [hv.1, List.length_take]; omega
 refine aP.2 ⟨fun hlt => ?_, fun hge => ?_⟩
 ·obtain ⟨pr, jj⟩ := aQ (l := x.ps) (i := n) (by omega)
  obtain ⟨lb, hlb⟩ := aQ (l := a.lb) (i := n) (by omega)
  refine ⟨by omega, hlt, ?_⟩
  obtain ⟨q2, mX⟩ := h.bx (A := a.ap) (l := bQ a.lb x.ps) (by rw [jA hl]; omega) (by decide)
  have hs0 : Src R' (bG Q8 53 A c us :: fO (dH b wb db a x) x.gl :: aB (bF pa p) wb x.w :: aB (cv .nilFunc) db x.d :: ei a x L') (some ⟨q2, 0, none⟩) (mR.cells (bQ a.lb x.ps)) := by
   rw [← mX]; exact Src.row (A := a.ap)
  refine Hr mX ?_
  refine QH (j := n) h hs0 hlb jj (by simp) (by simp) (by simp) ?_
  clear hs0
  refine av h ?_
  clear h; intro dS M h
  refine az h ?_
  clear h; intro M h
  refine az h ?_
  clear h; intro M h
  refine az h ?_
  clear h; intro M h
  refine tL h (tL h (aJ h (aJ h ?_)))
  have hq : (x.ps.map cN.q)[n]? = some pr.q := by rw [List.getElem?_map, jj]; rfl
  unfold ei at h
  replace h := h.cY bK hlb hq
  refine yY h ?_
  refine cE ⟨aj h, aj h, aj h, ?_⟩
  refine GS h ?_
  clear h; intro B cB M h
  refine aY ⟨aj h, aj h, aj h, ?_⟩
  replace h := h.qw bK lb hlb hq
  obtain ⟨R2, tf, nN, h2⟩ := h.cU B
  clear h
  refine av h2 ?_
  clear h2; intro sA M h
  refine h.dn (A := A) elp [(pr.q.next, (B, pr.q.l.length, cB), pr.turns, pr.gA)] rfl hul.symm rfl (by simp only [List.length_singleton]; omega) ?_
  clear h; intro A2 c2 M h
  refine aY ⟨aj h, aj h, aj h, ?_⟩
  rw [aT (by omega)]
  have Ff : uJ R2 (us ++ [(pr.q.next, (B, pr.q.l.length, cB), pr.turns, pr.gA)]) (x.ps.take (n + 1)) := (hv.le tf).snoc jj ⟨rfl, rfl, nN, rfl, rfl⟩
  refine ⟨x.ps.length - (n + 1), by omega, n + 1, A2, c2, R2, _, rfl, rfl, by omega, Mem.le_trans hle tf, Ff, ?_⟩
  unfold ei
  exact h.sub (by repeat (first | exact .refl | refine .cons (by repeat (first | exact .here | apply aF.there)) ?_ | apply Sub.drop))
 ·have xu : n = x.ps.length := by omega
  subst xu
  rw [List.take_length] at hv
  exact k _ _ _ _ _ hle hv ((gP hl (h.sub (by repeat (first | exact .refl | refine .cons (by repeat (first | exact .here | apply aF.there)) ?_ | apply Sub.drop)))).swap)
end
end Go.Proofs
namespace Go.Proofs
open Go.AF
set_option maxRecDepth 100000
set_option maxHeartbeats 1000000
attribute [local irreducible] aK cD fH bL aD fx aI aO bj aS bI aV
theorem uK : Tryz.prog.underlying 168 = some (.map 3 3) := by kernel_rfl
theorem uL : Tryz.prog.underlying 3 = some (.int .i64) := by kernel_rfl
theorem OD : (Tryz.prog.info? 3).map (·.zero) = some (some (.int .i64 0)) := by kernel_rfl
theorem vR : ∃ i, Tryz.prog.info? 3 = some i ∧ i.zero = some (.int .i64 0) := by
 have h := OD
 cases hi : Tryz.prog.info? 3 with
 | none => rw [hi] at h; cases h
 | some i => rw [hi] at h; exact ⟨i, rfl, by simpa using h⟩
section
variable {R : Mem} {L L' L2 : List HP} {M : Mem} {K : Value → Mem → Prop} {Kp : List PanicEntry → Mem → Prop} {pa : PA} {p : bZ} {b wb db N : Nat} {x : Sc}
theorem C7 {r : Nat} {l : AL} {seen : List Int} {v : Int} {G : Mem → Prop} (h : Hp R L M) [o : Al r L (dM l) L'] (hc : Bl l seen) (hs : seen.length ≤ 1000000000)
  (k : ∀ l' M', Bl l' (seen ++ [v]) → Hp R (ob r (dM l') :: L') M' → G M') :
  aS Tryz.prog (Go.Instr.lookup 168 (.map (some r)) (.int .i64 v) false) M (fun RI mW => aK (some RI) .i64 fun Ba =>
    bI Tryz.prog (Go.Instr.mapUpdate 168 (.map (some r)) (.int .i64 v) (.int .i64 (IntKind.wrap .i64 (Ba + 1)))) mW G Kp) Kp := by
 obtain ⟨ti, NI, OR⟩ := vR
 refine um h uK uL NI OR ?_
 rw [hc.get]
 refine cE ?_
 have OQ : seen.count v ≤ seen.length := List.count_le_length
 rw [aT (by omega)]
 exact lF h uK uL fun M' h' => k _ M' (hc.step v) h'
theorem OE {r : Nat} {l : AL} {seen : List Int} {v : Int} {G : Int → Mem → Prop} (h : Hp R L M) [o : Al r L (dM l) L'] (hc : Bl l seen) (k : G (seen.count v : Int) M) :
  aS Tryz.prog (Go.Instr.lookup 168 (.map (some r)) (.int .i64 v) false) M (fun RI mW => aK (some RI) .i64 fun Ba => G Ba mW) Kp := by
 obtain ⟨ti, NI, OR⟩ := vR
 refine um h uK uL NI OR ?_
 rw [hc.get]
 exact cE k
def Loc.rev (x : Loc) : List Int := x.l ++ (if x.next = -1 then [] else [x.next])
theorem KL (x : Loc) (a : Int) : x.rev.count a = x.all.count a := by unfold Loc.rev Loc.all; rw [List.count_append, List.count_append]; omega
theorem zC : ∀ (l : List Loc) (a : Int), (l.flatMap Loc.rev).count a = (l.flatMap Loc.all).count a
 | [], a => rfl
 | x :: l, a => by rw [List.flatMap_cons, List.flatMap_cons, List.count_append, List.count_append, KL, zC l a]
theorem Fa : ∀ (l : List Loc), (∀ q ∈ l, OT q) → (l.flatMap Loc.rev).length ≤ 1025 * l.length
 | [], _ => by simp
 | x :: l, h => by
  have h1 := h x (by simp)
  have h2 := Fa l fun q hq => h q (by simp [hq])
  have h3 : x.rev.length ≤ x.l.length + 1 := by unfold Loc.rev; split <;> simp
  rw [List.flatMap_cons, List.length_append, List.length_cons]
  have := h1.1; have := h1.2.1
  omega
theorem C8 : ∀ (l : List BI), (l.flatMap fun m => dc m.g).length ≤ l.length
 | [] => by simp
 | x :: l => by
  have h2 := C8 l
  have h3 : (dc x.g).length ≤ 1 := by unfold dc; split <;> simp
  rw [List.flatMap_cons, List.length_append, List.length_cons]; omega
theorem Fb (h : Hp R L M) [q : mS b L pa p wb db x L'] (hv : SV p N x) (k : ∀ R' M', R.le R' → Hp R' (aB (dy pa p wb db) b x :: L') M' → K (.bool true) M') :
  ae Tryz.prog 28 #[.pointer (some ⟨b, 0, none⟩)] M K Kp := by
 refine oJ ?_
 obtain ⟨ti, NI, OR⟩ := vR
 have Wn := hv.QM
 have hP1 := hv.P1
 have hM1 := hv.M1
 have kf : ((x.ps.map cN.q).flatMap Loc.rev).length ≤ 1025 * x.ps.length := by
  have := Fa (x.ps.map cN.q) fun q hq => by obtain ⟨pr, jj, rfl⟩ := List.mem_map.1 hq; exact hv.room pr jj
  simpa using this
 have hgm := C8 x.ms
 replace h := h.pick q.pick
 refine HN h ?_
 clear h; intro k1 M h
 refine HN h ?_
 clear h; intro k3 M h
 refine CX (b := b) h (by omega) ?_
 clear h; intro A c M h
 refine aY ?_
 have h0 : Hp R (ob k1 (dM []) :: j6 A c x.gl :: ob k3 (dM []) :: aB (dy pa p wb db) b x :: L') M := h.sub (by repeat (first | exact .refl | refine .cons (by repeat (first | exact .here | apply aF.there)) ?_ | apply Sub.drop))
 clear h
 refine yR (seen := []) (xs := x.gl) h0 (Src.row (A := A)) rfl Bl.nil (by simp; omega) uK uL NI OR fun l1 M Oh h' => ?_
 clear h0
 rw [List.nil_append] at Oh
 refine mU (b := b) h' (by omega) ?_
 clear h'; intro R2 A2 c2 vs M tf hvs h
 refine aY ?_
 have h0 : Hp R2 (ob k1 (dM l1) :: bG Q8 53 A2 c2 vs :: ob k3 (dM []) :: aB (dy pa p wb db) b x :: L') M := h.sub (by repeat (first | exact .refl | refine .cons (by repeat (first | exact .here | apply aF.there)) ?_ | apply Sub.drop))
 clear h
 refine ⟨fun dd ws M => ∃ (j : Nat) (l : AL), ws = [.int .i64 (j : Int)] ∧ dd = x.ps.length - j ∧ j ≤ x.ps.length ∧ Bl l (x.gl ++ ((x.ps.map cN.q).take j).flatMap Loc.rev) ∧
  Hp R2 (ob k1 (dM l) :: bG Q8 53 A2 c2 vs :: ob k3 (dM []) :: aB (dy pa p wb db) b x :: L') M, ⟨_, 0, l1, rfl, rfl, by omega, by simpa using Oh, h0⟩, ?_⟩
 clear h0 Oh
 rintro dd _ nn M ⟨j, l2, he, hd, hj, Cq, h⟩
 simp only [List.cons.injEq, Value.int.injEq, and_true, true_and] at he
 subst he
 have VN : (((x.ps.map cN.q).take j).flatMap Loc.rev).length ≤ ((x.ps.map cN.q).flatMap Loc.rev).length := by
  have e := List.take_append_drop j (x.ps.map cN.q)
  have e2 : ((x.ps.map cN.q).flatMap Loc.rev).length = (((x.ps.map cN.q).take j).flatMap Loc.rev).length + (((x.ps.map cN.q).drop j).flatMap Loc.rev).length := by
   rw [← List.length_append, ← List.flatMap_append, e]
  omega
 refine aP.2 ⟨fun hlt => ?_, fun hge => ?_⟩
 ·obtain ⟨v, SS⟩ := aQ (l := vs) (i := j) (by rw [hvs.1]; omega)
  obtain ⟨pr, jj⟩ := aQ (l := x.ps) (i := j) (by omega)
  obtain ⟨w1, w2, w3, w4, w5⟩ := hvs.2 j v pr SS jj
  obtain ⟨b2, OI⟩ := h.bx (A := A2) (l := vs) (by rw [hvs.1]; omega) (by decide)
  subst OI
  refine ⟨by omega, hlt, br ?_⟩
  refine be (Src.at (h.src (A := some ⟨b2, 0, none⟩)) h (i := j) (j := 0) SS rfl (by simp [Q8])) ?_
  refine Cd (Src.at (h.src (A := some ⟨b2, 0, none⟩)) h (i := j) (j := 1) SS rfl rfl) ?_
  refine be (Src.at (h.src (A := some ⟨b2, 0, none⟩)) h (i := j) (j := 2) SS rfl rfl) ?_
  refine be (Src.at (h.src (A := some ⟨b2, 0, none⟩)) h (i := j) (j := 3) SS rfl rfl) ?_
  refine av h ?_
  clear h
  intro nW M h
  repeat (refine az h ?_; clear h; intro M h)
  refine aR h ?_
  have hroom := hv.room pr (List.mem_of_getElem? jj)
  have xI := hroom.1
  have Qj := hroom.2.1
  have hq : (x.ps.map cN.q)[j]? = some pr.q := by rw [List.getElem?_map, jj]; rfl
  have e1 : ((x.ps.map cN.q).take (j + 1)).flatMap Loc.rev = ((x.ps.map cN.q).take j).flatMap Loc.rev ++ pr.q.rev := by rw [cq hq, List.flatMap_append]; simp
  have h0 : Hp R2 (ob k1 (dM l2) :: pt nW [.int .i64 v.1, .slice v.2.1.1 v.2.1.2.1 v.2.1.2.2, .int .i64 v.2.2.1, .int .i64 v.2.2.2] 53 :: bG Q8 53 (some ⟨b2, 0, none⟩) c2 vs :: ob k3 (dM []) :: aB (dy pa p wb db) b x :: L') M := h.sub (by repeat (first | exact .refl | refine .cons (by repeat (first | exact .here | apply aF.there)) ?_ | apply Sub.drop))
  clear h
  rw [w2]
  refine yR (xs := pr.q.l) h0 w3.src rfl Cq (by simp only [List.length_append]; omega) uK uL NI OR fun l3 M VO h => ?_
  clear h0
  refine aJ h ?_
  rw [w1] at h ⊢
  refine ⟨fun ws M => ws = [] ∧ ∃ l, Bl l (x.gl ++ ((x.ps.map cN.q).take (j + 1)).flatMap Loc.rev) ∧ Hp R2 (ob k1 (dM l) :: bG Q8 53 (some ⟨b2, 0, none⟩) c2 vs :: ob k3 (dM []) :: aB (dy pa p wb db) b x :: L') M, ?_, ?_⟩
  ·rw [e1]
   refine de.2 ⟨fun hne => ?_, fun heq => ?_⟩
   ·refine aJ h ?_
    refine C7 h VO (by simp only [List.length_append]; omega) ?_
    clear h; intro l4 M Wv h
    refine ⟨rfl, l4, ?_, h.sub (by repeat (first | exact .refl | refine .cons (by repeat (first | exact .here | apply aF.there)) ?_ | apply Sub.drop))⟩
    have e : pr.q.rev = pr.q.l ++ [pr.q.next] := by unfold Loc.rev; rw [if_neg hne]
    rw [e]
    simpa only [List.append_assoc] using Wv
   ·refine ⟨rfl, l3, ?_, h.sub (by repeat (first | exact .refl | refine .cons (by repeat (first | exact .here | apply aF.there)) ?_ | apply Sub.drop))⟩
    have e : pr.q.rev = pr.q.l := by unfold Loc.rev; rw [if_pos heq, List.append_nil]
    rw [e]
    simpa only [List.append_assoc] using VO
  ·clear h
   rintro nn M ⟨_, l4, Wv, h⟩
   exact ⟨x.ps.length - (j + 1), by omega, j + 1, l4, by rw [aT (by omega)], rfl, by omega, Wv, h⟩
 have xu : j = x.ps.length := by omega
 subst xu
 rw [List.take_of_length_le (by simp)] at Cq
 clear VN
 refine zw (b := b) h (by omega) ?_
 clear h; intro A3 c3 M h
 refine aY ?_
 have h0 : Hp R2 (ob k1 (dM l2) :: ob k3 (dM []) :: bG eV 55 A3 c3 x.ms :: aB (dy pa p wb db) b x :: L') M := h.sub (by repeat (first | exact .refl | refine .cons (by repeat (first | exact .here | apply aF.there)) ?_ | apply Sub.drop))
 clear h
 refine ⟨fun dd ws M => ∃ (j : Nat) (l l' : AL) (R3 : Mem), ws = [.int .i64 (j : Int)] ∧ dd = x.ms.length - j ∧ j ≤ x.ms.length ∧ R2.le R3 ∧ Bl l (x.gl ++ (x.ps.map cN.q).flatMap Loc.rev ++ (x.ms.take j).flatMap fun m => dc m.g) ∧ Bl l' ((x.ms.take j).flatMap fun m => dc m.p) ∧
  Hp R3 (ob k1 (dM l) :: ob k3 (dM l') :: bG eV 55 A3 c3 x.ms :: aB (dy pa p wb db) b x :: L') M, ⟨_, 0, l2, [], R2, rfl, rfl, by omega, Mem.le_refl _, by simpa using Cq, Bl.nil, h0⟩, ?_⟩
 clear h0 Cq
 rintro dd _ nn M ⟨j, l3, l4, R3, he, hd, hj, Hx, VO, Wv, h⟩
 simp only [List.cons.injEq, Value.int.injEq, and_true, true_and] at he
 subst he
 refine aP.2 ⟨fun hlt => ?_, fun hge => ?_⟩
 ·obtain ⟨m, hm⟩ := aQ (l := x.ms) (i := j) (by omega)
  have Ht := hv.ms m (List.mem_of_getElem? hm)
  obtain ⟨b3, hb3⟩ := h.bx (A := A3) (l := x.ms) (by omega) (by decide)
  subst hb3
  refine ⟨by omega, hlt, br ?_⟩
  refine be (Src.at (h.src (A := some ⟨b3, 0, none⟩)) h (i := j) (j := 0) hm rfl (by simp [eV])) ?_
  refine be (Src.at (h.src (A := some ⟨b3, 0, none⟩)) h (i := j) (j := 1) hm rfl rfl) ?_
  refine be (Src.at (h.src (A := some ⟨b3, 0, none⟩)) h (i := j) (j := 2) hm rfl rfl) ?_
  refine av h ?_
  clear h
  intro wF M h
  repeat (refine az h ?_; clear h; intro M h)
  refine aJ h ?_
  have e1 : (x.ms.take (j + 1)).flatMap (fun m => dc m.g) = (x.ms.take j).flatMap (fun m => dc m.g) ++ dc m.g := by rw [cq hm, List.flatMap_append]; simp
  have e2 : (x.ms.take (j + 1)).flatMap (fun m => dc m.p) = (x.ms.take j).flatMap (fun m => dc m.p) ++ dc m.p := by rw [cq hm, List.flatMap_append]; simp
  have hlg : ((x.ms.take j).flatMap fun m => dc m.g).length ≤ x.ms.length := Nat.le_trans (C8 _) (by rw [List.length_take]; omega)
  refine ⟨fun ws M => ws = [] ∧ ∃ l, Bl l (x.gl ++ (x.ps.map cN.q).flatMap Loc.rev ++ (x.ms.take (j + 1)).flatMap fun m => dc m.g) ∧
   Hp R3 (ob k1 (dM l) :: pt wF [.int .i64 m.p, .int .i64 m.g, .int .i64 m.left] 55 :: ob k3 (dM l4) :: bG eV 55 (some ⟨b3, 0, none⟩) c3 x.ms :: aB (dy pa p wb db) b x :: L') M, ?_, ?_⟩
  ·rw [e1, ← List.append_assoc]
   refine de.2 ⟨fun hne => ?_, fun heq => ?_⟩
   ·refine aJ h ?_
    refine C7 h VO (by simp only [List.length_append]; omega) ?_
    clear h; intro l5 M ZV h
    refine ⟨rfl, l5, ?_, h.sub (by repeat (first | exact .refl | refine .cons (by repeat (first | exact .here | apply aF.there)) ?_ | apply Sub.drop))⟩
    have : dc m.g = [m.g] := by unfold dc; rw [if_pos (by rcases Ht with e | e <;> omega)]
    rw [this]; exact ZV
   ·refine ⟨rfl, l3, ?_, h.sub (by repeat (first | exact .refl | refine .cons (by repeat (first | exact .here | apply aF.there)) ?_ | apply Sub.drop))⟩
    have : dc m.g = [] := by unfold dc; rw [if_neg (by omega)]
    rw [this, List.append_nil]; exact VO
  ·clear h
   rintro nn M ⟨_, l5, ZV, h⟩
   refine aJ h ?_
   refine aZ.2 ⟨fun heq => ?_, fun hne => ?_⟩
   ·rcases Ht with ⟨_, g1, g2⟩ | g1
    ·refine aJ h ?_
     rw [g1]
     refine de.2 ⟨fun hne => absurd rfl hne, fun _ => ?_⟩
     refine aJ h ?_
     rw [g2]
     refine de.2 ⟨fun hne => absurd rfl hne, fun _ => ?_⟩
     refine ⟨x.ms.length - (j + 1), by omega, j + 1, l5, l4, R3, by rw [aT (by omega)], rfl, by omega, Hx, ZV, ?_, h.sub (by repeat (first | exact .refl | refine .cons (by repeat (first | exact .here | apply aF.there)) ?_ | apply Sub.drop))⟩
     have : dc m.p = [] := by unfold dc; rw [if_neg (by omega)]
     rw [e2, this, List.append_nil]; exact Wv
    ·omega
   ·have Vk : 0 ≤ m.p ∧ m.p < x.ps.length := by rcases Ht with e | e <;> omega
    have hby := hv.gA j m hm hne
    have hnot : ((x.ms.take j).flatMap fun m => dc m.p).count m.p = 0 := by
     refine List.count_eq_zero.2 fun hmem => ?_
     obtain ⟨m', hm', xF⟩ := List.mem_flatMap.1 hmem
     obtain ⟨j', hj'⟩ := List.getElem?_of_mem hm'
     rw [List.getElem?_take] at hj'
     split at hj'
     ·rename_i WG
      have hp' : m'.p = m.p := by
       unfold dc at xF
       split at xF
       ·exact (List.mem_singleton.1 xF).symm
       ·cases xF
      have := hv.gA j' m' hj' (by omega)
      rw [hp', hby] at this
      omega
     ·cases hj'
    have hg8 : dc m.p = [m.p] := by unfold dc; rw [if_pos Vk.1]
    have hlp : ((x.ms.take j).flatMap fun m => dc m.p).length ≤ 1000000 := by
     have : ∀ l : List BI, (l.flatMap fun m => dc m.p).length ≤ l.length := by
      intro l
      induction l with
      | nil => simp
      | cons a l ih =>
       have h3 : (dc a.p).length ≤ 1 := by unfold dc; split <;> simp
       rw [List.flatMap_cons, List.length_append, List.length_cons]; omega
     have h4 := this (x.ms.take j)
     rw [List.length_take] at h4; omega
    refine aJ h ?_
    refine C7 h Wv (by omega) ?_
    clear h; intro l6 M hc6 h
    refine aJ h ?_
    refine OE h hc6 ?_
    rw [List.count_append, hnot]
    refine aP.2 ⟨fun hgt => absurd hgt (by simp), fun _ => ?_⟩
    refine aJ h ?_
    refine mU (b := b) h (by omega) ?_
    clear h; intro R4 A4 c4 us M OF OV h
    refine aY ⟨aj h, Vk.1, Vk.2, ?_⟩
    obtain ⟨jp, hjp⟩ := Int.eq_ofNat_of_zero_le Vk.1
    obtain ⟨u, hu⟩ := aQ (l := us) (i := jp) (by rw [OV.1]; omega)
    obtain ⟨pr, jj⟩ := aQ (l := x.ps) (i := jp) (by omega)
    obtain ⟨w1, w2, w3, w4, w5⟩ := OV.2 jp u pr hu jj
    obtain ⟨b4, hb4⟩ := h.bx (A := A4) (l := us) (by rw [OV.1]; omega) (by decide)
    subst hb4
    refine br ?_
    rw [hjp, Int.toNat_natCast]
    refine be (Src.at (h.src (A := some ⟨b4, 0, none⟩)) h (i := jp) (j := 3) hu rfl rfl) ?_
    rw [w5]
    have hb5 : pr.gA = (j : Int) := by
     have e : aL x m.p = pr := by simp [aL, hjp, jj]
     rw [← e]; exact hby
    refine de.2 ⟨fun hne2 => absurd hb5 hne2, fun _ => ?_⟩
    refine ⟨x.ms.length - (j + 1), by omega, j + 1, l5, l6, R4, by rw [aT (by omega)], rfl, by omega, Mem.le_trans Hx OF, ZV, ?_, h.sub (by repeat (first | exact .refl | refine .cons (by repeat (first | exact .here | apply aF.there)) ?_ | apply Sub.drop))⟩
    rw [e2, hg8]; exact hc6
 ·have xu : j = x.ms.length := by omega
  subst xu
  rw [List.take_of_length_le (Nat.le_refl _)] at VO
  have FG : ∀ a, (x.gl ++ (x.ps.map cN.q).flatMap Loc.rev ++ x.ms.flatMap fun m => dc m.g).count a = kW x a := fun a => by
   unfold kW lu CZ
   rw [List.count_append, List.count_append, zC]; omega
  refine EW (b := b) h (jk ?_)
  have h0 : Hp R3 (aB (dy pa p wb db) b x :: ob k1 (dM l3) :: L') M := h.sub (by repeat (first | exact .refl | refine .cons (by repeat (first | exact .here | apply aF.there)) ?_ | apply Sub.drop))
  clear h
  obtain ⟨a, hla, h⟩ := eR h0 (b := b)
  clear h0
  refine Kd h (cE ?_)
  have eS : ∀ M, Hp R3 (fO (dH b wb db a x) x.gl :: aB (bF pa p) wb x.w :: aB (cv .nilFunc) db x.d :: ei a x (ob k1 (dM l3) :: L')) M → K (.bool true) M := fun M h => k R3 M (Mem.le_trans tf Hx) ((gP hla h).sub (by repeat (first | exact .refl | refine .cons (by repeat (first | exact .here | apply aF.there)) ?_ | apply Sub.drop)))
  have hw := hv.w
  have xX := hw.n2
  refine ⟨fun dd ws M => ∃ g : Nat, ws = [.int .i64 (g : Int)] ∧ dd = x.w.gs.length - g ∧ g ≤ x.w.gs.length ∧ Hp R3 (fO (dH b wb db a x) x.gl :: aB (bF pa p) wb x.w :: aB (cv .nilFunc) db x.d :: ei a x (ob k1 (dM l3) :: L')) M, ⟨_, 0, rfl, rfl, by omega, h⟩, ?_⟩
  clear h
  rintro dd _ nn M ⟨g, he, hd, hg, h⟩
  simp only [List.cons.injEq, Value.int.injEq, and_true, true_and] at he
  subst he
  refine aP.2 ⟨fun hlt => ?_, fun hge => eS M h⟩
  have Sd : ∀ M, Hp R3 (fO (dH b wb db a x) x.gl :: aB (bF pa p) wb x.w :: aB (cv .nilFunc) db x.d :: ei a x (ob k1 (dM l3) :: L')) M → ∃ k : Nat, k < dd ∧ ∃ g' : Nat, [Value.int .i64 (IntKind.wrap .i64 ((g : Int) + 1))] = [.int .i64 (g' : Int)] ∧ k = x.w.gs.length - g' ∧ g' ≤ x.w.gs.length ∧ Hp R3 (fO (dH b wb db a x) x.gl :: aB (bF pa p) wb x.w :: aB (cv .nilFunc) db x.d :: ei a x (ob k1 (dM l3) :: L')) M :=
   fun M h => ⟨x.w.gs.length - (g + 1), by omega, g + 1, by rw [aT (by omega)], rfl, by omega, h⟩
  refine uz h (by omega) (by omega) (cE ?_)
  refine ⟨fun ws M => ws = [.int .i64 (if (ay x.w g).st = 1 then 1 else 0)] ∧ Hp R3 (fO (dH b wb db a x) x.gl :: aB (bF pa p) wb x.w :: aB (cv .nilFunc) db x.d :: ei a x (ob k1 (dM l3) :: L')) M, ?_, ?_⟩
  ·exact aZ.2 ⟨fun e => ⟨by rw [if_pos e], h⟩, fun e => ⟨by rw [if_neg e], h⟩⟩
  clear h
  rintro nn n2 M ⟨he, h⟩
  simp only [List.cons.injEq, Value.int.injEq, and_true, true_and] at he
  subst he
  refine BA h ?_
  refine ⟨_, _, rfl, aZ.2 ⟨fun e => ?_, fun e => Sd M h⟩⟩
  refine OE h VO ?_
  rw [FG]
  have e2 : ((kW x g : Nat) : Int) = if (ay x.w g).st = 1 then 1 else 0 := by
   by_cases hs : (ay x.w g).st = 1
   ·rw [if_pos hs, hv.one g ⟨by omega, by omega, hs⟩]; rfl
   ·rw [if_neg hs, hv.zero g fun h => hs h.2.2]; rfl
  exact de.2 ⟨fun hne => absurd e2 hne, fun _ => Sd M h⟩
end
end Go.Proofs
namespace Go.Proofs
open Go.AF
set_option maxRecDepth 100000
set_option maxHeartbeats 1000000
attribute [local irreducible] aK cD fH bL aD fx aI aO bj aS bI aV
def K6 : List Value := [.int .i64 0, .int .i64 0, .int .i64 0, .int .i64 0, .int .u64 0]
inductive oN : List PanicEntry → Int → List Value → Prop
 | d1 : oN Ky 1 K6
 | d2 : oN (xl Ky) 1 K6
 | u1 (a q n k x : Int) : oN (Wm a q n k x) 2 [.int .i64 a, .int .i64 q, .int .i64 n, .int .i64 k, .int .u64 x]
 | u2 (a q n k x : Int) : oN (xl (Wm a q n k x)) 2 [.int .i64 a, .int .i64 q, .int .i64 n, .int .i64 k, .int .u64 x]
section
variable {R : Mem} {L L' L2 : List HP} {M : Mem} {K : Value → Mem → Prop} {Kp : List PanicEntry → Mem → Prop} {u0 : Value} {S : Mem → List HP → Prop} {D : Mem → List PanicEntry → List HP → Prop}
def IS (R : Mem) (L : List HP) (u0 : Value) (S : Mem → List HP → Prop) (D : Mem → List PanicEntry → List HP → Prop) : Prop := ∀ (Q : HP) (M : Mem) (K : Value → Mem → Prop) (Kp : List PanicEntry → Mem → Prop), Hp R (Q :: L) M →
 (∀ R' L' M', S R' L' → Hp R' (Q :: L') M' → K (.tuple #[]) M') → (∀ R' l L' M', D R' l L' → Hp R' (Q :: L') M' → Kp l M') → iu Cx u0 [] M K Kp
theorem Aq {b1 b2 : Nat} (h : Hp R (pt b1 [.int .i64 0] 3 :: pt b2 K6 155 :: L) M) (hc : IS R L u0 S D) (hd : ∀ R' l L', D R' l L' → ∃ e vs, oN l e vs)
  (k : ∀ R' L' M', S R' L' → Hp R' (pt b1 [.int .i64 0] 3 :: pt b2 K6 155 :: L') M' → K (.tuple #[]) M')
  (kd : ∀ R' l L' M' e vs, D R' l L' → oN l e vs → Hp R' (pt b1 [.int .i64 e] 3 :: pt b2 vs 155 :: L') M' → K (.tuple #[]) M') :
  ae Tryz.prog 104 #[u0, .pointer (some ⟨b1, 0, none⟩), .pointer (some ⟨b2, 0, none⟩)] M K Kp := by
 refine vz ?_
 refine av h ?_
 clear h
 intro k1 M h
 refine av h ?_
 clear h
 intro k3 M h
 refine hc (sep [pt k3 [.pointer (some ⟨b2, 0, none⟩)] _, pt k1 [.pointer (some ⟨b1, 0, none⟩)] _, pt b1 [.int .i64 0] 3, pt b2 K6 155]) M _ _ (Hp.bl.2 h) ?_ ?_
 ·clear h
  intro R' L' M' hs h
  have h := Hp.bl.1 h
  exact ⟨rfl, J2 (k R' L' M' hs h.drop.drop)⟩
 ·clear h
  intro R' l L' M hs h
  replace h := Hp.bl.1 h
  obtain ⟨e, vs, hg⟩ := hd _ _ _ hs
  have Y4 := kd R' l L'
  simp only [List.cons_append, List.nil_append, K6] at h Y4
  clear kd k hc hd
  cases hg with
  | d1 =>
   refine GC ?_
   repeat (first | (refine av h ?_; clear h; intro kb M h) | (refine az h ?_; clear h; intro M h) | refine St.to h ?_ | (apply Exists.intro; (repeat apply Exists.intro); refine And.intro rfl ?_) | (refine And.intro ?_ ?_; first | exact rfl | (refine aa (aj h) ?_; (repeat (refine aa (aj h) ?_)); exact ai) | omega) | refine aq ?_ | refine au ?_)
   exact Y4 _ _ _ hs .d1 (h.sub (by repeat (first | exact .refl | refine .cons (by repeat (first | exact .here | apply aF.there)) ?_ | apply Sub.drop)))
  | d2 =>
   refine Ei ?_
   repeat (first | (refine av h ?_; clear h; intro kb M h) | (refine az h ?_; clear h; intro M h) | refine St.to h ?_ | (apply Exists.intro; (repeat apply Exists.intro); refine And.intro rfl ?_) | (refine And.intro ?_ ?_; first | exact rfl | (refine aa (aj h) ?_; (repeat (refine aa (aj h) ?_)); exact ai) | omega) | refine aq ?_ | refine au ?_)
   exact Y4 _ _ _ hs .d2 (h.sub (by repeat (first | exact .refl | refine .cons (by repeat (first | exact .here | apply aF.there)) ?_ | apply Sub.drop)))
  | u1 a q n k x =>
   refine Ak ?_
   repeat (first | (refine av h ?_; clear h; intro kb M h) | (refine az h ?_; clear h; intro M h) | refine St.to h ?_ | (apply Exists.intro; (repeat apply Exists.intro); refine And.intro rfl ?_) | (refine And.intro ?_ ?_; first | exact rfl | (refine aa (aj h) ?_; (repeat (refine aa (aj h) ?_)); exact ai) | omega) | refine aq ?_ | refine au ?_)
   exact Y4 _ _ _ hs (.u1 a q n k x) (h.sub (by repeat (first | exact .refl | refine .cons (by repeat (first | exact .here | apply aF.there)) ?_ | apply Sub.drop)))
  | u2 a q n k x =>
   refine yN ?_
   repeat (first | (refine av h ?_; clear h; intro kb M h) | (refine az h ?_; clear h; intro M h) | refine St.to h ?_ | (apply Exists.intro; (repeat apply Exists.intro); refine And.intro rfl ?_) | (refine And.intro ?_ ?_; first | exact rfl | (refine aa (aj h) ?_; (repeat (refine aa (aj h) ?_)); exact ai) | omega) | refine aq ?_ | refine au ?_)
   exact Y4 _ _ _ hs (.u2 a q n k x) (h.sub (by repeat (first | exact .refl | refine .cons (by repeat (first | exact .here | apply aF.there)) ?_ | apply Sub.drop)))
theorem oN.shape {l : List PanicEntry} {e : Int} {vs : List Value} (h : oN l e vs) : (e = 1 ∨ e = 2) ∧ ∃ a q n k x : Int, vs = [.int .i64 a, .int .i64 q, .int .i64 n, .int .i64 k, .int .u64 x] := by
 cases h with
 | d1 => exact ⟨.inl rfl, 0, 0, 0, 0, 0, rfl⟩
 | d2 => exact ⟨.inl rfl, 0, 0, 0, 0, 0, rfl⟩
 | u1 a q n k x => exact ⟨.inr rfl, a, q, n, k, x, rfl⟩
 | u2 a q n k x => exact ⟨.inr rfl, a, q, n, k, x, rfl⟩
theorem uM (h : Hp R L M) (hc : IS R L u0 S D) (hd : ∀ R' l L', D R' l L' → ∃ e vs, oN l e vs)
  (k : ∀ R' L' M', S R' L' → Hp R' L' M' → K (.tuple #[.int .i64 0, .agg #[.int .i64 0, .int .i64 0, .int .i64 0, .int .i64 0, .int .u64 0]]) M')
  (kd : ∀ R' l L' M' e a q n k x, D R' l L' → oN l e [.int .i64 a, .int .i64 q, .int .i64 n, .int .i64 k, .int .u64 x] → Hp R' L' M' → K (.tuple #[.int .i64 e, .agg #[.int .i64 a, .int .i64 q, .int .i64 n, .int .i64 k, .int .u64 x]]) M') :
  ae Tryz.prog 56 #[u0] M K Kp := by
 refine w9 ?_
 refine av h ?_
 clear h
 intro k1 M h
 refine av h ?_
 clear h
 intro k3 M h
 refine av h ?_
 clear h
 intro k5 M h
 repeat (refine az h ?_; clear h; intro M h)
 refine Aq (S := fun R' L2 => ∃ L', S R' L' ∧ L2 = pt k1 K6 155 :: L') (D := fun R' l L2 => ∃ L', D R' l L' ∧ L2 = pt k1 K6 155 :: L') (L := pt k1 K6 155 :: L) (h.sub (by repeat (first | exact .refl | refine .cons (by repeat (first | exact .here | apply aF.there)) ?_ | apply Sub.drop))) ?_ ?_ ?_ ?_
 ·intro Q M K Kp h ZH k2
  refine hc (sep [Q, pt k1 K6 155]) M K Kp (Hp.bl.2 h) ?_ ?_
  ·intro R' L' M' hs h
   exact ZH R' _ M' ⟨L', hs, rfl⟩ (Hp.bl.1 h)
  ·intro R' l L' M' hs h
   exact k2 R' l _ M' ⟨L', hs, rfl⟩ (Hp.bl.1 h)
 ·rintro R' l _ ⟨L', hs, _⟩
  exact hd _ _ _ hs
 ·rintro R' _ M ⟨L', hs, rfl⟩ h
  clear hc hd kd
  simp only [K6] at h
  refine ⟨rfl, ?_⟩
  repeat (first | (refine av h ?_; clear h; intro kb M h) | (refine az h ?_; clear h; intro M h) | refine St.to h ?_ | (apply Exists.intro; (repeat apply Exists.intro); refine And.intro rfl ?_) | (refine And.intro ?_ ?_; first | exact rfl | (refine aa (aj h) ?_; (repeat (refine aa (aj h) ?_)); exact ai) | omega) | refine aq ?_ | refine au ?_)
  exact k _ _ _ hs (h.sub (by repeat (first | exact .refl | refine .cons (by repeat (first | exact .here | apply aF.there)) ?_ | apply Sub.drop)))
 ·rintro R' l _ M e vs ⟨L', hs, rfl⟩ hg h
  obtain ⟨_, a, q, n, kk, x, rfl⟩ := hg.shape
  clear hc hd k
  simp only [K6] at h
  refine ⟨rfl, ?_⟩
  repeat (first | (refine av h ?_; clear h; intro kb M h) | (refine az h ?_; clear h; intro M h) | refine St.to h ?_ | (apply Exists.intro; (repeat apply Exists.intro); refine And.intro rfl ?_) | (refine And.intro ?_ ?_; first | exact rfl | (refine aa (aj h) ?_; (repeat (refine aa (aj h) ?_)); exact ai) | omega) | refine aq ?_ | refine au ?_)
  exact kd _ _ _ _ _ _ _ _ _ _ hs hg (h.sub (by repeat (first | exact .refl | refine .cons (by repeat (first | exact .here | apply aF.there)) ?_ | apply Sub.drop)))
theorem KM {k k' : gv} {kind m : Int} {l : List PanicEntry} (h : k.next kind m = (k', .dG l)) : ∃ e vs, oN l e vs ∧ oN (xl l) e vs := by
 cases k with
 | xk t i =>
  unfold gv.next at h
  dsimp only at h
  split at h
  ·cases h; exact ⟨_, _, .d1, .d2⟩
  ·cases h
 | tape t i =>
  unfold gv.next at h
  dsimp only at h
  split at h
  ·cases h; exact ⟨_, _, .d1, .d2⟩
  ·split at h
   ·cases h; exact ⟨_, _, .u1 _ _ _ _ _, .u2 _ _ _ _ _⟩
   ·split at h
    ·cases h; exact ⟨_, _, .u1 _ _ _ _ _, .u2 _ _ _ _ _⟩
    ·cases h
theorem vS {x x' : lP} {kind n : Int} {l : List PanicEntry} (h : x.draw kind n = (x', .dG l)) : ∃ e vs, oN l e vs ∧ oN (xl l) e vs := by
 unfold lP.draw at h
 split at h
 ·cases h
 ·rename_i k' l' hn
  cases h
  exact KM hn
theorem OG {d d' : lP} {a : Option (Int × Int)} {l : List PanicEntry} (h : fF d a = (d', .dG l)) : ∃ e vs, oN l e vs ∧ oN (xl l) e vs := by
 cases a with
 | none => cases h
 | some q => exact vS h
theorem Q9 {z y : Sc} {o : oM} {l : List PanicEntry} (h : CY (z, o) = (y, .dG l)) : o = .dG l := by
 cases o with
 | ev e => cases h
 | dG l' => cases h; rfl
theorem OH {p : bZ} {x y : Sc} {l : List PanicEntry} (he : x.step p = some (y, .dG l)) : ∃ e vs, oN l e vs := by
 unfold Sc.step at he
 split at he
 ·split at he
  ·cases he
  ·split at he
   ·rename_i hd
    cases he
    obtain ⟨e, vs, h, _⟩ := vS hd
    exact ⟨e, vs, h⟩
   ·rename_i d' m hd
    simp only [Option.map_eq_some_iff] at he
    obtain ⟨⟨z, o⟩, ha, hi⟩ := he
    have ho := Q9 hi
    subst ho
    clear hi hd
    unfold Sc.act at ha
    split at ha
    ·split at ha
     ·cases ha
     ·cases ha
    ·split at ha
     ·cases ha
     ·split at ha
      ·split at ha
       ·simp only [Option.some.injEq] at ha
        unfold Sc.find at ha
        dsimp only at ha
        split at ha
        ·cases ha
        ·split at ha
         ·split at ha
          ·rename_i hd
           cases ha
           obtain ⟨e, vs, h, _⟩ := vS hd
           exact ⟨e, vs, h⟩
          ·split at ha <;> cases ha
         ·cases ha
       ·cases ha
      ·unfold Sc.run at ha
       split at ha
       ·split at ha
        ·split at ha
         ·cases ha
         ·rename_i l' w rest hex
          cases ha
          obtain ⟨An, _⟩ := BN hex
          obtain ⟨e, vs, _, h⟩ := OG (d' := _) (by rw [← An])
          exact ⟨e, vs, h⟩
         ·unfold jC at ha
          split at ha <;> cases ha
         ·unfold jC at ha
          split at ha <;> cases ha
        ·cases ha
       ·cases ha
 ·cases he
def Y5 (R : Mem) (pa : PA) (p : bZ) (b wb db : Nat) (L' : List HP) (K : Value → Mem → Prop) (y : Sc) : oM → Prop
 | .ev e => ∀ R' A c M', R.le R' → RS bu R' A c e.ready → y.d.k.Ok → Hp R' (aB (dy pa p wb db) b y :: L') M' → K (.tuple #[Hi e A c, .int .i64 0]) M'
 | .dG l => ∀ e vs M', oN l e vs → y.d.k.Ok → Hp R (aB (dy pa p wb db) b y :: L') M' → K (.tuple #[Hi ⟨0, 0, 0, []⟩ none 0, .int .i64 e]) M'
theorem Hy {pa : PA} {p : bZ} {b wb db : Nat} {x y : Sc} {o : oM} (h : Hp R L M) [q : mS b L pa p wb db x L'] (hp : kU R pa p) (hd : x.d.k.Ok) (he : x.step p = some (y, o)) (k : Y5 R pa p b wb db L' K y o) :
  ae Tryz.prog 18 #[.pointer (some ⟨b, 0, none⟩)] M K Kp := by
 refine pS ?_
 replace h := h.pick q.pick
 refine av h ?_
 clear h
 intro k1 M h
 refine av h ?_
 clear h
 intro k3 M h
 refine av h ?_
 clear h
 intro k5 M h
 have Zd := E4 hd he
 cases o with
 | ev e =>
  refine uM (D := fun _ _ _ => False) (S := fun R' L2 => R.le R' ∧ ∃ A c, RS bu R' A c e.ready ∧ L2 = aB (dy pa p wb db) b y :: pt k5 [.int .i64 e.kind, .int .i64 e.m, .int .i64 e.g, .slice A e.ready.length c] 47 :: pt k3 [.int .i64 0, .int .i64 0, .int .i64 0, .slice none 0 0] 47 :: L') h ?_ ?_ ?_ ?_
  ·intro Q M K Kp h kk _
   refine Bm (args := []) ⟨by decide, by show _ < 228; decide⟩ ?_
   refine iE ?_
   refine tL h ?_
   refine uI h hp hd he ?_
   clear h; intro R' A c M hle nN hk h
   refine ⟨_, _, _, _, _, _, rfl, ?_⟩
   repeat (refine az h ?_; clear h; intro M h)
   exact kk R' _ M ⟨hle, A, c, nN, rfl⟩ (h.sub (by repeat (first | exact .refl | refine .cons (by repeat (first | exact .here | apply aF.there)) ?_ | apply Sub.drop)))
  ·exact fun _ _ _ hs => hs.elim
  ·rintro R' _ M ⟨hle, A, c, nN, rfl⟩ h
   refine ⟨_, _, _, _, _, _, rfl, ?_⟩
   refine av h ?_
   clear h
   intro fT M h
   repeat (first | (refine av h ?_; clear h; intro kb M h) | (refine az h ?_; clear h; intro M h) | refine St.to h ?_ | (apply Exists.intro; (repeat apply Exists.intro); refine And.intro rfl ?_) | (refine And.intro ?_ ?_; first | exact rfl | (refine aa (aj h) ?_; (repeat (refine aa (aj h) ?_)); exact ai) | omega) | refine aq ?_ | refine au ?_)
   exact k R' A c _ hle nN Zd (h.sub (by repeat (first | exact .refl | refine .cons (by repeat (first | exact .here | apply aF.there)) ?_ | apply Sub.drop)))
  ·exact fun _ _ _ _ _ _ _ _ _ _ hs => hs.elim
 | dG l =>
  obtain ⟨e, vs, hg⟩ := OH he
  refine uM (S := fun _ _ => False) (D := fun R' l' L2 => R' = R ∧ l' = l ∧ L2 = aB (dy pa p wb db) b y :: pt k5 [.int .i64 0, .int .i64 0, .int .i64 0, .slice none 0 0] 47 :: pt k3 [.int .i64 0, .int .i64 0, .int .i64 0, .slice none 0 0] 47 :: L') h ?_ ?_ ?_ ?_
  ·intro Q M K Kp h _ kk
   refine Bm (args := []) ⟨by decide, by show _ < 228; decide⟩ ?_
   refine iE ?_
   refine tL h ?_
   refine zu h hp hd he ?_
   intro M h
   exact kk R _ _ M ⟨rfl, rfl, rfl⟩ (h.sub (by repeat (first | exact .refl | refine .cons (by repeat (first | exact .here | apply aF.there)) ?_ | apply Sub.drop)))
  ·rintro R' l' L2 ⟨_, rfl, _⟩
   exact ⟨e, vs, hg⟩
  ·exact fun _ _ _ hs => hs.elim
  ·rintro R' l' _ M e a q n kx xx ⟨rfl, rfl, rfl⟩ hg h
   refine ⟨_, _, _, _, _, _, rfl, ?_⟩
   refine av h ?_
   clear h
   intro fT M h
   repeat (first | (refine av h ?_; clear h; intro kb M h) | (refine az h ?_; clear h; intro M h) | refine St.to h ?_ | (apply Exists.intro; (repeat apply Exists.intro); refine And.intro rfl ?_) | (refine And.intro ?_ ?_; first | exact rfl | (refine aa (aj h) ?_; (repeat (refine aa (aj h) ?_)); exact ai) | omega) | refine aq ?_ | refine au ?_)
   exact k _ _ _ hg Zd (h.sub (by repeat (first | exact .refl | refine .cons (by repeat (first | exact .here | apply aF.there)) ?_ | apply Sub.drop)))
end
end Go.Proofs
