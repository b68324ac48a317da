/- A part of proofs about one program. -/
import Derived.Test.YtnnlgknlialpmaaGreatZTaperSums5
set_option linter.unusedVariables false
namespace Go.Proofs
open Go.AF
set_option maxRecDepth 100000
set_option maxHeartbeats 1000000
attribute [local irreducible] aK dH fz cv az fC aE aN aW aX bL aQ
section
variable {R : Mem} {L L' : List HP} {M : Mem} {K : Value → Mem → Prop} {Kp : List PanicEntry → Mem → Prop} {b : Nat} {l : List Int}
theorem HA {k3 : Nat} {L0 : List HP} (hk : ∀ M, Hp R L0 M → M.ld ⟨k3, 0, none⟩ = some (.pointer (some ⟨b, 0, none⟩))) (v : Int) : rq R L0 b (.func (.func 93) #[] #[.pointer (some ⟨k3, 0, none⟩)]) (.int .i64 v) [v] := by
 intro l M K Kp h hb k
 refine rR (args := [.int .i64 v]) ⟨by decide, by show _ < 255; decide⟩ ?_
 refine zu ?_
 refine gH (hk M h.drop) ?_
 refine aj h ?_
 clear h
 intro k2 M h
 refine NX h (by simpa using hb) ?_
 clear h; intro M h
 exact ⟨rfl, k M h⟩
theorem BQ {k3 : Nat} {L0 : List HP} (hk : ∀ M, Hp R L0 M → M.ld ⟨k3, 0, none⟩ = some (.pointer (some ⟨b, 0, none⟩))) (v : Int) : rq R L0 b (.func (.func 134) #[] #[.pointer (some ⟨k3, 0, none⟩)]) (.int .i64 v) [v] := by
 intro l M K Kp h hb k
 refine rR (args := [.int .i64 v]) ⟨by decide, by show _ < 255; decide⟩ ?_
 refine mR ?_
 refine gH (hk M h.drop) ?_
 refine aj h ?_
 clear h
 intro k2 M h
 refine NX h (by simpa using hb) ?_
 clear h; intro M h
 exact ⟨rfl, k M h⟩
theorem oP {L0 : List HP} (w : Wt) : rq R L0 b (.func (.func 136) #[.pointer (some ⟨b, 0, none⟩)] #[]) (.agg #[.int .i64 w.g, .int .i64 w.cs, .int .i64 w.v]) (oO w) := by
 intro l M K Kp h hb k
 have hb : l.length + 3 ≤ 1000000000000 := hb
 refine iK (args := [.agg #[.int .i64 w.g, .int .i64 w.cs, .int .i64 w.v]]) ⟨by decide, by show _ < 255; decide⟩ ?_
 refine tx ?_
 refine aj h ?_
 clear h
 intro k1 M h
 refine ay h ?_
 refine b7 (b := b) h (by omega) ?_
 clear h; intro M h
 refine ⟨rfl, ay h ?_⟩
 refine b7 (b := b) h (by simp; omega) ?_
 clear h; intro M h
 refine ⟨rfl, ay h ?_⟩
 refine aj h ?_
 clear h
 intro c6 M h
 have h2 : Hp R (pt c6 [.int .i64 w.v] 2 :: ax iq b (l ++ [w.g] ++ [w.cs]) :: L0) M := h.sub bp
 clear h
 refine NX h2 (by simp; omega) ?_
 clear h2; intro M h
 refine ⟨rfl, k M ?_⟩
 simpa [oO] using h
theorem HB {L0 : List HP} (w : gV) : rq R L0 b (.func (.func 133) #[.pointer (some ⟨b, 0, none⟩)] #[]) (.agg (Po w).toArray) (lT w) := by
 intro l M K Kp h hb k
 have hb : l.length + 11 ≤ 1000000000000 := hb
 refine iK (args := [.agg (Po w).toArray]) ⟨by decide, by show _ < 255; decide⟩ ?_
 refine qF ?_
 refine aj h ?_
 clear h
 intro k1 M h
 refine ay h ?_
 refine b7 (b := b) h (by omega) ?_
 clear h; intro M h
 refine ⟨rfl, ay h ?_⟩
 refine b7 (b := b) h (by simp; omega) ?_
 clear h; intro M h
 refine ⟨rfl, by decide, by decide, by decide, by decide, by decide, by decide, ?_⟩
 have hsl : Sl M (kx (some ⟨k1, 0 + 2, none⟩) 0 8 1) (br.cells [w.r.getD 0 0, w.r.getD 1 0, w.r.getD 2 0, w.r.getD 3 0, w.r.getD 4 0, w.r.getD 5 0, w.r.getD 6 0, w.r.getD 7 0]) := by
  have e : kx (some ⟨k1, 0 + 2, none⟩) 0 8 1 = some ⟨k1, 2, none⟩ := by
   unfold kx; rw [if_neg (by omega)]; rfl
  rw [e]
  intro q hq
  have hq8 : q < 8 := by simpa [br, fP.cells] using hq
  obtain rfl | rfl | rfl | rfl | rfl | rfl | rfl | rfl : q = 0 ∨ q = 1 ∨ q = 2 ∨ q = 3 ∨ q = 4 ∨ q = 5 ∨ q = 6 ∨ q = 7 := by omega
  ·exact (bD h : M.ld ⟨k1, 0 + 2, none⟩ = _)
  ·exact (bD h : M.ld ⟨k1, 0 + 3, none⟩ = _)
  ·exact (bD h : M.ld ⟨k1, 0 + 4, none⟩ = _)
  ·exact (bD h : M.ld ⟨k1, 0 + 5, none⟩ = _)
  ·exact (bD h : M.ld ⟨k1, 0 + 6, none⟩ = _)
  ·exact (bD h : M.ld ⟨k1, 0 + 7, none⟩ = _)
  ·exact (bD h : M.ld ⟨k1, 0 + 8, none⟩ = _)
  ·exact (bD h : M.ld ⟨k1, 0 + 9, none⟩ = _)
 refine wP (b := b) (r := [w.r.getD 0 0, w.r.getD 1 0, w.r.getD 2 0, w.r.getD 3 0, w.r.getD 4 0, w.r.getD 5 0, w.r.getD 6 0, w.r.getD 7 0]) h hsl rfl (by simp; omega) ?_
 clear hsl
 clear h; intro M h
 refine ⟨rfl, ay h ?_⟩
 refine b7 (b := b) h (by simp; omega) ?_
 clear h; intro M h
 refine ⟨rfl, k M ?_⟩
 have h2 := h.sub (T := ax iq b (l ++ [w.fn] ++ [w.pc] ++ [w.r.getD 0 0, w.r.getD 1 0, w.r.getD 2 0, w.r.getD 3 0, w.r.getD 4 0, w.r.getD 5 0, w.r.getD 6 0, w.r.getD 7 0] ++ [w.pe]) :: L0) bp
 simpa [lT] using h2
theorem CH {k3 : Nat} {L0 : List HP} (hk : ∀ M, Hp R L0 M → M.ld ⟨k3, 0, none⟩ = some (.pointer (some ⟨b, 0, none⟩))) (w : zY) : rq R L0 b (.func (.func 130) #[] #[.pointer (some ⟨k3, 0, none⟩)]) (.agg #[.int .i64 w.p, .int .i64 w.g, .int .i64 w.left]) (kG w) := by
 intro l M K Kp h hb k
 have hb : l.length + 3 ≤ 1000000000000 := hb
 refine rR (args := [.agg #[.int .i64 w.p, .int .i64 w.g, .int .i64 w.left]]) ⟨by decide, by show _ < 255; decide⟩ ?_
 refine xN ?_
 refine aj h ?_
 clear h
 intro k1 M h
 refine gH (hk M h.drop.drop) (ay h ?_)
 refine b7 (b := b) h (by omega) ?_
 clear h; intro M h
 refine ⟨rfl, gH (hk M h.drop.drop) (ay h ?_)⟩
 refine b7 (b := b) h (by simp; omega) ?_
 clear h; intro M h
 refine ⟨rfl, gH (hk M h.drop.drop) (ay h ?_)⟩
 refine b7 (b := b) h (by simp; omega) ?_
 clear h; intro M h
 refine ⟨rfl, k M ?_⟩
 have h2 := h.sub (T := ax iq b (l ++ [w.p] ++ [w.g] ++ [w.left]) :: L0) bp
 simpa [kG] using h2
theorem zC {k3 : Nat} {L0 : List HP} (hk : ∀ M, Hp R L0 M → M.ld ⟨k3, 0, none⟩ = some (.pointer (some ⟨b, 0, none⟩))) {v : Int × (Option Addr × Nat × Nat) × Int × Int} {pr : dG} (hv : View R v pr) : rq R L0 b (.func (.func 127) #[] #[.pointer (some ⟨k3, 0, none⟩)]) (.agg #[.int .i64 v.1, .slice v.2.1.1 v.2.1.2.1 v.2.1.2.2, .int .i64 v.2.2.1, .int .i64 v.2.2.2]) (jk pr) := by
 intro l M K Kp h hb k
 obtain ⟨v1, v2, v3, v4, v5⟩ := hv
 rw [v1, v2, v4, v5]
 have hb : l.length + (pr.q.l.length + 4) ≤ 1000000000000 := by simpa [jk] using hb
 refine rR (args := [.agg #[.int .i64 pr.q.next, .slice v.2.1.1 pr.q.l.length v.2.1.2.2, .int .i64 pr.turns, .int .i64 pr.hO]]) ⟨by decide, by show _ < 255; decide⟩ ?_
 refine xM ?_
 refine aj h ?_
 clear h
 intro k1 M h
 refine gH (hk M h.drop.drop) (ay h ?_)
 refine b7 (b := b) h (by omega) ?_
 clear h; intro M h
 refine ⟨rfl, gH (hk M h.drop.drop) (aF h ?_)⟩
 refine yo (xs := pr.q.l) h v3.src rfl (by simp; omega) ?_
 clear h; intro M h
 refine ⟨rfl, gH (hk M h.drop.drop) (ay h ?_)⟩
 refine b7 (b := b) h (by simp; omega) ?_
 clear h; intro M h
 refine ⟨rfl, gH (hk M h.drop.drop) (ay h ?_)⟩
 refine b7 (b := b) h (by simp; omega) ?_
 clear h; intro M h
 refine ⟨rfl, k M ?_⟩
 have h2 := h.sub (T := ax iq b (l ++ [pr.q.next] ++ ((pr.q.l.length : Int) :: pr.q.l) ++ [pr.turns] ++ [pr.hO]) :: L0) bp
 simpa [jk] using h2
def ru (c : aZ) : List Int := (if c.closed then 1 else 0) :: ((c.buf.length : Int) :: c.buf) ++ ((c.snd.length : Int) :: c.snd.flatMap oO) ++ ((c.dy.length : Int) :: c.dy.flatMap oO)
theorem nN (xs : List Wt) : (xs.flatMap oO).length = 3 * xs.length := by
 induction xs with
 | nil => rfl
 | cons a l ih => simp only [List.flatMap_cons, List.length_append, ih, List.length_cons]; simp [oO]; omega
theorem E4 {c : aZ} {A B D : Option Addr} {ca cb cd : Nat} {L0 : List HP} (h : Hp R (ax iq b l :: L0) M) (hs : c.Small 1000000) (hA : Src R L0 A (br.cells c.buf)) (hB : Src R L0 B (fA.cells c.snd)) (hD : Src R L0 D (fA.cells c.dy)) (hb : l.length + (ru c).length ≤ 1000000000000)
  (k : ∀ M', Hp R (ax iq b (l ++ ru c) :: L0) M' → K (.tuple #[]) M') : aa Tryz.prog 88 #[.pointer (some ⟨b, 0, none⟩), .agg #[.slice A c.buf.length ca, .slice B c.snd.length cb, .slice D c.dy.length cd, .bool c.closed]] M K Kp := by
 refine oF ?_
 obtain ⟨s1, s2, s3⟩ := hs
 have hb' : l.length + (4 + c.buf.length + 3 * c.snd.length + 3 * c.dy.length) ≤ 1000000000000 := by
  simp only [ru, List.length_append, List.length_cons, nN] at hb; omega
 refine aj h ?_
 clear h
 intro k1 M h
 refine aj h ?_
 clear h
 intro k3 M h
 have d2 : ∀ M, Hp R (pt k3 [.slice A c.buf.length ca, .slice B c.snd.length cb, .slice D c.dy.length cd, .bool c.closed] 197 :: pt k1 [.pointer (some ⟨b, 0, none⟩)] 187 :: L0) M → M.ld ⟨k1, 0, none⟩ = some (.pointer (some ⟨b, 0, none⟩)) := fun M h => bD h
 have sA : Src R (pt k3 [.slice A c.buf.length ca, .slice B c.snd.length cb, .slice D c.dy.length cd, .bool c.closed] 197 :: pt k1 [.pointer (some ⟨b, 0, none⟩)] 187 :: L0) A (br.cells c.buf) := fun M h => hA M h.drop.drop
 have sB : Src R (pt k3 [.slice A c.buf.length ca, .slice B c.snd.length cb, .slice D c.dy.length cd, .bool c.closed] 197 :: pt k1 [.pointer (some ⟨b, 0, none⟩)] 187 :: L0) B (fA.cells c.snd) := fun M h => hB M h.drop.drop
 have sD : Src R (pt k3 [.slice A c.buf.length ca, .slice B c.snd.length cb, .slice D c.dy.length cd, .bool c.closed] 197 :: pt k1 [.pointer (some ⟨b, 0, none⟩)] 187 :: L0) D (fA.cells c.dy) := fun M h => hD M h.drop.drop
 refine FX h ?_
 cases QZ : c.closed
 ·refine ai (cK h ?_)
  refine aj h ?_
  clear h
  intro k7 M h
  have h2 : Hp R (pt k7 [.int .i64 0] 2 :: ax iq b l :: pt k3 [.slice A c.buf.length ca, .slice B c.snd.length cb, .slice D c.dy.length cd, .bool c.closed] 197 :: pt k1 [.pointer (some ⟨b, 0, none⟩)] 187 :: L0) M := h.sub bp
  clear h
  refine NX h2 (by omega) ?_
  clear h2; intro M h
  refine ⟨rfl, cK h (aF h ?_)⟩
  refine va (xs := c.buf) h sA rfl (fun v _ => BQ d2 v) (by simp only [List.length_append, List.length_cons, List.length_nil]; omega) ?_
  clear h; intro M h
  refine ⟨rfl, cK h (aF h (cK h ?_))⟩
  refine si (xs := c.snd) h sB rfl (fun w _ => oP w) (by simp only [List.length_append, List.length_cons, List.length_nil, nN]; omega) (by omega) ?_
  clear h; intro M h
  refine ⟨rfl, cK h (aF h (cK h ?_))⟩
  refine si (xs := c.dy) h sD rfl (fun w _ => oP w) (by simp only [List.length_append, List.length_cons, List.length_nil, nN]; omega) (by omega) ?_
  clear h; intro M h
  refine ⟨rfl, k M ?_⟩
  have h3 : Hp R (ax iq b (l ++ [0] ++ ((c.buf.length : Int) :: c.buf) ++ ((c.snd.length : Int) :: c.snd.flatMap oO) ++ ((c.dy.length : Int) :: c.dy.flatMap oO)) :: L0) M := h.sub bp
  simpa [ru, QZ] using h3
 ·refine ae (cK h ?_)
  refine aj h ?_
  clear h
  intro k7 M h
  have h2 : Hp R (pt k7 [.int .i64 1] 2 :: ax iq b l :: pt k3 [.slice A c.buf.length ca, .slice B c.snd.length cb, .slice D c.dy.length cd, .bool c.closed] 197 :: pt k1 [.pointer (some ⟨b, 0, none⟩)] 187 :: L0) M := h.sub bp
  clear h
  refine NX h2 (by omega) ?_
  clear h2; intro M h
  refine ⟨rfl, cK h (aF h ?_)⟩
  refine va (xs := c.buf) h sA rfl (fun v _ => BQ d2 v) (by simp only [List.length_append, List.length_cons, List.length_nil]; omega) ?_
  clear h; intro M h
  refine ⟨rfl, cK h (aF h (cK h ?_))⟩
  refine si (xs := c.snd) h sB rfl (fun w _ => oP w) (by simp only [List.length_append, List.length_cons, List.length_nil, nN]; omega) (by omega) ?_
  clear h; intro M h
  refine ⟨rfl, cK h (aF h (cK h ?_))⟩
  refine si (xs := c.dy) h sD rfl (fun w _ => oP w) (by simp only [List.length_append, List.length_cons, List.length_nil, nN]; omega) (by omega) ?_
  clear h; intro M h
  refine ⟨rfl, k M ?_⟩
  have h3 : Hp R (ax iq b (l ++ [1] ++ ((c.buf.length : Int) :: c.buf) ++ ((c.snd.length : Int) :: c.snd.flatMap oO) ++ ((c.dy.length : Int) :: c.dy.flatMap oO)) :: L0) M := h.sub bp
  simpa [ru, QZ] using h3
end
def CI (y : js) : List Int := y.st :: (y.fs.length : Int) :: y.fs.flatMap lT
def tM (k : Lk) : List Int := k.owner :: (k.waits.length : Int) :: k.waits
def ry (i : bz) : List Int := [IntKind.wrap .i64 i.t, IntKind.wrap .i64 i.seq, i.id]
def NY (x : Wd) (nc nl : Nat) : List Int := [x.end_, x.code, IntKind.wrap .i64 x.clock] ++ ((x.gs.length : Int) :: x.gs.flatMap CI) ++ (x.aB.take nc).flatMap ru ++ (x.aI.take nl).flatMap tM ++
 (((di x.hl.length x.hl).length : Int) :: (di x.hl.length x.hl).flatMap ry) ++ ((x.out.length : Int) :: x.out)
def Sg (x : Sc) : List Int := [x.steps, x.status] ++ ((x.gl.length : Int) :: x.gl) ++ ((x.ps.length : Int) :: x.ps.flatMap jk) ++ ((x.ms.length : Int) :: x.ms.flatMap kG)
section
variable {R : Mem} {L L' : List HP} {M : Mem} {K : Value → Mem → Prop} {Kp : List PanicEntry → Mem → Prop} {b wb : Nat} {l : List Int} {pa : PA} {p : cu} {x : Wd}
theorem YV {i : Nat} {w : js} (h : x.gs[i]? = some w) : aq x (i : Int) = w := by simp [aq, h]
theorem zD {L0 : List HP} (h : Hp R (ax iq b l :: ax (bj pa p) wb x :: L0) M) (hg : ∀ g : Int, 0 ≤ g → g < x.gs.length → bn x g) (YN : x.gs.length ≤ 1000) (hb : l.length + ((x.gs.flatMap CI).length + 1) ≤ 1000000000000)
  (k : ∀ M', Hp R (ax iq b (l ++ ((x.gs.length : Int) :: x.gs.flatMap CI)) :: ax (bj pa p) wb x :: L0) M' → K (.tuple #[]) M') : aa Tryz.prog 87 #[.pointer (some ⟨b, 0, none⟩), .pointer (some ⟨wb, 0, none⟩)] M K Kp := by
 refine mb ?_
 refine Dz (b := wb) h (bW ?_)
 refine b7 (b := b) h (by omega) ?_
 clear h; intro M h
 refine ⟨rfl, ?_⟩
 refine Dz (b := wb) h (bW ?_)
 refine ⟨fun d ws M => ∃ i : Nat, ws = [.int .i64 (i : Int)] ∧ d = x.gs.length - i ∧ i ≤ x.gs.length ∧ Hp R (ax iq b (l ++ ((x.gs.length : Int) :: (x.gs.take i).flatMap CI)) :: ax (bj pa p) wb x :: L0) M, ⟨_, 0, rfl, rfl, by omega, by simpa using h⟩, ?_⟩
 clear h
 rintro d _ ii M ⟨i, he, hd, hi, h⟩
 simp only [List.cons.injEq, Value.int.injEq, and_true, true_and] at he
 subst he
 refine aJ.2 ⟨fun hlt => ?_, fun hge => k M (by rw [List.take_of_length_le (by omega)] at h; exact h)⟩
 obtain ⟨w, hw⟩ := aM (l := x.gs) (i := i) (by omega)
 have Ls := hg (i : Int) (by omega) hlt
 have ZD := YV hw
 have hfl : w.fs.length ≤ 1000 := by have := Ls.2.2.2; rw [ZD] at this; exact this
 have yl : ((x.gs.take (i + 1)).flatMap CI).length ≤ (x.gs.flatMap CI).length := lS CI x.gs (i + 1)
 have e1 : [w].flatMap CI = CI w := by simp
 rw [bu hw, List.flatMap_append, List.length_append, e1] at yl
 have hsl : (CI w).length = 2 + (w.fs.flatMap lT).length := by simp [CI]; omega
 refine wG (b := wb) h (by omega) hlt (bW ?_)
 rw [ZD]
 refine b7 (b := b) h (by simp only [List.length_append, List.length_cons]; omega) ?_
 clear h; intro M h
 refine ⟨rfl, ?_⟩
 refine G5 (b := wb) h Ls ?_
 rw [ZD]
 clear h; intro bs c M h
 refine aO ?_
 have h2 : Hp R (ax iq b (l ++ ((x.gs.length : Int) :: (x.gs.take i).flatMap CI) ++ [w.st]) :: tH (some ⟨bs, 0, none⟩) c w.fs :: ax (bj pa p) wb x :: L0) M := h.sub bp
 clear h
 refine Ke (xs := w.fs) h2 (Src.row (A := some ⟨bs, 0, none⟩)) rfl (fun f _ => HB f) (by simp only [List.length_append, List.length_cons, List.length_nil]; omega) (by omega) ?_
 clear h2; intro M h
 refine ⟨rfl, x.gs.length - (i + 1), by omega, i + 1, by rw [aP (by omega)], rfl, by omega, ?_⟩
 rw [bu hw, List.flatMap_append, e1]
 have h3 : Hp R (ax iq b (l ++ ((x.gs.length : Int) :: (x.gs.take i).flatMap CI) ++ [w.st] ++ ((w.fs.length : Int) :: w.fs.flatMap lT)) :: ax (bj pa p) wb x :: L0) M := h.sub bp
 simpa [CI] using h3
theorem vb : ∀ (n : Nat) (l : List bz), (di n l).length ≤ n
 | 0, l => by simp [di]
 | n + 1, l => by
  rw [wJ]
  split
  ·have := vb n (cX l 0); simp only [List.length_cons]; omega
  ·simp
theorem YW {i : Nat} {c : aZ} (h : x.aB[i]? = some c) : cZ x.aB (i : Int) = c := by simp [cZ, h]
theorem YX {i : Nat} {c : Lk} (h : x.aI[i]? = some c) : jV x (i : Int) = c := by simp [jV, h]
theorem DQ {α : Type} (f : α → List Int) (xs : List α) {i n : Nat} (h : i ≤ n) : ((xs.take i).flatMap f).length ≤ ((xs.take n).flatMap f).length := by
 have : xs.take i = (xs.take n).take i := by rw [List.take_take, Nat.min_eq_left h]
 rw [this]
 exact lS f (xs.take n) i
theorem Kf {c1 c2 : Int} (h : Hp R L M) [o : CE wb L pa p x L'] (hg : ∀ g : Int, 0 ≤ g → g < x.gs.length → bn x g) (hs : ({ x with ready := [] } : Wd).Sm) (h1 : c1 ≤ x.aB.length) (h2 : c2 ≤ x.aI.length) (hb : (NY x c1.toNat c2.toNat).length ≤ 1000000000000)
  (k : ∀ A c M', Hp R (iO A c (NY x c1.toNat c2.toNat) :: ax (bj pa p) wb x :: L') M' → K (.slice A (NY x c1.toNat c2.toNat).length c) M') : aa Tryz.prog 41 #[.pointer (some ⟨wb, 0, none⟩), .int .i64 c1, .int .i64 c2] M K Kp := by
 refine Cu ?_
 replace h := h.pick o.pick
 clear o
 obtain ⟨s1, s2, s3, s4, s5, s6, s7, s8⟩ := hs
 change ∀ c ∈ x.aB, c.Small 1000000 at s1
 change x.aB.length ≤ 1000 at s2
 change x.gs.length ≤ 1000 at s3
 change x.out.length ≤ 1000000 at s5
 change ∀ l ∈ x.aI, l.waits.length ≤ 1000000 at s6
 change x.aI.length ≤ 1000 at s7
 change x.hl.length ≤ 1000000 at s8
 have hbs : (x.gs.flatMap CI).length + ((x.aB.take c1.toNat).flatMap ru).length + ((x.aI.take c2.toNat).flatMap tM).length + ((di x.hl.length x.hl).flatMap ry).length + x.out.length + 6 ≤ 1000000000000 := by
  simp only [NY, List.length_append, List.length_cons, List.length_nil] at hb; omega
 have hhl := vb x.hl.length x.hl
 refine aj h ?_
 clear h; intro k1 M h
 replace h := h.bR br 2
 have h0 : Hp R (ax iq k1 [] :: ax (bj pa p) wb x :: L') M := Rz (A := none) (c := 0) (l := []) (h.sub bp)
 clear h
 refine aj h0 ?_
 clear h0; intro k3 M h
 refine au h ?_
 clear h; intro M h
 refine ya (b := wb) h ⟨_, _, rfl, cK h ?_⟩
 refine b7 (b := k1) h (by simp) ?_
 clear h; intro M h
 refine ⟨rfl, cK h ?_⟩
 refine b7 (b := k1) h (by simp) ?_
 clear h; intro M h
 refine ⟨rfl, cK h ?_⟩
 refine Hl (b := wb) h (bW ⟨bD h, ?_⟩)
 refine aj h ?_
 clear h; intro iM M h
 have Uk : Hp R (pt iM [.int .i64 (IntKind.wrap .i64 x.clock)] 2 :: ax iq k1 ([] ++ [x.end_] ++ [x.code]) :: pt k3 [.pointer (some ⟨k1, 0, none⟩)] 187 :: ax (bj pa p) wb x :: L') M := h.sub bp
 clear h
 refine NX Uk (by simp) ?_
 clear Uk; intro M h
 refine ⟨rfl, bD h, cK h ?_⟩
 have h3 : Hp R (ax iq k1 ([] ++ [x.end_] ++ [x.code] ++ [IntKind.wrap .i64 x.clock]) :: ax (bj pa p) wb x :: pt k3 [.pointer (some ⟨k1, 0, none⟩)] 187 :: L') M := h.sub bp
 clear h
 refine zD h3 hg s3 (by simp only [List.length_append, List.length_cons, List.length_nil]; omega) ?_
 clear h3; intro M h
 refine ⟨rfl, ?_⟩
 have eh : ([] ++ [x.end_] ++ [x.code] ++ [IntKind.wrap .i64 x.clock] ++ ((x.gs.length : Int) :: x.gs.flatMap CI) : List Int) = [x.end_, x.code, IntKind.wrap .i64 x.clock] ++ ((x.gs.length : Int) :: x.gs.flatMap CI) := by simp
 rw [eh] at h
 generalize hl0 : [x.end_, x.code, IntKind.wrap .i64 x.clock] ++ ((x.gs.length : Int) :: x.gs.flatMap CI) = l0 at h
 have ll0 : l0.length = 4 + (x.gs.flatMap CI).length := by rw [← hl0]; simp only [List.length_append, List.length_cons, List.length_nil]; omega
 refine ⟨fun d ws M => ∃ i : Nat, ws = [.int .i64 (i : Int)] ∧ d = c1.toNat - i ∧ i ≤ c1.toNat ∧ Hp R (ax iq k1 (l0 ++ (x.aB.take i).flatMap ru) :: ax (bj pa p) wb x :: pt k3 [.pointer (some ⟨k1, 0, none⟩)] 187 :: L') M, ⟨_, 0, rfl, rfl, by omega, by simpa using h⟩, ?_⟩
 clear h
 rintro d _ ii M ⟨i, he, hd, hi, h⟩
 simp only [List.cons.injEq, Value.int.injEq, and_true, true_and] at he
 subst he
 refine aJ.2 ⟨fun hlt => ?_, fun hge => ?_⟩
 ·obtain ⟨w, hw⟩ := aM (l := x.aB) (i := i) (by omega)
  have hcw := YW hw
  have zi : (cZ x.aB (i : Int)).Small 1000000 := by rw [hcw]; exact s1 w (List.mem_of_getElem? hw)
  have yl := DQ ru x.aB (i := i + 1) (n := c1.toNat) (by omega)
  have e1 : [w].flatMap ru = ru w := by simp
  rw [bu hw, List.flatMap_append, List.length_append, e1] at yl
  refine cK h ?_
  refine JQ (b := wb) h ⟨by omega, by omega⟩ zi ?_
  rw [hcw] at zi ⊢
  clear h; intro A ca B cb D cd M h
  refine ⟨_, _, _, _, _, _, _, _, _, _, rfl, bD h, ?_⟩
  have h4 : Hp R (ax iq k1 (l0 ++ (x.aB.take i).flatMap ru) :: nm D cd w.dy :: nm B cb w.snd :: iO A ca w.buf :: ax (bj pa p) wb x :: pt k3 [.pointer (some ⟨k1, 0, none⟩)] 187 :: L') M := h.sub bp
  clear h
  refine E4 (c := w) h4 zi (Src.row (A := A)) (Src.row (A := B)) (Src.row (A := D)) (by simp only [List.length_append]; omega) ?_
  clear h4; intro M h
  refine ⟨rfl, bD h, c1.toNat - (i + 1), by omega, i + 1, by rw [aP (by omega)], rfl, by omega, ?_⟩
  rw [bu hw, List.flatMap_append, e1, ← List.append_assoc]
  exact h.sub bp
 have JT : i = c1.toNat := by omega
 subst JT
 generalize hl1 : l0 ++ (x.aB.take c1.toNat).flatMap ru = l1 at h
 have ll1 : l1.length = l0.length + ((x.aB.take c1.toNat).flatMap ru).length := by rw [← hl1]; simp
 refine ⟨fun d ws M => ∃ i : Nat, ws = [.int .i64 (i : Int)] ∧ d = c2.toNat - i ∧ i ≤ c2.toNat ∧ Hp R (ax iq k1 (l1 ++ (x.aI.take i).flatMap tM) :: ax (bj pa p) wb x :: pt k3 [.pointer (some ⟨k1, 0, none⟩)] 187 :: L') M, ⟨_, 0, rfl, rfl, by omega, by simpa using h⟩, ?_⟩
 clear h hge hd hi
 rintro d _ ii M ⟨i, he, hd, hi, h⟩
 simp only [List.cons.injEq, Value.int.injEq, and_true, true_and] at he
 subst he
 refine aJ.2 ⟨fun hlt => ?_, fun hge => ?_⟩
 ·obtain ⟨w, hw⟩ := aM (l := x.aI) (i := i) (by omega)
  have hcw := YX hw
  have zi := s6 w (List.mem_of_getElem? hw)
  have yl := DQ tM x.aI (i := i + 1) (n := c2.toNat) (by omega)
  have e1 : [w].flatMap tM = tM w := by simp
  rw [bu hw, List.flatMap_append, List.length_append, e1] at yl
  have hwl : (tM w).length = 2 + w.waits.length := by simp [tM]; omega
  refine J1 (b := wb) h (by omega) (by omega) (by rw [hcw]; exact zi) ?_
  rw [hcw]
  clear h; intro A ca M h
  refine ⟨_, _, _, _, rfl, cK h ?_⟩
  refine b7 (b := k1) h (by simp only [List.length_append]; omega) ?_
  clear h; intro M h
  refine ⟨rfl, cK h ?_⟩
  have h4 : Hp R (ax iq k1 (l1 ++ (x.aI.take i).flatMap tM ++ [w.owner]) :: iZ A ca w.waits :: ax (bj pa p) wb x :: pt k3 [.pointer (some ⟨k1, 0, none⟩)] 187 :: L') M := h.sub bp
  clear h
  refine yo (xs := w.waits) h4 (Src.row (A := A)) rfl (by simp only [List.length_append, List.length_cons, List.length_nil]; omega) ?_
  clear h4; intro M h
  refine ⟨rfl, c2.toNat - (i + 1), by omega, i + 1, by rw [aP (by omega)], rfl, by omega, ?_⟩
  rw [bu hw, List.flatMap_append, e1]
  have h5 : Hp R (ax iq k1 (l1 ++ (x.aI.take i).flatMap tM ++ [w.owner] ++ ((w.waits.length : Int) :: w.waits)) :: ax (bj pa p) wb x :: pt k3 [.pointer (some ⟨k1, 0, none⟩)] 187 :: L') M := h.sub bp
  simpa [tM] using h5
 have JT : i = c2.toNat := by omega
 subst JT
 generalize kj : l1 ++ (x.aI.take c2.toNat).flatMap tM = l2 at h
 have ll2 : l2.length = l1.length + ((x.aI.take c2.toNat).flatMap tM).length := by rw [← kj]; simp
 refine Bp (b := wb) h s8 ?_
 clear h; intro A ca M h
 generalize hhs : di x.hl.length x.hl = hs at *
 refine aO (cK h ?_)
 refine b7 (b := k1) h (by omega) ?_
 clear h; intro M h
 refine ⟨rfl, ?_⟩
 have h4 : Hp R (ax iq k1 (l2 ++ [(hs.length : Int)]) :: ee A ca hs :: ax (bj pa p) wb x :: pt k3 [.pointer (some ⟨k1, 0, none⟩)] 187 :: L') M := h.sub bp
 clear h
 refine ⟨fun d ws M => ∃ i : Nat, ws = [.int .i64 (i : Int)] ∧ d = hs.length - i ∧ i ≤ hs.length ∧ Hp R (ax iq k1 (l2 ++ ((hs.length : Int) :: (hs.take i).flatMap ry)) :: ee A ca hs :: ax (bj pa p) wb x :: pt k3 [.pointer (some ⟨k1, 0, none⟩)] 187 :: L') M, ⟨_, 0, rfl, rfl, by omega, by simpa using h4⟩, ?_⟩
 clear h4 hge hd hi
 rintro d _ ii M ⟨i, he, hd, hi, h⟩
 simp only [List.cons.injEq, Value.int.injEq, and_true, true_and] at he
 subst he
 refine aJ.2 ⟨fun hlt => ?_, fun hge => ?_⟩
 ·obtain ⟨w, hw⟩ := aM (l := hs) (i := i) (by omega)
  have yl : ((hs.take (i + 1)).flatMap ry).length ≤ (hs.flatMap ry).length := lS ry hs (i + 1)
  have e1 : [w].flatMap ry = ry w := by simp
  rw [bu hw, List.flatMap_append, List.length_append, e1] at yl
  have hwl : (ry w).length = 3 := rfl
  have hA : Src R (ee A ca hs :: ax (bj pa p) wb x :: pt k3 [.pointer (some ⟨k1, 0, none⟩)] 187 :: L') A (lH.cells hs) := Src.row (A := A)
  obtain ⟨bb, oo, rfl⟩ := hA.ie h.drop (by omega) (by decide)
  refine ⟨by omega, hlt, aY ?_⟩
  simp only [Int.toNat_natCast]
  refine aR (hA.at h.drop (i := i) (j := 0) hw rfl (by simp [lH])) ?_
  refine aR (hA.at h.drop (i := i) (j := 1) hw rfl (by simp [lH]; omega)) ?_
  refine aR (hA.at h.drop (i := i) (j := 2) hw rfl (by simp [lH]; omega)) ?_
  clear hA
  refine aj h ?_
  clear h; intro Ww M h
  refine au h ?_
  clear h; intro M h
  refine au h ?_
  clear h; intro M h
  refine au h ?_
  clear h; intro M h
  refine cK h (ay h (ay h (ay h ?_)))
  refine aj h ?_
  clear h; intro Zq M h
  replace h := (h.pt Zq).gu (E := br) (l := ry w) rfl
  refine wP (b := k1) (r := ry w) h (h.src (A := some ⟨Zq, 0, none⟩) M h) rfl (by simp only [List.length_append, List.length_cons]; omega) ?_
  clear h; intro M h
  refine ⟨rfl, hs.length - (i + 1), by omega, i + 1, by rw [aP (by omega)], rfl, by omega, ?_⟩
  rw [bu hw, List.flatMap_append, e1]
  have h5 : Hp R (ax iq k1 (l2 ++ ((hs.length : Int) :: (hs.take i).flatMap ry) ++ ry w) :: ee (some ⟨bb, oo, none⟩) ca hs :: ax (bj pa p) wb x :: pt k3 [.pointer (some ⟨k1, 0, none⟩)] 187 :: L') M := h.sub bp
  simpa using h5
 have JT : i = hs.length := by omega
 subst JT
 rw [List.take_length] at h
 refine cK h ?_
 refine DA (b := wb) h s5 ?_
 clear h; intro B cb M h
 refine aO ⟨bD h, ?_⟩
 have h5 : Hp R (ax iq k1 (l2 ++ ((hs.length : Int) :: hs.flatMap ry)) :: iO B cb x.out :: pt k3 [.pointer (some ⟨k1, 0, none⟩)] 187 :: ax (bj pa p) wb x :: L') M := h.sub bp
 clear h
 refine va (xs := x.out) h5 (Src.row (A := B)) rfl (fun v _ => HA (fun M h => bD h) v) (by simp only [List.length_append, List.length_cons]; omega) ?_
 clear h5; intro M h
 refine ⟨rfl, bD h, cK h (aY ?_)⟩
 have h6 : Hp R (ax iq k1 (l2 ++ ((hs.length : Int) :: hs.flatMap ry) ++ ((x.out.length : Int) :: x.out)) :: ax (bj pa p) wb x :: L') M := h.sub bp
 clear h
 have ef : l2 ++ ((hs.length : Int) :: hs.flatMap ry) ++ ((x.out.length : Int) :: x.out) = NY x c1.toNat c2.toNat := by
  unfold NY
  rw [hhs, ← kj, ← hl1, ← hl0]
 rw [ef] at h6
 have h7 := E2 h6 (b := k1)
 clear h6
 obtain ⟨A2, c2', h⟩ := h7
 refine aF h ?_
 exact k A2 c2' M (h.sub bp)
end
def aG (n m : Int) : Int := if m < 1 then 0 else Int.tmod (IntKind.wrap .i64 (Int.tmod n m + m)) m
theorem dm {n m : Int} (hm : 1 ≤ m) (hb : m < 4611686018427387904) : 0 ≤ aG n m ∧ aG n m < m := by
 have h1 := Int.tmod_lt_of_pos n (show 0 < m by omega)
 have h2 := Int.lt_tmod_of_pos n (show 0 < m by omega)
 unfold aG
 rw [if_neg (by omega), dc (by omega) (by omega)]
 have h3 : 0 ≤ Int.tmod n m + m := by omega
 exact ⟨Int.tmod_nonneg m h3, Int.tmod_lt_of_pos _ (by omega)⟩
def y5 (nf nc iz lk lf : Int) (x : cN) : cN :=
 if aG x.op 23 = 1 then ⟨1, aG x.a 8, x.b, 0⟩
 else if aG x.op 23 = 2 then ⟨2, aG x.a 8, aG x.b 8, 0⟩
 else if aG x.op 23 = 3 then ⟨aG x.op 23, aG x.a 8, aG x.b 8, aG x.c 8⟩
 else if aG x.op 23 = 4 then ⟨aG x.op 23, aG x.a 8, aG x.b 8, aG x.c 8⟩
 else if aG x.op 23 = 5 then ⟨aG x.op 23, aG x.a 8, aG x.b 8, aG x.c 8⟩
 else if aG x.op 23 = 6 then ⟨aG x.op 23, aG x.a 8, aG x.b 8, aG x.c 8⟩
 else if aG x.op 23 = 7 then ⟨7, aG x.a lf, 0, 0⟩
 else if aG x.op 23 = 8 then ⟨8, aG x.a 8, aG x.b lf, 0⟩
 else if aG x.op 23 = 9 then ⟨aG x.op 23, aG x.a nf, aG x.b 8, aG x.c 8⟩
 else if aG x.op 23 = 11 then ⟨aG x.op 23, aG x.a nf, aG x.b 8, aG x.c 8⟩
 else if aG x.op 23 = 10 then ⟨aG x.op 23, aG x.a 8, 0, 0⟩
 else if aG x.op 23 = 17 then ⟨aG x.op 23, aG x.a 8, 0, 0⟩
 else if aG x.op 23 = 20 then ⟨aG x.op 23, aG x.a 8, 0, 0⟩
 else if aG x.op 23 = 13 then (if nc = 0 then .zero else ⟨aG x.op 23, aG x.a nc, aG x.b 8, 0⟩)
 else if aG x.op 23 = 14 then (if nc = 0 then .zero else ⟨aG x.op 23, aG x.a nc, aG x.b 8, aG x.c 8⟩)
 else if aG x.op 23 = 15 then (if nc = 0 then .zero else ⟨aG x.op 23, aG x.a nc, 0, 0⟩)
 else if aG x.op 23 = 16 then (if iz = 0 then .zero else ⟨16, aG x.a iz, 1 + aG x.b (iz - aG x.a iz), aG x.c 8⟩)
 else if aG x.op 23 = 18 then (if lk = 0 then .zero else ⟨aG x.op 23, aG x.a lk, 0, 0⟩)
 else if aG x.op 23 = 19 then (if lk = 0 then .zero else ⟨aG x.op 23, aG x.a lk, 0, 0⟩)
 else if aG x.op 23 = 21 then ⟨21, aG x.a 8, 1 + aG x.b 1000, 0⟩
 else if aG x.op 23 = 22 then ⟨22, aG x.a 1000, 0, 0⟩
 else ⟨aG x.op 23, 0, 0, 0⟩
def dg (nf nc iz lk lf : Int) (i : cN) : Prop := 0 ≤ i.op ∧ i.op < 23 ∧ i.cC ∧ (i.op = 7 → 0 ≤ i.a ∧ i.a < lf) ∧ (i.op = 8 → 0 ≤ i.b ∧ i.b < lf) ∧
 (i.op = 9 ∨ i.op = 11 → 0 ≤ i.a ∧ i.a < nf ∧ be i.b ∧ be i.c) ∧ (i.op = 10 ∨ i.op = 17 ∨ i.op = 20 ∨ i.op = 21 → be i.a) ∧
 (i.op = 13 ∨ i.op = 14 ∨ i.op = 15 → 0 ≤ i.a ∧ i.a < nc) ∧ (i.op = 13 ∨ i.op = 14 → be i.b) ∧ (i.op = 14 ∨ i.op = 16 → be i.c) ∧
 (i.op = 16 → 0 ≤ i.a ∧ 1 ≤ i.b ∧ i.a + i.b ≤ iz) ∧ (i.op = 18 ∨ i.op = 19 → 0 ≤ i.a ∧ i.a < lk) ∧ (i.op = 21 → 1 ≤ i.b ∧ i.b < 1099511627776)
theorem dg.ok {p : cu} {f : List cN} {i : cN} (h : dg p.funcs.length p.dU.length p.cases.length p.aI f.length i) : jW p f i := h
theorem dg.zero {nf nc iz lk lf : Int} : dg nf nc iz lk lf .zero := by
 simp [dg, cN.cC, cN.zero]
theorem jF {nf nc iz lk lf : Int} {p : Prop} [Decidable p] {x y : cN} (h1 : p → dg nf nc iz lk lf x) (h2 : ¬ p → dg nf nc iz lk lf y) : dg nf nc iz lk lf (if p then x else y) := by
 split
 ·exact h1 ‹_›
 ·exact h2 ‹_›
theorem RA {nf nc iz lk lf : Int} {x : cN} (hf : 1 ≤ nf ∧ nf ≤ 5) (hc : 0 ≤ nc ∧ nc ≤ 4) (hcs : 0 ≤ iz ∧ iz ≤ 8) (hl : 0 ≤ lk ∧ lk ≤ 3) (hlf : 1 ≤ lf ∧ lf ≤ 20) : dg nf nc iz lk lf (y5 nf nc iz lk lf x) := by
 have a8 := dm (n := x.a) (m := 8) (by omega) (by omega)
 have b8 := dm (n := x.b) (m := 8) (by omega) (by omega)
 have c8 := dm (n := x.c) (m := 8) (by omega) (by omega)
 have o23 := dm (n := x.op) (m := 23) (by omega) (by omega)
 have af := dm (n := x.a) (m := lf) (by omega) (by omega)
 have bf := dm (n := x.b) (m := lf) (by omega) (by omega)
 have an := dm (n := x.a) (m := nf) (by omega) (by omega)
 have b1000 := dm (n := x.b) (m := 1000) (by omega) (by omega)
 have ac : nc ≠ 0 → _ := fun e => dm (n := x.a) (m := nc) (by omega) (by omega)
 have al : lk ≠ 0 → _ := fun e => dm (n := x.a) (m := lk) (by omega) (by omega)
 have zE : iz ≠ 0 → _ := fun e => dm (n := x.a) (m := iz) (by omega) (by omega)
 have BR : iz ≠ 0 → _ := fun e => dm (n := x.b) (m := iz - aG x.a iz) (by have := zE e; omega) (by have := zE e; omega)
 have p1 : dg nf nc iz lk lf ⟨1, aG x.a 8, x.b, 0⟩ := by clear ac al zE BR; simp [dg, cN.cC, be] <;> omega
 have p2 : dg nf nc iz lk lf ⟨2, aG x.a 8, aG x.b 8, 0⟩ := by clear ac al zE BR; simp [dg, cN.cC, be] <;> omega
 have p3 : dg nf nc iz lk lf ⟨3, aG x.a 8, aG x.b 8, aG x.c 8⟩ := by clear ac al zE BR; simp [dg, cN.cC, be] <;> omega
 have p4 : dg nf nc iz lk lf ⟨4, aG x.a 8, aG x.b 8, aG x.c 8⟩ := by clear ac al zE BR; simp [dg, cN.cC, be] <;> omega
 have p5 : dg nf nc iz lk lf ⟨5, aG x.a 8, aG x.b 8, aG x.c 8⟩ := by clear ac al zE BR; simp [dg, cN.cC, be] <;> omega
 have p6 : dg nf nc iz lk lf ⟨6, aG x.a 8, aG x.b 8, aG x.c 8⟩ := by clear ac al zE BR; simp [dg, cN.cC, be] <;> omega
 have p7 : dg nf nc iz lk lf ⟨7, aG x.a lf, 0, 0⟩ := by clear ac al zE BR; simp [dg, cN.cC, be] <;> omega
 have p8 : dg nf nc iz lk lf ⟨8, aG x.a 8, aG x.b lf, 0⟩ := by clear ac al zE BR; simp [dg, cN.cC, be] <;> omega
 have p9 : dg nf nc iz lk lf ⟨9, aG x.a nf, aG x.b 8, aG x.c 8⟩ := by clear ac al zE BR; simp [dg, cN.cC, be] <;> omega
 have p11 : dg nf nc iz lk lf ⟨11, aG x.a nf, aG x.b 8, aG x.c 8⟩ := by clear ac al zE BR; simp [dg, cN.cC, be] <;> omega
 have p10 : dg nf nc iz lk lf ⟨10, aG x.a 8, 0, 0⟩ := by clear ac al zE BR; simp [dg, cN.cC, be] <;> omega
 have p17 : dg nf nc iz lk lf ⟨17, aG x.a 8, 0, 0⟩ := by clear ac al zE BR; simp [dg, cN.cC, be] <;> omega
 have p20 : dg nf nc iz lk lf ⟨20, aG x.a 8, 0, 0⟩ := by clear ac al zE BR; simp [dg, cN.cC, be] <;> omega
 have p13 : nc ≠ 0 → dg nf nc iz lk lf ⟨13, aG x.a nc, aG x.b 8, 0⟩ := fun z => by have := ac z; clear ac al zE BR; simp [dg, cN.cC, be] <;> omega
 have p14 : nc ≠ 0 → dg nf nc iz lk lf ⟨14, aG x.a nc, aG x.b 8, aG x.c 8⟩ := fun z => by have := ac z; clear ac al zE BR; simp [dg, cN.cC, be] <;> omega
 have p15 : nc ≠ 0 → dg nf nc iz lk lf ⟨15, aG x.a nc, 0, 0⟩ := fun z => by have := ac z; clear ac al zE BR; simp [dg, cN.cC, be] <;> omega
 have p16 : iz ≠ 0 → dg nf nc iz lk lf ⟨16, aG x.a iz, 1 + aG x.b (iz - aG x.a iz), aG x.c 8⟩ := fun z => by have := zE z; have := BR z; clear ac al zE BR; simp [dg, cN.cC, be] <;> omega
 have p18 : lk ≠ 0 → dg nf nc iz lk lf ⟨18, aG x.a lk, 0, 0⟩ := fun z => by have := al z; clear ac al zE BR; simp [dg, cN.cC, be] <;> omega
 have p19 : lk ≠ 0 → dg nf nc iz lk lf ⟨19, aG x.a lk, 0, 0⟩ := fun z => by have := al z; clear ac al zE BR; simp [dg, cN.cC, be] <;> omega
 have LG : dg nf nc iz lk lf ⟨21, aG x.a 8, 1 + aG x.b 1000, 0⟩ := by clear ac al zE BR; simp [dg, cN.cC, be] <;> omega
 have p22 : dg nf nc iz lk lf ⟨22, aG x.a 1000, 0, 0⟩ := by clear ac al zE BR; simp [dg, cN.cC, be] <;> omega
 clear a8 b8 c8 af bf an b1000 ac al zE BR
 unfold y5
 refine jF (fun e => p1) fun n1 => ?_
 refine jF (fun e => p2) fun n2 => ?_
 refine jF (fun e => e ▸ p3) fun n3 => ?_
 refine jF (fun e => e ▸ p4) fun n4 => ?_
 refine jF (fun e => e ▸ p5) fun n5 => ?_
 refine jF (fun e => e ▸ p6) fun n6 => ?_
 refine jF (fun e => p7) fun n7 => ?_
 refine jF (fun e => p8) fun n8 => ?_
 refine jF (fun e => e ▸ p9) fun n9 => ?_
 refine jF (fun e => e ▸ p11) fun eO => ?_
 refine jF (fun e => e ▸ p10) fun jN => ?_
 refine jF (fun e => e ▸ p17) fun fK => ?_
 refine jF (fun e => e ▸ p20) fun dZ => ?_
 refine jF (fun e => jF (fun _ => dg.zero) fun z => e ▸ p13 z) fun hG => ?_
 refine jF (fun e => jF (fun _ => dg.zero) fun z => e ▸ p14 z) fun j5 => ?_
 refine jF (fun e => jF (fun _ => dg.zero) fun z => e ▸ p15 z) fun gT => ?_
 refine jF (fun e => jF (fun _ => dg.zero) fun z => p16 z) fun jz => ?_
 refine jF (fun e => jF (fun _ => dg.zero) fun z => e ▸ p18 z) fun g9 => ?_
 refine jF (fun e => jF (fun _ => dg.zero) fun z => e ▸ p19 z) fun lF => ?_
 refine jF (fun e => LG) fun jr => ?_
 refine jF (fun e => p22) fun mP => ?_
 generalize aG x.op 23 = o at *
 have : o = 0 ∨ o = 12 := by omega
 rcases this with rfl | rfl <;> simp [dg, cN.cC]
section
variable {M : Mem} {K : Value → Mem → Prop} {Kp : List PanicEntry → Mem → Prop}
theorem bH {n m : Int} (k : K (.int .i64 (aG n m)) M) : aa Tryz.prog 66 #[.int .i64 n, .int .i64 m] M K Kp := by
 refine tD ?_
 unfold aG at k
 exact aJ.2 ⟨fun h => by rw [if_pos h] at k; exact k, fun h => ⟨by omega, by omega, by rw [if_neg h] at k; exact k⟩⟩
variable {R : Mem} {L : List HP}
abbrev insV (i : cN) : Value := .agg #[.int .i64 i.op, .int .i64 i.a, .int .i64 i.b, .int .i64 i.c]
theorem UJ {A B C F : Option Addr} {nf cf nc cc iz ccs lf cl : Nat} {lk o a b c : Int} (h : Hp R L M) (hcs : iz ≤ 8)
  (k : ∀ M', Hp R L M' → K (insV (y5 nf nc iz lk lf ⟨o, a, b, c⟩)) M') :
  aa Tryz.prog 67 #[.agg #[.slice A nf cf, .slice B nc cc, .int .i64 lk, .slice C iz ccs], .slice F lf cl, .agg #[.int .i64 o, .int .i64 a, .int .i64 b, .int .i64 c]] M K Kp := by
 refine tE ?_
 have w1000 : IntKind.wrap .i64 (1 + aG b 1000) = 1 + aG b 1000 := by
  have := dm (n := b) (m := 1000) (by omega) (by omega)
  exact dc (by omega) (by omega)
 have as_ : (iz : Int) ≠ 0 → IntKind.wrap .i64 ((iz : Int) - aG a iz) = iz - aG a iz ∧ IntKind.wrap .i64 (1 + aG b (iz - aG a iz)) = 1 + aG b (iz - aG a iz) := fun e => by
  have h1 := dm (n := a) (m := (iz : Int)) (by omega) (by omega)
  have h2 := dm (n := b) (m := (iz : Int) - aG a iz) (by omega) (by omega)
  exact ⟨dc (by omega) (by omega), dc (by omega) (by omega)⟩
 unfold y5 at k
 dsimp only at k
 repeat (first|refine bH ?_|(refine aj h ?_;clear h;intro kb M h)|(refine au h ?_;clear h;intro M h)|refine St.to h ?_|(apply Exists.intro;(repeat apply Exists.intro);refine And.intro rfl ?_)|refine av ?_|refine ae ?_|refine ai ?_)
 refine aV.2 ⟨fun e => ?_, fun e => ?_⟩
 ·rw [if_pos e] at k
  repeat (first|refine bH ?_|(refine aj h ?_;clear h;intro kb M h)|(refine au h ?_;clear h;intro M h)|refine St.to h ?_|(apply Exists.intro;(repeat apply Exists.intro);refine And.intro rfl ?_)|refine av ?_|refine ae ?_|refine ai ?_)
  exact k _ (h.sub bp)
 rw [if_neg e] at k
 clear e
 refine aV.2 ⟨fun e => ?_, fun e => ?_⟩
 ·rw [if_pos e] at k
  repeat (first|refine bH ?_|(refine aj h ?_;clear h;intro kb M h)|(refine au h ?_;clear h;intro M h)|refine St.to h ?_|(apply Exists.intro;(repeat apply Exists.intro);refine And.intro rfl ?_)|refine av ?_|refine ae ?_|refine ai ?_)
  exact k _ (h.sub bp)
 rw [if_neg e] at k
 clear e
 refine aV.2 ⟨fun e => ?_, fun e => ?_⟩
 ·rw [if_pos e] at k
  repeat (first|refine bH ?_|(refine aj h ?_;clear h;intro kb M h)|(refine au h ?_;clear h;intro M h)|refine St.to h ?_|(apply Exists.intro;(repeat apply Exists.intro);refine And.intro rfl ?_)|refine av ?_|refine ae ?_|refine ai ?_)
  exact k _ (h.sub bp)
 rw [if_neg e] at k
 clear e
 refine aV.2 ⟨fun e => ?_, fun e => ?_⟩
 ·rw [if_pos e] at k
  repeat (first|refine bH ?_|(refine aj h ?_;clear h;intro kb M h)|(refine au h ?_;clear h;intro M h)|refine St.to h ?_|(apply Exists.intro;(repeat apply Exists.intro);refine And.intro rfl ?_)|refine av ?_|refine ae ?_|refine ai ?_)
  exact k _ (h.sub bp)
 rw [if_neg e] at k
 clear e
 refine aV.2 ⟨fun e => ?_, fun e => ?_⟩
 ·rw [if_pos e] at k
  repeat (first|refine bH ?_|(refine aj h ?_;clear h;intro kb M h)|(refine au h ?_;clear h;intro M h)|refine St.to h ?_|(apply Exists.intro;(repeat apply Exists.intro);refine And.intro rfl ?_)|refine av ?_|refine ae ?_|refine ai ?_)
  exact k _ (h.sub bp)
 rw [if_neg e] at k
 clear e
 refine aV.2 ⟨fun e => ?_, fun e => ?_⟩
 ·rw [if_pos e] at k
  repeat (first|refine bH ?_|(refine aj h ?_;clear h;intro kb M h)|(refine au h ?_;clear h;intro M h)|refine St.to h ?_|(apply Exists.intro;(repeat apply Exists.intro);refine And.intro rfl ?_)|refine av ?_|refine ae ?_|refine ai ?_)
  exact k _ (h.sub bp)
 rw [if_neg e] at k
 clear e
 refine aV.2 ⟨fun e => ?_, fun e => ?_⟩
 ·rw [if_pos e] at k
  repeat (first|refine bH ?_|(refine aj h ?_;clear h;intro kb M h)|(refine au h ?_;clear h;intro M h)|refine St.to h ?_|(apply Exists.intro;(repeat apply Exists.intro);refine And.intro rfl ?_)|refine av ?_|refine ae ?_|refine ai ?_)
  exact k _ (h.sub bp)
 rw [if_neg e] at k
 clear e
 refine aV.2 ⟨fun e => ?_, fun e => ?_⟩
 ·rw [if_pos e] at k
  repeat (first|refine bH ?_|(refine aj h ?_;clear h;intro kb M h)|(refine au h ?_;clear h;intro M h)|refine St.to h ?_|(apply Exists.intro;(repeat apply Exists.intro);refine And.intro rfl ?_)|refine av ?_|refine ae ?_|refine ai ?_)
  exact k _ (h.sub bp)
 rw [if_neg e] at k
 clear e
 refine aV.2 ⟨fun e => ?_, fun e => ?_⟩
 ·rw [if_pos e] at k
  repeat (first|refine bH ?_|(refine aj h ?_;clear h;intro kb M h)|(refine au h ?_;clear h;intro M h)|refine St.to h ?_|(apply Exists.intro;(repeat apply Exists.intro);refine And.intro rfl ?_)|refine av ?_|refine ae ?_|refine ai ?_)
  exact k _ (h.sub bp)
 rw [if_neg e] at k
 clear e
 refine aV.2 ⟨fun e => ?_, fun e => ?_⟩
 ·rw [if_pos e] at k
  repeat (first|refine bH ?_|(refine aj h ?_;clear h;intro kb M h)|(refine au h ?_;clear h;intro M h)|refine St.to h ?_|(apply Exists.intro;(repeat apply Exists.intro);refine And.intro rfl ?_)|refine av ?_|refine ae ?_|refine ai ?_)
  exact k _ (h.sub bp)
 rw [if_neg e] at k
 clear e
 refine aV.2 ⟨fun e => ?_, fun e => ?_⟩
 ·rw [if_pos e] at k
  repeat (first|refine bH ?_|(refine aj h ?_;clear h;intro kb M h)|(refine au h ?_;clear h;intro M h)|refine St.to h ?_|(apply Exists.intro;(repeat apply Exists.intro);refine And.intro rfl ?_)|refine av ?_|refine ae ?_|refine ai ?_)
  exact k _ (h.sub bp)
 rw [if_neg e] at k
 clear e
 refine aV.2 ⟨fun e => ?_, fun e => ?_⟩
 ·rw [if_pos e] at k
  repeat (first|refine bH ?_|(refine aj h ?_;clear h;intro kb M h)|(refine au h ?_;clear h;intro M h)|refine St.to h ?_|(apply Exists.intro;(repeat apply Exists.intro);refine And.intro rfl ?_)|refine av ?_|refine ae ?_|refine ai ?_)
  exact k _ (h.sub bp)
 rw [if_neg e] at k
 clear e
 refine aV.2 ⟨fun e => ?_, fun e => ?_⟩
 ·rw [if_pos e] at k
  repeat (first|refine bH ?_|(refine aj h ?_;clear h;intro kb M h)|(refine au h ?_;clear h;intro M h)|refine St.to h ?_|(apply Exists.intro;(repeat apply Exists.intro);refine And.intro rfl ?_)|refine av ?_|refine ae ?_|refine ai ?_)
  exact k _ (h.sub bp)
 rw [if_neg e] at k
 clear e
 refine aV.2 ⟨fun e => ?_, fun e => ?_⟩
 ·rw [if_pos e] at k
  refine aV.2 ⟨fun z => ?_, fun z => ?_⟩
  ·rw [if_pos z] at k
   repeat (first|refine bH ?_|(refine aj h ?_;clear h;intro kb M h)|(refine au h ?_;clear h;intro M h)|refine St.to h ?_|(apply Exists.intro;(repeat apply Exists.intro);refine And.intro rfl ?_)|refine av ?_|refine ae ?_|refine ai ?_)
   exact k _ (h.sub bp)
  rw [if_neg z] at k
  repeat (first|refine bH ?_|(refine aj h ?_;clear h;intro kb M h)|(refine au h ?_;clear h;intro M h)|refine St.to h ?_|(apply Exists.intro;(repeat apply Exists.intro);refine And.intro rfl ?_)|refine av ?_|refine ae ?_|refine ai ?_)
  refine aJ.2 ⟨fun _ => ?_, fun e2 => absurd (show aG o 23 < 15 by omega) e2⟩
  repeat (first|refine bH ?_|(refine aj h ?_;clear h;intro kb M h)|(refine au h ?_;clear h;intro M h)|refine St.to h ?_|(apply Exists.intro;(repeat apply Exists.intro);refine And.intro rfl ?_)|refine av ?_|refine ae ?_|refine ai ?_)
  refine aV.2 ⟨fun e2 => absurd e2 (by omega), fun _ => ?_⟩
  repeat (first|refine bH ?_|(refine aj h ?_;clear h;intro kb M h)|(refine au h ?_;clear h;intro M h)|refine St.to h ?_|(apply Exists.intro;(repeat apply Exists.intro);refine And.intro rfl ?_)|refine av ?_|refine ae ?_|refine ai ?_)
  exact k _ (h.sub bp)
 rw [if_neg e] at k
 clear e
 refine aV.2 ⟨fun e => ?_, fun e => ?_⟩
 ·rw [if_pos e] at k
  refine aV.2 ⟨fun z => ?_, fun z => ?_⟩
  ·rw [if_pos z] at k
   repeat (first|refine bH ?_|(refine aj h ?_;clear h;intro kb M h)|(refine au h ?_;clear h;intro M h)|refine St.to h ?_|(apply Exists.intro;(repeat apply Exists.intro);refine And.intro rfl ?_)|refine av ?_|refine ae ?_|refine ai ?_)
   exact k _ (h.sub bp)
  rw [if_neg z] at k
  repeat (first|refine bH ?_|(refine aj h ?_;clear h;intro kb M h)|(refine au h ?_;clear h;intro M h)|refine St.to h ?_|(apply Exists.intro;(repeat apply Exists.intro);refine And.intro rfl ?_)|refine av ?_|refine ae ?_|refine ai ?_)
  refine aJ.2 ⟨fun _ => ?_, fun e2 => absurd (show aG o 23 < 15 by omega) e2⟩
  repeat (first|refine bH ?_|(refine aj h ?_;clear h;intro kb M h)|(refine au h ?_;clear h;intro M h)|refine St.to h ?_|(apply Exists.intro;(repeat apply Exists.intro);refine And.intro rfl ?_)|refine av ?_|refine ae ?_|refine ai ?_)
  refine aV.2 ⟨fun _ => ?_, fun e2 => absurd e e2⟩
  repeat (first|refine bH ?_|(refine aj h ?_;clear h;intro kb M h)|(refine au h ?_;clear h;intro M h)|refine St.to h ?_|(apply Exists.intro;(repeat apply Exists.intro);refine And.intro rfl ?_)|refine av ?_|refine ae ?_|refine ai ?_)
  exact k _ (h.sub bp)
 rw [if_neg e] at k
 clear e
 refine aV.2 ⟨fun e => ?_, fun e => ?_⟩
 ·rw [if_pos e] at k
  refine aV.2 ⟨fun z => ?_, fun z => ?_⟩
  ·rw [if_pos z] at k
   repeat (first|refine bH ?_|(refine aj h ?_;clear h;intro kb M h)|(refine au h ?_;clear h;intro M h)|refine St.to h ?_|(apply Exists.intro;(repeat apply Exists.intro);refine And.intro rfl ?_)|refine av ?_|refine ae ?_|refine ai ?_)
   exact k _ (h.sub bp)
  rw [if_neg z] at k
  repeat (first|refine bH ?_|(refine aj h ?_;clear h;intro kb M h)|(refine au h ?_;clear h;intro M h)|refine St.to h ?_|(apply Exists.intro;(repeat apply Exists.intro);refine And.intro rfl ?_)|refine av ?_|refine ae ?_|refine ai ?_)
  refine aJ.2 ⟨fun e2 => absurd e2 (by omega), fun _ => ?_⟩
  repeat (first|refine bH ?_|(refine aj h ?_;clear h;intro kb M h)|(refine au h ?_;clear h;intro M h)|refine St.to h ?_|(apply Exists.intro;(repeat apply Exists.intro);refine And.intro rfl ?_)|refine av ?_|refine ae ?_|refine ai ?_)
  refine aV.2 ⟨fun e2 => absurd e2 (by omega), fun _ => ?_⟩
  repeat (first|refine bH ?_|(refine aj h ?_;clear h;intro kb M h)|(refine au h ?_;clear h;intro M h)|refine St.to h ?_|(apply Exists.intro;(repeat apply Exists.intro);refine And.intro rfl ?_)|refine av ?_|refine ae ?_|refine ai ?_)
  exact k _ (h.sub bp)
 rw [if_neg e] at k
 clear e
 refine aV.2 ⟨fun e => ?_, fun e => ?_⟩
 ·rw [if_pos e] at k
  refine aV.2 ⟨fun z => ?_, fun z => ?_⟩
  ·rw [if_pos z] at k
   repeat (first|refine bH ?_|(refine aj h ?_;clear h;intro kb M h)|(refine au h ?_;clear h;intro M h)|refine St.to h ?_|(apply Exists.intro;(repeat apply Exists.intro);refine And.intro rfl ?_)|refine av ?_|refine ae ?_|refine ai ?_)
   exact k _ (h.sub bp)
  rw [if_neg z] at k
  obtain ⟨e1, e2⟩ := as_ z
  repeat (first|refine bH ?_|(refine aj h ?_;clear h;intro kb M h)|(refine au h ?_;clear h;intro M h)|refine St.to h ?_|(apply Exists.intro;(repeat apply Exists.intro);refine And.intro rfl ?_)|refine av ?_|refine ae ?_|refine ai ?_)
  rw [e1]
  repeat (first|refine bH ?_|(refine aj h ?_;clear h;intro kb M h)|(refine au h ?_;clear h;intro M h)|refine St.to h ?_|(apply Exists.intro;(repeat apply Exists.intro);refine And.intro rfl ?_)|refine av ?_|refine ae ?_|refine ai ?_)
  rw [e2]
  repeat (first|refine bH ?_|(refine aj h ?_;clear h;intro kb M h)|(refine au h ?_;clear h;intro M h)|refine St.to h ?_|(apply Exists.intro;(repeat apply Exists.intro);refine And.intro rfl ?_)|refine av ?_|refine ae ?_|refine ai ?_)
  exact k _ (h.sub bp)
 rw [if_neg e] at k
 clear e
 refine aV.2 ⟨fun e => ?_, fun e => ?_⟩
 ·rw [if_pos e] at k
  repeat (first|refine bH ?_|(refine aj h ?_;clear h;intro kb M h)|(refine au h ?_;clear h;intro M h)|refine St.to h ?_|(apply Exists.intro;(repeat apply Exists.intro);refine And.intro rfl ?_)|refine av ?_|refine ae ?_|refine ai ?_)
  refine aV.2 ⟨fun z => ?_, fun z => ?_⟩
  ·rw [if_pos z] at k
   repeat (first|refine bH ?_|(refine aj h ?_;clear h;intro kb M h)|(refine au h ?_;clear h;intro M h)|refine St.to h ?_|(apply Exists.intro;(repeat apply Exists.intro);refine And.intro rfl ?_)|refine av ?_|refine ae ?_|refine ai ?_)
   exact k _ (h.sub bp)
  rw [if_neg z] at k
  repeat (first|refine bH ?_|(refine aj h ?_;clear h;intro kb M h)|(refine au h ?_;clear h;intro M h)|refine St.to h ?_|(apply Exists.intro;(repeat apply Exists.intro);refine And.intro rfl ?_)|refine av ?_|refine ae ?_|refine ai ?_)
  exact k _ (h.sub bp)
 rw [if_neg e] at k
 clear e
 refine aV.2 ⟨fun e => ?_, fun e => ?_⟩
 ·rw [if_pos e] at k
  repeat (first|refine bH ?_|(refine aj h ?_;clear h;intro kb M h)|(refine au h ?_;clear h;intro M h)|refine St.to h ?_|(apply Exists.intro;(repeat apply Exists.intro);refine And.intro rfl ?_)|refine av ?_|refine ae ?_|refine ai ?_)
  refine aV.2 ⟨fun z => ?_, fun z => ?_⟩
  ·rw [if_pos z] at k
   repeat (first|refine bH ?_|(refine aj h ?_;clear h;intro kb M h)|(refine au h ?_;clear h;intro M h)|refine St.to h ?_|(apply Exists.intro;(repeat apply Exists.intro);refine And.intro rfl ?_)|refine av ?_|refine ae ?_|refine ai ?_)
   exact k _ (h.sub bp)
  rw [if_neg z] at k
  repeat (first|refine bH ?_|(refine aj h ?_;clear h;intro kb M h)|(refine au h ?_;clear h;intro M h)|refine St.to h ?_|(apply Exists.intro;(repeat apply Exists.intro);refine And.intro rfl ?_)|refine av ?_|refine ae ?_|refine ai ?_)
  exact k _ (h.sub bp)
 rw [if_neg e] at k
 clear e
 refine aV.2 ⟨fun e => ?_, fun e => ?_⟩
 ·rw [if_pos e] at k
  repeat (first|refine bH ?_|(refine aj h ?_;clear h;intro kb M h)|(refine au h ?_;clear h;intro M h)|refine St.to h ?_|(apply Exists.intro;(repeat apply Exists.intro);refine And.intro rfl ?_)|refine av ?_|refine ae ?_|refine ai ?_)
  rw [w1000]
  exact k _ (h.sub bp)
 rw [if_neg e] at k
 clear e
 refine aV.2 ⟨fun e => ?_, fun e => ?_⟩
 ·rw [if_pos e] at k
  repeat (first|refine bH ?_|(refine aj h ?_;clear h;intro kb M h)|(refine au h ?_;clear h;intro M h)|refine St.to h ?_|(apply Exists.intro;(repeat apply Exists.intro);refine And.intro rfl ?_)|refine av ?_|refine ae ?_|refine ai ?_)
  exact k _ (h.sub bp)
 rw [if_neg e] at k
 clear e
 repeat (first|refine bH ?_|(refine aj h ?_;clear h;intro kb M h)|(refine au h ?_;clear h;intro M h)|refine St.to h ?_|(apply Exists.intro;(repeat apply Exists.intro);refine And.intro rfl ?_)|refine av ?_|refine ae ?_|refine ai ?_)
 exact k _ (h.sub bp)
end
end Go.Proofs
namespace Go.Proofs
open Go.AF Go.Deep
def HC : List IntKind := [.i64, .i64, .i64, .i64]
def VI : List IntKind := [.i64, .i64, .i64]
def VJ (g : Nat → Int) : cN := ⟨g 0, g 1, g 2, g 3⟩
def VK (g : Nat → Int) : oV := ⟨g 0, g 1, g 2⟩
theorem NZ (l : List (Nat → Int)) : (kE HC).cells l = jq.cells (l.map VJ) := by
 induction l with
 | nil => rfl
 | cons g l ih => rw [fP.bY, List.map_cons, fP.bY, ih]; rfl
theorem N0 (l : List (Nat → Int)) : (kE VI).cells l = iu.cells (l.map VK) := by
 induction l with
 | nil => rfl
 | cons g l ih => rw [fP.bY, List.map_cons, fP.bY, ih]; rfl
theorem N1 (l : List (Nat → Int)) : (kE [.i64]).cells l = br.cells (l.map (· 0)) := by
 induction l with
 | nil => rfl
 | cons g l ih => rw [fP.bY, List.map_cons, fP.bY, ih]; rfl
structure ve (M : Mem) (pa : PA) (p : cu) : Prop where
 n1 : p.funcs.length ≤ 9223372036854775807
 n2 : p.dU.length ≤ 9223372036854775807
 n3 : p.cases.length ≤ 9223372036854775807
 le1 : p.funcs.length ≤ pa.fc
 funcs : 0 < p.funcs.length → ∃ ts : List (Option Addr × Nat × Nat), RS zT M pa.f pa.fc ts ∧ ts.length = p.funcs.length ∧ ∀ (i : Nat) t f, ts[i]? = some t → p.funcs[i]? = some f → t.2.1 = f.length ∧ f.length ≤ 9223372036854775807 ∧ f.length ≤ t.2.2 ∧ (0 < f.length → RS jq M t.1 t.2.2 f)
 dU : 0 < p.dU.length → RS br M pa.c pa.cc p.dU
 cases : 0 < p.cases.length → RS iu M pa.k pa.kc p.cases
theorem ve.le {M M' : Mem} {pa : PA} {p : cu} (h : ve M pa p) (hle : M.le M') : ve M' pa p := by
 obtain ⟨a1, a2, a3, a4, a5, a6, a7⟩ := h
 refine ⟨a1, a2, a3, a4, fun h0 => ?_, fun h0 => (a6 h0).le hle, fun h0 => (a7 h0).le hle⟩
 obtain ⟨ts, t1, t2, t3⟩ := a5 h0
 exact ⟨ts, t1.le hle, t2, fun i t f a b => ⟨(t3 i t f a b).1, (t3 i t f a b).2.1, (t3 i t f a b).2.2.1, fun h => ((t3 i t f a b).2.2.2 h).le hle⟩⟩
theorem ni.rs {α : Type} {E : fP α} {M : Mem} {A : Option Addr} {n c : Nat} {ks : List IntKind} (h : ni M A n c ks) (f : (Nat → Int) → α) (hc : ∀ l, (kE ks).cells l = E.cells (l.map f)) : ∃ l : List α, l.length = n ∧ n ≤ c ∧ n ≤ 9223372036854775807 ∧ (0 < n → RS E M A c l) := by
 obtain ⟨l, rfl, h1, h2, h3, _⟩ := h
 refine ⟨l.map f, by simp, h1, Nat.le_trans h2 (by decide), fun h0 => ⟨?_, by simpa using h1⟩⟩
 rw [← hc]
 exact h3 h0
section
variable {H : Type} {enc : TypeId × Value → H} {P : Program} {w : World} {base : Nat} {spare : Nat → Bool} {held : Bool}
theorem CJ {t e e2 : TypeId} {A : Option Addr} {n c fuel : Nat} {x : DataW H × List MemPlace} (ht : P.underlying t = some (.slice e)) (he : P.underlying e = some (.slice e2)) (ZC : P.cellsOf e = 1) (hk : iW P 8 e2 = some HC) (hc : P.cellsOf e2 = HC.length ∧ 0 < HC.length)
  (h : DataW.trod enc P w base spare held fuel t [.slice A n c] = some x) : ∃ fs : List (List cN), fs.length = n ∧ n ≤ c ∧ n ≤ 9223372036854775807 ∧ (0 < n → ∃ ts : List (Option Addr × Nat × Nat), RS zT (jK w) A c ts ∧ ts.length = n ∧ ∀ (i : Nat) t f, ts[i]? = some t → fs[i]? = some f → t.2.1 = f.length ∧ f.length ≤ 9223372036854775807 ∧ f.length ≤ t.2.2 ∧ (0 < f.length → RS jq (jK w) t.1 t.2.2 f)) := by
 rcases open_slice1 ht ZC h with ⟨h0, _⟩ | ⟨a, len, cap, m, n', V, D, Pl, hcs, hb, hl, hm, IE, hx, hel⟩
 ·cases h0
  exact ⟨[], rfl, Nat.le_refl _, by omega, fun h => absurd h (by omega)⟩
 ·cases hcs
  have hlm : n ≤ m := by rw [IE]; split <;> omega
  have each : ∀ i, i < n → ∃ q : (Option Addr × Nat × Nat) × List cN, w.cell? (a.add i) = some (.slice q.1.1 q.1.2.1 q.1.2.2) ∧ q.1.2.1 = q.2.length ∧ q.2.length ≤ 9223372036854775807 ∧ q.2.length ≤ q.1.2.2 ∧ (0 < q.2.length → RS jq (jK w) q.1.1 q.1.2.2 q.2) := by
   intro i hi
   obtain ⟨h1, h2⟩ := hel i (by omega)
   rcases Go.Deep.open_slice he h2 with ⟨h0, _⟩ | ⟨a', len', cap', _, _, _, _, O7, _, _, _, _, _, _⟩
   ·refine ⟨((none, 0, 0), []), ?_, rfl, by simp, by simp, fun h => by simp at h⟩
    rw [h1]; simpa using h0
   ·have hv : V i = .slice (some a') len' cap' := by simpa using O7
    rw [hv] at h2 h1
    obtain ⟨l, l1, l2, l3, l4⟩ := ni.rs (E := jq) (ni.vG he hk hc ⟨n', h2⟩) VJ NZ
    subst l1
    exact ⟨((some a', l.length, cap'), l), h1, rfl, l3, l2, l4⟩
  obtain ⟨q, hq⟩ := Go.Deep.choose_lt each
  refine ⟨(List.range n).map fun i => (q i).2, by simp, hl, Nat.le_trans hl (Nat.le_trans hm (by decide)), fun hn => ⟨(List.range n).map fun i => (q i).1, ⟨?_, by simpa using hl⟩, by simp, fun i t f h1 h2 => ?_⟩⟩
  ·have hs := World.cell?_spot (hq 0 hn).1
   obtain ⟨b, o, sp⟩ := a
   have hsp : sp = none := by simpa [Addr.add] using hs
   subst hsp
   intro i hi
   rw [fP.b9, List.length_map, List.length_range] at hi
   have hi' : i < n := by simpa [zT] using hi
   have h3 := (hq i hi').1
   rw [add_eq] at h3
   show (jK w).ld ⟨b, o + i, none⟩ = _
   have h4 := fP.iU (E := zT) (l := (List.range n).map fun i => (q i).1) (i := i) (j := 0) (a := (q i).1) (by rw [List.getElem?_map, List.getElem?_range hi']; rfl) rfl
   have e : i * zT.z + 0 = i := by simp [zT]
   rw [e] at h4
   rw [h4]
   exact h3
  ·rw [List.getElem?_map] at h1 h2
   obtain ⟨j, hj, rfl⟩ := Option.map_eq_some_iff.1 h1
   obtain ⟨j', hj', rfl⟩ := Option.map_eq_some_iff.1 h2
   obtain ⟨hl1, e1⟩ := List.getElem?_eq_some_iff.1 hj
   rw [hj] at hj'
   cases hj'
   have Zf : j < n := by rw [← e1]; simpa using hl1
   exact (hq j Zf).2
theorem HD {t t1 t2 t3 t4 e1 e11 e2 e4 : TypeId} {fs : Array Field} {v : Value} {d : DataW H} {ps : List MemPlace} (hu : P.underlying t = some (.struct fs)) (hf : fs.toList.map (fun (f : Field) => (f.offset, f.type)) = [(0, t1), (1, t2), (2, t3), (3, t4)])
  (u1 : P.underlying t1 = some (.slice e1)) (u11 : P.underlying e1 = some (.slice e11)) (u2 : P.underlying t2 = some (.slice e2)) (u3 : P.underlying t3 = some (.int .i64)) (u4 : P.underlying t4 = some (.slice e4))
  (c1 : P.cellsOf t1 = 1) (c2 : P.cellsOf t2 = 1) (c3 : P.cellsOf t3 = 1) (c4 : P.cellsOf t4 = 1) (c11 : P.cellsOf e1 = 1) (k1 : iW P 8 e11 = some HC) (k2 : iW P 8 e2 = some [.i64]) (k4 : iW P 8 e4 = some VI)
  (d1 : P.cellsOf e11 = 4) (d2 : P.cellsOf e2 = 1) (d4 : P.cellsOf e4 = 3) (ct : P.cellsOf t = 4)
  (hs : ∃ cs, v = .agg cs ∧ cs.size = P.cellsOf t)
  (h : DataW.Trod enc P w base spare held t v d ps) : ∃ (pa : PA) (p : cu), v = .agg #[.slice pa.f p.funcs.length pa.fc, .slice pa.c p.dU.length pa.cc, .int .i64 p.aI, .slice pa.k p.cases.length pa.kc] ∧ ve (jK w) pa p := by
 obtain ⟨cs, rfl, hsz⟩ := hs
 obtain ⟨fuel, hh⟩ := h
 obtain ⟨xs, m, _, _, hl, N6, O6⟩ := DataW.trod_struct hu hh
 have e0 : (Value.agg cs).cells = cs := rfl
 rw [e0] at O6 hl
 rw [ct] at hsz
 obtain ⟨cl⟩ := cs
 simp only [List.size_toArray] at hsz
 have hfl : fs.size = 4 := by have := congrArg List.length hf; simpa using this
 have fld : ∀ (i o : Nat) (ty : TypeId), ([(0, t1), (1, t2), (2, t3), (3, t4)] : List (Nat × TypeId))[i]? = some (o, ty) → ∃ (f : Field) (x : DataW H × List MemPlace), fs[i]? = some f ∧ f.offset = o ∧ f.type = ty ∧ DataW.trod enc P w base spare held m ty ((cl.drop o).take (P.cellsOf ty)) = some x := by
  intro i o ty hi
  rw [← hf, List.getElem?_map] at hi
  obtain ⟨f, Mf, FJ⟩ := Option.map_eq_some_iff.1 hi
  cases FJ
  have hf3 : fs[i]? = some f := by simpa using Mf
  have := O6 i f hf3
  have hi4 : i < xs.length := by rw [N6]; exact (Array.getElem?_eq_some_iff.1 hf3).1
  rw [List.getElem?_eq_getElem hi4] at this
  exact ⟨f, _, hf3, rfl, rfl, this⟩
 match cl, hsz with
 | [w0, w1, w2, w3], _ =>
  obtain ⟨_, x1, _, _, _, a1⟩ := fld 0 0 t1 rfl
  obtain ⟨_, x2, _, _, _, a2⟩ := fld 1 1 t2 rfl
  obtain ⟨_, x3, _, _, _, a3⟩ := fld 2 2 t3 rfl
  obtain ⟨_, x4, _, _, _, a4⟩ := fld 3 3 t4 rfl
  rw [c1] at a1
  rw [c2] at a2
  rw [c3] at a3
  rw [c4] at a4
  have sl : ∀ {ty e : TypeId} {u : Value} {x : DataW H × List MemPlace}, P.underlying ty = some (.slice e) → DataW.trod enc P w base spare held m ty [u] = some x → ∃ A n c, u = .slice A n c := by
   intro ty e u x hu h
   rcases Go.Deep.open_slice hu h with ⟨h0, _⟩ | ⟨a, len, cap, _, _, _, _, h0, _⟩
   ·cases h0; exact ⟨_, _, _, rfl⟩
   ·cases h0; exact ⟨_, _, _, rfl⟩
  obtain ⟨A1, n1, q1, rfl⟩ := sl u1 a1
  obtain ⟨A2, n2, q2, rfl⟩ := sl u2 a2
  obtain ⟨A4, n4, q4, rfl⟩ := sl u4 a4
  obtain ⟨lk, b3, _⟩ := DataW.trod_int u3 a3
  have b3' : w2 = .int .i64 lk := by simpa using b3
  subst b3'
  obtain ⟨fs', f1, f2, f3, f4⟩ := CJ u1 u11 c11 k1 ⟨d1, by decide⟩ a1
  obtain ⟨l2, g1, g2, g3, g4⟩ := ni.rs (E := br) (ni.vG u2 k2 ⟨d2, by decide⟩ ⟨m, a2⟩) (· 0) N1
  obtain ⟨l4, j1, j2, j3, j4⟩ := ni.rs (E := iu) (ni.vG u4 k4 ⟨d4, by decide⟩ ⟨m, a4⟩) VK N0
  subst f1; subst g1; subst j1
  exact ⟨⟨A1, q1, A2, q2, A4, q4⟩, ⟨fs', l2, lk, l4⟩, rfl, ⟨f3, g3, j3, f2, f4, g4, j4⟩⟩
end
end Go.Proofs
namespace Go.Proofs
open Go.AF
set_option maxRecDepth 100000
set_option maxHeartbeats 1000000
attribute [local irreducible] aK dH fz cv az fC aE aN aW aX bL aQ
def cL (p : cu) : List Int := (p.dU.take 4).map (aG · 4)
def kH (nc : Nat) (c : oV) : oV := if nc = 0 then ⟨2, 0, 0⟩ else ⟨aG c.way 3, aG c.ch nc, aG c.bQ 8⟩
def fZ (p : cu) : List oV := (p.cases.take 8).map (kH (cL p).length)
def dD (p : cu) : List (List cN) := if (p.funcs.take 5).length = 0 then [[.zero]] else p.funcs.take 5
def gP (f : List cN) : List cN := if (f.take 20).length = 0 then [.zero] else f.take 20
def vf (p : cu) (f : List cN) : List cN := (gP f).map (y5 (dD p).length (cL p).length (fZ p).length (aG p.aI 4) (gP f).length)
def dw (p : cu) : cu := ⟨(dD p).map (vf p), cL p, aG p.aI 4, fZ p⟩
theorem yp (p : cu) : 1 ≤ (dD p).length ∧ (dD p).length ≤ 5 := by
 unfold dD
 split
 ·simp
 ·rename_i h; rw [List.length_take] at h ⊢; omega
theorem DR (f : List cN) : 1 ≤ (gP f).length ∧ (gP f).length ≤ 20 := by
 unfold gP
 split
 ·simp
 ·rename_i h; rw [List.length_take] at h ⊢; omega
theorem DS (p : cu) : (cL p).length ≤ 4 := by unfold cL; rw [List.length_map, List.length_take]; omega
theorem DT (p : cu) : (fZ p).length ≤ 8 := by unfold fZ; rw [List.length_map, List.length_take]; omega
theorem lk10 (p : cu) : 0 ≤ aG p.aI 4 ∧ aG p.aI 4 ≤ 3 := by have := dm (n := p.aI) (m := 4) (by omega) (by omega); omega
theorem N2 (p : cu) : eC (dw p) := by
 have h1 := yp p
 have h2 := DS p
 have h3 := DT p
 have h4 := lk10 p
 refine ⟨by simp [dw]; omega, by show (cL p).length ≤ 8; omega, by show 0 ≤ aG p.aI 4 ∧ aG p.aI 4 ≤ 8; omega, by show (fZ p).length ≤ 32; omega, fun c hc => ?_, fun f hf => ?_⟩
 ·obtain ⟨c0, _, rfl⟩ := List.mem_map.1 hc
  have a3 := dm (n := c0.way) (m := 3) (by omega) (by omega)
  have a8 := dm (n := c0.bQ) (m := 8) (by omega) (by omega)
  unfold kH
  split
  ·exact ⟨⟨by decide, by decide, fun h => absurd rfl h⟩, by decide, by decide⟩
  ·rename_i hn
   have ac := dm (n := c0.ch) (m := ((cL p).length : Int)) (by omega) (by omega)
   exact ⟨⟨by dsimp only; omega, by dsimp only; omega, fun _ => ⟨ac.1, ac.2, a8.1, a8.2⟩⟩, a8.1, a8.2⟩
 ·obtain ⟨f0, _, rfl⟩ := List.mem_map.1 hf
  have h5 := DR f0
  have hl : (vf p f0).length = (gP f0).length := by simp [vf]
  refine ⟨by omega, by omega, fun i hi => ?_⟩
  obtain ⟨i0, _, rfl⟩ := List.mem_map.1 hi
  refine dg.ok ?_
  have e1 : (dw p).funcs.length = (dD p).length := by simp [dw]
  rw [e1, hl]
  show dg _ ((cL p).length : Nat) ((fZ p).length : Nat) (aG p.aI 4) _ _
  exact RA (by omega) (by omega) (by omega) h4 (by omega)
theorem UK : bg Tryz.prog 61 63 4 32 [.int .i64 0, .int .i64 0, .int .i64 0, .int .i64 0] := bg.mk' (zv := .agg #[.int .i64 0, .int .i64 0, .int .i64 0, .int .i64 0]) (by kernel_rfl) (by kernel_rfl) rfl (by omega)
theorem UL : bg Tryz.prog 57 163 3 24 [.int .i64 0, .int .i64 0, .int .i64 0] := bg.mk' (zv := .agg #[.int .i64 0, .int .i64 0, .int .i64 0]) (by kernel_rfl) (by kernel_rfl) rfl (by omega)
theorem YY : bg Tryz.prog 56 61 1 24 [.slice none 0 0] := bg.mk' (zv := .slice none 0 0) (by kernel_rfl) (by kernel_rfl) rfl (by omega)
abbrev E5 (pa : PA) (p : cu) : Value := .agg #[.slice pa.f p.funcs.length pa.fc, .slice pa.c p.dU.length pa.cc, .int .i64 p.aI, .slice pa.k p.cases.length pa.kc]
abbrev prgC (A : Option Addr) (n c : Nat) (B : Option Addr) (m d : Nat) (lk : Int) (C : Option Addr) (q e : Nat) : List Value := [.slice A n c, .slice B m d, .int .i64 lk, .slice C q e]
section
variable {R : Mem} {L L' : List HP} {M : Mem} {K : Value → Mem → Prop} {Kp : List PanicEntry → Mem → Prop} {pa : PA} {p : cu}
theorem take_succ {α : Type} {l : List α} {j : Nat} {v : α} (h : l[j]? = some v) : l.take (j + 1) = l.take j ++ [v] := by
 obtain ⟨hj, rfl⟩ := List.getElem?_eq_some_iff.1 h
 rw [List.take_add_one, List.getElem?_eq_getElem hj]; rfl
def y6 (R : Mem) (A : Option Addr) (c : Nat) (fs : List (List cN)) : Prop := ∃ ts : List (Option Addr × Nat × Nat), RS zT R A c ts ∧ ts.length = fs.length ∧ ∀ (i : Nat) t f, ts[i]? = some t → fs[i]? = some f → t.2.1 = f.length ∧ f.length ≤ 9223372036854775807 ∧ f.length ≤ t.2.2 ∧ (0 < f.length → RS jq R t.1 t.2.2 f)
theorem y6.le {R R' : Mem} {A : Option Addr} {c : Nat} {fs : List (List cN)} (h : y6 R A c fs) (hle : R.le R') : y6 R' A c fs := by
 obtain ⟨ts, h1, h2, h3⟩ := h
 exact ⟨ts, h1.le hle, h2, fun i t f a b => ⟨(h3 i t f a b).1, (h3 i t f a b).2.1, (h3 i t f a b).2.2.1, fun h => ((h3 i t f a b).2.2.2 h).le hle⟩⟩
theorem y6.cut {R : Mem} {A : Option Addr} {c : Nat} {fs : List (List cN)} (h : y6 R A c fs) (q : Nat) : y6 R (kx A 0 c 1) (c - 0) (fs.take q) := by
 obtain ⟨ts, h1, h2, h3⟩ := h
 have h4 := (h1.drop 0 (Nat.zero_le _)).take q
 rw [List.drop_zero] at h4
 refine ⟨ts.take q, h4, by rw [List.length_take, List.length_take, h2], fun i t f a b => ?_⟩
 rw [List.getElem?_take] at a b
 split at a
 ·rename_i hi
  rw [if_pos hi] at b
  exact h3 i t f a b
 ·cases a
theorem RS.cut {α : Type} {E : fP α} {R : Mem} {A : Option Addr} {c : Nat} {l : List α} (h : RS E R A c l) (q : Nat) : RS E R (kx A 0 c E.z) (c - 0) (l.take q) := by
 have h4 := (h.drop 0 (Nat.zero_le _)).take q
 rwa [List.drop_zero] at h4
abbrev dP (k : Nat) (A : Option Addr) (n c : Nat) (B : Option Addr) (m d : Nat) (lk : Int) (C : Option Addr) (q e : Nat) : HP := pt k (prgC A n c B m d lk C q e) 59
theorem N3 (h : Hp R L M) (ha : ve R pa p) (k : ∀ R' HE q us M', R.le R' → HE.f = some ⟨q, 0, none⟩ → us.length = (dw p).funcs.length → (∀ (i : Nat) t f, us[i]? = some t → (dw p).funcs[i]? = some f → RS jq R' t.1 t.2.2 f ∧ t.2.1 = f.length) → RS iu R' HE.k HE.kc (dw p).cases → RS br R' HE.c HE.cc (dw p).dU →
  Hp R' (bE zT 61 (some ⟨q, 0, none⟩) HE.fc us :: L) M' → K (E5 HE (dw p)) M') :
  aa Tryz.prog 24 #[E5 pa p] M K Kp := by
 refine qG ?_
 have QZ := DS p
 have hkl := DT p
 have n1 := ha.n1
 have n2 := ha.n2
 have n3 := ha.n3
 have le1 := ha.le1
 refine aj h ?_
 clear h
 intro k1 M h
 refine aj h ?_
 clear h
 intro k3 M h
 refine ay h (bH (bW ?_))
 refine aj h ?_
 clear h
 intro k9 M h
 repeat (refine au h ?_; clear h; intro M h)
 generalize hlk : aG p.aI 4 = lk at h
 have h0 : Hp R (bE br 3 none 0 [] :: dP k9 none 0 0 none 0 0 lk none 0 0 :: dP k3 none 0 0 none 0 0 0 none 0 0 :: dP k1 pa.f p.funcs.length pa.fc pa.c p.dU.length pa.cc p.aI pa.k p.cases.length pa.kc :: L) M := h.bR br 3
 clear h
 refine ⟨fun vs M => vs = [] ∧ ∃ B c, Hp R (bE br 3 B c (cL p) :: dP k9 none 0 0 B (cL p).length c lk none 0 0 :: dP k3 none 0 0 none 0 0 0 none 0 0 :: dP k1 pa.f p.funcs.length pa.fc pa.c p.dU.length pa.cc p.aI pa.k p.cases.length pa.kc :: L) M,
  ⟨fun dd vs M => ∃ (j : Nat) (B : Option Addr) (c : Nat), vs = [.int .i64 (j : Int)] ∧ dd = 4 - j ∧ j ≤ 4 ∧ j ≤ p.dU.length ∧ Hp R (bE br 3 B c ((p.dU.take j).map (aG · 4)) :: dP k9 none 0 0 B j c lk none 0 0 :: dP k3 none 0 0 none 0 0 0 none 0 0 :: dP k1 pa.f p.funcs.length pa.fc pa.c p.dU.length pa.cc p.aI pa.k p.cases.length pa.kc :: L) M, ⟨_, 0, none, 0, rfl, rfl, by omega, by omega, h0⟩, ?_⟩, ?_⟩
 ·clear h0
  rintro dd _ nn M ⟨j, B, c, he, hd, hj, KA, h⟩
  simp only [List.cons.injEq, Value.int.injEq, and_true, true_and] at he
  subst he
  have hlen : ((p.dU.take j).map (aG · 4)).length = j := by rw [List.length_map, List.length_take]; omega
  have hout : ¬ (j < p.dU.length ∧ j < 4) → (p.dU.take j).map (aG · 4) = cL p ∧ j = (cL p).length := fun hn => by
   have e : p.dU.take j = p.dU.take 4 := by
    rcases Nat.lt_or_ge j 4 with h4 | h4
    ·rw [List.take_of_length_le (by omega), List.take_of_length_le (by omega)]
    ·rw [show j = 4 from by omega]
   refine ⟨by rw [cL, e], ?_⟩
   rw [← hlen, e]; rfl
  refine aF h ?_
  by_cases hc : j < p.dU.length ∧ j < 4
  ·obtain ⟨c1, c2⟩ := hc
   refine xh (by simp; omega) (xh (by simp; omega) ?_)
   have hr := ha.dU (by omega)
   obtain ⟨b, o, hb⟩ := hr.some (by omega) (by decide)
   rw [hb] at hr h
   obtain ⟨v, hv⟩ := aM c1
   have UM : (p.dU.take (j + 1)).map (aG · 4) = (p.dU.take j).map (aG · 4) ++ [aG v 4] := by rw [take_succ hv, List.map_append]; rfl
   have hstep : ∀ M B c, Hp R (bE br 3 B c ((p.dU.take j).map (aG · 4) ++ [aG v 4]) :: dP k9 none 0 0 B (j + 1) c lk none 0 0 :: dP k3 none 0 0 none 0 0 0 none 0 0 :: dP k1 pa.f p.funcs.length pa.fc (some ⟨b, o, none⟩) p.dU.length pa.cc p.aI pa.k p.cases.length pa.kc :: L) M →
     ∃ (j' : Nat) (B : Option Addr) (c : Nat), [Value.int .i64 (IntKind.wrap .i64 ((j : Int) + 1))] = [.int .i64 (j' : Int)] ∧ 4 - (j + 1) = 4 - j' ∧ j' ≤ 4 ∧ j' ≤ p.dU.length ∧ Hp R (bE br 3 B c ((p.dU.take j').map (aG · 4)) :: dP k9 none 0 0 B j' c lk none 0 0 :: dP k3 none 0 0 none 0 0 0 none 0 0 :: dP k1 pa.f p.funcs.length pa.fc pa.c p.dU.length pa.cc p.aI pa.k p.cases.length pa.kc :: L) M := by
    intro M B c h
    refine ⟨j + 1, B, c, by rw [aP (by omega)], rfl, by omega, by omega, ?_⟩
    rw [UM, hb]
    exact h
   refine ⟨fun vs M => vs = [] ∧ ∃ B c, Hp R (bE br 3 B c ((p.dU.take j).map (aG · 4) ++ [aG v 4]) :: dP k9 none 0 0 B (j + 1) c lk none 0 0 :: dP k3 none 0 0 none 0 0 0 none 0 0 :: dP k1 pa.f p.funcs.length pa.fc (some ⟨b, o, none⟩) p.dU.length pa.cc p.aI pa.k p.cases.length pa.kc :: L) M, ?_, ?_⟩
   ·refine aF h ⟨by omega, by omega, aY ?_⟩
    refine aR (Src.at hr.src h (i := j) (j := 0) hv rfl (by simp [br])) ?_
    refine ⟨?_, ?_, trivial⟩
    ·refine aF h (bH (bW ?_))
     refine aj h ?_
     clear h
     intro pg M h
     refine h.gn (A := B) qj [aG v 4] rfl hlen.symm rfl (by simp; omega) ?_
     clear h; intro A' c' M h
     refine aO ?_
     refine au h ?_
     clear h
     intro M h
     exact ⟨rfl, _, _, h.sub bp⟩
    ·refine bH (bW (aF h ?_))
     refine aj h ?_
     clear h
     intro pg M h
     refine h.gn (A := B) qj [aG v 4] rfl hlen.symm rfl (by simp; omega) ?_
     clear h; intro A' c' M h
     refine aO ?_
     refine au h ?_
     clear h
     intro M h
     exact ⟨rfl, _, _, h.sub bp⟩
   ·clear h
    rintro nn M ⟨_, B', c', h⟩
    exact ⟨4 - (j + 1), by omega, hstep M B' c' h⟩
  ·have ho := hout hc
   obtain ⟨e1, e2⟩ := ho
   rw [e1] at h
   refine K4 ⟨rfl, B, c, ?_⟩ fun h1 h2 => absurd ⟨by omega, by omega⟩ hc
   rw [← e2]; exact h
 clear h0
 rintro nn M ⟨_, B, c, h⟩
 clear nn
 have h0 : Hp R (bE iu 163 none 0 [] :: bE br 3 B c (cL p) :: dP k9 none 0 0 B (cL p).length c lk none 0 0 :: dP k3 none 0 0 none 0 0 0 none 0 0 :: dP k1 pa.f p.funcs.length pa.fc pa.c p.dU.length pa.cc p.aI pa.k p.cases.length pa.kc :: L) M := h.bR iu _
 clear h
 refine ⟨fun vs M => vs = [] ∧ ∃ C d, Hp R (bE iu 163 C d (fZ p) :: bE br 3 B c (cL p) :: dP k9 none 0 0 B (cL p).length c lk C (fZ p).length d :: dP k3 none 0 0 none 0 0 0 none 0 0 :: dP k1 pa.f p.funcs.length pa.fc pa.c p.dU.length pa.cc p.aI pa.k p.cases.length pa.kc :: L) M,
  ⟨fun dd vs M => ∃ (j : Nat) (C : Option Addr) (d : Nat), vs = [.int .i64 (j : Int)] ∧ dd = 8 - j ∧ j ≤ 8 ∧ j ≤ p.cases.length ∧ Hp R (bE iu 163 C d ((p.cases.take j).map (kH (cL p).length)) :: bE br 3 B c (cL p) :: dP k9 none 0 0 B (cL p).length c lk C j d :: dP k3 none 0 0 none 0 0 0 none 0 0 :: dP k1 pa.f p.funcs.length pa.fc pa.c p.dU.length pa.cc p.aI pa.k p.cases.length pa.kc :: L) M, ⟨_, 0, none, 0, rfl, rfl, by omega, by omega, h0⟩, ?_⟩, ?_⟩
 ·clear h0
  rintro dd _ nn M ⟨j, C, d, he, hd, hj, KA, h⟩
  simp only [List.cons.injEq, Value.int.injEq, and_true, true_and] at he
  subst he
  have hlen : ((p.cases.take j).map (kH (cL p).length)).length = j := by rw [List.length_map, List.length_take]; omega
  have hout : ¬ (j < p.cases.length ∧ j < 8) → (p.cases.take j).map (kH (cL p).length) = fZ p ∧ j = (fZ p).length := fun hn => by
   have e : p.cases.take j = p.cases.take 8 := by
    rcases Nat.lt_or_ge j 8 with h4 | h4
    ·rw [List.take_of_length_le (by omega), List.take_of_length_le (by omega)]
    ·rw [show j = 8 from by omega]
   refine ⟨by rw [fZ, e], ?_⟩
   rw [← hlen, e]; rfl
  refine aF h ?_
  by_cases hc : j < p.cases.length ∧ j < 8
  ·obtain ⟨c1, c2⟩ := hc
   refine xh (by simp; omega) (xh (by simp; omega) ?_)
   have hr := ha.cases (by omega)
   obtain ⟨b, o, hb⟩ := hr.some (by omega) (by decide)
   rw [hb] at hr h
   obtain ⟨v, hv⟩ := aM c1
   have UM : (p.cases.take (j + 1)).map (kH (cL p).length) = (p.cases.take j).map (kH (cL p).length) ++ [kH (cL p).length v] := by rw [take_succ hv, List.map_append]; rfl
   refine aF h ⟨by omega, by omega, aY ?_⟩
   refine aR (Src.at hr.src h (i := j) (j := 0) hv rfl (by simp [iu])) ?_
   refine aR (Src.at hr.src h (i := j) (j := 1) hv rfl (by simp [iu]; omega)) ?_
   refine aR (Src.at hr.src h (i := j) (j := 2) hv rfl (by simp [iu]; omega)) ?_
   refine aj h ?_
   clear h
   intro PB M h
   repeat (first|refine bH ?_|(refine aj h ?_;clear h;intro kb M h)|(refine au h ?_;clear h;intro M h)|refine St.to h ?_|(apply Exists.intro;(repeat apply Exists.intro);refine And.intro rfl ?_)|refine av ?_|refine ae ?_|refine ai ?_)
   refine ⟨fun vs M => vs = [] ∧ Hp R (pt kb (iu.f (kH (cL p).length v)) 163 :: bE iu 163 C d ((p.cases.take j).map (kH (cL p).length)) :: bE br 3 B c (cL p) :: dP k9 none 0 0 B (cL p).length c lk C j d :: dP k3 none 0 0 none 0 0 0 none 0 0 :: dP k1 pa.f p.funcs.length pa.fc pa.c p.dU.length pa.cc p.aI (some ⟨b, o, none⟩) p.cases.length pa.kc :: L) M, ?_, ?_⟩
   ·refine aV.2 ⟨fun hz => ?_, fun hz => ?_⟩
    ·have ez : kH (cL p).length v = ⟨2, 0, 0⟩ := by unfold kH; rw [if_pos (by omega)]
     rw [ez]
     repeat (first|(refine aj h ?_;clear h;intro kb M h)|(refine au h ?_;clear h;intro M h)|refine St.to h ?_|(apply Exists.intro;(repeat apply Exists.intro);refine And.intro rfl ?_)|refine av ?_|refine ae ?_|refine ai ?_)
     exact h.sub bp
    ·have ez : kH (cL p).length v = ⟨aG v.way 3, aG v.ch (cL p).length, aG v.bQ 8⟩ := by unfold kH; rw [if_neg (by omega)]
     rw [ez]
     exact ⟨rfl, h.sub bp⟩
   ·clear h
    rintro nn M ⟨_, h⟩
    generalize kH (cL p).length v = w at h UM
    have h : Hp R (pt kb [.int .i64 w.way, .int .i64 w.ch, .int .i64 w.bQ] 163 :: bE iu 163 C d ((p.cases.take j).map (kH (cL p).length)) :: bE br 3 B c (cL p) :: dP k9 none 0 0 B (cL p).length c lk C j d :: dP k3 none 0 0 none 0 0 0 none 0 0 :: dP k1 pa.f p.funcs.length pa.fc pa.c p.dU.length pa.cc p.aI (some ⟨b, o, none⟩) p.cases.length pa.kc :: L) M := h
    refine aF h (ay h (ay h (ay h ?_)))
    refine aj h ?_
    clear h
    intro S7 M h
    refine h.gn (A := C) UL [w] rfl hlen.symm rfl (by simp; omega) ?_
    clear h; intro C' d' M h
    refine aO ?_
    refine au h ?_
    clear h
    intro M h
    refine ⟨8 - (j + 1), by omega, j + 1, C', d', by rw [aP (by omega)], rfl, by omega, by omega, ?_⟩
    rw [UM, hb]
    exact h.sub bp
  ·have ho := hout hc
   obtain ⟨e1, e2⟩ := ho
   rw [e1] at h
   refine K4 ⟨rfl, C, d, ?_⟩ fun h1 h2 => absurd ⟨by omega, by omega⟩ hc
   rw [← e2]; exact h
 clear h0
 rintro nn M ⟨_, C, d, h⟩
 clear nn
 obtain ⟨R1, l1, rC, h1⟩ := h.fG C
 obtain ⟨R2, l2, rB, h2⟩ := h1.fG B
 clear h h1
 replace rC := rC.le l2
 have kj : R.le R2 := Mem.le_trans l1 l2
 replace h := h2
 clear h2 l1 l2
 have e5 : Int.toNat (if (5 : Int) < ((p.funcs.length : Nat) : Int) then 5 else ((p.funcs.length : Nat) : Int)) - 0 = min 5 p.funcs.length := by split <;> omega
 refine aF h (aF h ⟨by omega, by omega, by split <;> omega, by split <;> omega, by omega, by split <;> omega, ?_⟩)
 simp only [e5, Int.toNat_natCast]
 refine ⟨fun vs M => ∃ R' A c', vs = [.slice A (dD p).length c'] ∧ R2.le R' ∧ y6 R' A c' (dD p) ∧ Hp R' (dP k9 none 0 0 B (cL p).length c lk C (fZ p).length d :: dP k3 none 0 0 none 0 0 0 none 0 0 :: dP k1 pa.f p.funcs.length pa.fc pa.c p.dU.length pa.cc p.aI pa.k p.cases.length pa.kc :: L) M, ?_, ?_⟩
 ·refine aV.2 ⟨fun hz => ?_, fun hz => ?_⟩
  ·have ez : dD p = [[.zero]] := by unfold dD; rw [if_pos (by rw [List.length_take]; omega)]
   rw [ez]
   refine aj h ?_
   clear h
   intro ka M h
   obtain ⟨R3, l3, r3, h3⟩ := ((h.pt ka).gu (E := jq) (l := [.zero]) rfl).fG (some ⟨ka, 0, none⟩)
   clear h
   refine aj h3 ?_
   clear h3; intro kb M h
   obtain ⟨R4, l4, r4, h4⟩ := ((h.pt kb).gu (E := zT) (l := [(some ⟨ka, 0, none⟩, 1, 1)]) rfl).fG (some ⟨kb, 0, none⟩)
   clear h
   refine ⟨R4, _, _, rfl, Mem.le_trans l3 l4, ⟨_, r4, rfl, fun i t f a b => ?_⟩, h4⟩
   match i, a, b with
   | 0, a, b => cases a; cases b; exact ⟨rfl, by simp, by simp, fun _ => r3.le l4⟩
   | i + 1, a, b => simp at a
  ·have ez : dD p = p.funcs.take 5 := by unfold dD; rw [if_neg (by rw [List.length_take]; omega)]
   have hf : y6 R pa.f pa.fc p.funcs := ha.funcs (by omega)
   rw [ez]
   refine ⟨R2, _, _, by rw [List.length_take], Mem.le_refl _, (hf.cut 5).le kj, h⟩
 clear h
 rintro nn A' n' c' M ⟨R3, A, cA, he, l3, hrows, h⟩
 simp only [List.cons.injEq, Value.slice.injEq, and_true] at he
 obtain ⟨rfl, rfl, rfl⟩ := he
 clear nn e5
 replace rC := rC.le l3
 replace rB := rB.le l3
 have Ua : R.le R3 := Mem.le_trans kj l3
 clear l3 kj
 have hfl := yp p
 refine h.D8 (E := zT) (a := (none, 0, 0)) YY (by omega) ?_
 clear h; intro q M h
 refine aO ?_
 refine au h ?_
 clear h
 intro M h
 obtain ⟨ts, hts1, hts2, hts3⟩ := hrows
 refine ⟨fun dd vs M => ∃ (j : Nat) (R4 : Mem) (us : List (Option Addr × Nat × Nat)), vs = [.int .i64 (j : Int)] ∧ dd = (dD p).length - j ∧ j ≤ (dD p).length ∧ R3.le R4 ∧ us.length = (dD p).length ∧ (∀ (i : Nat) t f, i < j → us[i]? = some t → (dD p)[i]? = some f → RS jq R4 t.1 t.2.2 (vf p f) ∧ t.2.1 = (vf p f).length) ∧
  Hp R4 (bE zT 61 (some ⟨q, 0, none⟩) (dD p).length us :: dP k9 (some ⟨q, 0, none⟩) (dD p).length (dD p).length B (cL p).length c lk C (fZ p).length d :: dP k3 none 0 0 none 0 0 0 none 0 0 :: dP k1 pa.f p.funcs.length pa.fc pa.c p.dU.length pa.cc p.aI pa.k p.cases.length pa.kc :: L) M,
  ⟨_, 0, R3, List.replicate (dD p).length (none, 0, 0), rfl, rfl, by omega, Mem.le_refl _, by simp, fun i t f hi => absurd hi (by omega), h.sub bp⟩, ?_⟩
 clear h
 rintro dd _ nn M ⟨j, R4, us, he, hd, hj, l4, VL, HF, h⟩
 simp only [List.cons.injEq, Value.int.injEq, and_true, true_and] at he
 subst he
 refine aJ.2 ⟨fun hlt => ?_, fun hge => ?_⟩
 ·obtain ⟨t, ht⟩ := aM (l := ts) (i := j) (by omega)
  obtain ⟨f, hf⟩ := aM (l := dD p) (i := j) (by omega)
  obtain ⟨u1, u2, u3, u4⟩ := hts3 j t f ht hf
  obtain ⟨tA, tn, tc⟩ := t
  dsimp only at u1 u3 u4
  subst u1
  have Kg := hts1.le l4
  obtain ⟨b, o, hb⟩ := Kg.some (by omega) (by decide)
  rw [hb] at Kg
  rw [hb]
  refine ⟨by omega, hlt, aY ?_⟩
  refine D7 (Src.at Kg.src h (i := j) (j := 0) ht rfl (by simp [zT])) ?_
  dsimp only
  have e20 : Int.toNat (if (20 : Int) < ((f.length : Nat) : Int) then 20 else ((f.length : Nat) : Int)) - 0 = min 20 f.length := by split <;> omega
  refine ⟨by omega, by omega, by split <;> omega, by split <;> omega, by omega, by split <;> omega, ?_⟩
  simp only [e20, Int.toNat_natCast]
  refine ⟨fun vs M => ∃ R' A c', vs = [.slice A (gP f).length c'] ∧ R4.le R' ∧ RS jq R' A c' (gP f) ∧ Hp R' (bE zT 61 (some ⟨q, 0, none⟩) (dD p).length us :: dP k9 (some ⟨q, 0, none⟩) (dD p).length (dD p).length B (cL p).length c lk C (fZ p).length d :: dP k3 none 0 0 none 0 0 0 none 0 0 :: dP k1 pa.f p.funcs.length pa.fc pa.c p.dU.length pa.cc p.aI pa.k p.cases.length pa.kc :: L) M, ?_, ?_⟩
  ·refine aV.2 ⟨fun hz => ?_, fun hz => ?_⟩
   ·have ez : gP f = [.zero] := by unfold gP; rw [if_pos (by rw [List.length_take]; omega)]
    rw [ez]
    refine aj h ?_
    clear h
    intro ka M h
    obtain ⟨R5, l5, r5, h5⟩ := ((h.pt ka).gu (E := jq) (l := [.zero]) rfl).fG (some ⟨ka, 0, none⟩)
    clear h
    exact ⟨R5, _, _, rfl, l5, r5, h5⟩
   ·have ez : gP f = f.take 20 := by unfold gP; rw [if_neg (by rw [List.length_take]; omega)]
    rw [ez]
    refine ⟨R4, _, _, by rw [List.length_take]; rfl, Mem.le_refl _, RS.le (RS.cut (E := jq) (u4 (by omega)) 20) l4, h⟩
  clear h
  rintro nn UN B6 c'' M ⟨R5, F, cF, he, l5, hF, h⟩
  simp only [List.cons.injEq, Value.slice.injEq, and_true] at he
  obtain ⟨rfl, rfl, rfl⟩ := he
  clear nn e20
  have h5 := DR f
  refine aj h ?_
  clear h
  intro kr M h
  have h0 := (h.pt kr).gu (E := jq) (l := []) rfl
  clear h
  refine ⟨fun dd vs M => ∃ (i : Nat) (A : Option Addr) (c' : Nat), vs = [.slice A i c', .int .i64 (i : Int)] ∧ dd = (gP f).length - i ∧ i ≤ (gP f).length ∧ Hp R5 (bE jq 63 A c' (((gP f).take i).map (y5 (dD p).length (cL p).length (fZ p).length lk (gP f).length)) :: bE zT 61 (some ⟨q, 0, none⟩) (dD p).length us :: dP k9 (some ⟨q, 0, none⟩) (dD p).length (dD p).length B (cL p).length c lk C (fZ p).length d :: dP k3 none 0 0 none 0 0 0 none 0 0 :: dP k1 pa.f p.funcs.length pa.fc pa.c p.dU.length pa.cc p.aI pa.k p.cases.length pa.kc :: L) M,
   ⟨_, 0, _, _, rfl, rfl, by omega, h0⟩, ?_⟩
  clear h0
  rintro dd _ UN B6 c'' nn M ⟨i, A2, c2, he, Sb, hi, h⟩
  simp only [List.cons.injEq, Value.int.injEq, Value.slice.injEq, and_true, true_and] at he
  obtain ⟨⟨rfl, rfl, rfl⟩, rfl⟩ := he
  have hlen : (((gP f).take B6).map (y5 (dD p).length (cL p).length (fZ p).length lk (gP f).length)).length = B6 := by rw [List.length_map, List.length_take]; omega
  refine aJ.2 ⟨fun GU => ?_, fun YQ => ?_⟩
  ·obtain ⟨x, hx⟩ := aM (l := gP f) (i := B6) (by omega)
   obtain ⟨b', o', hb'⟩ := hF.some (by omega) (by decide)
   rw [hb'] at hF
   rw [hb']
   refine ⟨by omega, GU, aY ?_⟩
   refine aR (Src.at hF.src h (i := B6) (j := 0) hx rfl (by simp [jq])) ?_
   refine aR (Src.at hF.src h (i := B6) (j := 1) hx rfl (by simp [jq]; omega)) ?_
   refine aR (Src.at hF.src h (i := B6) (j := 2) hx rfl (by simp [jq]; omega)) ?_
   refine aR (Src.at hF.src h (i := B6) (j := 3) hx rfl (by simp [jq]; omega)) ?_
   repeat (first|(refine aj h ?_;clear h;intro kb M h)|(refine au h ?_;clear h;intro M h)|refine St.to h ?_|(apply Exists.intro;(repeat apply Exists.intro);refine And.intro rfl ?_)|refine av ?_|refine ae ?_|refine ai ?_)
   refine UJ h (by omega) ?_
   clear h; intro M h
   refine ⟨_, _, _, _, rfl, ?_⟩
   refine aj h ?_
   clear h
   intro kz M h
   refine h.gn (A := UN) UK [y5 (dD p).length (cL p).length (fZ p).length lk (gP f).length x] rfl hlen.symm rfl (by simp; omega) ?_
   clear h; intro A3 c3 M h
   refine aO ⟨(gP f).length - (B6 + 1), by omega, B6 + 1, A3, c3, ?_, rfl, by omega, ?_⟩
   ·rw [aP (by omega)]
   ·rw [take_succ hx, List.map_append]
    exact h.sub bp
  ·have hin : B6 = (gP f).length := by omega
   subst hin
   rw [List.take_of_length_le (Nat.le_refl _)] at h
   obtain ⟨R6, l6, r6, h6⟩ := h.fG UN
   clear h
   refine aF h6 ⟨by omega, by omega, aY ?_⟩
   obtain ⟨u, hu⟩ := aM (l := us) (i := j) (by omega)
   refine iE (a' := (UN, (gP f).length, c'')) j 0 h6 hu (by decide) rfl (by simp [zT]) ?_
   clear h6; intro M h
   refine ⟨(dD p).length - (j + 1), by omega, j + 1, R6, _, by rw [aP (by omega)], rfl, by omega, Mem.le_trans l4 (Mem.le_trans l5 l6), ?_, ?_, h.sub bp⟩
   ·simp [VL]
   ·intro i t' f' hi' ht' Ih
    by_cases hij : i = j
    ·subst hij
     rw [List.getElem?_set_self (by omega)] at ht'
     cases ht'
     rw [hf] at Ih
     cases Ih
     subst hlk
     exact ⟨r6, by simp [vf]⟩
    ·rw [List.getElem?_set_ne (by omega)] at ht'
     obtain ⟨g1, g2⟩ := HF i t' f' (by omega) ht' Ih
     exact ⟨g1.le (Mem.le_trans l5 l6), g2⟩
 ·have h5 : Hp R4 (dP k9 (some ⟨q, 0, none⟩) (dD p).length (dD p).length B (cL p).length c lk C (fZ p).length d :: dP k3 none 0 0 none 0 0 0 none 0 0 :: bE zT 61 (some ⟨q, 0, none⟩) (dD p).length us :: L) M := h.sub bp
  clear h
  replace h := h5
  clear h5
  repeat (first|(refine aj h ?_;clear h;intro kb M h)|(refine au h ?_;clear h;intro M h)|refine St.to h ?_|(apply Exists.intro;(repeat apply Exists.intro);refine And.intro rfl ?_)|refine av ?_|refine ae ?_|refine ai ?_)
  subst hlk
  have ef : (dw p).funcs.length = (dD p).length := by simp [dw]
  have hk := k R4 ⟨some ⟨q, 0, none⟩, (dD p).length, B, c, C, d⟩ q us M (Mem.le_trans Ua l4) rfl (by rw [VL, ef]) (fun i t f a b => ?_) (rC.le l4) (rB.le l4) (h.sub bp)
  ·rw [E5, ef] at hk
   exact hk
  ·have b' : ((dD p).map (vf p))[i]? = some f := b
   rw [List.getElem?_map] at b'
   obtain ⟨f0, b1, rfl⟩ := Option.map_eq_some_iff.1 b'
   exact HF i t f0 (by have := (List.getElem?_eq_some_iff.1 b1).1; omega) a b1
theorem RB (h : Hp R L M) (ha : ve R pa p) (k : ∀ R' HE M', R.le R' → nB R' HE (dw p) → RS br R' HE.c HE.cc (dw p).dU → Hp R' L M' → K (E5 HE (dw p)) M') :
  aa Tryz.prog 24 #[E5 pa p] M K Kp := by
 refine N3 h ha ?_
 clear h; intro R1 pa1 q us M l1 e VL hd rC rB h
 obtain ⟨R2, l2, r2, h2⟩ := h.fG (some ⟨q, 0, none⟩)
 refine k R2 pa1 M (Mem.le_trans l1 l2) ⟨⟨us, by rw [e]; exact r2, VL, fun i t f a b => ?_⟩, rC.le l2⟩ (rB.le l2) h2
 obtain ⟨g1, g2⟩ := hd i t f a b
 exact ⟨g1.le l2, g2⟩
end
theorem UO : bg Tryz.prog 28 27 4 32 [.int .i64 0, .int .i64 0, .int .i64 0, .int .i64 0] := bg.mk' (zv := .agg #[.int .i64 0, .int .i64 0, .int .i64 0, .int .i64 0]) (by kernel_rfl) (by kernel_rfl) rfl (by omega)
theorem UP : bg Tryz.prog 37 165 3 24 [.int .i64 0, .int .i64 0, .int .i64 0] := bg.mk' (zv := .agg #[.int .i64 0, .int .i64 0, .int .i64 0]) (by kernel_rfl) (by kernel_rfl) rfl (by omega)
theorem YZ : bg Tryz.prog 35 28 1 24 [.slice none 0 0] := bg.mk' (zv := .slice none 0 0) (by kernel_rfl) (by kernel_rfl) rfl (by omega)
theorem Kh {A : Option Addr} {b o : Nat} {G : Nat → Nat → Prop} (e : A = some ⟨b, o, none⟩) (g : G b o) : aE A G := by subst e; exact aY g
abbrev CK (k : Nat) (A : Option Addr) (n c : Nat) (B : Option Addr) (m d : Nat) (lk : Int) (C : Option Addr) (q e : Nat) : HP := pt k (prgC A n c B m d lk C q e) 39
section
variable {R : Mem} {L L' : List HP} {M : Mem} {K : Value → Mem → Prop} {Kp : List PanicEntry → Mem → Prop} {pa : PA} {p : cu}
theorem UQ (h : Hp R L M) (ha : nB R pa p) (hc : RS br R pa.c pa.cc p.dU) (hp : eC p) (hfn : p.funcs.length ≤ 1000000) (k : ∀ R' HE M', R.le R' → nB R' HE p → RS br R' HE.c HE.cc p.dU → Hp R' L M' → K (E5 HE p) M') :
  aa Tryz.prog 25 #[E5 pa p] M K Kp := by
 refine tC ?_
 have p1 := hp.ch
 have p2 := hp.cs
 obtain ⟨ts, t1, t2, t3⟩ := ha.funcs
 have t4 := t1.2
 refine aj h ?_
 clear h
 intro k1 M h
 refine aj h ?_
 clear h
 intro k3 M h
 refine aF h (ay h ?_)
 refine aj h ?_
 clear h
 intro k9 M h
 refine ⟨trivial, ?_⟩
 refine h.fV br qj p.dU hc.src rfl (by omega) ?_
 clear h; intro B c M h
 refine aO ⟨bD h, ?_⟩
 refine aj h ?_
 clear h
 intro dK M h
 repeat (refine au h ?_; clear h; intro M h)
 refine ⟨bD h, aF h ?_⟩
 obtain ⟨R1, l1, rB, h1⟩ := h.fG B
 clear h
 have h0 : Hp R1 (bE zT 28 none 0 [] :: CK dK none 0 0 B p.dU.length c p.aI none 0 0 :: CK k3 none 0 0 none 0 0 0 none 0 0 :: dP k1 pa.f p.funcs.length pa.fc pa.c p.dU.length pa.cc p.aI pa.k p.cases.length pa.kc :: L) M := (h1.bR zT _).sub bp
 clear h1
 refine ⟨fun dd vs M => ∃ (j : Nat) (R2 : Mem) (A : Option Addr) (cA : Nat) (us : List (Option Addr × Nat × Nat)), vs = [.int .i64 (j : Int)] ∧ dd = p.funcs.length - j ∧ j ≤ p.funcs.length ∧ R1.le R2 ∧ us.length = j ∧ (∀ (i : Nat) t f, us[i]? = some t → p.funcs[i]? = some f → RS jq R2 t.1 t.2.2 f ∧ t.2.1 = f.length) ∧
  Hp R2 (bE zT 28 A cA us :: CK dK A j cA B p.dU.length c p.aI none 0 0 :: CK k3 none 0 0 none 0 0 0 none 0 0 :: dP k1 pa.f p.funcs.length pa.fc pa.c p.dU.length pa.cc p.aI pa.k p.cases.length pa.kc :: L) M,
  ⟨_, 0, R1, none, 0, [], rfl, rfl, by omega, Mem.le_refl _, rfl, fun i t f a => by simp at a, h0⟩, ?_⟩
 clear h0
 rintro dd _ nn M ⟨j, R2, A, cA, us, he, hd, hj, l2, VL, HF, h⟩
 simp only [List.cons.injEq, Value.int.injEq, and_true, true_and] at he
 subst he
 refine aJ.2 ⟨fun hlt => ?_, fun hge => ?_⟩
 ·obtain ⟨t, ht⟩ := aM (l := ts) (i := j) (by omega)
  obtain ⟨f, hf⟩ := aM (l := p.funcs) (i := j) (by omega)
  obtain ⟨u1, u2⟩ := t3 j t f ht hf
  have hfl := (hp.code f (List.mem_of_getElem? hf)).2.1
  obtain ⟨tA, tn, tc⟩ := t
  dsimp only at u1 u2
  subst u2
  have Kg := t1.le (Mem.le_trans l1 l2)
  obtain ⟨b, o, hb⟩ := Kg.some (by omega) (by decide)
  rw [hb] at Kg
  refine ⟨by omega, hlt, Kh hb ?_⟩
  refine D7 (Src.at Kg.src h (i := j) (j := 0) ht rfl (by simp [zT])) ?_
  dsimp only
  have hF := u1.le (Mem.le_trans l1 l2)
  refine aj h ?_
  clear h
  intro kr M h
  have h0 := (h.pt kr).gu (E := jq) (l := []) rfl
  clear h
  refine ⟨fun dd vs M => ∃ (i : Nat) (A2 : Option Addr) (c' : Nat), vs = [.slice A2 i c', .int .i64 (i : Int)] ∧ dd = f.length - i ∧ i ≤ f.length ∧ Hp R2 (bE jq 27 A2 c' (f.take i) :: bE zT 28 A cA us :: CK dK A j cA B p.dU.length c p.aI none 0 0 :: CK k3 none 0 0 none 0 0 0 none 0 0 :: dP k1 pa.f p.funcs.length pa.fc pa.c p.dU.length pa.cc p.aI pa.k p.cases.length pa.kc :: L) M,
   ⟨_, 0, _, _, rfl, rfl, by omega, h0⟩, ?_⟩
  clear h0
  rintro dd _ UN B6 c'' nn M ⟨i, A2, c2, he, Sb, hi, h⟩
  simp only [List.cons.injEq, Value.int.injEq, Value.slice.injEq, and_true, true_and] at he
  obtain ⟨⟨rfl, rfl, rfl⟩, rfl⟩ := he
  have hlen : (f.take B6).length = B6 := by rw [List.length_take]; omega
  refine aJ.2 ⟨fun GU => ?_, fun YQ => ?_⟩
  ·obtain ⟨x, hx⟩ := aM (l := f) (i := B6) (by omega)
   obtain ⟨b', o', hb'⟩ := hF.some (by omega) (by decide)
   rw [hb'] at hF
   refine ⟨by omega, GU, Kh hb' ?_⟩
   refine aR (Src.at hF.src h (i := B6) (j := 0) hx rfl (by simp [jq])) ?_
   refine aR (Src.at hF.src h (i := B6) (j := 1) hx rfl (by simp [jq]; omega)) ?_
   refine aR (Src.at hF.src h (i := B6) (j := 2) hx rfl (by simp [jq]; omega)) ?_
   refine aR (Src.at hF.src h (i := B6) (j := 3) hx rfl (by simp [jq]; omega)) ?_
   repeat (first|(refine aj h ?_;clear h;intro kb M h)|(refine au h ?_;clear h;intro M h)|refine St.to h ?_|(apply Exists.intro;(repeat apply Exists.intro);refine And.intro rfl ?_)|refine av ?_|refine ae ?_|refine ai ?_)
   refine h.gn (A := UN) UO [x] rfl hlen.symm rfl (by simp; omega) ?_
   clear h; intro A3 c3 M h
   refine aO ⟨f.length - (B6 + 1), by omega, B6 + 1, A3, c3, ?_, rfl, by omega, ?_⟩
   ·rw [aP (by omega)]
   ·rw [take_succ hx]
    exact h.sub bp
  ·have hin : B6 = f.length := by omega
   subst hin
   rw [List.take_of_length_le (Nat.le_refl _)] at h
   obtain ⟨R6, l6, r6, h6⟩ := h.fG UN
   clear h
   refine aF h6 ?_
   refine aj h6 ?_
   clear h6; intro kz M h
   refine h.gn (A := A) YZ [(UN, f.length, c'')] rfl VL.symm rfl (by simp; omega) ?_
   clear h; intro A3 c3 M h
   refine aO ?_
   refine au h ?_
   clear h
   intro M h
   refine ⟨p.funcs.length - (j + 1), by omega, j + 1, R6, A3, c3, us ++ [(UN, f.length, c'')], by rw [aP (by omega)], rfl, by omega, Mem.le_trans l2 l6, by simp [VL], ?_, h.sub bp⟩
   intro i t' f' ht' Ih
   rcases Nat.lt_or_ge i us.length with hi' | hi'
   ·rw [List.getElem?_append_left hi'] at ht'
    obtain ⟨g1, g2⟩ := HF i t' f' ht' Ih
    exact ⟨g1.le l6, g2⟩
   ·rw [List.getElem?_append_right hi'] at ht'
    have hi0 : i - us.length = 0 := by
     rcases Nat.eq_zero_or_pos (i - us.length) with e | e
     ·exact e
     ·rw [List.getElem?_eq_none (by simp; omega)] at ht'; cases ht'
    rw [hi0] at ht'
    cases ht'
    have : i = j := by omega
    subst this
    rw [hf] at Ih
    cases Ih
    exact ⟨r6, rfl⟩
 ·have HO : j = p.funcs.length := by omega
  subst HO
  obtain ⟨R3, l3, rA, h3⟩ := h.fG A
  clear h
  refine aF h3 ?_
  have h0 : Hp R3 (bE iu 165 none 0 [] :: CK dK A p.funcs.length cA B p.dU.length c p.aI none 0 0 :: CK k3 none 0 0 none 0 0 0 none 0 0 :: dP k1 pa.f p.funcs.length pa.fc pa.c p.dU.length pa.cc p.aI pa.k p.cases.length pa.kc :: L) M := h3.bR iu _
  clear h3
  have l123 := Mem.le_trans l1 (Mem.le_trans l2 l3)
  have hk := ha.cases.le l123
  refine ⟨fun dd vs M => ∃ (i : Nat) (A2 : Option Addr) (c' : Nat), vs = [.int .i64 (i : Int)] ∧ dd = p.cases.length - i ∧ i ≤ p.cases.length ∧ Hp R3 (bE iu 165 A2 c' (p.cases.take i) :: CK dK A p.funcs.length cA B p.dU.length c p.aI A2 i c' :: CK k3 none 0 0 none 0 0 0 none 0 0 :: dP k1 pa.f p.funcs.length pa.fc pa.c p.dU.length pa.cc p.aI pa.k p.cases.length pa.kc :: L) M,
   ⟨_, 0, none, 0, rfl, rfl, by omega, h0⟩, ?_⟩
  clear h0
  rintro dd _ nn M ⟨i, A2, c2, he, Sb, hi, h⟩
  simp only [List.cons.injEq, Value.int.injEq, and_true, true_and] at he
  subst he
  have hlen : (p.cases.take i).length = i := by rw [List.length_take]; omega
  refine aJ.2 ⟨fun GU => ?_, fun YQ => ?_⟩
  ·obtain ⟨x, hx⟩ := aM (l := p.cases) (i := i) (by omega)
   obtain ⟨b', o', hb'⟩ := hk.some (by omega) (by decide)
   rw [hb'] at hk
   refine ⟨by omega, GU, Kh hb' ?_⟩
   refine aR (Src.at hk.src h (i := i) (j := 0) hx rfl (by simp [iu])) ?_
   refine aR (Src.at hk.src h (i := i) (j := 1) hx rfl (by simp [iu]; omega)) ?_
   refine aR (Src.at hk.src h (i := i) (j := 2) hx rfl (by simp [iu]; omega)) ?_
   repeat (first|(refine aj h ?_;clear h;intro kb M h)|(refine au h ?_;clear h;intro M h)|refine St.to h ?_|(apply Exists.intro;(repeat apply Exists.intro);refine And.intro rfl ?_)|refine av ?_|refine ae ?_|refine ai ?_)
   refine h.gn (A := A2) UP [x] rfl hlen.symm rfl (by simp; omega) ?_
   clear h; intro A3 c3 M h
   refine aO ?_
   refine au h ?_
   clear h
   intro M h
   refine ⟨p.cases.length - (i + 1), by omega, i + 1, A3, c3, ?_, rfl, by omega, ?_⟩
   ·rw [aP (by omega)]
   ·rw [take_succ hx]
    exact h.sub bp
  ·have hin : i = p.cases.length := by omega
   subst hin
   rw [List.take_of_length_le (Nat.le_refl _)] at h
   obtain ⟨R6, l6, r6, h6⟩ := h.fG A2
   clear h
   replace h := h6
   clear h6
   repeat (first|(refine aj h ?_;clear h;intro kb M h)|(refine au h ?_;clear h;intro M h)|refine St.to h ?_|(apply Exists.intro;(repeat apply Exists.intro);refine And.intro rfl ?_)|refine av ?_|refine ae ?_|refine ai ?_)
   have l16 := Mem.le_trans l123 l6
   refine k R6 ⟨A, cA, B, c, A2, c2⟩ _ l16 ⟨⟨us, rA.le l6, VL, fun i t f a b => ?_⟩, r6⟩ (rB.le (Mem.le_trans l2 (Mem.le_trans l3 l6))) (h.sub bp)
   obtain ⟨g1, g2⟩ := HF i t f a b
   exact ⟨g1.le (Mem.le_trans l3 l6), g2⟩
end
section
variable {R : Mem} {L L' : List HP} {M : Mem} {K : Value → Mem → Prop} {Kp : List PanicEntry → Mem → Prop} {b wb db : Nat} {l : List Int} {pa : PA} {p : cu} {x : Sc}
theorem HG (h : Hp R L M) [o : mo b L pa p wb db x L'] (h1 : x.gl.length ≤ 1000000) (h2 : x.ps.length ≤ 1000000) (h3 : x.ms.length ≤ 1000000) (h4 : x.w.gs.length ≤ 1000000) (hb : (Sg x).length ≤ 1000000000000)
  (k : ∀ R' A c M', R.le R' → Hp R' (iO A c (Sg x) :: ax (fO pa p wb db) b x :: L') M' → K (.slice A (Sg x).length c) M') : aa Tryz.prog 83 #[.pointer (some ⟨b, 0, none⟩)] M K Kp := by
 refine AV ?_
 replace h := h.pick o.pick
 clear o
 have hbs : x.gl.length + (x.ps.flatMap jk).length + (x.ms.flatMap kG).length + 5 ≤ 1000000000000 := by
  simp only [Sg, List.length_append, List.length_cons, List.length_nil] at hb; omega
 refine aj h ?_
 clear h; intro k1 M h
 replace h := h.bR br 2
 have h0 : Hp R (ax iq k1 [] :: ax (fO pa p wb db) b x :: L') M := Rz (A := none) (c := 0) (l := []) (h.sub bp)
 clear h
 refine aj h0 ?_
 clear h0; intro k3 M h
 refine au h ?_
 clear h; intro M h
 refine cK h ?_
 refine qW (b := b) h (bW ⟨bD h, ?_⟩)
 refine b7 (b := k1) h (by simp) ?_
 clear h; intro M h
 refine ⟨rfl, bD h, cK h ?_⟩
 refine kQ (b := b) h h4 (bW ⟨bD h, ?_⟩)
 refine b7 (b := k1) h (by simp) ?_
 clear h; intro M h
 refine ⟨rfl, bD h, cK h ?_⟩
 refine EV (b := b) h h1 ?_
 clear h; intro A ca M h
 refine aO ⟨bD h, ?_⟩
 have h5 : Hp R (ax iq k1 ([] ++ [x.steps] ++ [x.status]) :: iZ A ca x.gl :: pt k3 [.pointer (some ⟨k1, 0, none⟩)] 187 :: ax (fO pa p wb db) b x :: L') M := h.sub bp
 clear h
 refine yo (xs := x.gl) h5 (Src.row (A := A)) rfl (by simp only [List.length_append, List.length_cons, List.length_nil]; omega) ?_
 clear h5; intro M h
 refine ⟨rfl, bD h, cK h ?_⟩
 refine yn (b := b) h h2 ?_
 clear h; intro R2 B cb vs M hle hv h
 refine aO ⟨bD h, ?_⟩
 have h6 : Hp R2 (ax iq k1 ([] ++ [x.steps] ++ [x.status] ++ ((x.gl.length : Int) :: x.gl)) :: bE Sf 263 B cb vs :: pt k3 [.pointer (some ⟨k1, 0, none⟩)] 187 :: ax (fO pa p wb db) b x :: L') M := h.sub bp
 clear h
 refine BP (ps := x.ps) h6 (Src.row (A := B)) rfl hv (fun v pr hvp _ => zC (fun M h => bD h) hvp) (by simp only [List.length_append, List.length_cons, List.length_nil]; omega) (by omega) ?_
 clear h6; intro M h
 refine ⟨rfl, bD h, cK h ?_⟩
 refine BL (b := b) h h3 ?_
 clear h; intro D cd M h
 refine aO ⟨bD h, ?_⟩
 have h7 : Hp R2 (ax iq k1 ([] ++ [x.steps] ++ [x.status] ++ ((x.gl.length : Int) :: x.gl) ++ ((x.ps.length : Int) :: x.ps.flatMap jk)) :: bE gp 268 D cd x.ms :: pt k3 [.pointer (some ⟨k1, 0, none⟩)] 187 :: ax (fO pa p wb db) b x :: L') M := h.sub bp
 clear h
 refine E3 (xs := x.ms) h7 (Src.row (A := D)) rfl (fun m _ => CH (fun M h => bD h) m) (by simp only [List.length_append, List.length_cons, List.length_nil]; omega) (by omega) ?_
 clear h7; intro M h
 refine ⟨rfl, bD h, cK h (aY ?_)⟩
 have h8 : Hp R2 (ax iq k1 ([] ++ [x.steps] ++ [x.status] ++ ((x.gl.length : Int) :: x.gl) ++ ((x.ps.length : Int) :: x.ps.flatMap jk) ++ ((x.ms.length : Int) :: x.ms.flatMap kG)) :: ax (fO pa p wb db) b x :: L') M := h.sub bp
 clear h
 have ef : [] ++ [x.steps] ++ [x.status] ++ ((x.gl.length : Int) :: x.gl) ++ ((x.ps.length : Int) :: x.ps.flatMap jk) ++ ((x.ms.length : Int) :: x.ms.flatMap kG) = Sg x := by
  unfold Sg; simp
 rw [ef] at h8
 have h9 := E2 h8 (b := k1)
 clear h8
 obtain ⟨A2, c2', h⟩ := h9
 refine aF h ?_
 exact k R2 A2 c2' M hle (h.sub bp)
structure Y0 (x : Sc) : Prop where
 gl : x.gl.length ≤ 1000000
 ps : x.ps.length ≤ 1000000
 ms : x.ms.length ≤ 1000000
 gs : x.w.gs.length ≤ 1000
 DD : ∀ g : Int, 0 ≤ g → g < x.w.gs.length → bn x.w g
 sm : ({ x.w with ready := [] } : Wd).Sm
 bq : (Sg x).length ≤ 10000000000
 bw : ∀ nc nl, (NY x.w nc nl).length ≤ 100000000000
theorem y7 {α : Type} {f : α → List Int} {B : Nat} : ∀ {xs : List α}, (∀ a ∈ xs, (f a).length ≤ B) → (xs.flatMap f).length ≤ xs.length * B
 | [], _ => by simp
 | a :: xs, h => by
  have h1 := y7 (xs := xs) fun b hb => h b (List.mem_cons_of_mem _ hb)
  have h2 := h a (by simp)
  rw [List.flatMap_cons, List.length_append, List.length_cons, Nat.succ_mul]; omega
theorem SV.UR {N : Nat} (h : SV p N x) (hp : eC p) : Y0 x := by
 have YN := h.UB
 have hP := h.P1
 have hM := h.M1
 have BU := h.w.n2
 have zi := (h.w.ready (r := [])).sm hp (by show (0 : Nat) ≤ _; omega)
 have hsm' := zi
 obtain ⟨s1, s2, s3, _, s5, s6, s7, s8⟩ := hsm'
 change ∀ c ∈ x.w.aB, c.Small 1000000 at s1
 change x.w.aB.length ≤ 1000 at s2
 change x.w.out.length ≤ 1000000 at s5
 change ∀ l ∈ x.w.aI, l.waits.length ≤ 1000000 at s6
 change x.w.aI.length ≤ 1000 at s7
 change x.w.hl.length ≤ 1000000 at s8
 have q1 : (x.ps.flatMap jk).length ≤ x.ps.length * 2000 := y7 fun pr j7 => by
  have h1 := h.room pr j7
  obtain ⟨a1, a2, a3⟩ := h1
  simp only [jk, List.length_append, List.length_cons, List.length_nil]; omega
 have q2 : (x.ms.flatMap kG).length ≤ x.ms.length * 3 := y7 fun m hm => Nat.le_refl 3
 have q3 : (x.w.gs.flatMap CI).length ≤ x.w.gs.length * 200 := y7 fun y hy => by
  have h1 := (h.w.DD y hy).l2
  have h2 : (y.fs.flatMap lT).length ≤ y.fs.length * 11 := y7 fun f _ => Nat.le_refl 11
  simp only [CI, List.length_cons]; omega
 have q4 : ∀ n, ((x.w.aB.take n).flatMap ru).length ≤ 1000 * 10000000 := fun n => by
  have h1 : ((x.w.aB.take n).flatMap ru).length ≤ (x.w.aB.take n).length * 10000000 := y7 fun c hc => by
   have h1 := s1 c (List.mem_of_mem_take hc)
   obtain ⟨a1, a2, a3⟩ := h1
   simp only [ru, List.length_append, List.length_cons, nN]; omega
  have h2 : (x.w.aB.take n).length ≤ 1000 := by rw [List.length_take]; omega
  exact Nat.le_trans h1 (Nat.mul_le_mul_right _ h2)
 have q5 : ∀ n, ((x.w.aI.take n).flatMap tM).length ≤ 1000 * 10000000 := fun n => by
  have h1 : ((x.w.aI.take n).flatMap tM).length ≤ (x.w.aI.take n).length * 10000000 := y7 fun c hc => by
   have h1 := s6 c (List.mem_of_mem_take hc)
   simp only [tM, List.length_cons]; omega
  have h2 : (x.w.aI.take n).length ≤ 1000 := by rw [List.length_take]; omega
  exact Nat.le_trans h1 (Nat.mul_le_mul_right _ h2)
 have q6 : ((di x.w.hl.length x.w.hl).flatMap ry).length ≤ (di x.w.hl.length x.w.hl).length * 3 := y7 fun i _ => Nat.le_refl 3
 have q7 := vb x.w.hl.length x.w.hl
 refine ⟨by omega, by omega, by omega, by omega, fun g g0 g1 => h.w.bn g0 g1, zi, ?_, fun nc nl => ?_⟩
 ·simp only [Sg, List.length_append, List.length_cons, List.length_nil]; omega
 ·have a1 := q4 nc
  have a2 := q5 nl
  simp only [NY, List.length_append, List.length_cons, List.length_nil]; omega
def Ki (x : Sc) (nc nl : Nat) : List Int := Sg x ++ NY x.w nc nl
theorem RC {c1 c2 : Int} (h : Hp R L M) [q : mo b L pa p wb db x L'] (ok : Y0 x) (h1 : c1 ≤ x.w.aB.length) (h2 : c2 ≤ x.w.aI.length)
  (k : ∀ A c M', Hp R (iO A c (NY x.w c1.toNat c2.toNat) :: ax (fO pa p wb db) b x :: L') M' → K (.slice A (NY x.w c1.toNat c2.toNat).length c) M') : aa Tryz.prog 41 #[.pointer (some ⟨wb, 0, none⟩), .int .i64 c1, .int .i64 c2] M K Kp := by
 have hbw := ok.bw c1.toNat c2.toNat
 have h' := eu h (b := b)
 clear h
 obtain ⟨a, hla, h⟩ := h'
 refine Kf (wb := wb) h ok.DD ok.sm h1 h2 (by omega) ?_
 clear h; intro A c M h
 have h2 : Hp R (gz (eo b wb db a x) x.gl :: ax (bj pa p) wb x.w :: ax (cI .nilFunc) db x.d :: fN a x (iO A c (NY x.w c1.toNat c2.toNat) :: L')) M := h.sub bp
 exact k A c M ((gO hla h2).sub bp)
theorem BS {c1 c2 : Int} (h : Hp R L M) [o : mo b L pa p wb db x L'] (ok : Y0 x) (h1 : c1 ≤ x.w.aB.length) (h2 : c2 ≤ x.w.aI.length)
  (k : ∀ R' A c M', R.le R' → Hp R' (iO A c (Ki x c1.toNat c2.toNat) :: ax (fO pa p wb db) b x :: L') M' → K (.slice A (Ki x c1.toNat c2.toNat).length c) M') : aa Tryz.prog 40 #[.pointer (some ⟨b, 0, none⟩), .int .i64 c1, .int .i64 c2] M K Kp := by
 refine Gz ?_
 replace h := h.pick o.pick
 clear o
 have hgs := ok.gs
 have hbq := ok.bq
 have hbw := ok.bw c1.toNat c2.toNat
 refine HG (b := b) h ok.gl ok.ps ok.ms (by omega) (by omega) ?_
 clear h; intro R2 A ca M hle h
 refine aO ?_
 refine qV (b := b) h (gY ?_)
 refine RC (b := b) h ok h1 h2 ?_
 clear h; intro B cb M h
 refine aO ?_
 have h3 : Hp R2 (iO A ca (Sg x) :: iO B cb (NY x.w c1.toNat c2.toNat) :: ax (fO pa p wb db) b x :: L') M := h.sub bp
 clear h
 refine h3.C6 (A := A) LF (Src.row (A := B)) rfl (by omega) ?_
 clear h3; intro A' c' M h
 refine aO ?_
 exact k R2 A' c' M hle (h.sub bp)
end
theorem RD {q : Loc} {t : Int} {gl : List Int} (h : (nJ q t gl).2.2.2 = false) : (nJ q t gl).1 = q ∧ (nJ q t gl).2.1 = gl := by
 obtain ⟨hn, hr, _⟩ := NT q gl
 have ht : q.next = -1 → q.fk gl = (q, gl, 0) := fun e => by unfold Loc.fk; rw [if_pos e]
 have hput : q.next ≠ -1 → (q.fk gl).1.l ≠ [] ∨ (q.fk gl).2.1 ≠ [] := fun e => by
  unfold Loc.fk; rw [if_neg e]; unfold Loc.put; dsimp only
  split
  ·exact .inl (by simp)
  ·exact .inr (by simp)
 unfold nJ at h ⊢
 generalize q.fk gl = r at hn hr h ht hput
 obtain ⟨q1, g1, n1⟩ := r
 dsimp only at hn hr h hput ⊢
 split
 ·rename_i hh; rw [if_pos hh] at h; cases h
 ·rename_i hh
  rw [if_neg hh] at h
  split
  ·rename_i ho; rw [if_pos ho] at h; cases h
  ·rename_i ho
   rw [if_neg ho] at h
   have hl : q1.l = [] := by
    unfold u5 at ho
    simp only [Bool.or_eq_true, bne_iff_ne, ne_eq, Bool.not_eq_true', List.isEmpty_eq_false_iff, not_or, Decidable.not_not] at ho
    exact ho.2
   rw [UH hn hl]
   dsimp only at h ⊢
   cases g1 with
   | nil =>
    rw [YU]
    by_cases e : q.next = -1
    ·have h2 := ht e
     simp only [Prod.mk.injEq] at h2
     exact ⟨h2.1, h2.2.1⟩
    ·rcases hput e with h1 | h1
     ·exact absurd hl h1
     ·exact absurd rfl h1
   | cons v l => cases h
theorem RE {α : Type} {l : List α} {i : Nat} {d : α} : l.set i (l.getD i d) = l := by
 apply List.ext_getElem?
 intro j
 rw [List.getElem?_set]
 split
 ·rename_i e
  subst e
  split
  ·rename_i hlt; simp [hlt]
  ·rename_i hlt; simp [hlt]
 ·rfl
section
variable {p : cu} {N : Nat} {x y x0 : Sc}
theorem RF {i : Int} (h : (x.own i).2.2 = false) : (x.own i).1 = x := by
 obtain ⟨e1, e2⟩ := RD (q := (aL x i).q) (t := (aL x i).turns) (gl := x.gl) h
 unfold Sc.own
 dsimp only
 rw [e1, e2]
 have : x.de i { aL x i with q := (aL x i).q } = x := by
  unfold Sc.de
  have : ({ aL x i with q := (aL x i).q } : dG) = x.ps.getD i.toNat ⟨⟨-1, 0, []⟩, 0, -1⟩ := rfl
  rw [this, RE]
 rw [this]
theorem RG (hs : SV p N x) (hp : eC p) {l : List PanicEntry} (hst : x.status = 0) (hy : x.step p = some (y, .dF l)) : ∃ d r, y = { x with d := d, w := { x.w with ready := r } } := by
 unfold Sc.step at hy
 split at hy
 ·rw [if_neg (by rw [hst]; decide)] at hy
  split at hy
  ·rename_i d' l' yc
   simp only [Option.some.injEq, Prod.mk.injEq] at hy
   rw [← hy.1]
   exact ⟨d', x.w.ready, rfl⟩
  ·rename_i d' k yc
   have hn := lR hs.k yc
   have hk' : d'.k.Ok := by have := wO (kind := 1) (n := x.c.M + 1) hs.k; rw [yc] at this; exact this
   have hM := hs.cM
   have hM1 := hs.M1
   rw [show kP (x.c.M + 1) = x.c.M + 1 from by unfold kP; rw [if_neg (by omega)]] at hn
   generalize hac : Sc.act p { x with d := d' } k = r at hy
   cases r with
   | none => cases hy
   | some r =>
    obtain ⟨z, o⟩ := r
    simp only [Option.map_some, Option.some.injEq] at hy
    cases o with
    | ev e => cases hy
    | dF l2 =>
     simp only [EW, Prod.mk.injEq] at hy
     rw [← hy.1]
     clear hy
     unfold Sc.act at hac
     split at hac
     ·split at hac <;> cases hac
     ·split at hac
      ·cases hac
      ·split at hac
       ·split at hac
        ·simp only [Option.some.injEq] at hac
         unfold Sc.find at hac
         dsimp only at hac
         split at hac
         ·cases hac
         ·split at hac
          ·rename_i hown
           have ek := RF hown.1
           split at hac
           ·cases hac
            rw [ek]
            exact ⟨_, x.w.ready, rfl⟩
           ·split at hac <;> cases hac
          ·cases hac
        ·cases hac
       ·rename_i hmp ZF
        have TQ : 0 ≤ (aC x k).g := by
         have hmk := rm (x := x) (m := k) (by omega) (by dsimp only at *; omega)
         rcases hs.ms _ (List.mem_of_getElem? hmk) with e | e
         ·exact absurd e.2.1 ZF
         ·have : (aC x k).g ≠ -1 := ZF
          omega
        unfold Sc.run at hac
        have em : aC { x with d := d' } k = aC x k := rfl
        rw [em] at hac
        split at hac
        ·split at hac
         ·obtain ⟨r, rest, hex, hres⟩ := Hj (d := (fH d' (asks p { x.w with ready := [] } (aC x k).g)).2) hs.w hp TQ (fun v kd n e1 e2 => by
           rw [e2] at e1
           unfold fH at e1
           dsimp only at e1
           generalize hq : d'.draw kd n = q at e1
           obtain ⟨d3, o3⟩ := q
           dsimp only at e1
           subst e1
           have := lR hk' hq
           have hb := Lz hp e2
           rw [show kP n = n from by unfold kP; rw [if_neg (by omega)]] at this
           exact ⟨this.1, this.2.1⟩)
          dsimp only at hac
          rw [hex] at hac
          rcases hres with ⟨hres, _⟩ | ⟨l, e1, e3, _⟩
          ·cases r with
           | on y' => unfold ji at hac; dsimp only at hac; split at hac <;> cases hac
           | eV n y' => unfold ji at hac; dsimp only at hac; split at hac <;> cases hac
           | dF l y' => exact hres.elim
          ·subst e3
           cases hac
           exact ⟨_, [], rfl⟩
         ·cases hac
        ·cases hac
 ·cases hy
inductive TR (p : cu) (x0 : Sc) : Nat → Sc → List Int → Prop
 | zero : TR p x0 0 x0 []
 | succ {j : Nat} {x y : Sc} {l : List Int} {e : Ev} : TR p x0 j x l → x.status = 0 → x.step p = some (y, .ev e) → TR p x0 (j + 1) y (l ++ [((qP (Ki y p.dU.length p.aI.toNat) : Nat) : Int)])
def tst (n : Int) : Int := if n = 1 then 1 else if n = 2 then 2 else if n = 3 then 3 else 5
inductive HH (p : cu) (x0 : Sc) (most : Nat) : Sc → List Int → Int → Prop
 | US {j : Nat} {x : Sc} {l : List Int} : TR p x0 j x l → j ≤ most → j = most ∨ x.status ≠ 0 → HH p x0 most x l (tst x.status)
 | dF {j : Nat} {x y : Sc} {l : List Int} {v : List PanicEntry} {st : Int} : TR p x0 j x l → j < most → x.status = 0 → x.step p = some (y, .dF v) → HH p x0 most y l st
theorem TR.sv {j : Nat} {l : List Int} (h : TR p x0 j x l) (h0 : SV p 0 x0) (hp : eC p) (hj : j ≤ 1000000) : SV p j x := by
 induction h with
 | zero => exact h0
 | succ hw hs he ih =>
  obtain ⟨y', o, h1, h2⟩ := (ih (by omega)).step hp (by omega)
  rw [he] at h1
  cases h1
  exact h2
theorem TR.len {j : Nat} {l : List Int} (h : TR p x0 j x l) : l.length = j := by
 induction h with
 | zero => rfl
 | succ hw hs he ih => simp [ih]
theorem TR.steps {j : Nat} {l : List Int} (h : TR p x0 j x l) (h0 : x0.steps = 0) : x.steps = j := by
 induction h with
 | zero => exact h0
 | succ hw hs he ih => rw [(NV hs he).1, ih]; omega
theorem TR.last {j : Nat} {l : List Int} (h : TR p x0 (j + 1) x l) : l[j]? = some ((qP (Ki x p.dU.length p.aI.toNat) : Nat) : Int) := by
 cases h with
 | succ hw hs he => rw [← hw.len]; simp
theorem TR.bd {j : Nat} {l : List Int} (h : TR p x0 j x l) : ∀ v ∈ l, 0 ≤ v ∧ v < 4294967296 := by
 induction h with
 | zero => intro v hv; cases hv
 | @succ j x y l e hw hs he ih =>
  intro v hv
  rcases List.mem_append.1 hv with hv | hv
  ·exact ih v hv
  ·simp only [List.mem_singleton] at hv
   have := QW (Ki y p.dU.length p.aI.toNat)
   omega
theorem HH.facts {most : Nat} {l : List Int} {st : Int} (h : HH p x0 most y l st) (h0 : SV p 0 x0) (hp : eC p) (hs : x0.steps = 0) (hm : most ≤ 100000) :
  ∃ j : Nat, j ≤ most ∧ l.length = j ∧ y.steps = j ∧ SV p (j + 1) y ∧ ∀ i : Nat, j = i + 1 → l[i]? = some ((qP (Ki y p.dU.length p.aI.toNat) : Nat) : Int) := by
 cases h with
 | US hw hj _ => exact ⟨_, hj, hw.len, hw.steps hs, (hw.sv h0 hp (by omega)).mono (by omega), fun i e => by subst e; exact hw.last⟩
 | @dF j x y l v st hw hj hst E6 =>
  have hv := hw.sv h0 hp (by omega)
  obtain ⟨y', o, h1, h2⟩ := hv.step hp (by omega)
  rw [E6] at h1
  cases h1
  obtain ⟨d, r, rfl⟩ := RG hv hp hst E6
  exact ⟨j, by omega, hw.len, hw.steps hs, h2, fun i e => by subst e; exact hw.last⟩
end
end Go.Proofs
namespace Go.Proofs
open Go.AF
set_option maxRecDepth 100000
set_option maxHeartbeats 1000000
attribute [local irreducible] aK dH fz cv az fC aE aN aW aX bL aQ
attribute [local irreducible] Sh VQ
abbrev rnC (pa : PA) (p : cu) (sb db : Nat) (A : Option Addr) (n c : Nat) : List Value :=
 [.slice pa.f p.funcs.length pa.fc, .slice pa.c p.dU.length pa.cc, .int .i64 p.aI, .slice pa.k p.cases.length pa.kc, .pointer (some ⟨sb, 0, none⟩), .pointer (some ⟨db, 0, none⟩), .slice A n c, .int .i64 0]
abbrev zF (pa : PA) (p : cu) (b sb wb db : Nat) (A : Option Addr) (c : Nat) (x : Sc) (l : List Int) (L : List HP) : List HP :=
 pt b (rnC pa p sb db A l.length c) 208 :: bE lY 117 A c l :: ax (fO pa p wb db) sb x :: L
theorem RH : bg Tryz.prog 111 117 1 4 [.int .u32 0] := bg.mk' (zv := .int .u32 0) (by kernel_rfl) (by kernel_rfl) rfl (by omega)
abbrev unA (u0 u1 u2 u3 u4 : Int) : Value := .agg #[.int .i64 u0, .int .i64 u1, .int .i64 u2, .int .i64 u3, .int .u64 u4]
abbrev trV (st steps eV : Int) (Ao : Option Addr) (n co : Nat) (As : Option Addr) (m cs : Nat) (e u0 u1 u2 u3 u4 : Int) : Value :=
 .agg #[.int .i64 st, .int .i64 steps, .int .i64 eV, .slice Ao n co, .slice As m cs, .int .i64 e, .int .i64 u0, .int .i64 u1, .int .i64 u2, .int .i64 u3, .int .u64 u4]
section
variable {R : Mem} {L L' : List HP} {M : Mem} {K : Value → Mem → Prop} {Kp : List PanicEntry → Mem → Prop} {pa : PA} {p : cu} {b sb wb db : Nat} {x x0 y : Sc} {A : Option Addr} {c : Nat} {l : List Int} {st e u0 u1 u2 u3 u4 : Int}
theorem Y1 (h : Hp R L M) [q : mo b L pa p wb db x L'] (k : K (.tuple #[.int .i64 x.w.end_, .int .i64 x.w.code]) M) : aa Tryz.prog 28 #[.pointer (some ⟨wb, 0, none⟩)] M K Kp := by
 have h' := eu h (b := b)
 clear h
 obtain ⟨a, hl, h⟩ := h'
 exact ya (b := wb) h k
theorem Y3 (h : Hp R L M) [q : mo b L pa p wb db x L'] (hs : x.w.out.length ≤ 1000000) (k : ∀ A c M', Hp R (iO A c x.w.out :: ax (fO pa p wb db) b x :: L') M' → K (.slice A x.w.out.length c) M') : aa Tryz.prog 23 #[.pointer (some ⟨wb, 0, none⟩)] M K Kp := by
 have h' := eu h (b := b)
 clear h
 obtain ⟨a, hla, h⟩ := h'
 refine DA (b := wb) h hs ?_
 clear h; intro A c M h
 have h2 : Hp R (gz (eo b wb db a x) x.gl :: ax (bj pa p) wb x.w :: ax (cI .nilFunc) db x.d :: fN a x (iO A c x.w.out :: L')) M := h.sub bp
 exact k A c M ((gO hla h2).sub bp)
theorem y8 {cf : Se} {d : nW} (h : Hp R L M) [o : bZ (cI .nilFunc) db L d L'] (yM : RS br R pa.c pa.cc p.dU) (hok : eC p) (hP : 0 ≤ cf.P ∧ cf.P ≤ 1000000) (hM : 0 ≤ cf.M ∧ cf.M ≤ 1000000)
  (k : ∀ b sb wb M', Hp R (zF pa p b sb wb db none 0 (Sc.new p cf d) [] L') M' → K (.pointer (some ⟨b, 0, none⟩)) M') :
  aa Tryz.prog 43 #[.agg #[.slice pa.f p.funcs.length pa.fc, .slice pa.c p.dU.length pa.cc, .int .i64 p.aI, .slice pa.k p.cases.length pa.kc], .agg #[.int .i64 cf.P, .int .i64 cf.M, .int .i64 cf.R, .int .i64 cf.S], .pointer (some ⟨db, 0, none⟩)] M K Kp := by
 refine AX ?_
 replace h := h.front (cI .nilFunc) db
 refine aj h ?_
 clear h
 intro k1 M h
 refine aj h ?_
 clear h
 intro k3 M h
 refine aF h (aF h (ay h (aF h (ay h (ay h (ay h (ay h (aF h (aF h (ay h (aF h ?_)))))))))))
 refine NS (p := p) (pa := pa) (c := cf) (d := d) h yM (by have := hok.ch; omega) (by have := hok.lk; omega) hP hM ?_
 clear h; intro sb wb M h
 refine gY ⟨ig h rfl, ?_⟩
 refine aj h ?_
 clear h
 intro b M h
 replace h := h.bR lY 117
 exact k b sb wb M (h.sub bp)
theorem E7 {Q : HP} {v : Int} {G : Mem → Prop} (hl : l.length ≤ 1000000) (h : Hp R (Q :: zF pa p b sb wb db A c y l L) M) (g : ∀ A' c' M', Hp R (Q :: zF pa p b sb wb db A' c' y (l ++ [v]) L) M' → G M') :
  aW M (.cells #[(.int .u32 v)] 117 (0, 0)) fun oT oU =>
  aX Tryz.prog (Go.Builtin.append_ #[111, 111] 111 #[(.slice A l.length c), (.slice (some ⟨oT, 0, none⟩) 1 1)]) oU (fun IG kW =>
  az (some IG) fun Db nO nQ =>
  aN kW ⟨b, (0 + 6), none⟩ (.slice Db nO nQ) fun pb => G pb) Kp := by
 refine aj h ?_
 clear h
 intro k1 M h
 refine h.bJ RH [v] rfl rfl (by simp; omega) ?_
 clear h
 intro A' c' M h
 refine aO ?_
 refine au h ?_
 clear h; intro M h
 exact g A' c' M (h.sub bp)
theorem Kj {N : Nat} {o : tK} (hp : nB R pa p) (hok : eC p) (hv : SV p N x) (hN : N ≤ 100000) (hst : x.step p = some (y, o)) (hl : l.length ≤ 100000) :
  E0 R (zF pa p b sb wb db A c x l L) (.func (.func 95) #[.pointer (some ⟨b, 0, none⟩)] #[])
   (fun R' L2 => R.le R' ∧ ∃ A' c' e, o = .ev e ∧ L2 = zF pa p b sb wb db A' c' y (l ++ [((qP (Ki y p.dU.length p.aI.toNat) : Nat) : Int)]) L)
   (fun R' v L2 => R.le R' ∧ (∃ e vs, pK v e vs) ∧ o = .dF v ∧ L2 = zF pa p b sb wb db A c y l L) := by
 intro Q M K Kp h kk kd
 refine iK (args := []) ⟨by decide, by show _ < 255; decide⟩ ?_
 refine qH ?_
 obtain ⟨y', o', hs', HM⟩ := hv.step hok (by omega)
 rw [hst] at hs'
 simp only [Option.some.injEq, Prod.mk.injEq] at hs'
 obtain ⟨rfl, rfl⟩ := hs'
 refine cK h ?_
 refine Kc (b := sb) h hp hv.k hst ?_
 cases o with
 | dF v =>
  intro M9 h9
  exact kd R v _ M9 ⟨Mem.le_refl _, Ry hst, rfl, rfl⟩ (h9.sub bp)
 | ev e =>
  intro R4 A4 c4 M9 N4 zy h9
  clear h kd
  have h : Hp R4 (Q :: zF pa p b sb wb db A c y l L) M9 := h9.sub bp
  clear h9
  have ok := HM.UR hok
  have hcy := HM.w.ch
  have hly := HM.w.lk
  have hbq := ok.bq
  have hbw := ok.bw p.dU.length p.aI.toNat
  have Lp : (Ki y p.dU.length p.aI.toNat).length ≤ 1000000000000 := by unfold Ki; rw [List.length_append]; omega
  refine ⟨_, _, _, _, _, _, rfl, fun _ M' => ∃ R5 A5 c5, R4.le R5 ∧ Hp R5 (Q :: zF pa p b sb wb db A5 c5 y (l ++ [((qP (Ki y p.dU.length p.aI.toNat) : Nat) : Int)]) L) M',
   cK h (aF h (ay h ⟨?_, ?_, trivial⟩)), fun _ M' hj => ?_⟩
  ·refine aF h ?_
   refine BS (b := sb) h ok (by omega) (by omega) ?_
   rw [Int.toNat_natCast]
   clear h; intro R5 A1 c1 M l5 h
   refine aO ?_
   refine kO h (Src.row (A := A1)) rfl Lp ?_
   clear h; intro R6 M l6 h
   refine bW ?_
   have h2 : Hp R6 (Q :: zF pa p b sb wb db A c y l L) M := h.sub bp
   exact E7 (by omega) h2 fun A' c' M' h => ⟨R6, A', c', Mem.le_trans l5 l6, h⟩
  ·refine BS (b := sb) h ok (by omega) (by omega) ?_
   rw [Int.toNat_natCast]
   clear h; intro R5 A1 c1 M l5 h
   refine aO ⟨?_, ?_, trivial⟩
   ·refine aF h ?_
    refine kO h (Src.row (A := A1)) rfl Lp ?_
    clear h; intro R6 M l6 h
    refine bW ?_
    have h2 : Hp R6 (Q :: zF pa p b sb wb db A c y l L) M := h.sub bp
    exact E7 (by omega) h2 fun A' c' M' h => ⟨R6, A', c', Mem.le_trans l5 l6, h⟩
   ·refine kO h (Src.row (A := A1)) rfl Lp ?_
    clear h; intro R6 M l6 h
    refine bW ?_
    refine aF h ?_
    have h2 : Hp R6 (Q :: zF pa p b sb wb db A c y l L) M := h.sub bp
    exact E7 (by omega) h2 fun A' c' M' h => ⟨R6, A', c', Mem.le_trans l5 l6, h⟩
  ·obtain ⟨R5, A5, c5, l5, h⟩ := hj
   exact kk R5 _ M' ⟨Mem.le_trans N4 l5, A5, c5, e, rfl, rfl⟩ h
theorem wQ (h : Hp R (zF pa p b sb wb db A c x l L) M) (hs : l.length ≤ 1000000) (ho : x.w.out.length ≤ 1000000)
  (k : ∀ Ao co As cs M', Hp R (bE lY 117 As cs l :: zF pa p b sb wb db A c x l L) M' → K (trV st x.steps x.w.code Ao x.w.out.length co As l.length cs e u0 u1 u2 u3 u4) M') :
  aa Tryz.prog 97 #[.pointer (some ⟨b, 0, none⟩), .int .i64 st, .int .i64 e, unA u0 u1 u2 u3 u4] M K Kp := by
 refine oG ?_
 refine aj h ?_
 clear h
 intro k1 M h
 refine aj h ?_
 clear h
 intro k3 M h
 refine cK h ?_
 refine qV (b := sb) h (gY ?_)
 refine Y1 (b := sb) h ⟨_, _, rfl, ?_⟩
 refine cK h (cK h (aF h (ay h (ay h (ay h (ay h (ay h ⟨trivial, ?_⟩)))))))
 refine qW (b := sb) h (bW ⟨ig h rfl, bD h, bD h, trivial, ?_⟩)
 refine qV (b := sb) h (gY ⟨ig h rfl, bD h, bD h, trivial, ?_⟩)
 refine Y3 (b := sb) h ho ?_
 clear h; intro Ao co M h
 refine aO ⟨ig h rfl, bD h, bD h, ?_⟩
 refine aj h ?_
 clear h
 intro sq M h
 refine h.fV lY RH l (Src.row (A := A)) rfl (by omega) ?_
 clear h; intro As cs M h
 refine aO ⟨ig h rfl, bD h, bD h, ?_⟩
 repeat (refine au h ?_; clear h; intro M h)
 refine ⟨ig h rfl, bD h, bD h, ?_⟩
 refine ay h (ay h (ay h (aF h (aF h (ay h (ay h (ay h (ay h (ay h (ay h ?_))))))))))
 exact k Ao co As cs M (h.sub bp)
theorem y9 (h : Hp R (zF pa p b sb wb db A c x l L) M) (hs : l.length ≤ 1000000) (ho : x.w.out.length ≤ 1000000)
  (k : ∀ Ao co As cs M', Hp R (bE lY 117 As cs l :: zF pa p b sb wb db A c x l L) M' → K (trV st x.steps x.w.code Ao x.w.out.length co As l.length cs 0 0 0 0 0 0) M') :
  aa Tryz.prog 98 #[.pointer (some ⟨b, 0, none⟩), .int .i64 st, .pointer none] M K Kp := by
 refine pH ?_
 refine aj h ?_
 clear h
 intro k1 M h
 refine ai ?_
 have h2 : Hp R (zF pa p b sb wb db A c x l (pt k1 [.int .i64 0, .int .i64 0, .int .i64 0, .slice none 0 0, .slice none 0 0, .int .i64 0, .int .i64 0, .int .i64 0, .int .i64 0, .int .i64 0, .int .u64 0] 114 :: L)) M := h.sub bp
 clear h
 refine wQ h2 hs ho ?_
 clear h2; intro Ao co As cs M h
 refine ⟨_, _, _, _, _, _, _, _, _, _, _, _, _, _, _, rfl, ?_⟩
 repeat (refine au h ?_; clear h; intro M h)
 refine ay h (ay h (ay h (aF h (aF h (ay h (ay h (ay h (ay h (ay h (ay h ?_))))))))))
 exact k Ao co As cs M (h.sub bp)
theorem wR (h : Hp R (zF pa p b sb wb db A c x l L) M) (hg : x.w.gs.length ≤ 1000000) (k : K (.int .i64 (tst x.status)) M) : aa Tryz.prog 99 #[.pointer (some ⟨b, 0, none⟩)] M K Kp := by
 refine oH ?_
 refine cK h ?_
 refine kQ (b := sb) h hg (bW ?_)
 unfold tst at k
 refine aV.2 ⟨fun e => ?_, fun e => ?_⟩
 ·rw [if_pos e] at k; exact k
 rw [if_neg e] at k
 refine aV.2 ⟨fun e => ?_, fun e => ?_⟩
 ·rw [if_pos e] at k; exact k
 rw [if_neg e] at k
 refine aV.2 ⟨fun e => ?_, fun e => ?_⟩
 ·rw [if_pos e] at k; exact k
 rw [if_neg e] at k
 exact k
theorem BT (k : K (.int .i64 0) M) : aa Tryz.prog 96 #[.pointer (some ⟨b, 0, none⟩), .pointer none] M K Kp := by
 refine qI ?_
 exact ae k
theorem HI (h : Hp R (zF pa p b sb wb db A c x l L) M) (k : K (.pointer (some ⟨sb, 0, none⟩)) M) : aa Tryz.prog 45 #[.pointer (some ⟨b, 0, none⟩)] M K Kp := by
 refine pG ?_
 exact cK h k
theorem DU {most : Int} (h : Hp R (zF pa p b sb wb db A c x0 [] L) M) (hp : nB R pa p) (hok : eC p) (h0 : SV p 0 x0) (hm : most ≤ 90000)
  (k : ∀ R' A c y l st a q n kk xx Ao no co As cs M', R.le R' → HH p x0 most.toNat y l st → Hp R' (bE lY 117 As cs l :: zF pa p b sb wb db A c y l L) M' → K (trV st y.steps y.w.code Ao no co As l.length cs 0 a q n kk xx) M') :
  aa Tryz.prog 44 #[.pointer (some ⟨b, 0, none⟩), .int .i64 most, .pointer none] M K Kp := by
 refine tG ?_
 refine aj h ?_
 clear h
 intro k1 M h
 have h2 : Hp R (zF pa p b sb wb db A c x0 [] (pt k1 [.int .i64 0, .int .i64 0, .int .i64 0, .slice none 0 0, .slice none 0 0, .int .i64 0, .int .i64 0, .int .i64 0, .int .i64 0, .int .i64 0, .int .u64 0] 114 :: L)) M := h.sub bp
 clear h
 refine ⟨fun dd vs M' => ∃ (j : Nat) (x : Sc) (l : List Int) (R' : Mem) (A : Option Addr) (c : Nat), vs = [.int .i64 (j : Int)] ∧ dd = most.toNat - j ∧ j ≤ most.toNat ∧ R.le R' ∧ TR p x0 j x l ∧ Hp R' (zF pa p b sb wb db A c x l (pt k1 [.int .i64 0, .int .i64 0, .int .i64 0, .slice none 0 0, .slice none 0 0, .int .i64 0, .int .i64 0, .int .i64 0, .int .i64 0, .int .i64 0, .int .u64 0] 114 :: L)) M', ⟨_, 0, x0, [], R, A, c, rfl, rfl, by omega, Mem.le_refl _, .zero, h2⟩, ?_⟩
 clear h2
 rintro dd _ nn M8 ⟨j, x, l, R3, A3, c3, he, hd, hj, E8, hw, h⟩
 simp only [List.cons.injEq, Value.int.injEq, and_true, true_and] at he
 subst he
 have hv := hw.sv h0 hok (by omega)
 have Lp := hw.len
 have outs : ∀ {N : Nat} {z : Sc}, SV p N z → N ≤ 100000 → z.w.gs.length ≤ 1000000 ∧ z.w.out.length ≤ 1000000 := fun hz hN => by
  have zi := (hz.UR hok).sm
  obtain ⟨s1, s2, s3, _, s5, _⟩ := zi
  have := (hz.UR hok).gs
  exact ⟨by omega, s5⟩
 obtain ⟨hg, ho⟩ := outs hv (by omega)
 have fin : j = most.toNat ∨ x.status ≠ 0 → ∀ M, Hp R3 (zF pa p b sb wb db A3 c3 x l (pt k1 [.int .i64 0, .int .i64 0, .int .i64 0, .slice none 0 0, .slice none 0 0, .int .i64 0, .int .i64 0, .int .i64 0, .int .i64 0, .int .i64 0, .int .u64 0] 114 :: L)) M → ∀ {K2 : Value → Mem → Prop},
   (∀ Ao co As cs M', Hp R3 (bE lY 117 As cs l :: zF pa p b sb wb db A3 c3 x l (pt k1 [.int .i64 0, .int .i64 0, .int .i64 0, .slice none 0 0, .slice none 0 0, .int .i64 0, .int .i64 0, .int .i64 0, .int .i64 0, .int .i64 0, .int .u64 0] 114 :: L)) M' → K2 (trV (tst x.status) x.steps x.w.code Ao x.w.out.length co As l.length cs 0 0 0 0 0 0) M') →
   aa Tryz.prog 98 #[.pointer (some ⟨b, 0, none⟩), .int .i64 (tst x.status), .pointer none] M K2 Kp := fun _ M h K2 k2 => y9 h (by omega) ho k2
 refine aJ.2 ⟨fun hlt => ?_, fun hge => ?_⟩
 ·refine cK h ?_
  refine kQ (b := sb) h hg (bW ?_)
  refine aV.2 ⟨fun hst => ?_, fun hs0 => ?_⟩
  ·obtain ⟨y, o, hstep, HM⟩ := hv.step hok (by omega)
   obtain ⟨K7, ho2⟩ := outs HM (by omega)
   refine E1 h (Kj (hp.le E8) hok hv (by omega) hstep (by omega)) (fun _ _ _ h => h.2.1) ?_ ?_
   ·rintro R4 _ M ⟨N4, A4, c4, e, rfl, rfl⟩ h
    refine ⟨_, _, _, _, _, _, rfl, ?_⟩
    refine aj h ?_
    clear h
    intro eG M h
    repeat (refine au h ?_; clear h; intro M h)
    refine BT (bW (uf (by decide) (uf (by decide) (uf (by decide) ?_))))
    exact ⟨most.toNat - (j + 1), by omega, j + 1, y, _, R4, A4, c4, by rw [aP (by omega)], rfl, by omega, Mem.le_trans E8 N4, .succ hw hst hstep, h.sub bp⟩
   ·rintro R4 v _ M e a q n kk xx ⟨N4, _, rfl, rfl⟩ hg h
    refine ⟨_, _, _, _, _, _, rfl, ?_⟩
    refine aj h ?_
    clear h
    intro eG M h
    repeat (refine au h ?_; clear h; intro M h)
    refine BT (bW (uf (by decide) ?_))
    have hend : ∀ st, HH p x0 most.toNat y l st := fun st => .dF hw (by omega) hst hstep
    have h2 : Hp R4 (zF pa p b sb wb db A3 c3 y l (pt eG [.int .i64 a, .int .i64 q, .int .i64 n, .int .i64 kk, .int .u64 xx] 97 :: pt k1 [.int .i64 0, .int .i64 0, .int .i64 0, .slice none 0 0, .slice none 0 0, .int .i64 0, .int .i64 0, .int .i64 0, .int .i64 0, .int .i64 0, .int .u64 0] 114 :: L)) M := h.sub bp
    clear h
    refine aV.2 ⟨fun _ => ?_, fun hne => aV.2 ⟨fun _ => ?_, fun hne2 => ?_⟩⟩
    ·refine y9 h2 (by omega) ho2 ?_
     clear h2; intro Ao co As cs M h
     refine ⟨_, _, _, _, _, _, _, _, _, _, _, _, _, _, _, rfl, ?_⟩
     repeat (refine au h ?_; clear h; intro M h)
     refine ay h (ay h (ay h (aF h (aF h (ay h (ay h (ay h (ay h (ay h (ay h ?_))))))))))
     exact k R4 A3 c3 y l _ _ _ _ _ _ _ _ _ As cs M (Mem.le_trans E8 N4) (hend _) (h.sub bp)
    ·refine ay h2 (ay h2 (ay h2 (ay h2 (ay h2 ?_))))
     refine wQ h2 (by omega) ho2 ?_
     clear h2; intro Ao co As cs M h
     refine ⟨_, _, _, _, _, _, _, _, _, _, _, _, _, _, _, rfl, ?_⟩
     repeat (refine au h ?_; clear h; intro M h)
     refine ay h (ay h (ay h (aF h (aF h (ay h (ay h (ay h (ay h (ay h (ay h ?_))))))))))
     exact k R4 A3 c3 y l _ _ _ _ _ _ _ _ _ As cs M (Mem.le_trans E8 N4) (hend _) (h.sub bp)
    ·exfalso
     have := hg.shape.1
     omega
  ·refine wR h hg (bW ?_)
   refine fin (.inr hs0) M8 h ?_
   clear h; intro Ao co As cs M h
   refine ⟨_, _, _, _, _, _, _, _, _, _, _, _, _, _, _, rfl, ?_⟩
   repeat (refine au h ?_; clear h; intro M h)
   refine ay h (ay h (ay h (aF h (aF h (ay h (ay h (ay h (ay h (ay h (ay h ?_))))))))))
   exact k R3 A3 c3 x l _ _ _ _ _ _ _ _ _ As cs M E8 (.US hw hj (.inr hs0)) (h.sub bp)
 ·refine wR h hg (bW ?_)
  refine fin (.inl (by omega)) M8 h ?_
  clear h; intro Ao co As cs M h
  refine ⟨_, _, _, _, _, _, _, _, _, _, _, _, _, _, _, rfl, ?_⟩
  repeat (refine au h ?_; clear h; intro M h)
  refine ay h (ay h (ay h (aF h (aF h (ay h (ay h (ay h (ay h (ay h (ay h ?_))))))))))
  exact k R3 A3 c3 x l _ _ _ _ _ _ _ _ _ As cs M E8 (.US hw hj (.inl (by omega))) (h.sub bp)
end
end Go.Proofs
