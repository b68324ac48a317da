/- A part of proofs about one program. -/
import Derived.Test.YtnnlgknlialpmaaGreatZSnapAlike5
set_option linter.unusedVariables false
namespace Go.Proofs
open Go.AF
set_option maxRecDepth 100000
set_option maxHeartbeats 1000000
attribute [local irreducible] aK dH fa cw az fk aE aP aX be bK aS
section
variable {p : cv} {N : Nat} {x y z : Sc} {m i g a kind : Int}
theorem SV.Rp (h : SV p N x) {r : List Int} {d' : mj} (hd : d'.taken.length ≤ 3 * N + 3) (hk : d'.k.Ok) : SV p (N + 1) { x with w := { x.w with ready := r }, d := d' } :=
 ⟨h.w.ready, h.one, h.zero, h.cP, h.cM, h.P1, h.M1, h.cS, h.room, fun pr hp => by have := h.hH pr hp; omega, h.ms, h.gW, by have := h.st; dsimp only; omega, by dsimp only; omega, hk⟩
theorem SV.run {d' : mj} (h : SV p N x) (hp : gf p) (m0 : 0 ≤ m) (m1 : m < x.ms.length) (hmp : (aC x m).p ≠ -1) (hg : (aC x m).g ≠ -1) (hN : N ≤ 1000000) (hd : d'.taken.length ≤ 3 * N + 1) (hk : d'.k.Ok) :
  ∃ z o, Sc.run p { x with d := d' } m = some (z, o) ∧ SV p (N + 1) z ∧ z.steps = x.steps := by
 have nS := vk m0 m1
 have IM := List.mem_of_getElem? nS
 have Rl := h.ms _ IM
 have hbd : 0 ≤ (aC x m).p ∧ (aC x m).p < x.ps.length ∧ 0 ≤ (aC x m).g ∧ 1 ≤ (aC x m).left ∧ (aC x m).left ≤ 1024 := by
  rcases Rl with e | e
  ·exact absurd e.1 hmp
  ·have := e.2.2.2.2.2; omega
 obtain ⟨i0, i1, g0, l0, l1⟩ := hbd
 have Vq := h.mg IM g0
 unfold Sc.run
 have em : aC { x with d := d' } m = aC x m := rfl
 rw [em]
 rw [if_pos (show Bz p { x with d := d' } m from ⟨m0, m1, i0, i1, by have := h.Ug; dsimp only; omega, by dsimp only; omega, l0, by show (aC x m).left < 1000000000; omega, g0⟩)]
 dsimp only
 generalize zz : asks p { x.w with ready := [] } (aC x m).g = ak
 have hbk : ∀ k n, ak = some (k, n) → 1 ≤ n ∧ n < 1099511627776 := fun k n e => Uc hp (by rw [zz]; exact e)
 rw [if_pos (show Vo ak = true from by
  cases ak with
  | none => rfl
  | some kn => obtain ⟨k, n⟩ := kn; have := hbk k n rfl; exact decide_eq_true (by omega))]
 have CJ : ∀ d2 dr, gp d' ak = (d2, dr) → d2.k.Ok ∧ d2.taken.length ≤ 3 * N + 2 ∧ (∀ v kd n, dr = .num v → ak = some (kd, n) → 0 ≤ v ∧ v < n) := by
  intro d2 dr e
  cases ak with
  | none =>
   unfold gp at e
   cases e
   exact ⟨hk, by omega, fun v kd n _ e => by cases e⟩
  | some kn =>
   obtain ⟨k, n⟩ := kn
   unfold gp at e
   dsimp only at e
   have a1 := oV (kind := k) (n := n) hk
   have a2 := BT (k := k) (n := n) hk
   rw [e] at a1 a2
   dsimp only at a1 a2
   refine ⟨a1, by omega, fun v kd n' e1 e2 => ?_⟩
   subst e1
   cases e2
   have := ry hk e
   have hb := hbk _ _ rfl
   rw [show nN n = n from by unfold nN; rw [if_neg (by omega)]] at this
   exact ⟨this.1, this.2.1⟩
 generalize xZ : gp d' ak = dd at CJ
 obtain ⟨d2, dr⟩ := dd
 obtain ⟨k2, t2, v2⟩ := CJ d2 dr rfl
 dsimp only
 obtain ⟨r, rest, hex, hres⟩ := Rj (d := dr) h.w hp g0 (fun v kd n e1 e2 => v2 v kd n e1 (by rw [← zz]; exact e2))
 rw [hex]
 rcases hres with ⟨hres, _⟩ | ⟨l, e1, e2, _⟩
 ·cases r with
  | on y => exact h.jr m0 m1 hmp g0 hres.1 hres.2 (by omega) k2
  | fM n y => exact h.jr (y := { y with end_ := 2, code := n }) m0 m1 hmp g0 (hres.1.fin (e := 2) (c := n)) (hres.2.NU rfl rfl fun _ _ _ => rfl) (by omega) k2
  | dY l y => exact hres.elim
 ·subst e2
  exact ⟨_, _, rfl, h.Rp (by omega) k2, rfl⟩
theorem SV.step (h : SV p N x) (hp : gf p) (hN : N ≤ 1000000) : ∃ y o, x.step p = some (y, o) ∧ SV p (N + 1) y := by
 have hst := h.st
 have yf := h.tk
 have hM := h.cM
 have hM1 := h.M1
 have hP1 := h.P1
 unfold Sc.step
 rw [if_pos (show zY x from ⟨by have := h.w.n2; omega, hM, by omega, by omega, by omega, hst.1, by omega⟩)]
 split
 ·exact ⟨_, _, rfl, h.mono (by omega)⟩
 ·rename_i hs
  have Ej := BT (k := 1) (n := x.c.M + 1) h.k
  have BA := oV (kind := 1) (n := x.c.M + 1) h.k
  split
  ·rename_i d' l xZ
   rw [xZ] at Ej BA
   dsimp only at Ej BA
   exact ⟨_, _, rfl, h.draw (by omega) BA⟩
  ·rename_i d' m xZ
   rw [xZ] at Ej BA
   dsimp only at Ej BA
   have hv := ry h.k xZ
   rw [show nN (x.c.M + 1) = x.c.M + 1 from by unfold nN; rw [if_neg (by omega)]] at hv
   obtain ⟨m0, mM, _⟩ := hv
   have fin : ∀ z o, SV p (N + 1) z → z.steps = x.steps → ∃ y o', Option.map E6 (some (z, o)) = some (y, o') ∧ SV p (N + 1) y := fun z o hz hzs => by
    cases o with
    | ev e => exact ⟨_, _, rfl, hz.inc (by rw [hzs]; exact hst)⟩
    | dY l => exact ⟨_, _, rfl, hz⟩
   unfold Sc.act
   dsimp only
   split
   ·obtain ⟨t1, t2, t3⟩ := h.tick (d' := d') (by omega) BA
    rw [if_pos t1]
    exact fin _ _ t2 t3
   ·rename_i hmM
    have m1 : m < x.ms.length := by omega
    have em : aC { x with d := d' } m = aC x m := rfl
    rw [em]
    split
    ·rename_i hmp
     obtain ⟨t2, t3⟩ := h.hold (d' := d') m0 m1 hmp (by omega) BA
     exact fin _ _ t2 t3
    ·rename_i hmp
     split
     ·rename_i hmg
      obtain ⟨t1, t2, t3⟩ := h.find (d' := d') m0 m1 hmp hmg (by omega) (by omega) BA
      rw [if_pos t1]
      exact fin _ _ t2 t3
     ·rename_i hmg
      obtain ⟨z, o, t1, t2, t3⟩ := h.run (d' := d') hp m0 m1 hmp hmg hN (by omega) BA
      rw [t1]
      exact fin _ _ t2 t3
theorem SV.new {c : Lq} {d : mj} (hp : gf p) (hP : 1 ≤ c.P ∧ c.P ≤ 64) (hM : 1 ≤ c.M ∧ c.M ≤ 64) (hS : 1 ≤ c.S ∧ c.S ≤ 1024) (hd : d.taken = []) (hk : d.k.Ok) : SV p 0 (Sc.new p c d) := by
 have hw := Y8 hp
 have hA : ∀ a, At (Wd.new p) a 1 ↔ a = 0 := fun a => by
  constructor
  ·rintro ⟨b1, b2, _⟩
   simp [Wd.new] at b2
   omega
  ·rintro rfl
   exact ⟨by decide, by simp [Wd.new], rfl⟩
 have hQ : ∀ a, m5 (List.replicate c.P.toNat ⟨⟨-1, fx c.R, []⟩, 0, -1⟩) a = 0 := fun a => by
  unfold m5
  rw [List.count_eq_zero]
  intro hm
  obtain ⟨q, hq, h2⟩ := List.mem_flatMap.1 hm
  obtain ⟨pr, kG, rfl⟩ := List.mem_map.1 hq
  rw [List.eq_of_mem_replicate kG] at h2
  simp [Loc.all] at h2
 have hMm : ∀ a, HL (List.replicate c.M.toNat ⟨-1, -1, 0⟩) a = 0 := fun a => by
  unfold HL
  rw [List.count_eq_zero]
  intro hm
  obtain ⟨q, hq, h2⟩ := List.mem_flatMap.1 hm
  rw [List.eq_of_mem_replicate hq] at h2
  simp [kN] at h2
 have hC : ∀ a, nX (Sc.new p c d) a = [(0 : Int)].count a := fun a => by
  unfold nX Sc.new
  dsimp only
  rw [hQ, hMm]; omega
 have cap := Ld c.R
 refine ⟨hw, fun a ha => ?_, fun a ha => ?_, by simp [Sc.new]; omega, by simp [Sc.new]; omega, by simp [Sc.new]; omega, by simp [Sc.new]; omega, hS, fun pr kG => ?_, fun pr kG => ?_, fun mc nS => ?_, fun j mc hj hne => ?_, by simp [Sc.new], by simp [Sc.new, hd], hk⟩
 ·rw [hC, (hA a).1 ha]; rfl
 ·rw [hC]
  exact List.count_eq_zero.2 (fun e => ha ((hA a).2 (by simpa using e)))
 ·rw [List.eq_of_mem_replicate kG]
  exact ⟨by simp, cap.2, cap.1⟩
 ·rw [List.eq_of_mem_replicate kG]
  simp
 ·rw [List.eq_of_mem_replicate nS]
  exact .inl ⟨rfl, rfl, rfl⟩
 ·have := List.eq_of_mem_replicate (List.mem_of_getElem? hj)
  rw [this] at hne
  exact absurd rfl hne
end
def CN (y : jt) : List Int := y.st :: (y.fs.length : Int) :: y.fs.flatMap lZ
def tU (k : Lk) : List Int := k.owner :: (k.waits.length : Int) :: k.waits
def rK (i : bA) : List Int := [IntKind.wrap .i64 i.t, IntKind.wrap .i64 i.seq, i.id]
def Fv (x : Wd) (nc nl : Nat) : List Int := [x.end_, x.code, IntKind.wrap .i64 x.clock] ++ ((x.gs.length : Int) :: x.gs.flatMap CN) ++ (x.aB.take nc).flatMap rF ++ (x.aI.take nl).flatMap tU ++
 (((dy x.hl.length x.hl).length : Int) :: (dy x.hl.length x.hl).flatMap rK) ++ ((x.out.length : Int) :: x.out)
def RZ (x : Sc) : List Int := [x.steps, x.status] ++ ((x.gl.length : Int) :: x.gl) ++ ((x.ps.length : Int) :: x.ps.flatMap js) ++ ((x.ms.length : Int) :: x.ms.flatMap kX)
section
variable {R : Mem} {L L' : List HP} {M : Mem} {K : Value → Mem → Prop} {Kp : List PanicEntry → Mem → Prop} {b wb : Nat} {l : List Int} {pa : PA} {p : cv} {x : Wd}
theorem Zc {i : Nat} {w : jt} (h : x.gs[i]? = some w) : aq x (i : Int) = w := by simp [aq, h]
theorem zD {L0 : List HP} (h : Hp R (ay iC b l :: ay (bn pa p) wb x :: L0) M) (hg : ∀ g : Int, 0 ≤ g → g < x.gs.length → br x g) (YX : x.gs.length ≤ 1000) (hb : l.length + ((x.gs.flatMap CN).length + 1) ≤ 1000000000000)
  (k : ∀ M', Hp R (ay iC b (l ++ ((x.gs.length : Int) :: x.gs.flatMap CN)) :: ay (bn pa p) wb x :: L0) M' → K (.tuple #[]) M') : aa Tryz.prog 87 #[.pointer (some ⟨b, 0, none⟩), .pointer (some ⟨wb, 0, none⟩)] M K Kp := by
 refine my ?_
 refine DG (b := wb) h (cz ?_)
 refine b9 (b := b) h (by omega) ?_
 clear h; intro M h
 refine ⟨rfl, ?_⟩
 refine DG (b := wb) h (cz ?_)
 refine ⟨fun d ws M => ∃ i : Nat, ws = [.int .i64 (i : Int)] ∧ d = x.gs.length - i ∧ i ≤ x.gs.length ∧ Hp R (ay iC b (l ++ ((x.gs.length : Int) :: (x.gs.take i).flatMap CN)) :: ay (bn pa p) wb x :: L0) M, ⟨_, 0, rfl, rfl, by omega, by simpa using h⟩, ?_⟩
 clear h
 rintro d _ ii M ⟨i, he, hd, hi, h⟩
 simp only [List.cons.injEq, Value.int.injEq, and_true, true_and] at he
 subst he
 refine aJ.2 ⟨fun hlt => ?_, fun hge => k M (by rw [List.take_of_length_le (by omega)] at h; exact h)⟩
 obtain ⟨w, hw⟩ := aM (l := x.gs) (i := i) (by omega)
 have Lp := hg (i : Int) (by omega) hlt
 have ZR := Zc hw
 have hfl : w.fs.length ≤ 1000 := by have := Lp.2.2.2; rw [ZR] at this; exact this
 have yf : ((x.gs.take (i + 1)).flatMap CN).length ≤ (x.gs.flatMap CN).length := lY CN x.gs (i + 1)
 have e1 : [w].flatMap CN = CN w := by simp
 rw [bx hw, List.flatMap_append, List.length_append, e1] at yf
 have hsl : (CN w).length = 2 + (w.fs.flatMap lZ).length := by simp [CN]; omega
 refine wO (b := wb) h (by omega) hlt (cz ?_)
 rw [ZR]
 refine b9 (b := b) h (by simp only [List.length_append, List.length_cons]; omega) ?_
 clear h; intro M h
 refine ⟨rfl, ?_⟩
 refine Hh (b := wb) h Lp ?_
 rw [ZR]
 clear h; intro bs c M h
 refine aO ?_
 have h2 : Hp R (ay iC b (l ++ ((x.gs.length : Int) :: (x.gs.take i).flatMap CN) ++ [w.st]) :: tO (some ⟨bs, 0, none⟩) c w.fs :: ay (bn pa p) wb x :: L0) M := h.sub bu
 clear h
 refine Km (xs := w.fs) h2 (Src.row (A := some ⟨bs, 0, none⟩)) rfl (fun f _ => HG f) (by simp only [List.length_append, List.length_cons, List.length_nil]; omega) (by omega) ?_
 clear h2; intro M h
 refine ⟨rfl, x.gs.length - (i + 1), by omega, i + 1, by rw [aQ (by omega)], rfl, by omega, ?_⟩
 rw [bx hw, List.flatMap_append, e1]
 have h3 : Hp R (ay iC b (l ++ ((x.gs.length : Int) :: (x.gs.take i).flatMap CN) ++ [w.st] ++ ((w.fs.length : Int) :: w.fs.flatMap lZ)) :: ay (bn pa p) wb x :: L0) M := h.sub bu
 simpa [CN] using h3
theorem vl : ∀ (n : Nat) (l : List bA), (dy n l).length ≤ n
 | 0, l => by simp [dy]
 | n + 1, l => by
  rw [wR]
  split
  ·have := vl n (c7 l 0); simp only [List.length_cons]; omega
  ·simp
theorem Zd {i : Nat} {c : aV} (h : x.aB[i]? = some c) : dg x.aB (i : Int) = c := by simp [dg, h]
theorem Ze {i : Nat} {c : Lk} (h : x.aI[i]? = some c) : kq x (i : Int) = c := by simp [kq, h]
theorem DY {α : Type} (f : α → List Int) (xs : List α) {i n : Nat} (h : i ≤ n) : ((xs.take i).flatMap f).length ≤ ((xs.take n).flatMap f).length := by
 have : xs.take i = (xs.take n).take i := by rw [List.take_take, Nat.min_eq_left h]
 rw [this]
 exact lY f (xs.take n) i
theorem Kr {c1 c2 : Int} (h : Hp R L M) [o : CI wb L pa p x L'] (hg : ∀ g : Int, 0 ≤ g → g < x.gs.length → br x g) (hs : ({ x with ready := [] } : Wd).Sm) (h1 : c1 ≤ x.aB.length) (h2 : c2 ≤ x.aI.length) (hb : (Fv x c1.toNat c2.toNat).length ≤ 1000000000000)
  (k : ∀ A c M', Hp R (jz A c (Fv x c1.toNat c2.toNat) :: ay (bn pa p) wb x :: L') M' → K (.slice A (Fv x c1.toNat c2.toNat).length c) M') : aa Tryz.prog 41 #[.pointer (some ⟨wb, 0, none⟩), .int .i64 c1, .int .i64 c2] M K Kp := by
 refine Cy ?_
 replace h := h.pick o.pick
 clear o
 obtain ⟨s1, s2, s3, s4, s5, s6, s7, s8⟩ := hs
 change ∀ c ∈ x.aB, c.Small 1000000 at s1
 change x.aB.length ≤ 1000 at s2
 change x.gs.length ≤ 1000 at s3
 change x.out.length ≤ 1000000 at s5
 change ∀ l ∈ x.aI, l.waits.length ≤ 1000000 at s6
 change x.aI.length ≤ 1000 at s7
 change x.hl.length ≤ 1000000 at s8
 have hbs : (x.gs.flatMap CN).length + ((x.aB.take c1.toNat).flatMap rF).length + ((x.aI.take c2.toNat).flatMap tU).length + ((dy x.hl.length x.hl).flatMap rK).length + x.out.length + 6 ≤ 1000000000000 := by
  simp only [Fv, List.length_append, List.length_cons, List.length_nil] at hb; omega
 have hhl := vl x.hl.length x.hl
 refine ae h ?_
 clear h; intro k1 M h
 replace h := h.bP aZ 2
 have h0 : Hp R (ay iC k1 [] :: ay (bn pa p) wb x :: L') M := Q8 (A := none) (c := 0) (l := []) (h.sub bu)
 clear h
 refine ae h0 ?_
 clear h0; intro k3 M h
 refine au h ?_
 clear h; intro M h
 refine DH (b := wb) h ⟨_, _, rfl, dG h ?_⟩
 refine b9 (b := k1) h (by simp) ?_
 clear h; intro M h
 refine ⟨rfl, dG h ?_⟩
 refine b9 (b := k1) h (by simp) ?_
 clear h; intro M h
 refine ⟨rfl, dG h ?_⟩
 refine Hr (b := wb) h (cz ⟨bN h, ?_⟩)
 refine ae h ?_
 clear h; intro g7 M h
 have T3 : Hp R (pt g7 [.int .i64 (IntKind.wrap .i64 x.clock)] 2 :: ay iC k1 ([] ++ [x.end_] ++ [x.code]) :: pt k3 [.pointer (some ⟨k1, 0, none⟩)] 187 :: ay (bn pa p) wb x :: L') M := h.sub bu
 clear h
 refine NS T3 (by simp) ?_
 clear T3; intro M h
 refine ⟨rfl, bN h, dG h ?_⟩
 have h3 : Hp R (ay iC k1 ([] ++ [x.end_] ++ [x.code] ++ [IntKind.wrap .i64 x.clock]) :: ay (bn pa p) wb x :: pt k3 [.pointer (some ⟨k1, 0, none⟩)] 187 :: L') M := h.sub bu
 clear h
 refine zD h3 hg s3 (by simp only [List.length_append, List.length_cons, List.length_nil]; omega) ?_
 clear h3; intro M h
 refine ⟨rfl, ?_⟩
 have eh : ([] ++ [x.end_] ++ [x.code] ++ [IntKind.wrap .i64 x.clock] ++ ((x.gs.length : Int) :: x.gs.flatMap CN) : List Int) = [x.end_, x.code, IntKind.wrap .i64 x.clock] ++ ((x.gs.length : Int) :: x.gs.flatMap CN) := by simp
 rw [eh] at h
 generalize hl0 : [x.end_, x.code, IntKind.wrap .i64 x.clock] ++ ((x.gs.length : Int) :: x.gs.flatMap CN) = l0 at h
 have ll0 : l0.length = 4 + (x.gs.flatMap CN).length := by rw [← hl0]; simp only [List.length_append, List.length_cons, List.length_nil]; omega
 refine ⟨fun d ws M => ∃ i : Nat, ws = [.int .i64 (i : Int)] ∧ d = c1.toNat - i ∧ i ≤ c1.toNat ∧ Hp R (ay iC k1 (l0 ++ (x.aB.take i).flatMap rF) :: ay (bn pa p) wb x :: pt k3 [.pointer (some ⟨k1, 0, none⟩)] 187 :: L') M, ⟨_, 0, rfl, rfl, by omega, by simpa using h⟩, ?_⟩
 clear h
 rintro d _ ii M ⟨i, he, hd, hi, h⟩
 simp only [List.cons.injEq, Value.int.injEq, and_true, true_and] at he
 subst he
 refine aJ.2 ⟨fun hlt => ?_, fun hge => ?_⟩
 ·obtain ⟨w, hw⟩ := aM (l := x.aB) (i := i) (by omega)
  have hcw := Zd hw
  have AH : (dg x.aB (i : Int)).Small 1000000 := by rw [hcw]; exact s1 w (List.mem_of_getElem? hw)
  have yf := DY rF x.aB (i := i + 1) (n := c1.toNat) (by omega)
  have e1 : [w].flatMap rF = rF w := by simp
  rw [bx hw, List.flatMap_append, List.length_append, e1] at yf
  refine dG h ?_
  refine J0 (b := wb) h ⟨by omega, by omega⟩ AH ?_
  rw [hcw] at AH ⊢
  clear h; intro A ca B cb D cd M h
  refine ⟨_, _, _, _, _, _, _, _, _, _, rfl, bN h, ?_⟩
  have h4 : Hp R (ay iC k1 (l0 ++ (x.aB.take i).flatMap rF) :: ny D cd w.dF :: ny B cb w.snd :: jz A ca w.buf :: ay (bn pa p) wb x :: pt k3 [.pointer (some ⟨k1, 0, none⟩)] 187 :: L') M := h.sub bu
  clear h
  refine E9 (c := w) h4 AH (Src.row (A := A)) (Src.row (A := B)) (Src.row (A := D)) (by simp only [List.length_append]; omega) ?_
  clear h4; intro M h
  refine ⟨rfl, bN h, c1.toNat - (i + 1), by omega, i + 1, by rw [aQ (by omega)], rfl, by omega, ?_⟩
  rw [bx hw, List.flatMap_append, e1, ← List.append_assoc]
  exact h.sub bu
 have J3 : i = c1.toNat := by omega
 subst J3
 generalize hl1 : l0 ++ (x.aB.take c1.toNat).flatMap rF = l1 at h
 have ll1 : l1.length = l0.length + ((x.aB.take c1.toNat).flatMap rF).length := by rw [← hl1]; simp
 refine ⟨fun d ws M => ∃ i : Nat, ws = [.int .i64 (i : Int)] ∧ d = c2.toNat - i ∧ i ≤ c2.toNat ∧ Hp R (ay iC k1 (l1 ++ (x.aI.take i).flatMap tU) :: ay (bn pa p) wb x :: pt k3 [.pointer (some ⟨k1, 0, none⟩)] 187 :: L') M, ⟨_, 0, rfl, rfl, by omega, by simpa using h⟩, ?_⟩
 clear h hge hd hi
 rintro d _ ii M ⟨i, he, hd, hi, h⟩
 simp only [List.cons.injEq, Value.int.injEq, and_true, true_and] at he
 subst he
 refine aJ.2 ⟨fun hlt => ?_, fun hge => ?_⟩
 ·obtain ⟨w, hw⟩ := aM (l := x.aI) (i := i) (by omega)
  have hcw := Ze hw
  have AH := s6 w (List.mem_of_getElem? hw)
  have yf := DY tU x.aI (i := i + 1) (n := c2.toNat) (by omega)
  have e1 : [w].flatMap tU = tU w := by simp
  rw [bx hw, List.flatMap_append, List.length_append, e1] at yf
  have hwl : (tU w).length = 2 + w.waits.length := by simp [tU]; omega
  refine Kb (b := wb) h (by omega) (by omega) (by rw [hcw]; exact AH) ?_
  rw [hcw]
  clear h; intro A ca M h
  refine ⟨_, _, _, _, rfl, dG h ?_⟩
  refine b9 (b := k1) h (by simp only [List.length_append]; omega) ?_
  clear h; intro M h
  refine ⟨rfl, dG h ?_⟩
  have h4 : Hp R (ay iC k1 (l1 ++ (x.aI.take i).flatMap tU ++ [w.owner]) :: jg A ca w.waits :: ay (bn pa p) wb x :: pt k3 [.pointer (some ⟨k1, 0, none⟩)] 187 :: L') M := h.sub bu
  clear h
  refine yj (xs := w.waits) h4 (Src.row (A := A)) rfl (by simp only [List.length_append, List.length_cons, List.length_nil]; omega) ?_
  clear h4; intro M h
  refine ⟨rfl, c2.toNat - (i + 1), by omega, i + 1, by rw [aQ (by omega)], rfl, by omega, ?_⟩
  rw [bx hw, List.flatMap_append, e1]
  have h5 : Hp R (ay iC k1 (l1 ++ (x.aI.take i).flatMap tU ++ [w.owner] ++ ((w.waits.length : Int) :: w.waits)) :: ay (bn pa p) wb x :: pt k3 [.pointer (some ⟨k1, 0, none⟩)] 187 :: L') M := h.sub bu
  simpa [tU] using h5
 have J3 : i = c2.toNat := by omega
 subst J3
 generalize kM : l1 ++ (x.aI.take c2.toNat).flatMap tU = l2 at h
 have ll2 : l2.length = l1.length + ((x.aI.take c2.toNat).flatMap tU).length := by rw [← kM]; simp
 refine Bp (b := wb) h s8 ?_
 clear h; intro A ca M h
 generalize hhs : dy x.hl.length x.hl = hs at *
 refine aO (dG h ?_)
 refine b9 (b := k1) h (by omega) ?_
 clear h; intro M h
 refine ⟨rfl, ?_⟩
 have h4 : Hp R (ay iC k1 (l2 ++ [(hs.length : Int)]) :: eu A ca hs :: ay (bn pa p) wb x :: pt k3 [.pointer (some ⟨k1, 0, none⟩)] 187 :: L') M := h.sub bu
 clear h
 refine ⟨fun d ws M => ∃ i : Nat, ws = [.int .i64 (i : Int)] ∧ d = hs.length - i ∧ i ≤ hs.length ∧ Hp R (ay iC k1 (l2 ++ ((hs.length : Int) :: (hs.take i).flatMap rK)) :: eu A ca hs :: ay (bn pa p) wb x :: pt k3 [.pointer (some ⟨k1, 0, none⟩)] 187 :: L') M, ⟨_, 0, rfl, rfl, by omega, by simpa using h4⟩, ?_⟩
 clear h4 hge hd hi
 rintro d _ ii M ⟨i, he, hd, hi, h⟩
 simp only [List.cons.injEq, Value.int.injEq, and_true, true_and] at he
 subst he
 refine aJ.2 ⟨fun hlt => ?_, fun hge => ?_⟩
 ·obtain ⟨w, hw⟩ := aM (l := hs) (i := i) (by omega)
  have yf : ((hs.take (i + 1)).flatMap rK).length ≤ (hs.flatMap rK).length := lY rK hs (i + 1)
  have e1 : [w].flatMap rK = rK w := by simp
  rw [bx hw, List.flatMap_append, List.length_append, e1] at yf
  have hwl : (rK w).length = 3 := rfl
  have hA : Src R (eu A ca hs :: ay (bn pa p) wb x :: pt k3 [.pointer (some ⟨k1, 0, none⟩)] 187 :: L') A (kU.cells hs) := Src.row (A := A)
  obtain ⟨bb, oo, rfl⟩ := hA.gD h.drop (by omega) (by decide)
  refine ⟨by omega, hlt, bg ?_⟩
  simp only [Int.toNat_natCast]
  refine aR (hA.at h.drop (i := i) (j := 0) hw rfl (by simp [kU])) ?_
  refine aR (hA.at h.drop (i := i) (j := 1) hw rfl (by simp [kU]; omega)) ?_
  refine aR (hA.at h.drop (i := i) (j := 2) hw rfl (by simp [kU]; omega)) ?_
  clear hA
  refine ae h ?_
  clear h; intro RM M h
  refine au h ?_
  clear h; intro M h
  refine au h ?_
  clear h; intro M h
  refine au h ?_
  clear h; intro M h
  refine dG h (aF h (aF h (aF h ?_)))
  refine ae h ?_
  clear h; intro U1 M h
  replace h := (h.pt U1).fQ (E := aZ) (l := rK w) rfl
  refine wU (b := k1) (r := rK w) h (h.src (A := some ⟨U1, 0, none⟩) M h) rfl (by simp only [List.length_append, List.length_cons]; omega) ?_
  clear h; intro M h
  refine ⟨rfl, hs.length - (i + 1), by omega, i + 1, by rw [aQ (by omega)], rfl, by omega, ?_⟩
  rw [bx hw, List.flatMap_append, e1]
  have h5 : Hp R (ay iC k1 (l2 ++ ((hs.length : Int) :: (hs.take i).flatMap rK) ++ rK w) :: eu (some ⟨bb, oo, none⟩) ca hs :: ay (bn pa p) wb x :: pt k3 [.pointer (some ⟨k1, 0, none⟩)] 187 :: L') M := h.sub bu
  simpa using h5
 have J3 : i = hs.length := by omega
 subst J3
 rw [List.take_length] at h
 refine dG h ?_
 refine Nq (b := wb) h s5 ?_
 clear h; intro B cb M h
 refine aO ⟨bN h, ?_⟩
 have h5 : Hp R (ay iC k1 (l2 ++ ((hs.length : Int) :: hs.flatMap rK)) :: jz B cb x.out :: pt k3 [.pointer (some ⟨k1, 0, none⟩)] 187 :: ay (bn pa p) wb x :: L') M := h.sub bu
 clear h
 refine vf (xs := x.out) h5 (Src.row (A := B)) rfl (fun v _ => HF (fun M h => bN h) v) (by simp only [List.length_append, List.length_cons]; omega) ?_
 clear h5; intro M h
 refine ⟨rfl, bN h, dG h (bg ?_)⟩
 have h6 : Hp R (ay iC k1 (l2 ++ ((hs.length : Int) :: hs.flatMap rK) ++ ((x.out.length : Int) :: x.out)) :: ay (bn pa p) wb x :: L') M := h.sub bu
 clear h
 have ef : l2 ++ ((hs.length : Int) :: hs.flatMap rK) ++ ((x.out.length : Int) :: x.out) = Fv x c1.toNat c2.toNat := by
  unfold Fv
  rw [hhs, ← kM, ← hl1, ← hl0]
 rw [ef] at h6
 have h7 := E7 h6 (b := k1)
 clear h6
 obtain ⟨A2, c2', h⟩ := h7
 refine aL h ?_
 exact k A2 c2' M (h.sub bu)
end
def ph7 (t : Int) : Nat := if Int.tmod t 7 = 6 then 1 else 0
def Rq (t : Int) : Nat := 6 - (Int.tmod t 7).toNat
section
variable {p : cv} {N Rm GG m n u k : Nat} {x y z : Sc} {i g a kind : Int}
end
section
variable {p : cv} {N Rm GG m n u k S : Nat} {x y z : Sc} {i g a kind v : Int}
end
section
variable {p : cv} {N Rm GG m n u k S : Nat} {x y z : Sc} {i g a kind v : Int}
theorem NX {d' : mj} {o : nR} (hy : Sc.act p { x with d := d' } a = some (y, o)) : y.steps = x.steps ∧ y.c = x.c := by
 have fe : ∀ (z : Sc) (i kind g : Int) (t : Bool), (z.bU a i kind g t).1.steps = z.steps ∧ (z.bU a i kind g t).1.c = z.c := fun z i kind g t => by
  unfold Sc.bU; split <;> exact ⟨rfl, rfl⟩
 unfold Sc.act at hy
 split at hy
 ·split at hy
  ·cases hy; exact ⟨rfl, rfl⟩
  ·cases hy
 ·split at hy
  ·simp only [Option.some.injEq, Prod.mk.injEq] at hy
   rw [← hy.1]
   unfold Sc.hold
   dsimp only
   split <;> exact ⟨rfl, rfl⟩
  ·split at hy
   ·split at hy
    ·simp only [Option.some.injEq] at hy
     have hf : (Sc.find { x with d := d' } a).1.steps = x.steps ∧ (Sc.find { x with d := d' } a).1.c = x.c := by
      unfold Sc.find
      dsimp only
      split
      ·exact ⟨rfl, rfl⟩
      ·split
       ·split
        ·exact ⟨rfl, rfl⟩
        ·split <;> exact fe _ _ _ _ _
       ·exact fe _ _ _ _ _
     rw [hy] at hf
     exact hf
    ·cases hy
   ·unfold Sc.run at hy
    split at hy
    ·rename_i hpre
     obtain ⟨m0, m1, i0, i1, _⟩ := hpre
     have on : ∀ {w : Wd} {d2 : mj} {rest : Bool}, jr { x with d := d' } a (aC { x with d := d' } a).g d2 w rest = some (y, o) → y.steps = x.steps ∧ y.c = x.c := fun {w d2 rest} hh => by
      unfold jr at hh
      split at hh
      ·simp only [Option.some.injEq, Prod.mk.injEq] at hh
       have f1 := iF (m := a) w.ready { x with w := w, d := d2 } i0 i1
       rw [← hh.1]
       unfold Sc.rz
       split <;> exact ⟨f1.2.2.2.2.2.1, f1.2.2.2.2.1⟩
      ·cases hh
     split at hy
     ·split at hy
      ·cases hy
      ·cases hy; exact ⟨rfl, rfl⟩
      ·exact on hy
      ·exact on hy
     ·cases hy
    ·cases hy
theorem NY {e : Ev} (hst : x.status = 0) (hy : x.step p = some (y, .ev e)) : y.steps = x.steps + 1 ∧ y.c = x.c := by
 unfold Sc.step at hy
 split at hy
 ·rw [if_neg (by rw [hst]; decide)] at hy
  split at hy
  ·cases hy
  ·rename_i d' k xZ
   generalize hac : Sc.act p { x with d := d' } k = r at hy
   cases r with
   | none => cases hy
   | some r =>
    obtain ⟨z, o⟩ := r
    have := NX hac
    cases o with
    | dY l => cases hy
    | ev e2 =>
     cases hy
     exact ⟨by show z.steps + 1 = _; rw [this.1], this.2⟩
 ·cases hy
end
def aG (n m : Int) : Int := if m < 1 then 0 else Int.tmod (IntKind.wrap .i64 (Int.tmod n m + m)) m
theorem dD {n m : Int} (hm : 1 ≤ m) (hb : m < 4611686018427387904) : 0 ≤ aG n m ∧ aG n m < m := by
 have h1 := Int.tmod_lt_of_pos n (show 0 < m by omega)
 have h2 := Int.lt_tmod_of_pos n (show 0 < m by omega)
 unfold aG
 rw [if_neg (by omega), dm (by omega) (by omega)]
 have h3 : 0 ≤ Int.tmod n m + m := by omega
 exact ⟨Int.tmod_nonneg m h3, Int.tmod_lt_of_pos _ (by omega)⟩
def y5 (nf nc iH lk lf : Int) (x : cQ) : cQ :=
 if aG x.op 23 = 1 then ⟨1, aG x.a 8, x.b, 0⟩
 else if aG x.op 23 = 2 then ⟨2, aG x.a 8, aG x.b 8, 0⟩
 else if aG x.op 23 = 3 then ⟨aG x.op 23, aG x.a 8, aG x.b 8, aG x.c 8⟩
 else if aG x.op 23 = 4 then ⟨aG x.op 23, aG x.a 8, aG x.b 8, aG x.c 8⟩
 else if aG x.op 23 = 5 then ⟨aG x.op 23, aG x.a 8, aG x.b 8, aG x.c 8⟩
 else if aG x.op 23 = 6 then ⟨aG x.op 23, aG x.a 8, aG x.b 8, aG x.c 8⟩
 else if aG x.op 23 = 7 then ⟨7, aG x.a lf, 0, 0⟩
 else if aG x.op 23 = 8 then ⟨8, aG x.a 8, aG x.b lf, 0⟩
 else if aG x.op 23 = 9 then ⟨aG x.op 23, aG x.a nf, aG x.b 8, aG x.c 8⟩
 else if aG x.op 23 = 11 then ⟨aG x.op 23, aG x.a nf, aG x.b 8, aG x.c 8⟩
 else if aG x.op 23 = 10 then ⟨aG x.op 23, aG x.a 8, 0, 0⟩
 else if aG x.op 23 = 17 then ⟨aG x.op 23, aG x.a 8, 0, 0⟩
 else if aG x.op 23 = 20 then ⟨aG x.op 23, aG x.a 8, 0, 0⟩
 else if aG x.op 23 = 13 then (if nc = 0 then .zero else ⟨aG x.op 23, aG x.a nc, aG x.b 8, 0⟩)
 else if aG x.op 23 = 14 then (if nc = 0 then .zero else ⟨aG x.op 23, aG x.a nc, aG x.b 8, aG x.c 8⟩)
 else if aG x.op 23 = 15 then (if nc = 0 then .zero else ⟨aG x.op 23, aG x.a nc, 0, 0⟩)
 else if aG x.op 23 = 16 then (if iH = 0 then .zero else ⟨16, aG x.a iH, 1 + aG x.b (iH - aG x.a iH), aG x.c 8⟩)
 else if aG x.op 23 = 18 then (if lk = 0 then .zero else ⟨aG x.op 23, aG x.a lk, 0, 0⟩)
 else if aG x.op 23 = 19 then (if lk = 0 then .zero else ⟨aG x.op 23, aG x.a lk, 0, 0⟩)
 else if aG x.op 23 = 21 then ⟨21, aG x.a 8, 1 + aG x.b 1000, 0⟩
 else if aG x.op 23 = 22 then ⟨22, aG x.a 1000, 0, 0⟩
 else ⟨aG x.op 23, 0, 0, 0⟩
def dw (nf nc iH lk lf : Int) (i : cQ) : Prop := 0 ≤ i.op ∧ i.op < 23 ∧ i.cN ∧ (i.op = 7 → 0 ≤ i.a ∧ i.a < lf) ∧ (i.op = 8 → 0 ≤ i.b ∧ i.b < lf) ∧
 (i.op = 9 ∨ i.op = 11 → 0 ≤ i.a ∧ i.a < nf ∧ bj i.b ∧ bj i.c) ∧ (i.op = 10 ∨ i.op = 17 ∨ i.op = 20 ∨ i.op = 21 → bj i.a) ∧
 (i.op = 13 ∨ i.op = 14 ∨ i.op = 15 → 0 ≤ i.a ∧ i.a < nc) ∧ (i.op = 13 ∨ i.op = 14 → bj i.b) ∧ (i.op = 14 ∨ i.op = 16 → bj i.c) ∧
 (i.op = 16 → 0 ≤ i.a ∧ 1 ≤ i.b ∧ i.a + i.b ≤ iH) ∧ (i.op = 18 ∨ i.op = 19 → 0 ≤ i.a ∧ i.a < lk) ∧ (i.op = 21 → 1 ≤ i.b ∧ i.b < 1099511627776)
theorem dw.ok {p : cv} {f : List cQ} {i : cQ} (h : dw p.funcs.length p.dS.length p.cases.length p.aI f.length i) : kY p f i := h
theorem dw.zero {nf nc iH lk lf : Int} : dw nf nc iH lk lf .zero := by
 simp [dw, cQ.cN, cQ.zero]
theorem jN {nf nc iH lk lf : Int} {p : Prop} [Decidable p] {x y : cQ} (h1 : p → dw nf nc iH lk lf x) (h2 : ¬ p → dw nf nc iH lk lf y) : dw nf nc iH lk lf (if p then x else y) := by
 split
 ·exact h1 ‹_›
 ·exact h2 ‹_›
theorem Rr {nf nc iH lk lf : Int} {x : cQ} (hf : 1 ≤ nf ∧ nf ≤ 5) (hc : 0 ≤ nc ∧ nc ≤ 4) (hcs : 0 ≤ iH ∧ iH ≤ 8) (hl : 0 ≤ lk ∧ lk ≤ 3) (hlf : 1 ≤ lf ∧ lf ≤ 20) : dw nf nc iH lk lf (y5 nf nc iH lk lf x) := by
 have a8 := dD (n := x.a) (m := 8) (by omega) (by omega)
 have b8 := dD (n := x.b) (m := 8) (by omega) (by omega)
 have c8 := dD (n := x.c) (m := 8) (by omega) (by omega)
 have o23 := dD (n := x.op) (m := 23) (by omega) (by omega)
 have af := dD (n := x.a) (m := lf) (by omega) (by omega)
 have bf := dD (n := x.b) (m := lf) (by omega) (by omega)
 have an := dD (n := x.a) (m := nf) (by omega) (by omega)
 have b1000 := dD (n := x.b) (m := 1000) (by omega) (by omega)
 have ac : nc ≠ 0 → _ := fun e => dD (n := x.a) (m := nc) (by omega) (by omega)
 have al : lk ≠ 0 → _ := fun e => dD (n := x.a) (m := lk) (by omega) (by omega)
 have zE : iH ≠ 0 → _ := fun e => dD (n := x.a) (m := iH) (by omega) (by omega)
 have BU : iH ≠ 0 → _ := fun e => dD (n := x.b) (m := iH - aG x.a iH) (by have := zE e; omega) (by have := zE e; omega)
 have p1 : dw nf nc iH lk lf ⟨1, aG x.a 8, x.b, 0⟩ := by clear ac al zE BU; simp [dw, cQ.cN, bj] <;> omega
 have p2 : dw nf nc iH lk lf ⟨2, aG x.a 8, aG x.b 8, 0⟩ := by clear ac al zE BU; simp [dw, cQ.cN, bj] <;> omega
 have p3 : dw nf nc iH lk lf ⟨3, aG x.a 8, aG x.b 8, aG x.c 8⟩ := by clear ac al zE BU; simp [dw, cQ.cN, bj] <;> omega
 have p4 : dw nf nc iH lk lf ⟨4, aG x.a 8, aG x.b 8, aG x.c 8⟩ := by clear ac al zE BU; simp [dw, cQ.cN, bj] <;> omega
 have p5 : dw nf nc iH lk lf ⟨5, aG x.a 8, aG x.b 8, aG x.c 8⟩ := by clear ac al zE BU; simp [dw, cQ.cN, bj] <;> omega
 have p6 : dw nf nc iH lk lf ⟨6, aG x.a 8, aG x.b 8, aG x.c 8⟩ := by clear ac al zE BU; simp [dw, cQ.cN, bj] <;> omega
 have p7 : dw nf nc iH lk lf ⟨7, aG x.a lf, 0, 0⟩ := by clear ac al zE BU; simp [dw, cQ.cN, bj] <;> omega
 have p8 : dw nf nc iH lk lf ⟨8, aG x.a 8, aG x.b lf, 0⟩ := by clear ac al zE BU; simp [dw, cQ.cN, bj] <;> omega
 have p9 : dw nf nc iH lk lf ⟨9, aG x.a nf, aG x.b 8, aG x.c 8⟩ := by clear ac al zE BU; simp [dw, cQ.cN, bj] <;> omega
 have p11 : dw nf nc iH lk lf ⟨11, aG x.a nf, aG x.b 8, aG x.c 8⟩ := by clear ac al zE BU; simp [dw, cQ.cN, bj] <;> omega
 have p10 : dw nf nc iH lk lf ⟨10, aG x.a 8, 0, 0⟩ := by clear ac al zE BU; simp [dw, cQ.cN, bj] <;> omega
 have p17 : dw nf nc iH lk lf ⟨17, aG x.a 8, 0, 0⟩ := by clear ac al zE BU; simp [dw, cQ.cN, bj] <;> omega
 have p20 : dw nf nc iH lk lf ⟨20, aG x.a 8, 0, 0⟩ := by clear ac al zE BU; simp [dw, cQ.cN, bj] <;> omega
 have p13 : nc ≠ 0 → dw nf nc iH lk lf ⟨13, aG x.a nc, aG x.b 8, 0⟩ := fun z => by have := ac z; clear ac al zE BU; simp [dw, cQ.cN, bj] <;> omega
 have p14 : nc ≠ 0 → dw nf nc iH lk lf ⟨14, aG x.a nc, aG x.b 8, aG x.c 8⟩ := fun z => by have := ac z; clear ac al zE BU; simp [dw, cQ.cN, bj] <;> omega
 have p15 : nc ≠ 0 → dw nf nc iH lk lf ⟨15, aG x.a nc, 0, 0⟩ := fun z => by have := ac z; clear ac al zE BU; simp [dw, cQ.cN, bj] <;> omega
 have p16 : iH ≠ 0 → dw nf nc iH lk lf ⟨16, aG x.a iH, 1 + aG x.b (iH - aG x.a iH), aG x.c 8⟩ := fun z => by have := zE z; have := BU z; clear ac al zE BU; simp [dw, cQ.cN, bj] <;> omega
 have p18 : lk ≠ 0 → dw nf nc iH lk lf ⟨18, aG x.a lk, 0, 0⟩ := fun z => by have := al z; clear ac al zE BU; simp [dw, cQ.cN, bj] <;> omega
 have p19 : lk ≠ 0 → dw nf nc iH lk lf ⟨19, aG x.a lk, 0, 0⟩ := fun z => by have := al z; clear ac al zE BU; simp [dw, cQ.cN, bj] <;> omega
 have p21 : dw nf nc iH lk lf ⟨21, aG x.a 8, 1 + aG x.b 1000, 0⟩ := by clear ac al zE BU; simp [dw, cQ.cN, bj] <;> omega
 have p22 : dw nf nc iH lk lf ⟨22, aG x.a 1000, 0, 0⟩ := by clear ac al zE BU; simp [dw, cQ.cN, bj] <;> omega
 clear a8 b8 c8 af bf an b1000 ac al zE BU
 unfold y5
 refine jN (fun e => p1) fun n1 => ?_
 refine jN (fun e => p2) fun n2 => ?_
 refine jN (fun e => e ▸ p3) fun n3 => ?_
 refine jN (fun e => e ▸ p4) fun n4 => ?_
 refine jN (fun e => e ▸ p5) fun n5 => ?_
 refine jN (fun e => e ▸ p6) fun n6 => ?_
 refine jN (fun e => p7) fun n7 => ?_
 refine jN (fun e => p8) fun n8 => ?_
 refine jN (fun e => e ▸ p9) fun n9 => ?_
 refine jN (fun e => e ▸ p11) fun eD => ?_
 refine jN (fun e => e ▸ p10) fun jA => ?_
 refine jN (fun e => e ▸ p17) fun iB => ?_
 refine jN (fun e => e ▸ p20) fun fB => ?_
 refine jN (fun e => jN (fun _ => dw.zero) fun z => e ▸ p13 z) fun iq => ?_
 refine jN (fun e => jN (fun _ => dw.zero) fun z => e ▸ p14 z) fun jX => ?_
 refine jN (fun e => jN (fun _ => dw.zero) fun z => e ▸ p15 z) fun iA => ?_
 refine jN (fun e => jN (fun _ => dw.zero) fun z => p16 z) fun kT => ?_
 refine jN (fun e => jN (fun _ => dw.zero) fun z => e ▸ p18 z) fun jY => ?_
 refine jN (fun e => jN (fun _ => dw.zero) fun z => e ▸ p19 z) fun rY => ?_
 refine jN (fun e => p21) fun kD => ?_
 refine jN (fun e => p22) fun oE => ?_
 generalize aG x.op 23 = o at *
 have : o = 0 ∨ o = 12 := by omega
 rcases this with rfl | rfl <;> simp [dw, cQ.cN]
section
variable {M : Mem} {K : Value → Mem → Prop} {Kp : List PanicEntry → Mem → Prop}
theorem bH {n m : Int} (k : K (.int .i64 (aG n m)) M) : aa Tryz.prog 66 #[.int .i64 n, .int .i64 m] M K Kp := by
 refine tJ ?_
 unfold aG at k
 exact aJ.2 ⟨fun h => by rw [if_pos h] at k; exact k, fun h => ⟨by omega, by omega, by rw [if_neg h] at k; exact k⟩⟩
variable {R : Mem} {L : List HP}
abbrev insV (i : cQ) : Value := .agg #[.int .i64 i.op, .int .i64 i.a, .int .i64 i.b, .int .i64 i.c]
theorem Um {A B C F : Option Addr} {nf cf nc cc iH ccs lf cl : Nat} {lk o a b c : Int} (h : Hp R L M) (hcs : iH ≤ 8)
  (k : ∀ M', Hp R L M' → K (insV (y5 nf nc iH lk lf ⟨o, a, b, c⟩)) M') :
  aa Tryz.prog 67 #[.agg #[.slice A nf cf, .slice B nc cc, .int .i64 lk, .slice C iH ccs], .slice F lf cl, .agg #[.int .i64 o, .int .i64 a, .int .i64 b, .int .i64 c]] M K Kp := by
 refine tK ?_
 have w1000 : IntKind.wrap .i64 (1 + aG b 1000) = 1 + aG b 1000 := by
  have := dD (n := b) (m := 1000) (by omega) (by omega)
  exact dm (by omega) (by omega)
 have as_ : (iH : Int) ≠ 0 → IntKind.wrap .i64 ((iH : Int) - aG a iH) = iH - aG a iH ∧ IntKind.wrap .i64 (1 + aG b (iH - aG a iH)) = 1 + aG b (iH - aG a iH) := fun e => by
  have h1 := dD (n := a) (m := (iH : Int)) (by omega) (by omega)
  have h2 := dD (n := b) (m := (iH : Int) - aG a iH) (by omega) (by omega)
  exact ⟨dm (by omega) (by omega), dm (by omega) (by omega)⟩
 unfold y5 at k
 dsimp only at k
 repeat (first|refine bH ?_|(refine ae h ?_;clear h;intro kb M h)|(refine au h ?_;clear h;intro M h)|refine St.to h ?_|(apply Exists.intro;(repeat apply Exists.intro);refine And.intro rfl ?_)|refine av ?_|refine ai ?_|refine aj ?_)
 refine bh.2 ⟨fun e => ?_, fun e => ?_⟩
 ·rw [if_pos e] at k
  repeat (first|refine bH ?_|(refine ae h ?_;clear h;intro kb M h)|(refine au h ?_;clear h;intro M h)|refine St.to h ?_|(apply Exists.intro;(repeat apply Exists.intro);refine And.intro rfl ?_)|refine av ?_|refine ai ?_|refine aj ?_)
  exact k _ (h.sub bu)
 rw [if_neg e] at k
 clear e
 refine bh.2 ⟨fun e => ?_, fun e => ?_⟩
 ·rw [if_pos e] at k
  repeat (first|refine bH ?_|(refine ae h ?_;clear h;intro kb M h)|(refine au h ?_;clear h;intro M h)|refine St.to h ?_|(apply Exists.intro;(repeat apply Exists.intro);refine And.intro rfl ?_)|refine av ?_|refine ai ?_|refine aj ?_)
  exact k _ (h.sub bu)
 rw [if_neg e] at k
 clear e
 refine bh.2 ⟨fun e => ?_, fun e => ?_⟩
 ·rw [if_pos e] at k
  repeat (first|refine bH ?_|(refine ae h ?_;clear h;intro kb M h)|(refine au h ?_;clear h;intro M h)|refine St.to h ?_|(apply Exists.intro;(repeat apply Exists.intro);refine And.intro rfl ?_)|refine av ?_|refine ai ?_|refine aj ?_)
  exact k _ (h.sub bu)
 rw [if_neg e] at k
 clear e
 refine bh.2 ⟨fun e => ?_, fun e => ?_⟩
 ·rw [if_pos e] at k
  repeat (first|refine bH ?_|(refine ae h ?_;clear h;intro kb M h)|(refine au h ?_;clear h;intro M h)|refine St.to h ?_|(apply Exists.intro;(repeat apply Exists.intro);refine And.intro rfl ?_)|refine av ?_|refine ai ?_|refine aj ?_)
  exact k _ (h.sub bu)
 rw [if_neg e] at k
 clear e
 refine bh.2 ⟨fun e => ?_, fun e => ?_⟩
 ·rw [if_pos e] at k
  repeat (first|refine bH ?_|(refine ae h ?_;clear h;intro kb M h)|(refine au h ?_;clear h;intro M h)|refine St.to h ?_|(apply Exists.intro;(repeat apply Exists.intro);refine And.intro rfl ?_)|refine av ?_|refine ai ?_|refine aj ?_)
  exact k _ (h.sub bu)
 rw [if_neg e] at k
 clear e
 refine bh.2 ⟨fun e => ?_, fun e => ?_⟩
 ·rw [if_pos e] at k
  repeat (first|refine bH ?_|(refine ae h ?_;clear h;intro kb M h)|(refine au h ?_;clear h;intro M h)|refine St.to h ?_|(apply Exists.intro;(repeat apply Exists.intro);refine And.intro rfl ?_)|refine av ?_|refine ai ?_|refine aj ?_)
  exact k _ (h.sub bu)
 rw [if_neg e] at k
 clear e
 refine bh.2 ⟨fun e => ?_, fun e => ?_⟩
 ·rw [if_pos e] at k
  repeat (first|refine bH ?_|(refine ae h ?_;clear h;intro kb M h)|(refine au h ?_;clear h;intro M h)|refine St.to h ?_|(apply Exists.intro;(repeat apply Exists.intro);refine And.intro rfl ?_)|refine av ?_|refine ai ?_|refine aj ?_)
  exact k _ (h.sub bu)
 rw [if_neg e] at k
 clear e
 refine bh.2 ⟨fun e => ?_, fun e => ?_⟩
 ·rw [if_pos e] at k
  repeat (first|refine bH ?_|(refine ae h ?_;clear h;intro kb M h)|(refine au h ?_;clear h;intro M h)|refine St.to h ?_|(apply Exists.intro;(repeat apply Exists.intro);refine And.intro rfl ?_)|refine av ?_|refine ai ?_|refine aj ?_)
  exact k _ (h.sub bu)
 rw [if_neg e] at k
 clear e
 refine bh.2 ⟨fun e => ?_, fun e => ?_⟩
 ·rw [if_pos e] at k
  repeat (first|refine bH ?_|(refine ae h ?_;clear h;intro kb M h)|(refine au h ?_;clear h;intro M h)|refine St.to h ?_|(apply Exists.intro;(repeat apply Exists.intro);refine And.intro rfl ?_)|refine av ?_|refine ai ?_|refine aj ?_)
  exact k _ (h.sub bu)
 rw [if_neg e] at k
 clear e
 refine bh.2 ⟨fun e => ?_, fun e => ?_⟩
 ·rw [if_pos e] at k
  repeat (first|refine bH ?_|(refine ae h ?_;clear h;intro kb M h)|(refine au h ?_;clear h;intro M h)|refine St.to h ?_|(apply Exists.intro;(repeat apply Exists.intro);refine And.intro rfl ?_)|refine av ?_|refine ai ?_|refine aj ?_)
  exact k _ (h.sub bu)
 rw [if_neg e] at k
 clear e
 refine bh.2 ⟨fun e => ?_, fun e => ?_⟩
 ·rw [if_pos e] at k
  repeat (first|refine bH ?_|(refine ae h ?_;clear h;intro kb M h)|(refine au h ?_;clear h;intro M h)|refine St.to h ?_|(apply Exists.intro;(repeat apply Exists.intro);refine And.intro rfl ?_)|refine av ?_|refine ai ?_|refine aj ?_)
  exact k _ (h.sub bu)
 rw [if_neg e] at k
 clear e
 refine bh.2 ⟨fun e => ?_, fun e => ?_⟩
 ·rw [if_pos e] at k
  repeat (first|refine bH ?_|(refine ae h ?_;clear h;intro kb M h)|(refine au h ?_;clear h;intro M h)|refine St.to h ?_|(apply Exists.intro;(repeat apply Exists.intro);refine And.intro rfl ?_)|refine av ?_|refine ai ?_|refine aj ?_)
  exact k _ (h.sub bu)
 rw [if_neg e] at k
 clear e
 refine bh.2 ⟨fun e => ?_, fun e => ?_⟩
 ·rw [if_pos e] at k
  repeat (first|refine bH ?_|(refine ae h ?_;clear h;intro kb M h)|(refine au h ?_;clear h;intro M h)|refine St.to h ?_|(apply Exists.intro;(repeat apply Exists.intro);refine And.intro rfl ?_)|refine av ?_|refine ai ?_|refine aj ?_)
  exact k _ (h.sub bu)
 rw [if_neg e] at k
 clear e
 refine bh.2 ⟨fun e => ?_, fun e => ?_⟩
 ·rw [if_pos e] at k
  refine bh.2 ⟨fun z => ?_, fun z => ?_⟩
  ·rw [if_pos z] at k
   repeat (first|refine bH ?_|(refine ae h ?_;clear h;intro kb M h)|(refine au h ?_;clear h;intro M h)|refine St.to h ?_|(apply Exists.intro;(repeat apply Exists.intro);refine And.intro rfl ?_)|refine av ?_|refine ai ?_|refine aj ?_)
   exact k _ (h.sub bu)
  rw [if_neg z] at k
  repeat (first|refine bH ?_|(refine ae h ?_;clear h;intro kb M h)|(refine au h ?_;clear h;intro M h)|refine St.to h ?_|(apply Exists.intro;(repeat apply Exists.intro);refine And.intro rfl ?_)|refine av ?_|refine ai ?_|refine aj ?_)
  refine aJ.2 ⟨fun _ => ?_, fun e2 => absurd (show aG o 23 < 15 by omega) e2⟩
  repeat (first|refine bH ?_|(refine ae h ?_;clear h;intro kb M h)|(refine au h ?_;clear h;intro M h)|refine St.to h ?_|(apply Exists.intro;(repeat apply Exists.intro);refine And.intro rfl ?_)|refine av ?_|refine ai ?_|refine aj ?_)
  refine bh.2 ⟨fun e2 => absurd e2 (by omega), fun _ => ?_⟩
  repeat (first|refine bH ?_|(refine ae h ?_;clear h;intro kb M h)|(refine au h ?_;clear h;intro M h)|refine St.to h ?_|(apply Exists.intro;(repeat apply Exists.intro);refine And.intro rfl ?_)|refine av ?_|refine ai ?_|refine aj ?_)
  exact k _ (h.sub bu)
 rw [if_neg e] at k
 clear e
 refine bh.2 ⟨fun e => ?_, fun e => ?_⟩
 ·rw [if_pos e] at k
  refine bh.2 ⟨fun z => ?_, fun z => ?_⟩
  ·rw [if_pos z] at k
   repeat (first|refine bH ?_|(refine ae h ?_;clear h;intro kb M h)|(refine au h ?_;clear h;intro M h)|refine St.to h ?_|(apply Exists.intro;(repeat apply Exists.intro);refine And.intro rfl ?_)|refine av ?_|refine ai ?_|refine aj ?_)
   exact k _ (h.sub bu)
  rw [if_neg z] at k
  repeat (first|refine bH ?_|(refine ae h ?_;clear h;intro kb M h)|(refine au h ?_;clear h;intro M h)|refine St.to h ?_|(apply Exists.intro;(repeat apply Exists.intro);refine And.intro rfl ?_)|refine av ?_|refine ai ?_|refine aj ?_)
  refine aJ.2 ⟨fun _ => ?_, fun e2 => absurd (show aG o 23 < 15 by omega) e2⟩
  repeat (first|refine bH ?_|(refine ae h ?_;clear h;intro kb M h)|(refine au h ?_;clear h;intro M h)|refine St.to h ?_|(apply Exists.intro;(repeat apply Exists.intro);refine And.intro rfl ?_)|refine av ?_|refine ai ?_|refine aj ?_)
  refine bh.2 ⟨fun _ => ?_, fun e2 => absurd e e2⟩
  repeat (first|refine bH ?_|(refine ae h ?_;clear h;intro kb M h)|(refine au h ?_;clear h;intro M h)|refine St.to h ?_|(apply Exists.intro;(repeat apply Exists.intro);refine And.intro rfl ?_)|refine av ?_|refine ai ?_|refine aj ?_)
  exact k _ (h.sub bu)
 rw [if_neg e] at k
 clear e
 refine bh.2 ⟨fun e => ?_, fun e => ?_⟩
 ·rw [if_pos e] at k
  refine bh.2 ⟨fun z => ?_, fun z => ?_⟩
  ·rw [if_pos z] at k
   repeat (first|refine bH ?_|(refine ae h ?_;clear h;intro kb M h)|(refine au h ?_;clear h;intro M h)|refine St.to h ?_|(apply Exists.intro;(repeat apply Exists.intro);refine And.intro rfl ?_)|refine av ?_|refine ai ?_|refine aj ?_)
   exact k _ (h.sub bu)
  rw [if_neg z] at k
  repeat (first|refine bH ?_|(refine ae h ?_;clear h;intro kb M h)|(refine au h ?_;clear h;intro M h)|refine St.to h ?_|(apply Exists.intro;(repeat apply Exists.intro);refine And.intro rfl ?_)|refine av ?_|refine ai ?_|refine aj ?_)
  refine aJ.2 ⟨fun e2 => absurd e2 (by omega), fun _ => ?_⟩
  repeat (first|refine bH ?_|(refine ae h ?_;clear h;intro kb M h)|(refine au h ?_;clear h;intro M h)|refine St.to h ?_|(apply Exists.intro;(repeat apply Exists.intro);refine And.intro rfl ?_)|refine av ?_|refine ai ?_|refine aj ?_)
  refine bh.2 ⟨fun e2 => absurd e2 (by omega), fun _ => ?_⟩
  repeat (first|refine bH ?_|(refine ae h ?_;clear h;intro kb M h)|(refine au h ?_;clear h;intro M h)|refine St.to h ?_|(apply Exists.intro;(repeat apply Exists.intro);refine And.intro rfl ?_)|refine av ?_|refine ai ?_|refine aj ?_)
  exact k _ (h.sub bu)
 rw [if_neg e] at k
 clear e
 refine bh.2 ⟨fun e => ?_, fun e => ?_⟩
 ·rw [if_pos e] at k
  refine bh.2 ⟨fun z => ?_, fun z => ?_⟩
  ·rw [if_pos z] at k
   repeat (first|refine bH ?_|(refine ae h ?_;clear h;intro kb M h)|(refine au h ?_;clear h;intro M h)|refine St.to h ?_|(apply Exists.intro;(repeat apply Exists.intro);refine And.intro rfl ?_)|refine av ?_|refine ai ?_|refine aj ?_)
   exact k _ (h.sub bu)
  rw [if_neg z] at k
  obtain ⟨e1, e2⟩ := as_ z
  repeat (first|refine bH ?_|(refine ae h ?_;clear h;intro kb M h)|(refine au h ?_;clear h;intro M h)|refine St.to h ?_|(apply Exists.intro;(repeat apply Exists.intro);refine And.intro rfl ?_)|refine av ?_|refine ai ?_|refine aj ?_)
  rw [e1]
  repeat (first|refine bH ?_|(refine ae h ?_;clear h;intro kb M h)|(refine au h ?_;clear h;intro M h)|refine St.to h ?_|(apply Exists.intro;(repeat apply Exists.intro);refine And.intro rfl ?_)|refine av ?_|refine ai ?_|refine aj ?_)
  rw [e2]
  repeat (first|refine bH ?_|(refine ae h ?_;clear h;intro kb M h)|(refine au h ?_;clear h;intro M h)|refine St.to h ?_|(apply Exists.intro;(repeat apply Exists.intro);refine And.intro rfl ?_)|refine av ?_|refine ai ?_|refine aj ?_)
  exact k _ (h.sub bu)
 rw [if_neg e] at k
 clear e
 refine bh.2 ⟨fun e => ?_, fun e => ?_⟩
 ·rw [if_pos e] at k
  repeat (first|refine bH ?_|(refine ae h ?_;clear h;intro kb M h)|(refine au h ?_;clear h;intro M h)|refine St.to h ?_|(apply Exists.intro;(repeat apply Exists.intro);refine And.intro rfl ?_)|refine av ?_|refine ai ?_|refine aj ?_)
  refine bh.2 ⟨fun z => ?_, fun z => ?_⟩
  ·rw [if_pos z] at k
   repeat (first|refine bH ?_|(refine ae h ?_;clear h;intro kb M h)|(refine au h ?_;clear h;intro M h)|refine St.to h ?_|(apply Exists.intro;(repeat apply Exists.intro);refine And.intro rfl ?_)|refine av ?_|refine ai ?_|refine aj ?_)
   exact k _ (h.sub bu)
  rw [if_neg z] at k
  repeat (first|refine bH ?_|(refine ae h ?_;clear h;intro kb M h)|(refine au h ?_;clear h;intro M h)|refine St.to h ?_|(apply Exists.intro;(repeat apply Exists.intro);refine And.intro rfl ?_)|refine av ?_|refine ai ?_|refine aj ?_)
  exact k _ (h.sub bu)
 rw [if_neg e] at k
 clear e
 refine bh.2 ⟨fun e => ?_, fun e => ?_⟩
 ·rw [if_pos e] at k
  repeat (first|refine bH ?_|(refine ae h ?_;clear h;intro kb M h)|(refine au h ?_;clear h;intro M h)|refine St.to h ?_|(apply Exists.intro;(repeat apply Exists.intro);refine And.intro rfl ?_)|refine av ?_|refine ai ?_|refine aj ?_)
  refine bh.2 ⟨fun z => ?_, fun z => ?_⟩
  ·rw [if_pos z] at k
   repeat (first|refine bH ?_|(refine ae h ?_;clear h;intro kb M h)|(refine au h ?_;clear h;intro M h)|refine St.to h ?_|(apply Exists.intro;(repeat apply Exists.intro);refine And.intro rfl ?_)|refine av ?_|refine ai ?_|refine aj ?_)
   exact k _ (h.sub bu)
  rw [if_neg z] at k
  repeat (first|refine bH ?_|(refine ae h ?_;clear h;intro kb M h)|(refine au h ?_;clear h;intro M h)|refine St.to h ?_|(apply Exists.intro;(repeat apply Exists.intro);refine And.intro rfl ?_)|refine av ?_|refine ai ?_|refine aj ?_)
  exact k _ (h.sub bu)
 rw [if_neg e] at k
 clear e
 refine bh.2 ⟨fun e => ?_, fun e => ?_⟩
 ·rw [if_pos e] at k
  repeat (first|refine bH ?_|(refine ae h ?_;clear h;intro kb M h)|(refine au h ?_;clear h;intro M h)|refine St.to h ?_|(apply Exists.intro;(repeat apply Exists.intro);refine And.intro rfl ?_)|refine av ?_|refine ai ?_|refine aj ?_)
  rw [w1000]
  exact k _ (h.sub bu)
 rw [if_neg e] at k
 clear e
 refine bh.2 ⟨fun e => ?_, fun e => ?_⟩
 ·rw [if_pos e] at k
  repeat (first|refine bH ?_|(refine ae h ?_;clear h;intro kb M h)|(refine au h ?_;clear h;intro M h)|refine St.to h ?_|(apply Exists.intro;(repeat apply Exists.intro);refine And.intro rfl ?_)|refine av ?_|refine ai ?_|refine aj ?_)
  exact k _ (h.sub bu)
 rw [if_neg e] at k
 clear e
 repeat (first|refine bH ?_|(refine ae h ?_;clear h;intro kb M h)|(refine au h ?_;clear h;intro M h)|refine St.to h ?_|(apply Exists.intro;(repeat apply Exists.intro);refine And.intro rfl ?_)|refine av ?_|refine ai ?_|refine aj ?_)
 exact k _ (h.sub bu)
end
end Go.Proofs
namespace Go.Proofs
open Go.AF Go.Deep
def HM : List IntKind := [.i64, .i64, .i64, .i64]
def Vv : List IntKind := [.i64, .i64, .i64]
def Vw (g : Nat → Int) : cQ := ⟨g 0, g 1, g 2, g 3⟩
def Vx (g : Nat → Int) : po := ⟨g 0, g 1, g 2⟩
theorem NZ (l : List (Nat → Int)) : (kE HM).cells l = jI.cells (l.map Vw) := by
 induction l with
 | nil => rfl
 | cons g l ih => rw [fO.bZ, List.map_cons, fO.bZ, ih]; rfl
theorem N0 (l : List (Nat → Int)) : (kE Vv).cells l = iD.cells (l.map Vx) := by
 induction l with
 | nil => rfl
 | cons g l ih => rw [fO.bZ, List.map_cons, fO.bZ, ih]; rfl
theorem N1 (l : List (Nat → Int)) : (kE [.i64]).cells l = aZ.cells (l.map (· 0)) := by
 induction l with
 | nil => rfl
 | cons g l ih => rw [fO.bZ, List.map_cons, fO.bZ, ih]; rfl
structure rL (M : Mem) (pa : PA) (p : cv) : Prop where
 n1 : p.funcs.length ≤ 9223372036854775807
 n2 : p.dS.length ≤ 9223372036854775807
 n3 : p.cases.length ≤ 9223372036854775807
 le1 : p.funcs.length ≤ pa.fc
 funcs : 0 < p.funcs.length → ∃ ts : List (Option Addr × Nat × Nat), RS zx M pa.f pa.fc ts ∧ ts.length = p.funcs.length ∧ ∀ (i : Nat) t f, ts[i]? = some t → p.funcs[i]? = some f → t.2.1 = f.length ∧ f.length ≤ 9223372036854775807 ∧ f.length ≤ t.2.2 ∧ (0 < f.length → RS jI M t.1 t.2.2 f)
 dS : 0 < p.dS.length → RS aZ M pa.c pa.cc p.dS
 cases : 0 < p.cases.length → RS iD M pa.k pa.kc p.cases
theorem rL.le {M M' : Mem} {pa : PA} {p : cv} (h : rL M pa p) (hle : M.le M') : rL M' pa p := by
 obtain ⟨a1, a2, a3, a4, a5, a6, a7⟩ := h
 refine ⟨a1, a2, a3, a4, fun h0 => ?_, fun h0 => (a6 h0).le hle, fun h0 => (a7 h0).le hle⟩
 obtain ⟨ts, t1, t2, t3⟩ := a5 h0
 exact ⟨ts, t1.le hle, t2, fun i t f a b => ⟨(t3 i t f a b).1, (t3 i t f a b).2.1, (t3 i t f a b).2.2.1, fun h => ((t3 i t f a b).2.2.2 h).le hle⟩⟩
theorem nv.rs {α : Type} {E : fO α} {M : Mem} {A : Option Addr} {n c : Nat} {ks : List IntKind} (h : nv M A n c ks) (f : (Nat → Int) → α) (hc : ∀ l, (kE ks).cells l = E.cells (l.map f)) : ∃ l : List α, l.length = n ∧ n ≤ c ∧ n ≤ 9223372036854775807 ∧ (0 < n → RS E M A c l) := by
 obtain ⟨l, rfl, h1, h2, h3, _⟩ := h
 refine ⟨l.map f, by simp, h1, Nat.le_trans h2 (by decide), fun h0 => ⟨?_, by simpa using h1⟩⟩
 rw [← hc]
 exact h3 h0
section
variable {H : Type} {enc : TypeId × Value → H} {P : Program} {w : World} {base : Nat} {spare : Nat → Bool} {held : Bool}
theorem CO {t e e2 : TypeId} {A : Option Addr} {n c fuel : Nat} {x : DataW H × List MemPlace} (ht : P.underlying t = some (.slice e)) (he : P.underlying e = some (.slice e2)) (YZ : P.cellsOf e = 1) (hk : iZ P 8 e2 = some HM) (hc : P.cellsOf e2 = HM.length ∧ 0 < HM.length)
  (h : DataW.trod enc P w base spare held fuel t [.slice A n c] = some x) : ∃ fs : List (List cQ), fs.length = n ∧ n ≤ c ∧ n ≤ 9223372036854775807 ∧ (0 < n → ∃ ts : List (Option Addr × Nat × Nat), RS zx (jT w) A c ts ∧ ts.length = n ∧ ∀ (i : Nat) t f, ts[i]? = some t → fs[i]? = some f → t.2.1 = f.length ∧ f.length ≤ 9223372036854775807 ∧ f.length ≤ t.2.2 ∧ (0 < f.length → RS jI (jT w) t.1 t.2.2 f)) := by
 rcases open_slice1 ht YZ h with ⟨h0, _⟩ | ⟨a, len, cap, m, n', V, D, Pl, hcs, hb, hl, hm, IM, hx, hel⟩
 ·cases h0
  exact ⟨[], rfl, Nat.le_refl _, by omega, fun h => absurd h (by omega)⟩
 ·cases hcs
  have hlm : n ≤ m := by rw [IM]; split <;> omega
  have each : ∀ i, i < n → ∃ q : (Option Addr × Nat × Nat) × List cQ, w.cell? (a.add i) = some (.slice q.1.1 q.1.2.1 q.1.2.2) ∧ q.1.2.1 = q.2.length ∧ q.2.length ≤ 9223372036854775807 ∧ q.2.length ≤ q.1.2.2 ∧ (0 < q.2.length → RS jI (jT w) q.1.1 q.1.2.2 q.2) := by
   intro i hi
   obtain ⟨h1, h2⟩ := hel i (by omega)
   rcases Go.Deep.open_slice he h2 with ⟨h0, _⟩ | ⟨a', len', cap', _, _, _, _, O7, _, _, _, _, _, _⟩
   ·refine ⟨((none, 0, 0), []), ?_, rfl, by simp, by simp, fun h => by simp at h⟩
    rw [h1]; simpa using h0
   ·have hv : V i = .slice (some a') len' cap' := by simpa using O7
    rw [hv] at h2 h1
    obtain ⟨l, l1, l2, l3, l4⟩ := nv.rs (E := jI) (nv.vN he hk hc ⟨n', h2⟩) Vw NZ
    subst l1
    exact ⟨((some a', l.length, cap'), l), h1, rfl, l3, l2, l4⟩
  obtain ⟨q, hq⟩ := Go.Deep.choose_lt each
  refine ⟨(List.range n).map fun i => (q i).2, by simp, hl, Nat.le_trans hl (Nat.le_trans hm (by decide)), fun hn => ⟨(List.range n).map fun i => (q i).1, ⟨?_, by simpa using hl⟩, by simp, fun i t f h1 h2 => ?_⟩⟩
  ·have hs := World.cell?_spot (hq 0 hn).1
   obtain ⟨b, o, sp⟩ := a
   have hsp : sp = none := by simpa [Addr.add] using hs
   subst hsp
   intro i hi
   rw [fO.cj, List.length_map, List.length_range] at hi
   have hi' : i < n := by simpa [zx] using hi
   have h3 := (hq i hi').1
   rw [add_eq] at h3
   show (jT w).ld ⟨b, o + i, none⟩ = _
   have h4 := fO.iY (E := zx) (l := (List.range n).map fun i => (q i).1) (i := i) (j := 0) (a := (q i).1) (by rw [List.getElem?_map, List.getElem?_range hi']; rfl) rfl
   have e : i * zx.z + 0 = i := by simp [zx]
   rw [e] at h4
   rw [h4]
   exact h3
  ·rw [List.getElem?_map] at h1 h2
   obtain ⟨j, hj, rfl⟩ := Option.map_eq_some_iff.1 h1
   obtain ⟨j', hj', rfl⟩ := Option.map_eq_some_iff.1 h2
   obtain ⟨hl1, e1⟩ := List.getElem?_eq_some_iff.1 hj
   rw [hj] at hj'
   cases hj'
   have Zx : j < n := by rw [← e1]; simpa using hl1
   exact (hq j Zx).2
theorem HN {t t1 t2 t3 t4 e1 e11 e2 e4 : TypeId} {fs : Array Field} {v : Value} {d : DataW H} {ps : List MemPlace} (hu : P.underlying t = some (.struct fs)) (hf : fs.toList.map (fun (f : Field) => (f.offset, f.type)) = [(0, t1), (1, t2), (2, t3), (3, t4)])
  (u1 : P.underlying t1 = some (.slice e1)) (u11 : P.underlying e1 = some (.slice e11)) (u2 : P.underlying t2 = some (.slice e2)) (u3 : P.underlying t3 = some (.int .i64)) (u4 : P.underlying t4 = some (.slice e4))
  (c1 : P.cellsOf t1 = 1) (c2 : P.cellsOf t2 = 1) (c3 : P.cellsOf t3 = 1) (c4 : P.cellsOf t4 = 1) (c11 : P.cellsOf e1 = 1) (k1 : iZ P 8 e11 = some HM) (k2 : iZ P 8 e2 = some [.i64]) (k4 : iZ P 8 e4 = some Vv)
  (d1 : P.cellsOf e11 = 4) (d2 : P.cellsOf e2 = 1) (d4 : P.cellsOf e4 = 3) (ct : P.cellsOf t = 4)
  (hs : ∃ cs, v = .agg cs ∧ cs.size = P.cellsOf t)
  (h : DataW.Trod enc P w base spare held t v d ps) : ∃ (pa : PA) (p : cv), v = .agg #[.slice pa.f p.funcs.length pa.fc, .slice pa.c p.dS.length pa.cc, .int .i64 p.aI, .slice pa.k p.cases.length pa.kc] ∧ rL (jT w) pa p := by
 obtain ⟨cs, rfl, hsz⟩ := hs
 obtain ⟨fuel, hh⟩ := h
 obtain ⟨xs, m, _, _, hl, N6, O6⟩ := DataW.trod_struct hu hh
 have e0 : (Value.agg cs).cells = cs := rfl
 rw [e0] at O6 hl
 rw [ct] at hsz
 obtain ⟨cl⟩ := cs
 simp only [List.size_toArray] at hsz
 have hfl : fs.size = 4 := by have := congrArg List.length hf; simpa using this
 have fld : ∀ (i o : Nat) (ty : TypeId), ([(0, t1), (1, t2), (2, t3), (3, t4)] : List (Nat × TypeId))[i]? = some (o, ty) → ∃ (f : Field) (x : DataW H × List MemPlace), fs[i]? = some f ∧ f.offset = o ∧ f.type = ty ∧ DataW.trod enc P w base spare held m ty ((cl.drop o).take (P.cellsOf ty)) = some x := by
  intro i o ty hi
  rw [← hf, List.getElem?_map] at hi
  obtain ⟨f, Mc, FR⟩ := Option.map_eq_some_iff.1 hi
  cases FR
  have hf3 : fs[i]? = some f := by simpa using Mc
  have := O6 i f hf3
  have hi4 : i < xs.length := by rw [N6]; exact (Array.getElem?_eq_some_iff.1 hf3).1
  rw [List.getElem?_eq_getElem hi4] at this
  exact ⟨f, _, hf3, rfl, rfl, this⟩
 match cl, hsz with
 | [w0, w1, w2, w3], _ =>
  obtain ⟨_, x1, _, _, _, a1⟩ := fld 0 0 t1 rfl
  obtain ⟨_, x2, _, _, _, a2⟩ := fld 1 1 t2 rfl
  obtain ⟨_, x3, _, _, _, a3⟩ := fld 2 2 t3 rfl
  obtain ⟨_, x4, _, _, _, a4⟩ := fld 3 3 t4 rfl
  rw [c1] at a1
  rw [c2] at a2
  rw [c3] at a3
  rw [c4] at a4
  have sl : ∀ {ty e : TypeId} {u : Value} {x : DataW H × List MemPlace}, P.underlying ty = some (.slice e) → DataW.trod enc P w base spare held m ty [u] = some x → ∃ A n c, u = .slice A n c := by
   intro ty e u x hu h
   rcases Go.Deep.open_slice hu h with ⟨h0, _⟩ | ⟨a, len, cap, _, _, _, _, h0, _⟩
   ·cases h0; exact ⟨_, _, _, rfl⟩
   ·cases h0; exact ⟨_, _, _, rfl⟩
  obtain ⟨A1, n1, q1, rfl⟩ := sl u1 a1
  obtain ⟨A2, n2, q2, rfl⟩ := sl u2 a2
  obtain ⟨A4, n4, q4, rfl⟩ := sl u4 a4
  obtain ⟨lk, b3, _⟩ := DataW.trod_int u3 a3
  have b3' : w2 = .int .i64 lk := by simpa using b3
  subst b3'
  obtain ⟨fs', f1, f2, f3, f4⟩ := CO u1 u11 c11 k1 ⟨d1, by decide⟩ a1
  obtain ⟨l2, g1, g2, g3, g4⟩ := nv.rs (E := aZ) (nv.vN u2 k2 ⟨d2, by decide⟩ ⟨m, a2⟩) (· 0) N1
  obtain ⟨l4, j1, j2, j3, j4⟩ := nv.rs (E := iD) (nv.vN u4 k4 ⟨d4, by decide⟩ ⟨m, a4⟩) Vx N0
  subst f1; subst g1; subst j1
  exact ⟨⟨A1, q1, A2, q2, A4, q4⟩, ⟨fs', l2, lk, l4⟩, rfl, ⟨f3, g3, j3, f2, f4, g4, j4⟩⟩
end
end Go.Proofs
namespace Go.Proofs
open Go.AF
set_option maxRecDepth 100000
set_option maxHeartbeats 1000000
attribute [local irreducible] aK dH fa cw az fk aE aP aX be bK aS
def cO (p : cv) : List Int := (p.dS.take 4).map (aG · 4)
def kZ (nc : Nat) (c : po) : po := if nc = 0 then ⟨2, 0, 0⟩ else ⟨aG c.way 3, aG c.ch nc, aG c.bS 8⟩
def gq (p : cv) : List po := (p.cases.take 8).map (kZ (cO p).length)
def dL (p : cv) : List (List cQ) := if (p.funcs.take 5).length = 0 then [[.zero]] else p.funcs.take 5
def gY (f : List cQ) : List cQ := if (f.take 20).length = 0 then [.zero] else f.take 20
def vn (p : cv) (f : List cQ) : List cQ := (gY f).map (y5 (dL p).length (cO p).length (gq p).length (aG p.aI 4) (gY f).length)
def eU (p : cv) : cv := ⟨(dL p).map (vn p), cO p, aG p.aI 4, gq p⟩
theorem yn (p : cv) : 1 ≤ (dL p).length ∧ (dL p).length ≤ 5 := by
 unfold dL
 split
 ·simp
 ·rename_i h; rw [List.length_take] at h ⊢; omega
theorem DZ (f : List cQ) : 1 ≤ (gY f).length ∧ (gY f).length ≤ 20 := by
 unfold gY
 split
 ·simp
 ·rename_i h; rw [List.length_take] at h ⊢; omega
theorem D0 (p : cv) : (cO p).length ≤ 4 := by unfold cO; rw [List.length_map, List.length_take]; omega
theorem D1 (p : cv) : (gq p).length ≤ 8 := by unfold gq; rw [List.length_map, List.length_take]; omega
theorem lk10 (p : cv) : 0 ≤ aG p.aI 4 ∧ aG p.aI 4 ≤ 3 := by have := dD (n := p.aI) (m := 4) (by omega) (by omega); omega
theorem D2 (p : cv) : gf (eU p) := by
 have h1 := yn p
 have h2 := D0 p
 have h3 := D1 p
 have h4 := lk10 p
 refine ⟨by simp [eU]; omega, by show (cO p).length ≤ 8; omega, by show 0 ≤ aG p.aI 4 ∧ aG p.aI 4 ≤ 8; omega, by show (gq p).length ≤ 32; omega, fun c hc => ?_, fun f hf => ?_⟩
 ·obtain ⟨c0, _, rfl⟩ := List.mem_map.1 hc
  have a3 := dD (n := c0.way) (m := 3) (by omega) (by omega)
  have a8 := dD (n := c0.bS) (m := 8) (by omega) (by omega)
  unfold kZ
  split
  ·exact ⟨⟨by decide, by decide, fun h => absurd rfl h⟩, by decide, by decide⟩
  ·rename_i hn
   have ac := dD (n := c0.ch) (m := ((cO p).length : Int)) (by omega) (by omega)
   exact ⟨⟨by dsimp only; omega, by dsimp only; omega, fun _ => ⟨ac.1, ac.2, a8.1, a8.2⟩⟩, a8.1, a8.2⟩
 ·obtain ⟨f0, _, rfl⟩ := List.mem_map.1 hf
  have h5 := DZ f0
  have hl : (vn p f0).length = (gY f0).length := by simp [vn]
  refine ⟨by omega, by omega, fun i hi => ?_⟩
  obtain ⟨i0, _, rfl⟩ := List.mem_map.1 hi
  refine dw.ok ?_
  have e1 : (eU p).funcs.length = (dL p).length := by simp [eU]
  rw [e1, hl]
  show dw _ ((cO p).length : Nat) ((gq p).length : Nat) (aG p.aI 4) _ _
  exact Rr (by omega) (by omega) (by omega) h4 (by omega)
theorem Un : aY Tryz.prog 61 63 4 32 [.int .i64 0, .int .i64 0, .int .i64 0, .int .i64 0] := aY.mk' (zv := .agg #[.int .i64 0, .int .i64 0, .int .i64 0, .int .i64 0]) (by kernel_rfl) (by kernel_rfl) rfl (by omega)
theorem Uo : aY Tryz.prog 57 163 3 24 [.int .i64 0, .int .i64 0, .int .i64 0] := aY.mk' (zv := .agg #[.int .i64 0, .int .i64 0, .int .i64 0]) (by kernel_rfl) (by kernel_rfl) rfl (by omega)
theorem Zf : aY Tryz.prog 56 61 1 24 [.slice none 0 0] := aY.mk' (zv := .slice none 0 0) (by kernel_rfl) (by kernel_rfl) rfl (by omega)
abbrev BV (pa : PA) (p : cv) : Value := .agg #[.slice pa.f p.funcs.length pa.fc, .slice pa.c p.dS.length pa.cc, .int .i64 p.aI, .slice pa.k p.cases.length pa.kc]
abbrev prgC (A : Option Addr) (n c : Nat) (B : Option Addr) (m d : Nat) (lk : Int) (C : Option Addr) (q e : Nat) : List Value := [.slice A n c, .slice B m d, .int .i64 lk, .slice C q e]
section
variable {R : Mem} {L L' : List HP} {M : Mem} {K : Value → Mem → Prop} {Kp : List PanicEntry → Mem → Prop} {pa : PA} {p : cv}
theorem take_succ {α : Type} {l : List α} {j : Nat} {v : α} (h : l[j]? = some v) : l.take (j + 1) = l.take j ++ [v] := by
 obtain ⟨hj, rfl⟩ := List.getElem?_eq_some_iff.1 h
 rw [List.take_add_one, List.getElem?_eq_getElem hj]; rfl
def y6 (R : Mem) (A : Option Addr) (c : Nat) (fs : List (List cQ)) : Prop := ∃ ts : List (Option Addr × Nat × Nat), RS zx R A c ts ∧ ts.length = fs.length ∧ ∀ (i : Nat) t f, ts[i]? = some t → fs[i]? = some f → t.2.1 = f.length ∧ f.length ≤ 9223372036854775807 ∧ f.length ≤ t.2.2 ∧ (0 < f.length → RS jI R t.1 t.2.2 f)
theorem y6.le {R R' : Mem} {A : Option Addr} {c : Nat} {fs : List (List cQ)} (h : y6 R A c fs) (hle : R.le R') : y6 R' A c fs := by
 obtain ⟨ts, h1, h2, h3⟩ := h
 exact ⟨ts, h1.le hle, h2, fun i t f a b => ⟨(h3 i t f a b).1, (h3 i t f a b).2.1, (h3 i t f a b).2.2.1, fun h => ((h3 i t f a b).2.2.2 h).le hle⟩⟩
theorem y6.cut {R : Mem} {A : Option Addr} {c : Nat} {fs : List (List cQ)} (h : y6 R A c fs) (q : Nat) : y6 R (kP A 0 c 1) (c - 0) (fs.take q) := by
 obtain ⟨ts, h1, h2, h3⟩ := h
 have h4 := (h1.drop 0 (Nat.zero_le _)).take q
 rw [List.drop_zero] at h4
 refine ⟨ts.take q, h4, by rw [List.length_take, List.length_take, h2], fun i t f a b => ?_⟩
 rw [List.getElem?_take] at a b
 split at a
 ·rename_i hi
  rw [if_pos hi] at b
  exact h3 i t f a b
 ·cases a
theorem RS.cut {α : Type} {E : fO α} {R : Mem} {A : Option Addr} {c : Nat} {l : List α} (h : RS E R A c l) (q : Nat) : RS E R (kP A 0 c E.z) (c - 0) (l.take q) := by
 have h4 := (h.drop 0 (Nat.zero_le _)).take q
 rwa [List.drop_zero] at h4
abbrev dP (k : Nat) (A : Option Addr) (n c : Nat) (B : Option Addr) (m d : Nat) (lk : Int) (C : Option Addr) (q e : Nat) : HP := pt k (prgC A n c B m d lk C q e) 59
theorem N2 (h : Hp R L M) (ha : rL R pa p) (k : ∀ R' D3 q us M', R.le R' → D3.f = some ⟨q, 0, none⟩ → us.length = (eU p).funcs.length → (∀ (i : Nat) t f, us[i]? = some t → (eU p).funcs[i]? = some f → RS jI R' t.1 t.2.2 f ∧ t.2.1 = f.length) → RS iD R' D3.k D3.kc (eU p).cases → RS aZ R' D3.c D3.cc (eU p).dS →
  Hp R' (bE zx 61 (some ⟨q, 0, none⟩) D3.fc us :: L) M' → K (BV D3 (eU p)) M') :
  aa Tryz.prog 24 #[BV pa p] M K Kp := by
 refine qQ ?_
 have QN := D0 p
 have hkl := D1 p
 have n1 := ha.n1
 have n2 := ha.n2
 have n3 := ha.n3
 have le1 := ha.le1
 refine ae h ?_
 clear h
 intro k1 M h
 refine ae h ?_
 clear h
 intro k3 M h
 refine aF h (bH (cz ?_))
 refine ae h ?_
 clear h
 intro k9 M h
 repeat (refine au h ?_; clear h; intro M h)
 generalize hlk : aG p.aI 4 = lk at h
 have h0 : Hp R (bE aZ 3 none 0 [] :: dP k9 none 0 0 none 0 0 lk none 0 0 :: dP k3 none 0 0 none 0 0 0 none 0 0 :: dP k1 pa.f p.funcs.length pa.fc pa.c p.dS.length pa.cc p.aI pa.k p.cases.length pa.kc :: L) M := h.bP aZ 3
 clear h
 refine ⟨fun vs M => vs = [] ∧ ∃ B c, Hp R (bE aZ 3 B c (cO p) :: dP k9 none 0 0 B (cO p).length c lk none 0 0 :: dP k3 none 0 0 none 0 0 0 none 0 0 :: dP k1 pa.f p.funcs.length pa.fc pa.c p.dS.length pa.cc p.aI pa.k p.cases.length pa.kc :: L) M,
  ⟨fun dd vs M => ∃ (j : Nat) (B : Option Addr) (c : Nat), vs = [.int .i64 (j : Int)] ∧ dd = 4 - j ∧ j ≤ 4 ∧ j ≤ p.dS.length ∧ Hp R (bE aZ 3 B c ((p.dS.take j).map (aG · 4)) :: dP k9 none 0 0 B j c lk none 0 0 :: dP k3 none 0 0 none 0 0 0 none 0 0 :: dP k1 pa.f p.funcs.length pa.fc pa.c p.dS.length pa.cc p.aI pa.k p.cases.length pa.kc :: L) M, ⟨_, 0, none, 0, rfl, rfl, by omega, by omega, h0⟩, ?_⟩, ?_⟩
 ·clear h0
  rintro dd _ nn M ⟨j, B, c, he, hd, hj, KI, h⟩
  simp only [List.cons.injEq, Value.int.injEq, and_true, true_and] at he
  subst he
  have hlen : ((p.dS.take j).map (aG · 4)).length = j := by rw [List.length_map, List.length_take]; omega
  have hout : ¬ (j < p.dS.length ∧ j < 4) → (p.dS.take j).map (aG · 4) = cO p ∧ j = (cO p).length := fun hn => by
   have e : p.dS.take j = p.dS.take 4 := by
    rcases Nat.lt_or_ge j 4 with h4 | h4
    ·rw [List.take_of_length_le (by omega), List.take_of_length_le (by omega)]
    ·rw [show j = 4 from by omega]
   refine ⟨by rw [cO, e], ?_⟩
   rw [← hlen, e]; rfl
  refine aL h ?_
  by_cases hc : j < p.dS.length ∧ j < 4
  ·obtain ⟨c1, c2⟩ := hc
   refine xu (by simp; omega) (xu (by simp; omega) ?_)
   have hr := ha.dS (by omega)
   obtain ⟨b, o, hb⟩ := hr.some (by omega) (by decide)
   rw [hb] at hr h
   obtain ⟨v, hv⟩ := aM c1
   have Up : (p.dS.take (j + 1)).map (aG · 4) = (p.dS.take j).map (aG · 4) ++ [aG v 4] := by rw [take_succ hv, List.map_append]; rfl
   have hstep : ∀ M B c, Hp R (bE aZ 3 B c ((p.dS.take j).map (aG · 4) ++ [aG v 4]) :: dP k9 none 0 0 B (j + 1) c lk none 0 0 :: dP k3 none 0 0 none 0 0 0 none 0 0 :: dP k1 pa.f p.funcs.length pa.fc (some ⟨b, o, none⟩) p.dS.length pa.cc p.aI pa.k p.cases.length pa.kc :: L) M →
     ∃ (j' : Nat) (B : Option Addr) (c : Nat), [Value.int .i64 (IntKind.wrap .i64 ((j : Int) + 1))] = [.int .i64 (j' : Int)] ∧ 4 - (j + 1) = 4 - j' ∧ j' ≤ 4 ∧ j' ≤ p.dS.length ∧ Hp R (bE aZ 3 B c ((p.dS.take j').map (aG · 4)) :: dP k9 none 0 0 B j' c lk none 0 0 :: dP k3 none 0 0 none 0 0 0 none 0 0 :: dP k1 pa.f p.funcs.length pa.fc pa.c p.dS.length pa.cc p.aI pa.k p.cases.length pa.kc :: L) M := by
    intro M B c h
    refine ⟨j + 1, B, c, by rw [aQ (by omega)], rfl, by omega, by omega, ?_⟩
    rw [Up, hb]
    exact h
   refine ⟨fun vs M => vs = [] ∧ ∃ B c, Hp R (bE aZ 3 B c ((p.dS.take j).map (aG · 4) ++ [aG v 4]) :: dP k9 none 0 0 B (j + 1) c lk none 0 0 :: dP k3 none 0 0 none 0 0 0 none 0 0 :: dP k1 pa.f p.funcs.length pa.fc (some ⟨b, o, none⟩) p.dS.length pa.cc p.aI pa.k p.cases.length pa.kc :: L) M, ?_, ?_⟩
   ·refine aL h ⟨by omega, by omega, bg ?_⟩
    refine aR (Src.at hr.src h (i := j) (j := 0) hv rfl (by simp [aZ])) ?_
    refine ⟨?_, ?_, trivial⟩
    ·refine aL h (bH (cz ?_))
     refine ae h ?_
     clear h
     intro uA M h
     refine h.dW (A := B) qv [aG v 4] rfl hlen.symm rfl (by simp; omega) ?_
     clear h; intro A' c' M h
     refine aO ?_
     refine au h ?_
     clear h
     intro M h
     exact ⟨rfl, _, _, h.sub bu⟩
    ·refine bH (cz (aL h ?_))
     refine ae h ?_
     clear h
     intro uA M h
     refine h.dW (A := B) qv [aG v 4] rfl hlen.symm rfl (by simp; omega) ?_
     clear h; intro A' c' M h
     refine aO ?_
     refine au h ?_
     clear h
     intro M h
     exact ⟨rfl, _, _, h.sub bu⟩
   ·clear h
    rintro nn M ⟨_, B', c', h⟩
    exact ⟨4 - (j + 1), by omega, hstep M B' c' h⟩
  ·have ho := hout hc
   obtain ⟨e1, e2⟩ := ho
   rw [e1] at h
   refine K5 ⟨rfl, B, c, ?_⟩ fun h1 h2 => absurd ⟨by omega, by omega⟩ hc
   rw [← e2]; exact h
 clear h0
 rintro nn M ⟨_, B, c, h⟩
 clear nn
 have h0 : Hp R (bE iD 163 none 0 [] :: bE aZ 3 B c (cO p) :: dP k9 none 0 0 B (cO p).length c lk none 0 0 :: dP k3 none 0 0 none 0 0 0 none 0 0 :: dP k1 pa.f p.funcs.length pa.fc pa.c p.dS.length pa.cc p.aI pa.k p.cases.length pa.kc :: L) M := h.bP iD _
 clear h
 refine ⟨fun vs M => vs = [] ∧ ∃ C d, Hp R (bE iD 163 C d (gq p) :: bE aZ 3 B c (cO p) :: dP k9 none 0 0 B (cO p).length c lk C (gq p).length d :: dP k3 none 0 0 none 0 0 0 none 0 0 :: dP k1 pa.f p.funcs.length pa.fc pa.c p.dS.length pa.cc p.aI pa.k p.cases.length pa.kc :: L) M,
  ⟨fun dd vs M => ∃ (j : Nat) (C : Option Addr) (d : Nat), vs = [.int .i64 (j : Int)] ∧ dd = 8 - j ∧ j ≤ 8 ∧ j ≤ p.cases.length ∧ Hp R (bE iD 163 C d ((p.cases.take j).map (kZ (cO p).length)) :: bE aZ 3 B c (cO p) :: dP k9 none 0 0 B (cO p).length c lk C j d :: dP k3 none 0 0 none 0 0 0 none 0 0 :: dP k1 pa.f p.funcs.length pa.fc pa.c p.dS.length pa.cc p.aI pa.k p.cases.length pa.kc :: L) M, ⟨_, 0, none, 0, rfl, rfl, by omega, by omega, h0⟩, ?_⟩, ?_⟩
 ·clear h0
  rintro dd _ nn M ⟨j, C, d, he, hd, hj, KI, h⟩
  simp only [List.cons.injEq, Value.int.injEq, and_true, true_and] at he
  subst he
  have hlen : ((p.cases.take j).map (kZ (cO p).length)).length = j := by rw [List.length_map, List.length_take]; omega
  have hout : ¬ (j < p.cases.length ∧ j < 8) → (p.cases.take j).map (kZ (cO p).length) = gq p ∧ j = (gq p).length := fun hn => by
   have e : p.cases.take j = p.cases.take 8 := by
    rcases Nat.lt_or_ge j 8 with h4 | h4
    ·rw [List.take_of_length_le (by omega), List.take_of_length_le (by omega)]
    ·rw [show j = 8 from by omega]
   refine ⟨by rw [gq, e], ?_⟩
   rw [← hlen, e]; rfl
  refine aL h ?_
  by_cases hc : j < p.cases.length ∧ j < 8
  ·obtain ⟨c1, c2⟩ := hc
   refine xu (by simp; omega) (xu (by simp; omega) ?_)
   have hr := ha.cases (by omega)
   obtain ⟨b, o, hb⟩ := hr.some (by omega) (by decide)
   rw [hb] at hr h
   obtain ⟨v, hv⟩ := aM c1
   have Up : (p.cases.take (j + 1)).map (kZ (cO p).length) = (p.cases.take j).map (kZ (cO p).length) ++ [kZ (cO p).length v] := by rw [take_succ hv, List.map_append]; rfl
   refine aL h ⟨by omega, by omega, bg ?_⟩
   refine aR (Src.at hr.src h (i := j) (j := 0) hv rfl (by simp [iD])) ?_
   refine aR (Src.at hr.src h (i := j) (j := 1) hv rfl (by simp [iD]; omega)) ?_
   refine aR (Src.at hr.src h (i := j) (j := 2) hv rfl (by simp [iD]; omega)) ?_
   refine ae h ?_
   clear h
   intro SL M h
   repeat (first|refine bH ?_|(refine ae h ?_;clear h;intro kb M h)|(refine au h ?_;clear h;intro M h)|refine St.to h ?_|(apply Exists.intro;(repeat apply Exists.intro);refine And.intro rfl ?_)|refine av ?_|refine ai ?_|refine aj ?_)
   refine ⟨fun vs M => vs = [] ∧ Hp R (pt kb (iD.f (kZ (cO p).length v)) 163 :: bE iD 163 C d ((p.cases.take j).map (kZ (cO p).length)) :: bE aZ 3 B c (cO p) :: dP k9 none 0 0 B (cO p).length c lk C j d :: dP k3 none 0 0 none 0 0 0 none 0 0 :: dP k1 pa.f p.funcs.length pa.fc pa.c p.dS.length pa.cc p.aI (some ⟨b, o, none⟩) p.cases.length pa.kc :: L) M, ?_, ?_⟩
   ·refine bh.2 ⟨fun hz => ?_, fun hz => ?_⟩
    ·have ez : kZ (cO p).length v = ⟨2, 0, 0⟩ := by unfold kZ; rw [if_pos (by omega)]
     rw [ez]
     repeat (first|(refine ae h ?_;clear h;intro kb M h)|(refine au h ?_;clear h;intro M h)|refine St.to h ?_|(apply Exists.intro;(repeat apply Exists.intro);refine And.intro rfl ?_)|refine av ?_|refine ai ?_|refine aj ?_)
     exact h.sub bu
    ·have ez : kZ (cO p).length v = ⟨aG v.way 3, aG v.ch (cO p).length, aG v.bS 8⟩ := by unfold kZ; rw [if_neg (by omega)]
     rw [ez]
     exact ⟨rfl, h.sub bu⟩
   ·clear h
    rintro nn M ⟨_, h⟩
    generalize kZ (cO p).length v = w at h Up
    have h : Hp R (pt kb [.int .i64 w.way, .int .i64 w.ch, .int .i64 w.bS] 163 :: bE iD 163 C d ((p.cases.take j).map (kZ (cO p).length)) :: bE aZ 3 B c (cO p) :: dP k9 none 0 0 B (cO p).length c lk C j d :: dP k3 none 0 0 none 0 0 0 none 0 0 :: dP k1 pa.f p.funcs.length pa.fc pa.c p.dS.length pa.cc p.aI (some ⟨b, o, none⟩) p.cases.length pa.kc :: L) M := h
    refine aL h (aF h (aF h (aF h ?_)))
    refine ae h ?_
    clear h
    intro ZI M h
    refine h.dW (A := C) Uo [w] rfl hlen.symm rfl (by simp; omega) ?_
    clear h; intro C' d' M h
    refine aO ?_
    refine au h ?_
    clear h
    intro M h
    refine ⟨8 - (j + 1), by omega, j + 1, C', d', by rw [aQ (by omega)], rfl, by omega, by omega, ?_⟩
    rw [Up, hb]
    exact h.sub bu
  ·have ho := hout hc
   obtain ⟨e1, e2⟩ := ho
   rw [e1] at h
   refine K5 ⟨rfl, C, d, ?_⟩ fun h1 h2 => absurd ⟨by omega, by omega⟩ hc
   rw [← e2]; exact h
 clear h0
 rintro nn M ⟨_, C, d, h⟩
 clear nn
 obtain ⟨R1, l1, rC, h1⟩ := h.dO C
 obtain ⟨R2, l2, rB, h2⟩ := h1.dO B
 clear h h1
 replace rC := rC.le l2
 have kM : R.le R2 := Mem.le_trans l1 l2
 replace h := h2
 clear h2 l1 l2
 have e5 : Int.toNat (if (5 : Int) < ((p.funcs.length : Nat) : Int) then 5 else ((p.funcs.length : Nat) : Int)) - 0 = min 5 p.funcs.length := by split <;> omega
 refine aL h (aL h ⟨by omega, by omega, by split <;> omega, by split <;> omega, by omega, by split <;> omega, ?_⟩)
 simp only [e5, Int.toNat_natCast]
 refine ⟨fun vs M => ∃ R' A c', vs = [.slice A (dL p).length c'] ∧ R2.le R' ∧ y6 R' A c' (dL p) ∧ Hp R' (dP k9 none 0 0 B (cO p).length c lk C (gq p).length d :: dP k3 none 0 0 none 0 0 0 none 0 0 :: dP k1 pa.f p.funcs.length pa.fc pa.c p.dS.length pa.cc p.aI pa.k p.cases.length pa.kc :: L) M, ?_, ?_⟩
 ·refine bh.2 ⟨fun hz => ?_, fun hz => ?_⟩
  ·have ez : dL p = [[.zero]] := by unfold dL; rw [if_pos (by rw [List.length_take]; omega)]
   rw [ez]
   refine ae h ?_
   clear h
   intro ka M h
   obtain ⟨R3, l3, r3, h3⟩ := ((h.pt ka).fQ (E := jI) (l := [.zero]) rfl).dO (some ⟨ka, 0, none⟩)
   clear h
   refine ae h3 ?_
   clear h3; intro kb M h
   obtain ⟨R4, l4, r4, h4⟩ := ((h.pt kb).fQ (E := zx) (l := [(some ⟨ka, 0, none⟩, 1, 1)]) rfl).dO (some ⟨kb, 0, none⟩)
   clear h
   refine ⟨R4, _, _, rfl, Mem.le_trans l3 l4, ⟨_, r4, rfl, fun i t f a b => ?_⟩, h4⟩
   match i, a, b with
   | 0, a, b => cases a; cases b; exact ⟨rfl, by simp, by simp, fun _ => r3.le l4⟩
   | i + 1, a, b => simp at a
  ·have ez : dL p = p.funcs.take 5 := by unfold dL; rw [if_neg (by rw [List.length_take]; omega)]
   have hf : y6 R pa.f pa.fc p.funcs := ha.funcs (by omega)
   rw [ez]
   refine ⟨R2, _, _, by rw [List.length_take], Mem.le_refl _, (hf.cut 5).le kM, h⟩
 clear h
 rintro nn A' n' c' M ⟨R3, A, cA, he, l3, hrows, h⟩
 simp only [List.cons.injEq, Value.slice.injEq, and_true] at he
 obtain ⟨rfl, rfl, rfl⟩ := he
 clear nn e5
 replace rC := rC.le l3
 replace rB := rB.le l3
 have TJ : R.le R3 := Mem.le_trans kM l3
 clear l3 kM
 have hfl := yn p
 refine h.Eg (E := zx) (a := (none, 0, 0)) Zf (by omega) ?_
 clear h; intro q M h
 refine aO ?_
 refine au h ?_
 clear h
 intro M h
 obtain ⟨ts, hts1, hts2, hts3⟩ := hrows
 refine ⟨fun dd vs M => ∃ (j : Nat) (R4 : Mem) (us : List (Option Addr × Nat × Nat)), vs = [.int .i64 (j : Int)] ∧ dd = (dL p).length - j ∧ j ≤ (dL p).length ∧ R3.le R4 ∧ us.length = (dL p).length ∧ (∀ (i : Nat) t f, i < j → us[i]? = some t → (dL p)[i]? = some f → RS jI R4 t.1 t.2.2 (vn p f) ∧ t.2.1 = (vn p f).length) ∧
  Hp R4 (bE zx 61 (some ⟨q, 0, none⟩) (dL p).length us :: dP k9 (some ⟨q, 0, none⟩) (dL p).length (dL p).length B (cO p).length c lk C (gq p).length d :: dP k3 none 0 0 none 0 0 0 none 0 0 :: dP k1 pa.f p.funcs.length pa.fc pa.c p.dS.length pa.cc p.aI pa.k p.cases.length pa.kc :: L) M,
  ⟨_, 0, R3, List.replicate (dL p).length (none, 0, 0), rfl, rfl, by omega, Mem.le_refl _, by simp, fun i t f hi => absurd hi (by omega), h.sub bu⟩, ?_⟩
 clear h
 rintro dd _ nn M ⟨j, R4, us, he, hd, hj, l4, Vy, HO, h⟩
 simp only [List.cons.injEq, Value.int.injEq, and_true, true_and] at he
 subst he
 refine aJ.2 ⟨fun hlt => ?_, fun hge => ?_⟩
 ·obtain ⟨t, ht⟩ := aM (l := ts) (i := j) (by omega)
  obtain ⟨f, hf⟩ := aM (l := dL p) (i := j) (by omega)
  obtain ⟨u1, u2, u3, u4⟩ := hts3 j t f ht hf
  obtain ⟨tA, tn, tc⟩ := t
  dsimp only at u1 u3 u4
  subst u1
  have Ks := hts1.le l4
  obtain ⟨b, o, hb⟩ := Ks.some (by omega) (by decide)
  rw [hb] at Ks
  rw [hb]
  refine ⟨by omega, hlt, bg ?_⟩
  refine Ef (Src.at Ks.src h (i := j) (j := 0) ht rfl (by simp [zx])) ?_
  dsimp only
  have e20 : Int.toNat (if (20 : Int) < ((f.length : Nat) : Int) then 20 else ((f.length : Nat) : Int)) - 0 = min 20 f.length := by split <;> omega
  refine ⟨by omega, by omega, by split <;> omega, by split <;> omega, by omega, by split <;> omega, ?_⟩
  simp only [e20, Int.toNat_natCast]
  refine ⟨fun vs M => ∃ R' A c', vs = [.slice A (gY f).length c'] ∧ R4.le R' ∧ RS jI R' A c' (gY f) ∧ Hp R' (bE zx 61 (some ⟨q, 0, none⟩) (dL p).length us :: dP k9 (some ⟨q, 0, none⟩) (dL p).length (dL p).length B (cO p).length c lk C (gq p).length d :: dP k3 none 0 0 none 0 0 0 none 0 0 :: dP k1 pa.f p.funcs.length pa.fc pa.c p.dS.length pa.cc p.aI pa.k p.cases.length pa.kc :: L) M, ?_, ?_⟩
  ·refine bh.2 ⟨fun hz => ?_, fun hz => ?_⟩
   ·have ez : gY f = [.zero] := by unfold gY; rw [if_pos (by rw [List.length_take]; omega)]
    rw [ez]
    refine ae h ?_
    clear h
    intro ka M h
    obtain ⟨R5, l5, r5, h5⟩ := ((h.pt ka).fQ (E := jI) (l := [.zero]) rfl).dO (some ⟨ka, 0, none⟩)
    clear h
    exact ⟨R5, _, _, rfl, l5, r5, h5⟩
   ·have ez : gY f = f.take 20 := by unfold gY; rw [if_neg (by rw [List.length_take]; omega)]
    rw [ez]
    refine ⟨R4, _, _, by rw [List.length_take]; rfl, Mem.le_refl _, RS.le (RS.cut (E := jI) (u4 (by omega)) 20) l4, h⟩
  clear h
  rintro nn Uq B9 c'' M ⟨R5, F, cF, he, l5, hF, h⟩
  simp only [List.cons.injEq, Value.slice.injEq, and_true] at he
  obtain ⟨rfl, rfl, rfl⟩ := he
  clear nn e20
  have h5 := DZ f
  refine ae h ?_
  clear h
  intro kr M h
  have h0 := (h.pt kr).fQ (E := jI) (l := []) rfl
  clear h
  refine ⟨fun dd vs M => ∃ (i : Nat) (A : Option Addr) (c' : Nat), vs = [.slice A i c', .int .i64 (i : Int)] ∧ dd = (gY f).length - i ∧ i ≤ (gY f).length ∧ Hp R5 (bE jI 63 A c' (((gY f).take i).map (y5 (dL p).length (cO p).length (gq p).length lk (gY f).length)) :: bE zx 61 (some ⟨q, 0, none⟩) (dL p).length us :: dP k9 (some ⟨q, 0, none⟩) (dL p).length (dL p).length B (cO p).length c lk C (gq p).length d :: dP k3 none 0 0 none 0 0 0 none 0 0 :: dP k1 pa.f p.funcs.length pa.fc pa.c p.dS.length pa.cc p.aI pa.k p.cases.length pa.kc :: L) M,
   ⟨_, 0, _, _, rfl, rfl, by omega, h0⟩, ?_⟩
  clear h0
  rintro dd _ Uq B9 c'' nn M ⟨i, A2, c2, he, QJ, hi, h⟩
  simp only [List.cons.injEq, Value.int.injEq, Value.slice.injEq, and_true, true_and] at he
  obtain ⟨⟨rfl, rfl, rfl⟩, rfl⟩ := he
  have hlen : (((gY f).take B9).map (y5 (dL p).length (cO p).length (gq p).length lk (gY f).length)).length = B9 := by rw [List.length_map, List.length_take]; omega
  refine aJ.2 ⟨fun G0 => ?_, fun TV => ?_⟩
  ·obtain ⟨x, hx⟩ := aM (l := gY f) (i := B9) (by omega)
   obtain ⟨b', o', hb'⟩ := hF.some (by omega) (by decide)
   rw [hb'] at hF
   rw [hb']
   refine ⟨by omega, G0, bg ?_⟩
   refine aR (Src.at hF.src h (i := B9) (j := 0) hx rfl (by simp [jI])) ?_
   refine aR (Src.at hF.src h (i := B9) (j := 1) hx rfl (by simp [jI]; omega)) ?_
   refine aR (Src.at hF.src h (i := B9) (j := 2) hx rfl (by simp [jI]; omega)) ?_
   refine aR (Src.at hF.src h (i := B9) (j := 3) hx rfl (by simp [jI]; omega)) ?_
   repeat (first|(refine ae h ?_;clear h;intro kb M h)|(refine au h ?_;clear h;intro M h)|refine St.to h ?_|(apply Exists.intro;(repeat apply Exists.intro);refine And.intro rfl ?_)|refine av ?_|refine ai ?_|refine aj ?_)
   refine Um h (by omega) ?_
   clear h; intro M h
   refine ⟨_, _, _, _, rfl, ?_⟩
   refine ae h ?_
   clear h
   intro kz M h
   refine h.dW (A := Uq) Un [y5 (dL p).length (cO p).length (gq p).length lk (gY f).length x] rfl hlen.symm rfl (by simp; omega) ?_
   clear h; intro A3 c3 M h
   refine aO ⟨(gY f).length - (B9 + 1), by omega, B9 + 1, A3, c3, ?_, rfl, by omega, ?_⟩
   ·rw [aQ (by omega)]
   ·rw [take_succ hx, List.map_append]
    exact h.sub bu
  ·have hin : B9 = (gY f).length := by omega
   subst hin
   rw [List.take_of_length_le (Nat.le_refl _)] at h
   obtain ⟨R6, l6, r6, h6⟩ := h.dO Uq
   clear h
   refine aL h6 ⟨by omega, by omega, bg ?_⟩
   obtain ⟨u, hu⟩ := aM (l := us) (i := j) (by omega)
   refine iL (a' := (Uq, (gY f).length, c'')) j 0 h6 hu (by decide) rfl (by simp [zx]) ?_
   clear h6; intro M h
   refine ⟨(dL p).length - (j + 1), by omega, j + 1, R6, _, by rw [aQ (by omega)], rfl, by omega, Mem.le_trans l4 (Mem.le_trans l5 l6), ?_, ?_, h.sub bu⟩
   ·simp [Vy]
   ·intro i t' f' hi' ht' Iq
    by_cases hij : i = j
    ·subst hij
     rw [List.getElem?_set_self (by omega)] at ht'
     cases ht'
     rw [hf] at Iq
     cases Iq
     subst hlk
     exact ⟨r6, by simp [vn]⟩
    ·rw [List.getElem?_set_ne (by omega)] at ht'
     obtain ⟨g1, g2⟩ := HO i t' f' (by omega) ht' Iq
     exact ⟨g1.le (Mem.le_trans l5 l6), g2⟩
 ·have h5 : Hp R4 (dP k9 (some ⟨q, 0, none⟩) (dL p).length (dL p).length B (cO p).length c lk C (gq p).length d :: dP k3 none 0 0 none 0 0 0 none 0 0 :: bE zx 61 (some ⟨q, 0, none⟩) (dL p).length us :: L) M := h.sub bu
  clear h
  replace h := h5
  clear h5
  repeat (first|(refine ae h ?_;clear h;intro kb M h)|(refine au h ?_;clear h;intro M h)|refine St.to h ?_|(apply Exists.intro;(repeat apply Exists.intro);refine And.intro rfl ?_)|refine av ?_|refine ai ?_|refine aj ?_)
  subst hlk
  have ef : (eU p).funcs.length = (dL p).length := by simp [eU]
  have hk := k R4 ⟨some ⟨q, 0, none⟩, (dL p).length, B, c, C, d⟩ q us M (Mem.le_trans TJ l4) rfl (by rw [Vy, ef]) (fun i t f a b => ?_) (rC.le l4) (rB.le l4) (h.sub bu)
  ·rw [BV, ef] at hk
   exact hk
  ·have b' : ((dL p).map (vn p))[i]? = some f := b
   rw [List.getElem?_map] at b'
   obtain ⟨f0, b1, rfl⟩ := Option.map_eq_some_iff.1 b'
   exact HO i t f0 (by have := (List.getElem?_eq_some_iff.1 b1).1; omega) a b1
theorem Rs (h : Hp R L M) (ha : rL R pa p) (k : ∀ R' D3 M', R.le R' → lB R' D3 (eU p) → RS aZ R' D3.c D3.cc (eU p).dS → Hp R' L M' → K (BV D3 (eU p)) M') :
  aa Tryz.prog 24 #[BV pa p] M K Kp := by
 refine N2 h ha ?_
 clear h; intro R1 Ur q us M l1 e Vy hd rC rB h
 obtain ⟨R2, l2, r2, h2⟩ := h.dO (some ⟨q, 0, none⟩)
 refine k R2 Ur M (Mem.le_trans l1 l2) ⟨⟨us, by rw [e]; exact r2, Vy, fun i t f a b => ?_⟩, rC.le l2⟩ (rB.le l2) h2
 obtain ⟨g1, g2⟩ := hd i t f a b
 exact ⟨g1.le l2, g2⟩
end
theorem Us : aY Tryz.prog 28 27 4 32 [.int .i64 0, .int .i64 0, .int .i64 0, .int .i64 0] := aY.mk' (zv := .agg #[.int .i64 0, .int .i64 0, .int .i64 0, .int .i64 0]) (by kernel_rfl) (by kernel_rfl) rfl (by omega)
theorem Ut : aY Tryz.prog 37 165 3 24 [.int .i64 0, .int .i64 0, .int .i64 0] := aY.mk' (zv := .agg #[.int .i64 0, .int .i64 0, .int .i64 0]) (by kernel_rfl) (by kernel_rfl) rfl (by omega)
theorem Zg : aY Tryz.prog 35 28 1 24 [.slice none 0 0] := aY.mk' (zv := .slice none 0 0) (by kernel_rfl) (by kernel_rfl) rfl (by omega)
theorem Fg {A : Option Addr} {b o : Nat} {G : Nat → Nat → Prop} (e : A = some ⟨b, o, none⟩) (g : G b o) : aE A G := by subst e; exact bg g
abbrev CP (k : Nat) (A : Option Addr) (n c : Nat) (B : Option Addr) (m d : Nat) (lk : Int) (C : Option Addr) (q e : Nat) : HP := pt k (prgC A n c B m d lk C q e) 39
section
variable {R : Mem} {L L' : List HP} {M : Mem} {K : Value → Mem → Prop} {Kp : List PanicEntry → Mem → Prop} {pa : PA} {p : cv}
theorem Uu (h : Hp R L M) (ha : lB R pa p) (hc : RS aZ R pa.c pa.cc p.dS) (hp : gf p) (hfn : p.funcs.length ≤ 1000000) (k : ∀ R' D3 M', R.le R' → lB R' D3 p → RS aZ R' D3.c D3.cc p.dS → Hp R' L M' → K (BV D3 p) M') :
  aa Tryz.prog 25 #[BV pa p] M K Kp := by
 refine tI ?_
 have p1 := hp.ch
 have p2 := hp.cs
 obtain ⟨ts, t1, t2, t3⟩ := ha.funcs
 have t4 := t1.2
 refine ae h ?_
 clear h
 intro k1 M h
 refine ae h ?_
 clear h
 intro k3 M h
 refine aL h (aF h ?_)
 refine ae h ?_
 clear h
 intro k9 M h
 refine ⟨trivial, ?_⟩
 refine h.gE aZ qv p.dS hc.src rfl (by omega) ?_
 clear h; intro B c M h
 refine aO ⟨bN h, ?_⟩
 refine ae h ?_
 clear h
 intro eN M h
 repeat (refine au h ?_; clear h; intro M h)
 refine ⟨bN h, aL h ?_⟩
 obtain ⟨R1, l1, rB, h1⟩ := h.dO B
 clear h
 have h0 : Hp R1 (bE zx 28 none 0 [] :: CP eN none 0 0 B p.dS.length c p.aI none 0 0 :: CP k3 none 0 0 none 0 0 0 none 0 0 :: dP k1 pa.f p.funcs.length pa.fc pa.c p.dS.length pa.cc p.aI pa.k p.cases.length pa.kc :: L) M := (h1.bP zx _).sub bu
 clear h1
 refine ⟨fun dd vs M => ∃ (j : Nat) (R2 : Mem) (A : Option Addr) (cA : Nat) (us : List (Option Addr × Nat × Nat)), vs = [.int .i64 (j : Int)] ∧ dd = p.funcs.length - j ∧ j ≤ p.funcs.length ∧ R1.le R2 ∧ us.length = j ∧ (∀ (i : Nat) t f, us[i]? = some t → p.funcs[i]? = some f → RS jI R2 t.1 t.2.2 f ∧ t.2.1 = f.length) ∧
  Hp R2 (bE zx 28 A cA us :: CP eN A j cA B p.dS.length c p.aI none 0 0 :: CP k3 none 0 0 none 0 0 0 none 0 0 :: dP k1 pa.f p.funcs.length pa.fc pa.c p.dS.length pa.cc p.aI pa.k p.cases.length pa.kc :: L) M,
  ⟨_, 0, R1, none, 0, [], rfl, rfl, by omega, Mem.le_refl _, rfl, fun i t f a => by simp at a, h0⟩, ?_⟩
 clear h0
 rintro dd _ nn M ⟨j, R2, A, cA, us, he, hd, hj, l2, Vy, HO, h⟩
 simp only [List.cons.injEq, Value.int.injEq, and_true, true_and] at he
 subst he
 refine aJ.2 ⟨fun hlt => ?_, fun hge => ?_⟩
 ·obtain ⟨t, ht⟩ := aM (l := ts) (i := j) (by omega)
  obtain ⟨f, hf⟩ := aM (l := p.funcs) (i := j) (by omega)
  obtain ⟨u1, u2⟩ := t3 j t f ht hf
  have hfl := (hp.code f (List.mem_of_getElem? hf)).2.1
  obtain ⟨tA, tn, tc⟩ := t
  dsimp only at u1 u2
  subst u2
  have Ks := t1.le (Mem.le_trans l1 l2)
  obtain ⟨b, o, hb⟩ := Ks.some (by omega) (by decide)
  rw [hb] at Ks
  refine ⟨by omega, hlt, Fg hb ?_⟩
  refine Ef (Src.at Ks.src h (i := j) (j := 0) ht rfl (by simp [zx])) ?_
  dsimp only
  have hF := u1.le (Mem.le_trans l1 l2)
  refine ae h ?_
  clear h
  intro kr M h
  have h0 := (h.pt kr).fQ (E := jI) (l := []) rfl
  clear h
  refine ⟨fun dd vs M => ∃ (i : Nat) (A2 : Option Addr) (c' : Nat), vs = [.slice A2 i c', .int .i64 (i : Int)] ∧ dd = f.length - i ∧ i ≤ f.length ∧ Hp R2 (bE jI 27 A2 c' (f.take i) :: bE zx 28 A cA us :: CP eN A j cA B p.dS.length c p.aI none 0 0 :: CP k3 none 0 0 none 0 0 0 none 0 0 :: dP k1 pa.f p.funcs.length pa.fc pa.c p.dS.length pa.cc p.aI pa.k p.cases.length pa.kc :: L) M,
   ⟨_, 0, _, _, rfl, rfl, by omega, h0⟩, ?_⟩
  clear h0
  rintro dd _ Uq B9 c'' nn M ⟨i, A2, c2, he, QJ, hi, h⟩
  simp only [List.cons.injEq, Value.int.injEq, Value.slice.injEq, and_true, true_and] at he
  obtain ⟨⟨rfl, rfl, rfl⟩, rfl⟩ := he
  have hlen : (f.take B9).length = B9 := by rw [List.length_take]; omega
  refine aJ.2 ⟨fun G0 => ?_, fun TV => ?_⟩
  ·obtain ⟨x, hx⟩ := aM (l := f) (i := B9) (by omega)
   obtain ⟨b', o', hb'⟩ := hF.some (by omega) (by decide)
   rw [hb'] at hF
   refine ⟨by omega, G0, Fg hb' ?_⟩
   refine aR (Src.at hF.src h (i := B9) (j := 0) hx rfl (by simp [jI])) ?_
   refine aR (Src.at hF.src h (i := B9) (j := 1) hx rfl (by simp [jI]; omega)) ?_
   refine aR (Src.at hF.src h (i := B9) (j := 2) hx rfl (by simp [jI]; omega)) ?_
   refine aR (Src.at hF.src h (i := B9) (j := 3) hx rfl (by simp [jI]; omega)) ?_
   repeat (first|(refine ae h ?_;clear h;intro kb M h)|(refine au h ?_;clear h;intro M h)|refine St.to h ?_|(apply Exists.intro;(repeat apply Exists.intro);refine And.intro rfl ?_)|refine av ?_|refine ai ?_|refine aj ?_)
   refine h.dW (A := Uq) Us [x] rfl hlen.symm rfl (by simp; omega) ?_
   clear h; intro A3 c3 M h
   refine aO ⟨f.length - (B9 + 1), by omega, B9 + 1, A3, c3, ?_, rfl, by omega, ?_⟩
   ·rw [aQ (by omega)]
   ·rw [take_succ hx]
    exact h.sub bu
  ·have hin : B9 = f.length := by omega
   subst hin
   rw [List.take_of_length_le (Nat.le_refl _)] at h
   obtain ⟨R6, l6, r6, h6⟩ := h.dO Uq
   clear h
   refine aL h6 ?_
   refine ae h6 ?_
   clear h6; intro kz M h
   refine h.dW (A := A) Zg [(Uq, f.length, c'')] rfl Vy.symm rfl (by simp; omega) ?_
   clear h; intro A3 c3 M h
   refine aO ?_
   refine au h ?_
   clear h
   intro M h
   refine ⟨p.funcs.length - (j + 1), by omega, j + 1, R6, A3, c3, us ++ [(Uq, f.length, c'')], by rw [aQ (by omega)], rfl, by omega, Mem.le_trans l2 l6, by simp [Vy], ?_, h.sub bu⟩
   intro i t' f' ht' Iq
   rcases Nat.lt_or_ge i us.length with hi' | hi'
   ·rw [List.getElem?_append_left hi'] at ht'
    obtain ⟨g1, g2⟩ := HO i t' f' ht' Iq
    exact ⟨g1.le l6, g2⟩
   ·rw [List.getElem?_append_right hi'] at ht'
    have hi0 : i - us.length = 0 := by
     rcases Nat.eq_zero_or_pos (i - us.length) with e | e
     ·exact e
     ·rw [List.getElem?_eq_none (by simp; omega)] at ht'; cases ht'
    rw [hi0] at ht'
    cases ht'
    have : i = j := by omega
    subst this
    rw [hf] at Iq
    cases Iq
    exact ⟨r6, rfl⟩
 ·have De : j = p.funcs.length := by omega
  subst De
  obtain ⟨R3, l3, rA, h3⟩ := h.dO A
  clear h
  refine aL h3 ?_
  have h0 : Hp R3 (bE iD 165 none 0 [] :: CP eN A p.funcs.length cA B p.dS.length c p.aI none 0 0 :: CP k3 none 0 0 none 0 0 0 none 0 0 :: dP k1 pa.f p.funcs.length pa.fc pa.c p.dS.length pa.cc p.aI pa.k p.cases.length pa.kc :: L) M := h3.bP iD _
  clear h3
  have l123 := Mem.le_trans l1 (Mem.le_trans l2 l3)
  have hk := ha.cases.le l123
  refine ⟨fun dd vs M => ∃ (i : Nat) (A2 : Option Addr) (c' : Nat), vs = [.int .i64 (i : Int)] ∧ dd = p.cases.length - i ∧ i ≤ p.cases.length ∧ Hp R3 (bE iD 165 A2 c' (p.cases.take i) :: CP eN A p.funcs.length cA B p.dS.length c p.aI A2 i c' :: CP k3 none 0 0 none 0 0 0 none 0 0 :: dP k1 pa.f p.funcs.length pa.fc pa.c p.dS.length pa.cc p.aI pa.k p.cases.length pa.kc :: L) M,
   ⟨_, 0, none, 0, rfl, rfl, by omega, h0⟩, ?_⟩
  clear h0
  rintro dd _ nn M ⟨i, A2, c2, he, QJ, hi, h⟩
  simp only [List.cons.injEq, Value.int.injEq, and_true, true_and] at he
  subst he
  have hlen : (p.cases.take i).length = i := by rw [List.length_take]; omega
  refine aJ.2 ⟨fun G0 => ?_, fun TV => ?_⟩
  ·obtain ⟨x, hx⟩ := aM (l := p.cases) (i := i) (by omega)
   obtain ⟨b', o', hb'⟩ := hk.some (by omega) (by decide)
   rw [hb'] at hk
   refine ⟨by omega, G0, Fg hb' ?_⟩
   refine aR (Src.at hk.src h (i := i) (j := 0) hx rfl (by simp [iD])) ?_
   refine aR (Src.at hk.src h (i := i) (j := 1) hx rfl (by simp [iD]; omega)) ?_
   refine aR (Src.at hk.src h (i := i) (j := 2) hx rfl (by simp [iD]; omega)) ?_
   repeat (first|(refine ae h ?_;clear h;intro kb M h)|(refine au h ?_;clear h;intro M h)|refine St.to h ?_|(apply Exists.intro;(repeat apply Exists.intro);refine And.intro rfl ?_)|refine av ?_|refine ai ?_|refine aj ?_)
   refine h.dW (A := A2) Ut [x] rfl hlen.symm rfl (by simp; omega) ?_
   clear h; intro A3 c3 M h
   refine aO ?_
   refine au h ?_
   clear h
   intro M h
   refine ⟨p.cases.length - (i + 1), by omega, i + 1, A3, c3, ?_, rfl, by omega, ?_⟩
   ·rw [aQ (by omega)]
   ·rw [take_succ hx]
    exact h.sub bu
  ·have hin : i = p.cases.length := by omega
   subst hin
   rw [List.take_of_length_le (Nat.le_refl _)] at h
   obtain ⟨R6, l6, r6, h6⟩ := h.dO A2
   clear h
   replace h := h6
   clear h6
   repeat (first|(refine ae h ?_;clear h;intro kb M h)|(refine au h ?_;clear h;intro M h)|refine St.to h ?_|(apply Exists.intro;(repeat apply Exists.intro);refine And.intro rfl ?_)|refine av ?_|refine ai ?_|refine aj ?_)
   have l16 := Mem.le_trans l123 l6
   refine k R6 ⟨A, cA, B, c, A2, c2⟩ _ l16 ⟨⟨us, rA.le l6, Vy, fun i t f a b => ?_⟩, r6⟩ (rB.le (Mem.le_trans l2 (Mem.le_trans l3 l6))) (h.sub bu)
   obtain ⟨g1, g2⟩ := HO i t f a b
   exact ⟨g1.le (Mem.le_trans l3 l6), g2⟩
end
section
variable {R : Mem} {L L' : List HP} {M : Mem} {K : Value → Mem → Prop} {Kp : List PanicEntry → Mem → Prop} {b wb db : Nat} {l : List Int} {pa : PA} {p : cv} {x : Sc}
theorem HQ (h : Hp R L M) [o : lX b L pa p wb db x L'] (h1 : x.gl.length ≤ 1000000) (h2 : x.ps.length ≤ 1000000) (h3 : x.ms.length ≤ 1000000) (h4 : x.w.gs.length ≤ 1000000) (hb : (RZ x).length ≤ 1000000000000)
  (k : ∀ R' A c M', R.le R' → Hp R' (jz A c (RZ x) :: ay (c9 pa p wb db) b x :: L') M' → K (.slice A (RZ x).length c) M') : aa Tryz.prog 83 #[.pointer (some ⟨b, 0, none⟩)] M K Kp := by
 refine AW ?_
 replace h := h.pick o.pick
 clear o
 have hbs : x.gl.length + (x.ps.flatMap js).length + (x.ms.flatMap kX).length + 5 ≤ 1000000000000 := by
  simp only [RZ, List.length_append, List.length_cons, List.length_nil] at hb; omega
 refine ae h ?_
 clear h; intro k1 M h
 replace h := h.bP aZ 2
 have h0 : Hp R (ay iC k1 [] :: ay (c9 pa p wb db) b x :: L') M := Q8 (A := none) (c := 0) (l := []) (h.sub bu)
 clear h
 refine ae h0 ?_
 clear h0; intro k3 M h
 refine au h ?_
 clear h; intro M h
 refine dG h ?_
 refine Hw (b := b) h (cz ⟨bN h, ?_⟩)
 refine b9 (b := k1) h (by simp) ?_
 clear h; intro M h
 refine ⟨rfl, bN h, dG h ?_⟩
 refine oU (b := b) h h4 (cz ⟨bN h, ?_⟩)
 refine b9 (b := k1) h (by simp) ?_
 clear h; intro M h
 refine ⟨rfl, bN h, dG h ?_⟩
 refine E5 (b := b) h h1 ?_
 clear h; intro A ca M h
 refine aO ⟨bN h, ?_⟩
 have h5 : Hp R (ay iC k1 ([] ++ [x.steps] ++ [x.status]) :: jg A ca x.gl :: pt k3 [.pointer (some ⟨k1, 0, none⟩)] 187 :: ay (c9 pa p wb db) b x :: L') M := h.sub bu
 clear h
 refine yj (xs := x.gl) h5 (Src.row (A := A)) rfl (by simp only [List.length_append, List.length_cons, List.length_nil]; omega) ?_
 clear h5; intro M h
 refine ⟨rfl, bN h, dG h ?_⟩
 refine yh (b := b) h h2 ?_
 clear h; intro R2 B cb vs M hle hv h
 refine aO ⟨bN h, ?_⟩
 have h6 : Hp R2 (ay iC k1 ([] ++ [x.steps] ++ [x.status] ++ ((x.gl.length : Int) :: x.gl)) :: bE RY 263 B cb vs :: pt k3 [.pointer (some ⟨k1, 0, none⟩)] 187 :: ay (c9 pa p wb db) b x :: L') M := h.sub bu
 clear h
 refine BH (ps := x.ps) h6 (Src.row (A := B)) rfl hv (fun v pr hvp _ => zC (fun M h => bN h) hvp) (by simp only [List.length_append, List.length_cons, List.length_nil]; omega) (by omega) ?_
 clear h6; intro M h
 refine ⟨rfl, bN h, dG h ?_⟩
 refine BD (b := b) h h3 ?_
 clear h; intro D cd M h
 refine aO ⟨bN h, ?_⟩
 have h7 : Hp R2 (ay iC k1 ([] ++ [x.steps] ++ [x.status] ++ ((x.gl.length : Int) :: x.gl) ++ ((x.ps.length : Int) :: x.ps.flatMap js)) :: bE fz 268 D cd x.ms :: pt k3 [.pointer (some ⟨k1, 0, none⟩)] 187 :: ay (c9 pa p wb db) b x :: L') M := h.sub bu
 clear h
 refine E8 (xs := x.ms) h7 (Src.row (A := D)) rfl (fun m _ => CM (fun M h => bN h) m) (by simp only [List.length_append, List.length_cons, List.length_nil]; omega) (by omega) ?_
 clear h7; intro M h
 refine ⟨rfl, bN h, dG h (bg ?_)⟩
 have h8 : Hp R2 (ay iC k1 ([] ++ [x.steps] ++ [x.status] ++ ((x.gl.length : Int) :: x.gl) ++ ((x.ps.length : Int) :: x.ps.flatMap js) ++ ((x.ms.length : Int) :: x.ms.flatMap kX)) :: ay (c9 pa p wb db) b x :: L') M := h.sub bu
 clear h
 have ef : [] ++ [x.steps] ++ [x.status] ++ ((x.gl.length : Int) :: x.gl) ++ ((x.ps.length : Int) :: x.ps.flatMap js) ++ ((x.ms.length : Int) :: x.ms.flatMap kX) = RZ x := by
  unfold RZ; simp
 rw [ef] at h8
 have h9 := E7 h8 (b := k1)
 clear h8
 obtain ⟨A2, c2', h⟩ := h9
 refine aL h ?_
 exact k R2 A2 c2' M hle (h.sub bu)
structure Uv (x : Sc) : Prop where
 gl : x.gl.length ≤ 1000000
 ps : x.ps.length ≤ 1000000
 ms : x.ms.length ≤ 1000000
 gs : x.w.gs.length ≤ 1000
 DR : ∀ g : Int, 0 ≤ g → g < x.w.gs.length → br x.w g
 sm : ({ x.w with ready := [] } : Wd).Sm
 bq : (RZ x).length ≤ 10000000000
 bw : ∀ nc nl, (Fv x.w nc nl).length ≤ 100000000000
theorem y7 {α : Type} {f : α → List Int} {B : Nat} : ∀ {xs : List α}, (∀ a ∈ xs, (f a).length ≤ B) → (xs.flatMap f).length ≤ xs.length * B
 | [], _ => by simp
 | a :: xs, h => by
  have h1 := y7 (xs := xs) fun b hb => h b (List.mem_cons_of_mem _ hb)
  have h2 := h a (by simp)
  rw [List.flatMap_cons, List.length_append, List.length_cons, Nat.succ_mul]; omega
theorem SV.snOk {N : Nat} (h : SV p N x) (hp : gf p) : Uv x := by
 have YX := h.Ug
 have hP := h.P1
 have hM := h.M1
 have BZ := h.w.n2
 have AH := (h.w.ready (r := [])).sm hp (by show (0 : Nat) ≤ _; omega)
 have hsm' := AH
 obtain ⟨s1, s2, s3, _, s5, s6, s7, s8⟩ := hsm'
 change ∀ c ∈ x.w.aB, c.Small 1000000 at s1
 change x.w.aB.length ≤ 1000 at s2
 change x.w.out.length ≤ 1000000 at s5
 change ∀ l ∈ x.w.aI, l.waits.length ≤ 1000000 at s6
 change x.w.aI.length ≤ 1000 at s7
 change x.w.hl.length ≤ 1000000 at s8
 have q1 : (x.ps.flatMap js).length ≤ x.ps.length * 2000 := y7 fun pr kG => by
  have h1 := h.room pr kG
  obtain ⟨a1, a2, a3⟩ := h1
  simp only [js, List.length_append, List.length_cons, List.length_nil]; omega
 have q2 : (x.ms.flatMap kX).length ≤ x.ms.length * 3 := y7 fun m hm => Nat.le_refl 3
 have q3 : (x.w.gs.flatMap CN).length ≤ x.w.gs.length * 200 := y7 fun y hy => by
  have h1 := (h.w.DR y hy).l2
  have h2 : (y.fs.flatMap lZ).length ≤ y.fs.length * 11 := y7 fun f _ => Nat.le_refl 11
  simp only [CN, List.length_cons]; omega
 have q4 : ∀ n, ((x.w.aB.take n).flatMap rF).length ≤ 1000 * 10000000 := fun n => by
  have h1 : ((x.w.aB.take n).flatMap rF).length ≤ (x.w.aB.take n).length * 10000000 := y7 fun c hc => by
   have h1 := s1 c (List.mem_of_mem_take hc)
   obtain ⟨a1, a2, a3⟩ := h1
   simp only [rF, List.length_append, List.length_cons, nT]; omega
  have h2 : (x.w.aB.take n).length ≤ 1000 := by rw [List.length_take]; omega
  exact Nat.le_trans h1 (Nat.mul_le_mul_right _ h2)
 have q5 : ∀ n, ((x.w.aI.take n).flatMap tU).length ≤ 1000 * 10000000 := fun n => by
  have h1 : ((x.w.aI.take n).flatMap tU).length ≤ (x.w.aI.take n).length * 10000000 := y7 fun c hc => by
   have h1 := s6 c (List.mem_of_mem_take hc)
   simp only [tU, List.length_cons]; omega
  have h2 : (x.w.aI.take n).length ≤ 1000 := by rw [List.length_take]; omega
  exact Nat.le_trans h1 (Nat.mul_le_mul_right _ h2)
 have q6 : ((dy x.w.hl.length x.w.hl).flatMap rK).length ≤ (dy x.w.hl.length x.w.hl).length * 3 := y7 fun i _ => Nat.le_refl 3
 have q7 := vl x.w.hl.length x.w.hl
 refine ⟨by omega, by omega, by omega, by omega, fun g g0 g1 => h.w.br g0 g1, AH, ?_, fun nc nl => ?_⟩
 ·simp only [RZ, List.length_append, List.length_cons, List.length_nil]; omega
 ·have a1 := q4 nc
  have a2 := q5 nl
  simp only [Fv, List.length_append, List.length_cons, List.length_nil]; omega
def ZT (x : Sc) (nc nl : Nat) : List Int := RZ x ++ Fv x.w nc nl
theorem BW {c1 c2 : Int} (h : Hp R L M) [q : lX b L pa p wb db x L'] (ok : Uv x) (h1 : c1 ≤ x.w.aB.length) (h2 : c2 ≤ x.w.aI.length)
  (k : ∀ A c M', Hp R (jz A c (Fv x.w c1.toNat c2.toNat) :: ay (c9 pa p wb db) b x :: L') M' → K (.slice A (Fv x.w c1.toNat c2.toNat).length c) M') : aa Tryz.prog 41 #[.pointer (some ⟨wb, 0, none⟩), .int .i64 c1, .int .i64 c2] M K Kp := by
 have hbw := ok.bw c1.toNat c2.toNat
 have h' := fA h (b := b)
 clear h
 obtain ⟨a, hla, h⟩ := h'
 refine Kr (wb := wb) h ok.DR ok.sm h1 h2 (by omega) ?_
 clear h; intro A c M h
 have h2 : Hp R (gI (eE b wb db a x) x.gl :: ay (bn pa p) wb x.w :: ay (cX .nilFunc) db x.d :: gn a x (jz A c (Fv x.w c1.toNat c2.toNat) :: L')) M := h.sub bu
 exact k A c M ((ij hla h2).sub bu)
theorem wY {c1 c2 : Int} (h : Hp R L M) [o : lX b L pa p wb db x L'] (ok : Uv x) (h1 : c1 ≤ x.w.aB.length) (h2 : c2 ≤ x.w.aI.length)
  (k : ∀ R' A c M', R.le R' → Hp R' (jz A c (ZT x c1.toNat c2.toNat) :: ay (c9 pa p wb db) b x :: L') M' → K (.slice A (ZT x c1.toNat c2.toNat).length c) M') : aa Tryz.prog 40 #[.pointer (some ⟨b, 0, none⟩), .int .i64 c1, .int .i64 c2] M K Kp := by
 refine GI ?_
 replace h := h.pick o.pick
 clear o
 have hgs := ok.gs
 have hbq := ok.bq
 have hbw := ok.bw c1.toNat c2.toNat
 refine HQ (b := b) h ok.gl ok.ps ok.ms (by omega) (by omega) ?_
 clear h; intro R2 A ca M hle h
 refine aO ?_
 refine ri (b := b) h (jB ?_)
 refine BW (b := b) h ok h1 h2 ?_
 clear h; intro B cb M h
 refine aO ?_
 have h3 : Hp R2 (jz A ca (RZ x) :: jz B cb (Fv x.w c1.toNat c2.toNat) :: ay (c9 pa p wb db) b x :: L') M := h.sub bu
 clear h
 refine h3.Db (A := A) Lx (Src.row (A := B)) rfl (by omega) ?_
 clear h3; intro A' c' M h
 refine aO ?_
 exact k R2 A' c' M hle (h.sub bu)
end
def Fh {ρ α : Type} (P : Mem → ρ → α → Prop) (R : Mem) (xs : List ρ) (ys : List α) : Prop := xs.length = ys.length ∧ ∀ (i : Nat) (r : ρ) (a : α), xs[i]? = some r → ys[i]? = some a → P R r a
section
variable {ρ α : Type} {P : Mem → ρ → α → Prop} {R R' : Mem} {xs : List ρ} {ys : List α}
theorem Fh.nil (P : Mem → ρ → α → Prop) (R : Mem) : Fh P R [] [] := ⟨rfl, fun i r c h => by simp at h⟩
theorem Fh.le (hm : ∀ R R' r a, R.le R' → P R r a → P R' r a) (h : Fh P R xs ys) (hle : R.le R') : Fh P R' xs ys := ⟨h.1, fun i r c h1 h2 => hm _ _ _ _ hle (h.2 i r c h1 h2)⟩
theorem Fh.snoc {r : ρ} {c : α} (h : Fh P R xs ys) (hr : P R r c) : Fh P R (xs ++ [r]) (ys ++ [c]) := by
 refine ⟨by simp [h.1], fun i r' c' h1 h2 => ?_⟩
 rcases Nat.lt_or_ge i xs.length with hl | hl
 ·rw [List.getElem?_append_left hl] at h1; rw [List.getElem?_append_left (by rw [← h.1]; exact hl)] at h2; exact h.2 i _ _ h1 h2
 ·rw [List.getElem?_append_right hl] at h1; rw [List.getElem?_append_right (by rw [← h.1]; exact hl)] at h2
  have : i - xs.length = 0 := by
   obtain ⟨hh, _⟩ := List.getElem?_eq_some_iff.1 h1; simp at hh; omega
  rw [this] at h1; rw [← h.1, this] at h2
  cases h1; cases h2; exact hr
end
structure RG where
 st : Int
 A : Option Addr
 n : Nat
 c : Nat
 wt : cQ
def rgE : fO RG := ⟨6, fun g => [.int .i64 g.st, .slice g.A g.n g.c, .int .i64 g.wt.op, .int .i64 g.wt.a, .int .i64 g.wt.b, .int .i64 g.wt.c], fun _ => rfl, fun w v hv => by
 simp only [List.mem_cons, List.not_mem_nil, or_false] at hv; obtain rfl | rfl | rfl | rfl | rfl | rfl := hv <;> rfl⟩
def Rt (R : Mem) (r : RG) (y : jt) : Prop := r.st = y.st ∧ r.n = y.fs.length ∧ RS fF R r.A r.c y.fs ∧ r.wt = y.wt
theorem Rt.le (R R' : Mem) (r : RG) (y : jt) (hle : R.le R') (h : Rt R r y) : Rt R' r y := ⟨h.1, h.2.1, h.2.2.1.le hle, h.2.2.2⟩
def lkL (l : Lk) : List Int := if l.owner = -1 then [] else l.owner :: l.waits
def RLk (R : Mem) (t : Option Addr × Nat × Nat) (l : Lk) : Prop := t.2.1 = (lkL l).length ∧ RS aZ R t.1 t.2.2 (lkL l)
theorem RLk.le (R R' : Mem) (r : Option Addr × Nat × Nat) (y : Lk) (hle : R.le R') (h : RLk R r y) : RLk R' r y := ⟨h.1, h.2.le hle⟩
structure RWA where
 pa : PA
 ag : Option Addr
 cg : Nat
 ac : Option Addr
 cc : Nat
 al : Option Addr
 cl : Nat
 ah : Option Addr
 ch : Nat
 ao : Option Addr
 co : Nat
 ar : Option Addr
 cr : Nat
abbrev rwL (a : RWA) (p : cv) (x : Wd) : List Value :=
 [.slice a.pa.f p.funcs.length a.pa.fc, .slice a.pa.c p.dS.length a.pa.cc, .int .i64 p.aI, .slice a.pa.k p.cases.length a.pa.kc, .slice a.ag x.gs.length a.cg, .int .u64 x.clock, .slice a.ac x.aB.length a.cc, .slice a.al x.aI.length a.cl, .slice a.ah x.hl.length a.ch, .int .u64 x.lz, .slice a.ao x.out.length a.co, .int .i64 x.end_, .int .i64 x.code, .slice a.ar x.ready.length a.cr]
structure ZU (R : Mem) (a : RWA) (p : cv) (x : Wd) : Prop where
 prg : lB R a.pa p
 dS : RS aZ R a.pa.c a.pa.cc p.dS
 gs : ∃ rs, RS rgE R a.ag a.cg rs ∧ Fh Rt R rs x.gs
 aB : ∃ rs, RS Yb R a.ac a.cc rs ∧ Jy R rs x.aB
 aI : ∃ rs, RS zx R a.al a.cl rs ∧ Fh RLk R rs x.aI
 hl : RS kU R a.ah a.ch x.hl
 out : RS aZ R a.ao a.co x.out
 ready : RS aZ R a.ar a.cr x.ready
theorem ZU.le {R R' : Mem} {a : RWA} {p : cv} {x : Wd} (h : ZU R a p x) (hle : R.le R') : ZU R' a p x := by
 obtain ⟨h1, h2, ⟨r3, a3, b3⟩, ⟨r4, a4, b4⟩, ⟨r5, a5, b5⟩, h6, h7, h8⟩ := h
 exact ⟨h1.le hle, h2.le hle, ⟨r3, a3.le hle, b3.le Rt.le hle⟩, ⟨r4, a4.le hle, b4.le hle⟩, ⟨r5, a5.le hle, b5.le RLk.le hle⟩, h6.le hle, h7.le hle, h8.le hle⟩
theorem Ru : aY Tryz.prog 75 318 5 88 [.int .i64 0, .slice none 0 0, .slice none 0 0, .slice none 0 0, .bool false] := aY.mk' (zv := .agg #[.int .i64 0, .slice none 0 0, .slice none 0 0, .slice none 0 0, .bool false]) (by kernel_rfl) (by kernel_rfl) rfl (by omega)
theorem Zh : aY Tryz.prog 76 413 1 24 [.slice none 0 0] := aY.mk' (zv := .agg #[.slice none 0 0]) (by kernel_rfl) (by kernel_rfl) rfl (by omega)
end Go.Proofs
namespace Go.Proofs
open Go.AF
set_option maxRecDepth 100000
set_option maxHeartbeats 1000000
attribute [local irreducible] aK dH fa cw az fk aE aP aX be bK aS
attribute [local irreducible] Ig Fz
section
variable {R : Mem} {L L' : List HP} {M : Mem} {K : Value → Mem → Prop} {Kp : List PanicEntry → Mem → Prop} {pa : PA} {p : cv}
theorem HR {fn v : Int} (h : Hp R L M) (k : ∀ R' A c M', R.le R' → RS fF R' A c [gH.begin fn v] → Hp R' L M' → K (.slice A 1 c) M') : aa Tryz.prog 160 #[.int .i64 fn, .int .i64 v] M K Kp := by
 refine pR ?_
 repeat (first|(refine ae h ?_;clear h;intro kb M h)|(refine au h ?_;clear h;intro M h)|refine St.to h ?_|(apply Exists.intro;(repeat apply Exists.intro);refine And.intro rfl ?_)|refine av ?_|refine ai ?_|refine aj ?_)
 obtain ⟨R2, l2, r2, h2⟩ := ((h.pt kb).fQ (E := fF) (l := [gH.begin fn v]) rfl).dO (some ⟨kb, 0, none⟩)
 clear h
 exact k R2 _ _ _ l2 r2 (h2.sub bu)
theorem N3 (h : Hp R L M) (hp : lB R pa p) (hc : RS aZ R pa.c pa.cc p.dS) (hok : gf p) (k : ∀ R' a M', R.le R' → a.pa = pa → ZU R' a p (Wd.new p) → Hp R' L M' → K (.agg (rwL a p (Wd.new p)).toArray) M') :
  aa Tryz.prog 123 #[BV pa p] M K Kp := by
 refine tM ?_
 have p1 := hok.ch
 have p2 := hok.lk
 refine ae h ?_
 clear h
 intro k1 M h
 refine ae h ?_
 clear h
 intro k3 M h
 refine aL h (aL h (aF h (aL h ⟨trivial, ?_⟩)))
 refine HR h ?_
 clear h; intro R1 A c M l1 r1 h
 refine aO ⟨fZ h rfl, ?_⟩
 refine ae h ?_
 clear h
 intro g7 M h
 obtain ⟨R2, l2, r2, h2⟩ := ((h.pt g7).fQ (E := rgE) (l := [⟨1, A, 1, c, .zero⟩]) rfl).dO (some ⟨g7, 0, none⟩)
 clear h
 refine ae h2 ?_
 clear h2; intro gF M h
 refine yC h rfl rfl rfl ?_
 clear h; intro M h
 refine ⟨fZ h rfl, aL h ?_⟩
 have l12 := Mem.le_trans l1 l2
 have KX := hc.le l12
 have W : Option Addr → Nat → Nat → List Value := fun B m d => []
 have h0 := h.bP Yb 318
 clear h
 refine ⟨fun dd vs M => ∃ (j : Nat) (B : Option Addr) (d : Nat) (rs : List RC), vs = [.int .i64 (j : Int)] ∧ dd = p.dS.length - j ∧ j ≤ p.dS.length ∧ Jy R2 rs ((p.dS.take j).map aV.new) ∧
  Hp R2 (bE Yb 318 B d rs :: pt gF [.slice pa.f p.funcs.length pa.fc, .slice pa.c p.dS.length pa.cc, .int .i64 p.aI, .slice pa.k p.cases.length pa.kc, .slice (some ⟨g7, 0, none⟩) 1 1, .int .u64 0, .slice B j d, .slice none 0 0, .slice none 0 0, .int .u64 0, .slice none 0 0, .int .i64 0, .int .i64 0, .slice none 0 0] 81 ::
   pt k3 [.slice none 0 0, .slice none 0 0, .int .i64 0, .slice none 0 0, .slice none 0 0, .int .u64 0, .slice none 0 0, .slice none 0 0, .slice none 0 0, .int .u64 0, .slice none 0 0, .int .i64 0, .int .i64 0, .slice none 0 0] 81 :: dP k1 pa.f p.funcs.length pa.fc pa.c p.dS.length pa.cc p.aI pa.k p.cases.length pa.kc :: L) M,
  ⟨_, 0, none, 0, [], rfl, rfl, by omega, Jy.nil _, h0.sub bu⟩, ?_⟩
 clear h0 W
 rintro dd _ nn M ⟨j, B, d, rs, he, hd, hj, oR, h⟩
 simp only [List.cons.injEq, Value.int.injEq, and_true, true_and] at he
 subst he
 have hlen : rs.length = j := by rw [oR.1, List.length_map, List.length_take]; omega
 refine aJ.2 ⟨fun hlt => ?_, fun hge => ?_⟩
 ·obtain ⟨v, hv⟩ := aM (l := p.dS) (i := j) (by omega)
  obtain ⟨b, o, hb⟩ := KX.some (by omega) (by decide)
  rw [hb] at KX
  refine ⟨by omega, hlt, Fg hb ?_⟩
  refine aR (Src.at KX.src h (i := j) (j := 0) hv rfl (by simp [aZ])) ?_
  refine ⟨fun vs M => vs = [] ∧ ∃ (B : Option Addr) (d : Nat) (Uw : List RC), Jy R2 Uw ((p.dS.take (j + 1)).map aV.new) ∧
   Hp R2 (bE Yb 318 B d Uw :: pt gF [.slice pa.f p.funcs.length pa.fc, .slice pa.c p.dS.length pa.cc, .int .i64 p.aI, .slice pa.k p.cases.length pa.kc, .slice (some ⟨g7, 0, none⟩) 1 1, .int .u64 0, .slice B (j + 1) d, .slice none 0 0, .slice none 0 0, .int .u64 0, .slice none 0 0, .int .i64 0, .int .i64 0, .slice none 0 0] 81 ::
   pt k3 [.slice none 0 0, .slice none 0 0, .int .i64 0, .slice none 0 0, .slice none 0 0, .int .u64 0, .slice none 0 0, .slice none 0 0, .slice none 0 0, .int .u64 0, .slice none 0 0, .int .i64 0, .int .i64 0, .slice none 0 0] 81 :: dP k1 pa.f p.funcs.length pa.fc pa.c p.dS.length pa.cc p.aI pa.k p.cases.length pa.kc :: L) M, ?_, ?_⟩
  ·have zR : (p.dS.take (j + 1)).map aV.new = (p.dS.take j).map aV.new ++ [aV.new v] := by rw [take_succ hv, List.map_append]; rfl
   rw [zR]
   refine ⟨?_, ?_, trivial⟩
   ·refine aL h ?_
    refine Dq h ?_
    clear h; intro vs M h hr
    obtain ⟨r, rfl, hr⟩ := hr.rc
    refine ⟨_, _, _, _, _, _, _, _, _, _, _, rfl, ?_⟩
    refine ae h ?_
    clear h
    intro kz M h
    refine h.dW (A := B) Ru [r] rfl hlen.symm rfl (by simp; omega) ?_
    clear h; intro A3 c3 M h
    refine aO ?_
    refine au h ?_
    clear h
    intro M h
    exact ⟨rfl, A3, c3, _, oR.snoc hr, h.sub bu⟩
   ·refine Dq h ?_
    clear h; intro vs M h hr
    obtain ⟨r, rfl, hr⟩ := hr.rc
    refine ⟨_, _, _, _, _, _, _, _, _, _, _, rfl, aL h ?_⟩
    refine ae h ?_
    clear h
    intro kz M h
    refine h.dW (A := B) Ru [r] rfl hlen.symm rfl (by simp; omega) ?_
    clear h; intro A3 c3 M h
    refine aO ?_
    refine au h ?_
    clear h
    intro M h
    exact ⟨rfl, A3, c3, _, oR.snoc hr, h.sub bu⟩
  ·clear h
   rintro nn M ⟨_, B', d', Uw, Zi, h⟩
   exact ⟨p.dS.length - (j + 1), by omega, j + 1, B', d', Uw, by rw [aQ (by omega)], rfl, by omega, Zi, h⟩
 ·have De : j = p.dS.length := by omega
  subst De
  rw [List.take_of_length_le (Nat.le_refl _)] at oR
  obtain ⟨R3, l3, r3, h3⟩ := h.dO B
  clear h
  obtain ⟨n, hn⟩ := Int.eq_ofNat_of_zero_le p2.1
  refine aF h3 ?_
  rw [hn] at h3 ⊢
  refine h3.Eg (E := zx) (a := (none, 0, 0)) Zh (by omega) ?_
  clear h3; intro q M h
  refine aO ?_
  refine au h ?_
  clear h
  intro M h
  obtain ⟨R4, l4, r4, h4⟩ := h.dO (some ⟨q, 0, none⟩)
  clear h
  refine Dc h4 rfl ?_
  refine yC h4 rfl rfl rfl ?_
  clear h4; intro M h
  refine Dc h rfl ?_
  have Zj := Mem.le_trans l3 l4
  have Yf := Mem.le_trans l2 Zj
  have ZV := Mem.le_trans l1 Yf
  have hw : ZU R4 ⟨pa, some ⟨g7, 0, none⟩, 1, B, d, some ⟨q, 0, none⟩, n, none, 0, none, 0, none, 0⟩ p (Wd.new p) := by
   refine ⟨hp.le ZV, hc.le ZV, ⟨_, r2.le Zj, ⟨rfl, fun i r a h1 h2 => ?_⟩⟩, ⟨rs, r3.le l4, oR.le Zj⟩, ⟨_, r4, ⟨by simp [Wd.new, hn], fun i r a h1 h2 => ?_⟩⟩, RS.nil _ _, RS.nil _ _, RS.nil _ _⟩
   ·match i, h1, h2 with
    | 0, h1, h2 =>
     cases h1
     have : a = ⟨1, [gH.begin 0 0], .zero⟩ := by simpa [Wd.new] using h2.symm
     subst this
     exact ⟨rfl, rfl, r1.le Yf, rfl⟩
    | i + 1, h1, h2 => simp at h1
   ·have e1 := List.eq_of_mem_replicate (List.mem_of_getElem? h1)
    have e2 := List.eq_of_mem_replicate (List.mem_of_getElem? h2)
    subst e1; subst e2
    exact ⟨rfl, RS.nil _ _⟩
  have hk := fun M' => k R4 _ M' ZV rfl hw
  have e1 : (Wd.new p).aB.length = p.dS.length := by simp [Wd.new]
  have e2 : (Wd.new p).aI.length = n := by simp [Wd.new, hn]
  simp only [rwL, e1, e2, hn] at hk
  exact hk _ (h.sub bu)
end
structure RPr where
 next : Int
 A : Option Addr
 n : Nat
 c : Nat
 room : Int
 turns : Int
 gW : Int
def Rv : fO RPr := ⟨5, fun w => [.int .i64 w.next, .slice w.A w.n w.c, .int .i64 w.room, .int .i64 w.turns, .int .i64 w.gW], fun _ => rfl, fun w v hv => by
 simp only [List.mem_cons, List.not_mem_nil, or_false] at hv; obtain rfl | rfl | rfl | rfl | rfl := hv <;> rfl⟩
def Fi (R : Mem) (r : RPr) (y : dM) : Prop := r.next = y.q.next ∧ r.n = y.q.l.length ∧ RS aZ R r.A r.c y.q.l ∧ r.room = (y.q.room : Int) ∧ r.turns = y.turns ∧ r.gW = y.gW
theorem Fi.le (R R' : Mem) (r : RPr) (y : dM) (hle : R.le R') (h : Fi R r y) : Fi R' r y := ⟨h.1, h.2.1, h.2.2.1.le hle, h.2.2.2⟩
def gV.tR : gV → List Int
 | .zA l i => l.drop i
 | .tape _ _ => []
def gV.Rw : gV → List (Int × Int)
 | .zA _ _ => []
 | .tape l i => l.drop i
def gV.isT : gV → Bool
 | .zA _ _ => false
 | .tape _ _ => true
structure ZW where
 an : Option Addr
 cn : Nat
 at_ : Option Addr
 ct : Nat
 ax : Option Addr
 cx : Nat
structure RSA where
 w : RWA
 ap : Option Addr
 cp : Nat
 am : Option Addr
 cm : Nat
 ag : Option Addr
 cg : Nat
 d : ZW
abbrev rdL (a : ZW) (d : mj) : List Value := [.slice a.an d.k.tR.length a.cn, .slice a.at_ d.k.Rw.length a.ct, .bool d.k.isT, .bool false, .slice a.ax d.taken.length a.cx]
abbrev rsL (a : RSA) (p : cv) (x : Sc) : List Value :=
 [.int .i64 x.c.P, .int .i64 x.c.M, .int .i64 x.c.R, .int .i64 x.c.S, .slice a.w.pa.f p.funcs.length a.w.pa.fc, .slice a.w.pa.c p.dS.length a.w.pa.cc, .int .i64 p.aI, .slice a.w.pa.k p.cases.length a.w.pa.kc, .slice a.w.ag x.w.gs.length a.w.cg, .int .u64 x.w.clock, .slice a.w.ac x.w.aB.length a.w.cc, .slice a.w.al x.w.aI.length a.w.cl, .slice a.w.ah x.w.hl.length a.w.ch, .int .u64 x.w.lz, .slice a.w.ao x.w.out.length a.w.co, .int .i64 x.w.end_, .int .i64 x.w.code, .slice a.w.ar x.w.ready.length a.w.cr,
  .slice a.ap x.ps.length a.cp, .slice a.am x.ms.length a.cm, .slice a.ag x.gl.length a.cg, .slice a.d.an x.d.k.tR.length a.d.cn, .slice a.d.at_ x.d.k.Rw.length a.d.ct, .bool x.d.k.isT, .bool false, .slice a.d.ax x.d.taken.length a.d.cx, .int .i64 x.steps]
structure RDr (R : Mem) (a : ZW) (d : mj) : Prop where
 tR : RS Eh R a.an a.cn d.k.tR
 Rw : RS NG R a.at_ a.ct d.k.Rw
 taken : RS NG R a.ax a.cx d.taken
theorem RDr.le {R R' : Mem} {a : ZW} {d : mj} (h : RDr R a d) (hle : R.le R') : RDr R' a d := ⟨h.1.le hle, h.2.le hle, h.3.le hle⟩
structure ZX (R : Mem) (a : RSA) (p : cv) (x : Sc) : Prop where
 w : ZU R a.w p x.w
 ps : ∃ rs, RS Rv R a.ap a.cp rs ∧ Fh Fi R rs x.ps
 ms : RS fz R a.am a.cm x.ms
 gl : RS aZ R a.ag a.cg x.gl
 d : RDr R a.d x.d
theorem Rx : aY Tryz.prog 82 257 5 56 [.int .i64 0, .slice none 0 0, .int .i64 0, .int .i64 0, .int .i64 0] := aY.mk' (zv := .agg #[.int .i64 0, .slice none 0 0, .int .i64 0, .int .i64 0, .int .i64 0]) (by kernel_rfl) (by kernel_rfl) rfl (by omega)
theorem Zk : aY Tryz.prog 83 259 3 24 [.int .i64 0, .int .i64 0, .int .i64 0] := aY.mk' (zv := .agg #[.int .i64 0, .int .i64 0, .int .i64 0]) (by kernel_rfl) (by kernel_rfl) rfl (by omega)
abbrev cfgV (c : Lq) : Value := .agg #[.int .i64 c.P, .int .i64 c.M, .int .i64 c.R, .int .i64 c.S]
abbrev Ry (c : Lq) : List Value := [.int .i64 c.P, .int .i64 c.M, .int .i64 c.R, .int .i64 c.S]
section
variable {R : Mem} {L L' : List HP} {M : Mem} {K : Value → Mem → Prop} {Kp : List PanicEntry → Mem → Prop} {pa : PA} {p : cv}
abbrev Rz : List Value := [.int .i64 0, .int .i64 0, .int .i64 0, .int .i64 0, .slice none 0 0, .slice none 0 0, .int .i64 0, .slice none 0 0, .slice none 0 0, .int .u64 0, .slice none 0 0, .slice none 0 0, .slice none 0 0, .int .u64 0, .slice none 0 0, .int .i64 0, .int .i64 0, .slice none 0 0, .slice none 0 0, .slice none 0 0, .slice none 0 0, .slice none 0 0, .slice none 0 0, .bool false, .bool false, .slice none 0 0, .int .i64 0]
abbrev rs0 (a : RWA) (p : cv) (c : Lq) (d : ZW) (ds : mj) (g : Nat) (A : Option Addr) (n e : Nat) (B : Option Addr) (m f : Nat) : List Value :=
 [.int .i64 c.P, .int .i64 c.M, .int .i64 c.R, .int .i64 c.S, .slice a.pa.f p.funcs.length a.pa.fc, .slice a.pa.c p.dS.length a.pa.cc, .int .i64 p.aI, .slice a.pa.k p.cases.length a.pa.kc, .slice a.ag (Wd.new p).gs.length a.cg, .int .u64 (Wd.new p).clock, .slice a.ac (Wd.new p).aB.length a.cc, .slice a.al (Wd.new p).aI.length a.cl, .slice a.ah (Wd.new p).hl.length a.ch, .int .u64 (Wd.new p).lz, .slice a.ao (Wd.new p).out.length a.co, .int .i64 (Wd.new p).end_, .int .i64 (Wd.new p).code, .slice a.ar (Wd.new p).ready.length a.cr,
  .slice A n e, .slice B m f, .slice (some ⟨g, 0, none⟩) 1 1, .slice d.an ds.k.tR.length d.cn, .slice d.at_ ds.k.Rw.length d.ct, .bool ds.k.isT, .bool false, .slice d.ax ds.taken.length d.cx, .int .i64 0]
theorem N4 {c : Lq} {d : mj} {da : ZW} (h : Hp R L M) (hp : lB R pa p) (hc : RS aZ R pa.c pa.cc p.dS) (hok : gf p) (hd : RDr R da d) (hP : 0 ≤ c.P ∧ c.P ≤ 1000000) (hM : 0 ≤ c.M ∧ c.M ≤ 1000000)
  (k : ∀ R' a M', R.le R' → ZX R' a p (Sc.new p c d) → Hp R' L M' → K (.agg (rsL a p (Sc.new p c d)).toArray) M') :
  aa Tryz.prog 78 #[BV pa p, cfgV c, .agg (rdL da d).toArray] M K Kp := by
 refine tN ?_
 refine ae h ?_
 clear h
 intro k1 M h
 refine ae h ?_
 clear h
 intro k3 M h
 refine ae h ?_
 clear h
 intro k5 M h
 refine ae h ?_
 clear h
 intro k7 M h
 repeat (first|(refine Dc h rfl ?_)|(refine yC h rfl rfl rfl ?_;clear h;intro M h)|(refine And.intro (fZ h rfl) ?_)|(refine ae h ?_;clear h;intro kb M h)|(refine au h ?_;clear h;intro M h)|refine St.to h ?_|(apply Exists.intro;(repeat apply Exists.intro);refine And.intro rfl ?_)|refine av ?_|refine ai ?_|refine aj ?_)
 refine N3 h hp hc hok ?_
 clear h; intro R1 a M l1 hpa hw h
 refine ⟨_, _, _, _, _, _, _, _, _, _, _, _, _, _, rfl, fZ h rfl, fZ h rfl, ?_⟩
 refine ae h ?_
 clear h
 intro zi M h
 obtain ⟨R2, l2, rg, h2⟩ := ((h.pt zi).fQ (E := aZ) (l := [0]) rfl).dO (some ⟨zi, 0, none⟩)
 clear h
 refine ae h2 ?_
 clear h2; intro lU M h
 refine yC h rfl rfl rfl ?_
 clear h; intro M h
 refine ⟨fZ h rfl, fZ h rfl, ?_⟩
 obtain ⟨nP, eP⟩ := Int.eq_ofNat_of_zero_le hP.1
 obtain ⟨nM, eM⟩ := Int.eq_ofNat_of_zero_le hM.1
 have l12 := Mem.le_trans l1 l2
 have h0 : Hp R2 (bE Rv 257 none 0 [] :: pt lU (rs0 a p c da d zi none 0 0 none 0 0) 88 :: pt k3 (Ry c) 23 :: pt k7 Rz 88 :: L) M := by
  rw [← hpa] at h
  exact (h.bP Rv _).sub bu
 clear h
 have pr0 : ∀ (R : Mem), Fi R ⟨-1, none, 0, 0, (fx c.R : Nat), 0, -1⟩ ⟨⟨-1, fx c.R, []⟩, 0, -1⟩ := fun R => ⟨rfl, rfl, RS.nil _ _, rfl, rfl, rfl⟩
 refine ⟨fun dd vs M => ∃ (j : Nat) (A : Option Addr) (e : Nat) (rs : List RPr), vs = [.int .i64 (j : Int)] ∧ dd = nP - j ∧ j ≤ nP ∧ Fh Fi R2 rs (List.replicate j ⟨⟨-1, fx c.R, []⟩, 0, -1⟩) ∧
  Hp R2 (bE Rv 257 A e rs :: pt lU (rs0 a p c da d zi A j e none 0 0) 88 :: pt k3 (Ry c) 23 :: pt k7 Rz 88 :: L) M,
  ⟨_, 0, none, 0, [], rfl, rfl, by omega, Fh.nil _ _, h0⟩, ?_⟩
 clear h0
 rintro dd _ nn M ⟨j, A, e, rs, he, QJ, hj, oR, h⟩
 simp only [List.cons.injEq, Value.int.injEq, and_true, true_and] at he
 subst he
 have hlen : rs.length = j := by rw [oR.1, List.length_replicate]
 refine aF h (aJ.2 ⟨fun hlt => ?_, fun hge => ?_⟩)
 ·refine ⟨fun vs M => vs = [] ∧ ∃ (A : Option Addr) (e : Nat) (Uw : List RPr), Fh Fi R2 Uw (List.replicate (j + 1) ⟨⟨-1, fx c.R, []⟩, 0, -1⟩) ∧
   Hp R2 (bE Rv 257 A e Uw :: pt lU (rs0 a p c da d zi A (j + 1) e none 0 0) 88 :: pt k3 (Ry c) 23 :: pt k7 Rz 88 :: L) M, ?_, ?_⟩
  ·rw [List.replicate_succ']
   refine aF h ⟨?_, ?_, trivial⟩
   ·refine aL h ?_
    refine DC h ?_
    clear h; intro M h
    refine ⟨_, _, _, _, _, rfl, ?_⟩
    refine ae h ?_
    clear h
    intro kz M h
    refine h.dW (A := A) Rx [⟨-1, none, 0, 0, (fx c.R : Nat), 0, -1⟩] rfl hlen.symm rfl (by simp; omega) ?_
    clear h; intro A3 c3 M h
    refine aO ?_
    refine au h ?_
    clear h
    intro M h
    exact ⟨rfl, A3, c3, _, oR.snoc (pr0 _), h.sub bu⟩
   ·refine DC h ?_
    clear h; intro M h
    refine ⟨_, _, _, _, _, rfl, aL h ?_⟩
    refine ae h ?_
    clear h
    intro kz M h
    refine h.dW (A := A) Rx [⟨-1, none, 0, 0, (fx c.R : Nat), 0, -1⟩] rfl hlen.symm rfl (by simp; omega) ?_
    clear h; intro A3 c3 M h
    refine aO ?_
    refine au h ?_
    clear h
    intro M h
    exact ⟨rfl, A3, c3, _, oR.snoc (pr0 _), h.sub bu⟩
  ·clear h
   rintro nn M ⟨_, B', d', Uw, Zi, h⟩
   exact ⟨nP - (j + 1), by omega, j + 1, B', d', Uw, by rw [aQ (by omega)], rfl, by omega, Zi, h⟩
 ·have De : j = nP := by omega
  subst De
  obtain ⟨R3, l3, r3, h3⟩ := h.dO A
  clear h
  have h0 : Hp R3 (bE fz 259 none 0 [] :: pt lU (rs0 a p c da d zi A j e none 0 0) 88 :: pt k3 (Ry c) 23 :: pt k7 Rz 88 :: L) M := h3.bP fz _
  clear h3
  refine ⟨fun dd vs M => ∃ (i : Nat) (B : Option Addr) (f : Nat), vs = [.int .i64 (i : Int)] ∧ dd = nM - i ∧ i ≤ nM ∧
   Hp R3 (bE fz 259 B f (List.replicate i ⟨-1, -1, 0⟩) :: pt lU (rs0 a p c da d zi A j e B i f) 88 :: pt k3 (Ry c) 23 :: pt k7 Rz 88 :: L) M,
   ⟨_, 0, none, 0, rfl, rfl, by omega, h0⟩, ?_⟩
  clear h0
  rintro dd _ nn M ⟨i, B, f, he, hd3, hi, h⟩
  simp only [List.cons.injEq, Value.int.injEq, and_true, true_and] at he
  subst he
  refine aF h (aJ.2 ⟨fun hlt => ?_, fun TV => ?_⟩)
  ·refine aL h ?_
   refine ae h ?_
   clear h
   intro kz M h
   refine h.dW (A := B) Zk [⟨-1, -1, 0⟩] rfl (by simp) rfl (by simp; omega) ?_
   clear h; intro A3 c3 M h
   refine aO ?_
   refine au h ?_
   clear h
   intro M h
   refine ⟨nM - (i + 1), by omega, i + 1, A3, c3, by rw [aQ (by omega)], rfl, by omega, ?_⟩
   rw [List.replicate_succ']
   exact h.sub bu
  ·have ZM : i = nM := by omega
   subst ZM
   obtain ⟨R4, l4, r4, h4⟩ := h.dO B
   clear h
   refine Dc h4 rfl ?_
   refine yC h4 rfl rfl rfl ?_
   clear h4; intro M h
   refine Dc h rfl ?_
   have Zj := Mem.le_trans l3 l4
   have Yf := Mem.le_trans l2 Zj
   have ZV := Mem.le_trans l1 Yf
   have hs : ZX R4 ⟨a, A, e, B, f, some ⟨zi, 0, none⟩, 1, da⟩ p (Sc.new p c d) := by
    refine ⟨hw.le Yf, ⟨rs, r3.le l4, ?_⟩, ?_, rg.le Zj, hd.le ZV⟩
    ·have := oR.le Fi.le Zj
     unfold Sc.new
     rwa [eP, Int.toNat_natCast]
    ·unfold Sc.new
     rw [eM, Int.toNat_natCast]
     exact r4
   have hk := fun M' => k R4 _ M' ZV hs
   have e1 : (Sc.new p c d).ps.length = j := by simp [Sc.new, eP]
   have e2 : (Sc.new p c d).ms.length = i := by simp [Sc.new, eM]
   simp only [rsL, e1, e2] at hk
   exact hk _ (h.sub bu)
end
def BX (p : cv) (c : Lq) (l : List Int) : Sc := Sc.new (eU p) c ⟨.zA l 0, []⟩
section
variable {R : Mem} {L L' : List HP} {M : Mem} {K : Value → Mem → Prop} {Kp : List PanicEntry → Mem → Prop} {pa : PA} {p : cv}
theorem BY {c : Lq} {B : Option Addr} {m cb : Nat} {l : List Int} (h : Hp R L M) (ha : rL R pa p) (hP : 0 ≤ c.P ∧ c.P ≤ 1000000) (hM : 0 ≤ c.M ∧ c.M ≤ 1000000) (hB : RS Eh R B cb l) (hm : m = l.length) (hl : l.length ≤ 1000000000)
  (k : ∀ R' a D3 b wb db M', R.le R' → lB R' D3 (eU p) → ZX R' a (eU p) (BX p c l) → Hp R' (ay (c9 D3 (eU p) wb db) b (BX p c l) :: L) M' → K (.tuple #[.pointer (some ⟨b, 0, none⟩), .agg (rsL a (eU p) (BX p c l)).toArray, .pointer (some ⟨db, 0, none⟩)]) M') :
  aa Tryz.prog 32 #[BV pa p, cfgV c, .slice B m cb] M K Kp := by
 refine qR ?_
 subst hm
 have hok := D2 p
 refine ae h ?_
 clear h
 intro k1 M h
 refine ae h ?_
 clear h
 intro k3 M h
 refine ae h ?_
 clear h
 intro k5 M h
 refine aL h (aL h (aF h (aL h ?_)))
 refine Rs h ha ?_
 clear h; intro R1 p1 M l1 Ie YZ h
 refine ⟨_, _, _, _, _, _, _, _, _, _, rfl, ?_⟩
 refine ae h ?_
 clear h
 intro mo M h
 repeat (refine au h ?_; clear h; intro M h)
 refine CK (l := l) h (hB.le l1).src rfl hl ?_
 clear h; intro db M h
 refine jB (aL h (aL h (aF h (aL h (aF h (aF h (aF h (aF h (aL h (aL h (aF h (aL h (aF h (aF h (aF h (aF h ?_))))))))))))))))
 refine Uu h Ie YZ hok (by have := yn p; simp [eU]; omega) ?_
 clear h; intro R2 p2 M l2 RU KX h
 refine ⟨_, _, _, _, _, _, _, _, _, _, rfl, fZ h rfl, fZ h rfl, fZ h rfl, ?_⟩
 refine NQ (p := eU p) (pa := p2) (c := c) h KX (by have := hok.ch; omega) (by have := hok.lk; omega) hP hM ?_
 clear h; intro b wb M h
 refine jB ⟨fZ h rfl, fZ h rfl, fZ h rfl, ?_⟩
 refine N4 (c := c) (d := ⟨.zA l 0, []⟩) (da := ⟨B, cb, none, 0, none, 0⟩) h (Ie.le l2) (YZ.le l2) hok ⟨by simpa [gV.tR] using hB.le (Mem.le_trans l1 l2), RS.nil _ _, RS.nil _ _⟩ hP hM ?_
 clear h; intro R3 a M l3 hs h
 refine ⟨_, rfl, rfl, fZ h rfl, fZ h rfl, fZ h rfl, ?_⟩
 refine yC h rfl rfl rfl ?_
 clear h; intro M h
 refine ⟨fZ h rfl, fZ h rfl, fZ h rfl, ?_⟩
 refine Dc h rfl ?_
 exact k R3 a p2 b wb db M (Mem.le_trans l1 (Mem.le_trans l2 l3)) (RU.le l3) hs (h.sub bu)
end
end Go.Proofs
