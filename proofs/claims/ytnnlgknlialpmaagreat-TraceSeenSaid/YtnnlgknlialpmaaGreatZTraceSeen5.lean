/- A part of proofs about one program. -/
import Derived.Test.YtnnlgknlialpmaaGreatZTraceSeen4
set_option linter.unusedVariables false
namespace Go.Proofs
open Go.AF
set_option maxRecDepth 100000
set_option maxHeartbeats 1000000
attribute [local irreducible] aI c7 fm cy aB eN aE aM aX bk bJ aP
structure dU where
 q : Loc
 turns : Int
 ia : Int
structure Bm where
 p : Int
 g : Int
 left : Int
 deriving DecidableEq
structure Jm where
 P : Int
 M : Int
 R : Int
 S : Int
structure Sc where
 w : Wd
 c : Jm
 ps : List dU
 ms : List Bm
 gl : List Int
 d : jE
 steps : Int
structure Ev where
 kind : Int
 m : Int
 g : Int
 ready : List Int
def qy : hU (Nat × Int × Int) := ⟨3, fun w => [.pointer (some ⟨w.1, 0, none⟩), .int .i64 w.2.1, .int .i64 w.2.2], fun _ => rfl, fun w v hv => by
 simp only [List.mem_cons, List.not_mem_nil, or_false] at hv; obtain rfl | rfl | rfl := hv <;> rfl⟩
def ju : hU Bm := ⟨3, fun w => [.int .i64 w.p, .int .i64 w.g, .int .i64 w.left], fun _ => rfl, fun w v hv => by
 simp only [List.mem_cons, List.not_mem_nil, or_false] at hv; obtain rfl | rfl | rfl := hv <;> rfl⟩
def bV (bs : List Nat) (ps : List dU) : List (Nat × Int × Int) := List.zipWith (fun b (p : dU) => (b, p.turns, p.ia)) bs ps
def az (x : Sc) (m : Int) : Bm := x.ms.getD m.toNat ⟨-1, -1, 0⟩
def aJ (x : Sc) (i : Int) : dU := x.ps.getD i.toNat ⟨⟨-1, 0, []⟩, 0, -1⟩
def Sc.jo (x : Sc) (m : Int) (y : Bm) : Sc := { x with ms := x.ms.set m.toNat y }
def Sc.cY (x : Sc) (i : Int) (y : dU) : Sc := { x with ps := x.ps.set i.toNat y }
structure SA where
 ap : Option Addr
 cp : Nat
 lb : List Nat
 am : Option Addr
 cm : Nat
abbrev ck (A : Option Addr) (c : Nat) (l : List (Nat × Int × Int)) : HP := bE qy 141 A c l
abbrev cw (A : Option Addr) (c : Nat) (l : List Bm) : HP := bE ju 143 A c l
abbrev eL (wb db : Nat) (a : SA) (x : Sc) (A : Option Addr) (n c : Nat) : List Value :=
 [.pointer (some ⟨wb, 0, none⟩), .int .i64 x.c.P, .int .i64 x.c.M, .int .i64 x.c.R, .int .i64 x.c.S, .slice a.ap x.ps.length a.cp, .slice a.am x.ms.length a.cm, .slice A n c, .pointer (some ⟨db, 0, none⟩), .int .i64 x.steps]
abbrev dH (b wb db : Nat) (a : SA) (x : Sc) : Option Addr → Nat → Nat → HP := fun A n c => pt b (eL wb db a x A n c) 137
theorem Ai {b wb db : Nat} {a : SA} {x : Sc} : SQ b (0 + 7) (dH b wb db a x) :=
 ⟨fun R L M A n c h => bO h, fun R L M A A' n c n' c' G h k => au h k⟩
abbrev dY (a : SA) (x : Sc) (L : List HP) : List HP := ck a.ap a.cp (bV a.lb x.ps) :: bn bP a.lb (x.ps.map dU.q) :: cw a.am a.cm x.ms :: L
def dZ (pa : PA) (p : bZ) (wb db : Nat) : tj Sc := ⟨fun b x => exs fun a : SA =>
 sep (fX (dH b wb db a x) x.gl :: ay (bu pa p) wb x.w :: ay cQ db x.d :: fact (a.lb.length = x.ps.length) :: dY a x [])⟩
class w8 (b : Nat) (L : List HP) (pa : outParam PA) (p : outParam bZ) (wb db : outParam Nat) (x : outParam Sc) (L' : outParam (List HP)) : Prop where
 pick : dc L (ay (dZ pa p wb db) b x) L'
instance w8.here {pa : PA} {p : bZ} {wb db b : Nat} {x : Sc} {L : List HP} : w8 b (ay (dZ pa p wb db) b x :: L) pa p wb db x L := ⟨.here⟩
instance (priority := low) w8.there {pa : PA} {p : bZ} {wb db b : Nat} {x : Sc} {Q : HP} {L L' : List HP} [h : w8 b L pa p wb db x L'] : w8 b (Q :: L) pa p wb db x (Q :: L') := ⟨.there h.pick⟩
section
variable {R : Mem} {L L' L2 : List HP} {M : Mem} {K : Value → Mem → Prop} {Kp : List PanicEntry → Mem → Prop} {pa : PA} {p : bZ} {b wb db : Nat} {x : Sc} {m i : Int}
theorem gh (h : Hp R L M) [o : w8 b L pa p wb db x L'] : ∃ a : SA, a.lb.length = x.ps.length ∧ Hp R (fX (dH b wb db a x) x.gl :: ay (bu pa p) wb x.w :: ay cQ db x.d :: dY a x L') M := by
 have := h.pick o.pick
 unfold ay at this
 simp only [dZ, dY, Hp.de, Hp.aS, List.cons_append, List.nil_append] at this
 obtain ⟨a, h⟩ := this
 refine ⟨a, ?_⟩
 have h2 := h.pick (P := fact (a.lb.length = x.ps.length)) (.there (.there (.there .here)))
 obtain ⟨e, h3⟩ := Hp.fZ.1 h2
 exact ⟨e, h3⟩
theorem jj {a : SA} (hl : a.lb.length = x.ps.length) (h : Hp R (fX (dH b wb db a x) x.gl :: ay (bu pa p) wb x.w :: ay cQ db x.d :: dY a x L) M) : Hp R (ay (dZ pa p wb db) b x :: L) M := by
 refine Hp.wg ?_
 simp only [dZ, dY, Hp.de, Hp.aS, List.cons_append, List.nil_append]
 refine ⟨a, ?_⟩
 have h2 : Hp R (fact (a.lb.length = x.ps.length) :: fX (dH b wb db a x) x.gl :: ay (bu pa p) wb x.w :: ay cQ db x.d :: dY a x L) M := Hp.fZ.2 ⟨hl, h⟩
 exact h2.nH (.there (.there (.there .here)))
theorem rj {a : SA} (h : Hp R (fX (dH b wb db a x) x.gl :: L) M) : ∃ A c, Hp R (pt b (eL wb db a x A x.gl.length c) 137 :: lU A c x.gl :: L) M := jI (P := dH b wb db a x) h
theorem yQ {a : SA} {A : Option Addr} {c n : Nat} {l : List Int} (h : Hp R (pt b (eL wb db a x A n c) 137 :: lU A c l :: L) M) (e : n = l.length := by first | rfl | simp) : Hp R (fX (dH b wb db a x) l :: L) M := I7 (P := dH b wb db a x) h e
theorem RI {bs : List Nat} {ps : List dU} {i lb : Nat} {pr : dU} (h1 : bs[i]? = some lb) (h2 : ps[i]? = some pr) : (bV bs ps)[i]? = some (lb, pr.turns, pr.ia) := GO h1 h2
theorem Aj {bs : List Nat} {ps : List dU} {i lb : Nat} {pr : dU} (h1 : bs[i]? = some lb) : (bV bs ps).set i (lb, pr.turns, pr.ia) = bV bs (ps.set i pr) := nT (f := fun b (p : dU) => (b, p.turns, p.ia)) h1
theorem lJ {bs : List Nat} {ps : List dU} (h : bs.length = ps.length) : (bV bs ps).length = ps.length := by simp [bV, h]
theorem xV (h : Hp R L M) [o : w8 b L pa p wb db x L'] (k : K (.int .i64 x.steps) M) : aa Tryz.prog 35 #[.pointer (some ⟨b, 0, none⟩)] M K Kp := by
 refine qg ?_
 obtain ⟨a, hl, h⟩ := gh h (b := b)
 obtain ⟨A, c, h⟩ := rj h
 exact aG h k
def Sc.status (x : Sc) : Int := if x.w.end_ = 1 then 1 else if x.w.end_ = 2 then 2 else if x.w.stuck then 3 else 0
theorem vB (h : Hp R L M) [o : w8 b L pa p wb db x L'] (hs : x.w.gs.length ≤ 1000000) (k : K (.int .i64 x.status) M) : aa Tryz.prog 22 #[.pointer (some ⟨b, 0, none⟩)] M K Kp := by
 refine oU ?_
 have h' := gh h (b := b)
 clear h
 obtain ⟨a, hl, h⟩ := h'
 have h' := rj h
 clear h
 obtain ⟨A, c, h⟩ := h'
 unfold Sc.status at k
 refine ou h ?_
 refine wZ h ?_
 refine ⟨_, _, rfl, ?_⟩
 refine aY.2 ⟨fun e => ?_, fun e => ?_⟩
 ·rw [if_pos e] at k; exact k
 rw [if_neg e] at k
 refine aY.2 ⟨fun e => ?_, fun e => ?_⟩
 ·rw [if_pos e] at k; exact k
 rw [if_neg e] at k
 refine ou h ?_
 refine FG h hs ?_
 refine ov ?_
 cases hst : x.w.stuck with
 | true => rw [hst] at k; exact ai k
 | false => rw [hst] at k; exact ae k
def Sc.tick (x : Sc) : Sc × Ev := ({ x with w := x.w.tick, gl := x.gl ++ x.w.tick.ready }, ⟨1, -1, -1, x.w.tick.ready⟩)
def Ly (e : Ev) (A : Option Addr) (c : Nat) : Value := .agg #[.int .i64 e.kind, .int .i64 e.m, .int .i64 e.g, .slice A e.ready.length c]
theorem qz {k1 T n : Nat} {v1 v2 v3 v4 : Value} {e1 e2 e3 : Int} {A : Option Addr} {c : Nat} {G : Mem → Prop} (h : Hp R L M) [q : jY k1 L [v1, v2, v3, v4] T L']
  (k : ∀ M', Hp R (pt k1 [.int .i64 e1, .int .i64 e2, .int .i64 e3, .slice A n c] T :: L') M' → G M') :
  aM M ⟨k1, 0, none⟩ (.int .i64 e1) fun M1 => aM M1 ⟨k1, (0 + 1), none⟩ (.int .i64 e2) fun M2 => aM M2 ⟨k1, (0 + 2), none⟩ (.int .i64 e3) fun M3 => aM M3 ⟨k1, (0 + 3), none⟩ (.slice A n c) G := by
 have h := h.pick q.pick
 refine au h ?_
 clear h; intro M h
 refine au h ?_
 clear h; intro M h
 refine au h ?_
 clear h; intro M h
 refine au h ?_
 clear h; intro M h
 exact k _ h
theorem qA {k1 T n : Nat} {e1 e2 e3 : Int} {A : Option Addr} {c : Nat} {G : Int → Int → Int → Option Addr → Nat → Nat → Prop} (h : Hp R L M) [q : jY k1 L [.int .i64 e1, .int .i64 e2, .int .i64 e3, .slice A n c] T L'] (g : G e1 e2 e3 A n c) :
  aI (Mem.ld M ⟨k1, 0, none⟩) .i64 fun n1 => aI (Mem.ld M ⟨k1, (0 + 1), none⟩) .i64 fun n2 => aI (Mem.ld M ⟨k1, (0 + 2), none⟩) .i64 fun n3 => aB (Mem.ld M ⟨k1, (0 + 3), none⟩) fun A k l => G n1 n2 n3 A k l := by
 have h := h.pick q.pick
 exact aG h (aG h (aG h (aF h g)))
def Ak (x : Sc) : Prop := x.w.hl.length ≤ 1000000 ∧ (∀ y ∈ (dS x.w.hl.length x.w.hl (IntKind.wrap .u64 (x.w.clock + 1))).2, 0 ≤ y.id ∧ y.id < x.w.gs.length) ∧ x.gl.length + x.w.tick.ready.length ≤ 1000000
instance (x : Sc) : Decidable (Ak x) := by unfold Ak; infer_instance
theorem HX (h : Hp R L M) [o : w8 b L pa p wb db x L'] (hk : Ak x)
  (k : ∀ R' A c M', R.le R' → RS bl R' A c x.tick.2.ready → Hp R' (ay (dZ pa p wb db) b x.tick.1 :: L') M' → K (Ly x.tick.2 A c) M') : aa Tryz.prog 108 #[.pointer (some ⟨b, 0, none⟩)] M K Kp := by
 refine sr ?_
 refine aj h ?_
 clear h
 intro k1 M h
 have h' := gh h (b := b)
 clear h
 obtain ⟨a, hl, h⟩ := h'
 have h' := rj h
 clear h
 obtain ⟨A, c, h⟩ := h'
 refine ou h ?_
 refine HO h hk.1 hk.2.1 ?_
 clear h; intro R2 Ar cr M hle qY h
 refine aQ ?_
 replace h : Hp R2 (pt b (eL wb db a x A x.gl.length c) 137 :: lU A c x.gl :: ay (bu pa p) wb x.w.tick :: ay cQ db x.d :: ck a.ap a.cp (bV a.lb x.ps) :: bn bP a.lb (x.ps.map dU.q) :: cw a.am a.cm x.ms :: pt k1 [.int .i64 0, .int .i64 0, .int .i64 0, .slice none 0 0] 43 :: L') M := h.sub br
 replace h := yQ h
 refine oc (P := dH b wb db a x) Ai h (qY.src) rfl (by have := hk.2.2; omega) ?_
 clear h; intro M h
 refine ⟨rfl, ?_⟩
 refine qz h ?_
 clear h; intro M h
 refine qA h ?_
 exact k R2 Ar cr _ hle qY (jj (a := a) (x := x.tick.1) hl (h.sub br))
end
def w9 (q : Loc) : Bool := q.next != -1 || !q.l.isEmpty
def sN (q : Loc) (turns : Int) (gl : List Int) : Loc × List Int × Int × Bool :=
 let a := q.gR gl
 if Int.tmod turns 7 = 6 ∧ 0 < a.2.1.length then (a.1, a.2.1.drop 1, a.2.1.headD 0, true)
 else if w9 a.1 then (a.1.get.1, a.2.1, a.1.get.2, true)
 else ((a.1.get.1.fx a.2.1 0).1, (a.1.get.1.fx a.2.1 0).2.1, (a.1.get.1.fx a.2.1 0).2.2, !a.2.1.isEmpty)
def jT (f : Loc) (v : Int) : Bool := v != -1 || !f.l.isEmpty
theorem OM {q : Loc} {gl : List Int} : (q.gR gl).2.1.length ≤ gl.length + q.l.length + 1 := by
 unfold Loc.gR
 split
 ·simp; omega
 ·unfold Loc.put
  split
  ·simp; omega
  ·simp; omega
section
variable {R : Mem} {L L' L2 : List HP} {M : Mem} {K : Value → Mem → Prop} {Kp : List PanicEntry → Mem → Prop} {pa : PA} {p : bZ} {b wb db : Nat} {x : Sc} {m i : Int}
def Sc.hold (x : Sc) (m : Int) : Sc × Ev := match x.ps.findIdx? (fun pr => pr.ia == -1) with
 | some i => (((x.cY (i : Int) { aJ x (i : Int) with ia := m }).jo m { az x m with p := (i : Int) }), ⟨2, m, -1, []⟩)
 | none => (x, ⟨3, m, -1, []⟩)
theorem Al {a : SA} {y : dU} : dH b wb db a (x.cY i y) = dH b wb db a x := by
 unfold dH eL Sc.cY; simp
theorem Am {a : SA} {y : Bm} : dH b wb db a (x.jo i y) = dH b wb db a x := by
 unfold dH eL Sc.jo; simp
theorem qB {a : SA} (hl : a.lb.length = x.ps.length) (h0 : 0 ≤ i) (h1 : i < x.ps.length) : ∃ lb, a.lb[i.toNat]? = some lb ∧ x.ps[i.toNat]? = some (aJ x i) ∧ (bV a.lb x.ps)[i.toNat]? = some (lb, (aJ x i).turns, (aJ x i).ia) := by
 obtain ⟨lb, hlb⟩ := aU (l := a.lb) (i := i.toNat) (by omega)
 obtain ⟨y, hy⟩ := aU (l := x.ps) (i := i.toNat) (by omega)
 have e : aJ x i = y := by simp [aJ, hy]
 rw [e]
 exact ⟨lb, hlb, hy, RI hlb hy⟩
theorem qC (h0 : 0 ≤ m) (h1 : m < x.ms.length) : x.ms[m.toNat]? = some (az x m) := by
 obtain ⟨y, hy⟩ := aU (l := x.ms) (i := m.toNat) (by omega)
 have e : az x m = y := by simp [az, hy]
 rw [e]; exact hy
theorem xd {ps : List dU} {j : Nat} {pr y : dU} (h : ps[j]? = some pr) (e : y.q = pr.q) : (ps.set j y).map dU.q = ps.map dU.q := by
 obtain ⟨hj, rfl⟩ := List.getElem?_eq_some_iff.1 h
 rw [List.map_set, e]
 have h2 : (ps.map dU.q)[j]'(by simpa using hj) = ps[j].q := by simp
 rw [← h2]
 exact List.set_getElem_self _
theorem xe {a : SA} {A : Option Addr} {c : Nat} {cs : List Value} {l : List Int} {pw : List (Nat × Int × Int)} {qs : List Loc} {ms : List Bm} {L0 L1 L2 L3 L4 L5 L6 : List HP} (h : Hp R L M) (b : Nat)
  [p0 : jY b L cs 137 L0] [p1 : cK A L0 Int bl 3 c l L1] [p2 : KL wb L1 pa p x.w L2] [p3 : cq cQ db L2 x.d L3] [p4 : cK a.ap L3 (Nat × Int × Int) qy 141 a.cp pw L4]
  [p5 : fS bP L4 a.lb qs L5] [p6 : cK a.am L5 Bm ju 143 a.cm ms L6] (hc : cs = eL wb db a x A x.gl.length c) (hg : l = x.gl) (hl : a.lb.length = x.ps.length) (hp : pw = bV a.lb x.ps) (hq : x.ps.map dU.q = qs) (hm : ms = x.ms) : Hp R (ay (dZ pa p wb db) b x :: L6) M := by
 subst hc; subst hg; subst hp; subst hq; subst hm
 have h2 : Hp R (pt b (eL wb db a x A x.gl.length c) 137 :: lU A c x.gl :: ay (bu pa p) wb x.w :: ay cQ db x.d :: dY a x L6) M :=
  h.sub (.cons p0.pick (.cons p1.pick (.cons p2.pick (.cons p3.pick (.cons p4.pick (.cons p5.pick (.cons p6.pick .refl)))))))
 exact jj (a := a) hl (yQ h2)
theorem HY (h : Hp R L M) [o : w8 b L pa p wb db x L'] (h0 : 0 ≤ m) (h1 : m < x.ms.length) (hs : x.ps.length ≤ 1000000)
  (k : ∀ M', Hp R (ay (dZ pa p wb db) b (x.hold m).1 :: L') M' → K (Ly (x.hold m).2 none 0) M') : aa Tryz.prog 109 #[.pointer (some ⟨b, 0, none⟩), .int .i64 m] M K Kp := by
 refine su ?_
 refine aj h ?_
 clear h
 intro k1 M h
 have h' := gh h (b := b)
 clear h
 obtain ⟨a, hl, h⟩ := h'
 have h' := rj h
 clear h
 obtain ⟨A, c, h⟩ := h'
 refine aF h ?_
 unfold Sc.hold at k
 have hprl := lJ hl
 refine ⟨fun d vs M => ∃ j : Nat, vs = [.int .i64 (j : Int)] ∧ d = x.ps.length - j ∧ j ≤ x.ps.length ∧ (∀ q pr, q < j → x.ps[q]? = some pr → pr.ia ≠ -1) ∧
   Hp R (pt b (eL wb db a x A x.gl.length c) 137 :: lU A c x.gl :: pt k1 [.int .i64 0, .int .i64 0, .int .i64 0, .slice none 0 0] 43 :: ay (bu pa p) wb x.w :: ay cQ db x.d :: dY a x L') M,
  ⟨_, 0, rfl, rfl, by omega, fun q pr hq => by omega, h.sub br⟩, ?_⟩
 clear h
 rintro d _ nn M ⟨j, he, hd, hj, hp, h⟩
 simp only [List.cons.injEq, Value.int.injEq, and_true, true_and] at he
 subst he
 refine aN.2 ⟨fun hlt => ?_, fun hge => ?_⟩
 ·obtain ⟨lb, hlb, nt, hrow⟩ := qB (i := (j : Int)) hl (by omega) hlt
  simp only [Int.toNat_natCast] at hlb nt hrow
  obtain ⟨q, hq⟩ := h.bM (A := a.ap) (l := bV a.lb x.ps) (by omega) (by decide)
  have Xd := h.src (A := a.ap)
  rw [hq] at Xd
  refine aF h ⟨by omega, hlt, ?_⟩
  rw [hq]
  refine bg ?_
  refine be (Src.at Xd h (i := j) (j := 2) hrow rfl (by show _ = 0 + (j * 3 + 2); simp)) ?_
  refine aY.2 ⟨fun e => ?_, fun e => ?_⟩
  ·have XW : x.ps.findIdx? (fun pr => pr.ia == -1) = some j := by
    refine List.findIdx?_eq_some_iff_getElem.2 ⟨by omega, ?_, fun q hq => ?_⟩
    ·have := (List.getElem?_eq_some_iff.1 nt).2
     rw [this]; simpa using e
    ·have := hp q _ hq (List.getElem?_eq_getElem (by omega))
     simpa using this
   rw [XW] at k
   dsimp only at k
   clear Xd
   obtain ⟨q2, oX⟩ := h.bM (A := a.am) (l := x.ms) (by omega) (by decide)
   have ea := bO h (b := b) (o := 0 + 5) (v := .slice a.ap x.ps.length a.cp)
   rw [hq] at ea
   refine (show ∀ {G}, G (some ⟨q, 0, none⟩) x.ps.length a.cp → aB (M.ld ⟨b, 0 + 5, none⟩) G from fun g => by rw [ea]; exact aQ g) ?_
   refine aF h ⟨by omega, hlt, bg ?_⟩
   have hap : a.ap = some ⟨q, 0, none⟩ := hq
   have Jn : a.am = some ⟨q2, 0, none⟩ := oX
   obtain ⟨ap, cp, vM, am, cm⟩ := a
   dsimp only at hap Jn hrow hlb hl hprl h
   subst hap; subst Jn
   refine iR (E := qy) (a' := (lb, (aJ x (j : Int)).turns, m)) j 2 h hrow (by decide) rfl (by show _ = j * 3 + 2; simp) ?_
   clear h; intro M h
   refine ⟨h0, h1, bg ?_⟩
   refine iR (E := ju) (a' := { az x m with p := (j : Int) }) m.toNat 0 h (qC h0 h1) (by decide) rfl (by show _ = m.toNat * 3 + 0; simp) ?_
   clear h; intro M h
   refine qz h ?_
   clear h; intro M h
   refine qA h ?_
   rw [Aj (pr := { aJ x (j : Int) with ia := m }) hlb] at h
   have e3 := xd (y := { aJ x (j : Int) with ia := m }) nt rfl
   exact k _ (Hp.b7 (xe (A := A) (c := c) (a := ⟨some ⟨q, 0, none⟩, cp, vM, some ⟨q2, 0, none⟩, cm⟩) (x := (x.cY (j : Int) { aJ x (j : Int) with ia := m }).jo m { az x m with p := (j : Int) }) h b (by simp [Sc.cY, Sc.jo, eL]) (by rfl) (by simpa [Sc.cY, Sc.jo] using hl) (by rfl) (by exact e3) (by rfl)))
  ·refine ⟨x.ps.length - (j + 1), by omega, j + 1, by rw [aW (by omega)], rfl, by omega, fun q' S8 hq' Wg => ?_, h⟩
   rcases Nat.lt_or_ge q' j with h8 | h8
   ·exact hp q' S8 h8 Wg
   ·have : q' = j := by omega
    subst this
    rw [nt] at Wg; cases Wg; exact e
 ·have XW : x.ps.findIdx? (fun pr => pr.ia == -1) = none := by
   refine List.findIdx?_eq_none_iff.2 fun pr nt => ?_
   obtain ⟨q, hq, e⟩ := List.getElem_of_mem nt
   have := hp q pr (by omega) (by rw [← e]; exact List.getElem?_eq_getElem hq)
   simpa using this
  rw [XW] at k
  dsimp only at k
  refine qz h ?_
  clear h; intro M h
  refine qA h ?_
  refine k _ (jj (a := a) hl ?_)
  have h2 := yQ (h.sub (show Sub _ (pt b (eL wb db a x A x.gl.length c) 137 :: lU A c x.gl :: ay (bu pa p) wb x.w :: ay cQ db x.d :: dY a x L') from br))
  exact h2
theorem An {bs : List Nat} {ps : List dU} {j : Nat} {pr y : dU} (h : ps[j]? = some pr) (e1 : y.turns = pr.turns) (e2 : y.ia = pr.ia) : bV bs (ps.set j y) = bV bs ps := by
 obtain ⟨hj, rfl⟩ := List.getElem?_eq_some_iff.1 h
 unfold bV
 refine List.ext_getElem (by simp) fun n h1 h2 => ?_
 simp only [List.getElem_zipWith, List.getElem_set]
 split
 ·rename_i he
  subst he
  rw [e1, e2]
 ·rfl
def Sc.own (x : Sc) (i : Int) : Sc × Int × Bool :=
 let r := sN (aJ x i).q (aJ x i).turns x.gl
 ({ x.cY i { aJ x i with q := r.1 } with gl := r.2.1 }, r.2.2.1, r.2.2.2)
theorem K6 {q : Nat} {a : SA} (h : Hp R L M) [o : tU (dH b wb db a x) L x.gl L'] [o2 : cK (some ⟨q, 0, none⟩) L' (Nat × Int × Int) qy 141 a.cp (bV a.lb x.ps) L2] {L3 : List HP} [o3 : fS bP L2 a.lb (x.ps.map dU.q) L3]
  (hap : a.ap = some ⟨q, 0, none⟩) (hl : a.lb.length = x.ps.length) (h0 : 0 ≤ i) (h1 : i < x.ps.length) (hs : x.gl.length ≤ 1000000) (ht : 0 ≤ (aJ x i).turns)
  (k : ∀ M', Hp R (fX (dH b wb db a x) (x.own i).1.gl :: ck (some ⟨q, 0, none⟩) a.cp (bV a.lb x.ps) :: bn bP a.lb ((x.own i).1.ps.map dU.q) :: L3) M' → K (.tuple #[.int .i64 (x.own i).2.1, .bool (x.own i).2.2]) M') :
  aa Tryz.prog 150 #[.pointer (some ⟨b, 0, none⟩), .pointer (some ⟨q, i.toNat * 3, none⟩)] M K Kp := by
 refine tR ?_
 obtain ⟨lb, hlb, nt, hrow⟩ := qB (i := i) hl h0 h1
 have h2 : Hp R (fX (dH b wb db a x) x.gl :: ck (some ⟨q, 0, none⟩) a.cp (bV a.lb x.ps) :: bn bP a.lb (x.ps.map dU.q) :: L3) M := h.sub (.cons o.pick (.cons o2.pick (.cons o3.pick .refl)))
 clear h
 have h := h2
 clear h2
 have hq : (x.ps.map dU.q)[i.toNat]? = some (aJ x i).q := by rw [List.getElem?_map, nt]; rfl
 unfold Sc.own at k
 dsimp only at k
 have zL : ∀ q', (x.cY i { aJ x i with q := q' }).ps.map dU.q = (x.ps.map dU.q).set i.toNat q' := fun q' => by simp [Sc.cY, List.map_set]
 simp only [zL] at k
 unfold sN at k
 dsimp only at k
 refine mU (Src.at (Src.row (A := some ⟨q, 0, none⟩) : Src R _ _ (qy.cells (bV a.lb x.ps))) h (i := i.toNat) (j := 0) hrow rfl (by show _ = 0 + (i.toNat * 3 + 0); simp)) ?_
 replace h := h.dg bP hlb hq
 replace h : Hp R (ay bP lb (aJ x i).q :: fX (dH b wb db a x) x.gl :: mb bP a.lb (x.ps.map dU.q) i.toNat :: ck (some ⟨q, 0, none⟩) a.cp (bV a.lb x.ps) :: L3) M := h.sub br
 have hbd := wX h (b := lb)
 refine HE (P := dH b wb db a x) Ai h (by omega) ?_
 clear h; intro M h
 have htl := OM (q := (aJ x i).q) (gl := x.gl)
 refine c6 ?_
 generalize htr : (aJ x i).q.gR x.gl = r at h k htl
 obtain ⟨q1, g1, n1⟩ := r
 dsimp only at h k htl
 have KO : g1.length ≤ 100000000 := by obtain ⟨a1, a2, a3⟩ := hbd; omega
 refine be (Src.at (h.src (A := some ⟨q, 0, none⟩)) h (i := i.toNat) (j := 1) hrow rfl (by show _ = 0 + (i.toNat * 3 + 1); omega)) ?_
 refine ⟨by decide, ?_⟩
 have rest : ∀ {M : Mem}, (Hp R (ay bP lb q1 :: fX (dH b wb db a x) g1 :: mb bP a.lb (x.ps.map dU.q) i.toNat :: ck (some ⟨q, 0, none⟩) a.cp (bV a.lb x.ps) :: L3) M) → ¬ (Int.tmod (aJ x i).turns 7 = 6 ∧ 0 < g1.length) →
   cy (Mem.ld M ⟨q, i.toNat * 3, none⟩) fun qQ =>
    aa Tryz.prog 149 #[(.pointer qQ)] M (fun C3 fL =>
    ∃ jH : Int, ∃ t18 : Bool, (C3 = (.tuple #[(.int .i64 jH), (.bool t18)])) ∧
    aP t18
     (K (.tuple #[(.int .i64 jH), (.bool true)]) fL)
     (cy (Mem.ld fL ⟨q, i.toNat * 3, none⟩) fun yM =>
     aa Tryz.prog 180 #[(.pointer yM), (.pointer (some ⟨b, (0 + 7), none⟩)), (.int .i64 0)] fL (fun v20 kj =>
     ∃ rq : Int, ∃ t23 : Bool, (v20 = (.tuple #[(.int .i64 rq), (.bool t23)])) ∧
     K (.tuple #[(.int .i64 rq), (.bool t23)]) kj) Kp)) Kp := by
  intro M h hno
  rw [if_neg hno] at k
  refine mU (Src.at (h.src (A := some ⟨q, 0, none⟩)) h (i := i.toNat) (j := 0) hrow rfl (by show _ = 0 + (i.toNat * 3 + 0); simp)) ?_
  refine Cf h (b := lb) ?_
  clear h; intro t M ht1 ht2 h
  refine ⟨_, _, rfl, ?_⟩
  by_cases hh : w9 q1 = true
  ·rw [if_pos hh] at k
   have : t = true := ht2 (by unfold w9 at hh; simpa using hh)
   subst this
   refine ai ?_
   replace h := h.dW bP lb hlb (by rw [List.length_map]; omega)
   exact k _ (h.sub br)
  ·rw [if_neg hh] at k
   have hn : q1.next = -1 ∧ q1.l = [] := by
    unfold w9 at hh
    rw [Bool.or_eq_true] at hh
    constructor
    ·exact Decidable.byContradiction fun e => hh (.inl (by simpa using e))
    ·cases ZW : q1.l with
     | nil => rfl
     | cons _ _ => exact absurd (.inr (by rw [ZW]; rfl)) hh
   have hg : q1.get.2 = -1 := by unfold Loc.get; rw [if_neg (by simpa using hn.1), hn.2]
   have : t = false := ht1 hg hn.1 hn.2
   subst this
   refine ae ?_
   refine mU (Src.at (h.src (A := some ⟨q, 0, none⟩)) h (i := i.toNat) (j := 0) hrow rfl (by show _ = 0 + (i.toNat * 3 + 0); simp)) ?_
   replace h : Hp R (ay bP lb q1.get.1 :: fX (dH b wb db a x) g1 :: mb bP a.lb (x.ps.map dU.q) i.toNat :: ck (some ⟨q, 0, none⟩) a.cp (bV a.lb x.ps) :: L3) M := h.sub br
   refine Fo (P := dH b wb db a x) Ai h KO (by decide) ?_
   clear h; intro t2 M ht3 ht4 h
   refine ⟨_, _, rfl, ?_⟩
   have ht5 : t2 = !g1.isEmpty := by
    cases g1 with
    | nil => exact ht3 (by unfold Loc.fx; simp) rfl
    | cons _ _ => exact ht4 (by simp)
   subst ht5
   replace h := h.dW bP lb hlb (by rw [List.length_map]; omega)
   exact k _ (h.sub br)
 refine aY.2 ⟨fun e6 => ?_, fun e6 => ?_⟩
 ·replace h : Hp R (fX (dH b wb db a x) g1 :: ay bP lb q1 :: mb bP a.lb (x.ps.map dU.q) i.toNat :: ck (some ⟨q, 0, none⟩) a.cp (bV a.lb x.ps) :: L3) M := h.sub br
  refine qp (P := dH b wb db a x) (n := 1) Ai h (by omega) ?_
  clear h; intro A2 c2 M h
  refine aQ ?_
  have e1 : (1 : Int).toNat = 1 := rfl
  rw [e1] at h ⊢
  by_cases hg : 0 < g1.length
  ·rw [if_pos ⟨e6, hg⟩] at k
   have hlen : (g1.take 1).length = 1 := by rw [List.length_take]; omega
   rw [hlen]
   refine ai ⟨by omega, by omega, ?_⟩
   obtain ⟨q9, rfl⟩ := h.bM (A := A2) (by omega) (by decide)
   refine bg ?_
   obtain ⟨v, hv⟩ := aU (l := g1) (i := 0) hg
   have PS : (g1.take 1)[0]? = some v := by rw [List.getElem?_take, if_pos (by omega)]; exact hv
   refine be (Src.at (h.src (A := some ⟨q9, 0, none⟩)) h (i := 0) (j := 0) PS rfl rfl) ?_
   have hvd : g1.headD 0 = v := by
    cases g1 with
    | nil => simp at hg
    | cons w _ => simp at hv; simpa using hv
   rw [hvd] at k
   replace h : Hp R (ay bP lb q1 :: mb bP a.lb (x.ps.map dU.q) i.toNat :: fX (dH b wb db a x) (g1.drop 1) :: ck (some ⟨q, 0, none⟩) a.cp (bV a.lb x.ps) :: L3) M := h.sub br
   replace h := h.dW bP lb hlb (by rw [List.length_map]; omega)
   exact k _ (h.sub br)
  ·have Ra : g1 = [] := List.eq_nil_of_length_eq_zero (by omega)
   subst Ra
   refine ae ?_
   exact rest (h.sub br) (fun hc => by simp at hc)
 ·exact rest (h.sub br) (fun hc => e6 hc.1)
end
inductive iK where
 | ev (e : Ev)
 | dh (l : List PanicEntry)
def Sc.bL (x : Sc) (m i kind g : Int) (ok : Bool) : Sc × Ev :=
 if ok then ((x.cY i { aJ x i with turns := (aJ x i).turns + 1 }).jo m ⟨(az x m).p, g, x.c.S⟩, ⟨kind, m, g, []⟩)
 else ((x.cY i { aJ x i with ia := -1 }).jo m ⟨-1, -1, 0⟩, ⟨6, m, -1, []⟩)
def Sc.find (x : Sc) (m : Int) : Sc × iK :=
 let i := (az x m).p
 if 0 < (az x m).left ∧ (aJ x i).q.next ≠ -1 then
  ((x.cY i { aJ x i with q := (aJ x i).q.get.1 }).jo m { az x m with g := (aJ x i).q.get.2 }, .ev ⟨4, m, (aJ x i).q.get.2, []⟩)
 else
  let y := (x.own i).1
  if (x.own i).2.2 = false ∧ 1 < x.c.P then match y.d.draw 2 x.c.P with
   | (d', .dh l) => ({ y with d := d' }, .dh l)
   | (d', .num v) =>
    let y := { y with d := d' }
    if v = i then ((y.bL m i 5 (-1) false).1, .ev (y.bL m i 5 (-1) false).2)
    else
     let s := (aJ y i).q.dQ (aJ y v).q
     let z := (y.cY i { aJ y i with q := s.1 }).cY v { aJ y v with q := s.2.1 }
     ((z.bL m i 5 s.2.2 (jT (aJ y v).q s.2.2)).1, .ev (z.bL m i 5 s.2.2 (jT (aJ y v).q s.2.2)).2)
  else ((y.bL m i 4 (x.own i).2.1 (x.own i).2.2).1, .ev (y.bL m i 4 (x.own i).2.1 (x.own i).2.2).2)
section
variable {R : Mem} {L L' L2 : List HP} {M : Mem} {K : Value → Mem → Prop} {Kp : List PanicEntry → Mem → Prop} {pa : PA} {p : bZ} {b wb db : Nat} {x : Sc} {m i : Int}
theorem xg {lb : Nat} (k : K (.tuple #[.int .i64 (-1), .bool false]) M) : aa Tryz.prog 151 #[.pointer (some ⟨lb, 0, none⟩), .pointer (some ⟨lb, 0, none⟩)] M K Kp := by
 refine jN ?_
 exact ⟨fun _ => ai k, fun hne => absurd rfl hne⟩
theorem qD {y : dU} : (x.cY i y).ps.length = x.ps.length := by simp [Sc.cY]
theorem K7 {a : SA} {q q2 k1 : Nat} {kind g : Int} {t : Bool}
  (h : Hp R (fX (dH b wb db a x) x.gl :: ay (bu pa p) wb x.w :: ay cQ db x.d :: ck (some ⟨q, 0, none⟩) a.cp (bV a.lb x.ps) :: bn bP a.lb (x.ps.map dU.q) :: cw (some ⟨q2, 0, none⟩) a.cm x.ms :: pt k1 [.int .i64 0, .int .i64 0, .int .i64 0, .slice none 0 0] 43 :: L') M)
  (hap : a.ap = some ⟨q, 0, none⟩) (Jn : a.am = some ⟨q2, 0, none⟩) (hl : a.lb.length = x.ps.length) (m0 : 0 ≤ m) (m1 : m < x.ms.length) (i0 : 0 ≤ i) (i1 : i < x.ps.length) (ht : 0 ≤ (aJ x i).turns ∧ (aJ x i).turns < 1000000000)
  (k : ∀ M', Hp R (ay (dZ pa p wb db) b (x.bL m i kind g t).1 :: L') M' → K (Ly (x.bL m i kind g t).2 none 0) M') :
  aP (!t)
   (aB (Mem.ld M ⟨b, (0 + 6), none⟩) fun T4 GZ DU =>
   aM M ⟨q, ((i.toNat * 3) + 2), none⟩ (.int .i64 (-1)) fun EU =>
   ((0 : Int) ≤ m) ∧
   ((m : Int) < ((GZ : Nat) : Int)) ∧
   aE T4 fun IS DW =>
   aM EU ⟨IS, (DW + ((Int.toNat m) * 3)), none⟩ (.int .i64 (-1)) fun E0 =>
   aM E0 ⟨IS, ((DW + ((Int.toNat m) * 3)) + 1), none⟩ (.int .i64 (-1)) fun Ur =>
   aM Ur ⟨IS, ((DW + ((Int.toNat m) * 3)) + 2), none⟩ (.int .i64 0) fun EP =>
   aM EP ⟨k1, 0, none⟩ (.int .i64 6) fun SL =>
   aM SL ⟨k1, (0 + 1), none⟩ (.int .i64 m) fun mK =>
   aM mK ⟨k1, (0 + 2), none⟩ (.int .i64 (-1)) fun Yz =>
   aM Yz ⟨k1, (0 + 3), none⟩ (.slice none 0 0) fun Dg =>
   aI (Mem.ld Dg ⟨k1, 0, none⟩) .i64 fun Qe =>
   aI (Mem.ld Dg ⟨k1, (0 + 1), none⟩) .i64 fun Kd =>
   aI (Mem.ld Dg ⟨k1, (0 + 2), none⟩) .i64 fun Ke =>
   aB (Mem.ld Dg ⟨k1, (0 + 3), none⟩) fun YA Ks W6 =>
   K (.agg #[(.int .i64 Qe), (.int .i64 Kd), (.int .i64 Ke), (.slice YA Ks W6)]) Dg)
   (aI (Mem.ld M ⟨q, ((i.toNat * 3) + 1), none⟩) .i64 fun uG =>
   aM M ⟨q, ((i.toNat * 3) + 1), none⟩ (.int .i64 (IntKind.wrap .i64 (uG + 1))) fun gP =>
   aB (Mem.ld gP ⟨b, (0 + 6), none⟩) fun wP kH uV =>
   aB (Mem.ld gP ⟨b, (0 + 6), none⟩) fun zE uQ Bc =>
   aI (Mem.ld gP ⟨b, ((0 + 1) + 3), none⟩) .i64 fun De =>
   ((0 : Int) ≤ m) ∧
   ((m : Int) < ((kH : Nat) : Int)) ∧
   aE wP fun Dh E1 =>
   aM gP ⟨Dh, ((E1 + ((Int.toNat m) * 3)) + 1), none⟩ (.int .i64 g) fun nX =>
   ((0 : Int) ≤ m) ∧
   ((m : Int) < ((uQ : Nat) : Int)) ∧
   aE zE fun yu Di =>
   aM nX ⟨yu, ((Di + ((Int.toNat m) * 3)) + 2), none⟩ (.int .i64 De) fun tP =>
   aM tP ⟨k1, 0, none⟩ (.int .i64 kind) fun G4 =>
   aM G4 ⟨k1, (0 + 1), none⟩ (.int .i64 m) fun uU =>
   aM uU ⟨k1, (0 + 2), none⟩ (.int .i64 g) fun G2 =>
   aM G2 ⟨k1, (0 + 3), none⟩ (.slice none 0 0) fun nW =>
   aI (Mem.ld nW ⟨k1, 0, none⟩) .i64 fun Nx =>
   aI (Mem.ld nW ⟨k1, (0 + 1), none⟩) .i64 fun zD =>
   aI (Mem.ld nW ⟨k1, (0 + 2), none⟩) .i64 fun wO =>
   aB (Mem.ld nW ⟨k1, (0 + 3), none⟩) fun G5 Dj EW =>
   K (.agg #[(.int .i64 Nx), (.int .i64 zD), (.int .i64 wO), (.slice G5 Dj EW)]) nW) := by
 obtain ⟨lb, hlb, nt, hrow⟩ := qB (i := i) hl i0 i1
 have nu := qC m0 m1
 have m2 : m.toNat < x.ms.length := by omega
 obtain ⟨ap, cp, vM, am, cm⟩ := a
 dsimp only at hap Jn hl hlb hrow h
 subst hap; subst Jn
 obtain ⟨A, c, h2⟩ := rj h
 clear h
 have h := h2
 clear h2
 unfold Sc.bL at k
 cases t with
 | false =>
  simp only [Bool.false_eq_true, if_false] at k
  refine ai ?_
  refine aF h ?_
  refine iR (E := qy) (a' := (lb, (aJ x i).turns, -1)) i.toNat 2 h hrow (by decide) rfl rfl ?_
  clear h; intro M h
  refine ⟨m0, m1, bg ?_⟩
  refine iR (E := ju) (a' := ⟨-1, (az x m).g, (az x m).left⟩) m.toNat 0 h nu (by decide) rfl (by show _ = m.toNat * 3 + 0; omega) ?_
  clear h; intro M h
  refine iR (E := ju) (a := ⟨-1, (az x m).g, (az x m).left⟩) (a' := ⟨-1, -1, (az x m).left⟩) m.toNat 1 h (by simp [m2]) (by decide) rfl (by show _ = m.toNat * 3 + 1; omega) ?_
  clear h; intro M h
  refine iR (E := ju) (a := ⟨-1, -1, (az x m).left⟩) (a' := ⟨-1, -1, 0⟩) m.toNat 2 h (by simp [m2]) (by decide) rfl (by show _ = m.toNat * 3 + 2; omega) ?_
  clear h; intro M h
  rw [jd, jd, Aj (pr := { aJ x i with ia := -1 }) hlb] at h
  refine qz h ?_
  clear h; intro M h
  refine qA h ?_
  have e3 := xd (y := { aJ x i with ia := -1 }) nt rfl
  exact k _ (Hp.b7 (xe (A := A) (c := c) (a := ⟨some ⟨q, 0, none⟩, cp, vM, some ⟨q2, 0, none⟩, cm⟩) (x := (x.cY i { aJ x i with ia := -1 }).jo m ⟨-1, -1, 0⟩) h b (by simp [Sc.cY, Sc.jo, eL]) (by rfl) (by simpa [Sc.cY, Sc.jo] using hl) (by rfl) (by exact e3) (by rfl)))
 | true =>
  simp only [if_true] at k
  refine ae ?_
  refine be (Src.at (h.src (A := some ⟨q, 0, none⟩)) h (i := i.toNat) (j := 1) hrow rfl (by show _ = 0 + (i.toNat * 3 + 1); omega)) ?_
  rw [jC ht.1 (by omega)]
  refine iR (E := qy) (a' := (lb, (aJ x i).turns + 1, (aJ x i).ia)) i.toNat 1 h hrow (by decide) rfl rfl ?_
  clear h; intro M h
  refine aF h (aF h (aG h ⟨m0, m1, bg ?_⟩))
  refine iR (E := ju) (a' := ⟨(az x m).p, g, (az x m).left⟩) m.toNat 1 h nu (by decide) rfl (by show _ = m.toNat * 3 + 1; omega) ?_
  clear h; intro M h
  refine ⟨m0, m1, bg ?_⟩
  refine iR (E := ju) (a := ⟨(az x m).p, g, (az x m).left⟩) (a' := ⟨(az x m).p, g, x.c.S⟩) m.toNat 2 h (by simp [m2]) (by decide) rfl (by show _ = m.toNat * 3 + 2; omega) ?_
  clear h; intro M h
  rw [jd, Aj (pr := { aJ x i with turns := (aJ x i).turns + 1 }) hlb] at h
  refine qz h ?_
  clear h; intro M h
  refine qA h ?_
  have e3 := xd (y := { aJ x i with turns := (aJ x i).turns + 1 }) nt rfl
  exact k _ (Hp.b7 (xe (A := A) (c := c) (a := ⟨some ⟨q, 0, none⟩, cp, vM, some ⟨q2, 0, none⟩, cm⟩) (x := (x.cY i { aJ x i with turns := (aJ x i).turns + 1 }).jo m ⟨(az x m).p, g, x.c.S⟩) h b (by simp [Sc.cY, Sc.jo, eL]) (by rfl) (by simpa [Sc.cY, Sc.jo] using hl) (by rfl) (by exact e3) (by rfl)))
def xh (x : Sc) (m : Int) : Prop := 0 ≤ m ∧ m < x.ms.length ∧ 0 ≤ (az x m).p ∧ (az x m).p < x.ps.length ∧ x.gl.length ≤ 1000000 ∧ 0 ≤ (aJ x (az x m).p).turns ∧ (aJ x (az x m).p).turns < 1000000000 ∧ x.d.taken.length < 100000000 ∧ x.c.P ≤ x.ps.length ∧ x.c.P < 1000000
instance (x : Sc) (m : Int) : Decidable (xh x m) := by unfold xh; infer_instance
theorem K8 {j : Int} (h0 : 0 ≤ i) (hi : i < x.ps.length) (hj : 0 ≤ j) : (aJ (x.own i).1 j).turns = (aJ x j).turns := by
 unfold Sc.own Sc.cY aJ
 dsimp only
 by_cases e : i.toNat = j.toNat
 ·rw [e]
  rw [List.getD_eq_getElem?_getD, List.getElem?_set_self (by omega)]; rfl
 ·rw [List.getD_eq_getElem?_getD, List.getElem?_set_ne e, ← List.getD_eq_getElem?_getD]
end
section
variable {R : Mem} {L L' L2 : List HP} {M : Mem} {K : Value → Mem → Prop} {Kp : List PanicEntry → Mem → Prop} {pa : PA} {p : bZ} {b wb db : Nat} {x : Sc} {m i : Int} {a : SA} {g : List Int}
theorem ON (h : Hp R (fX (dH b wb db a x) g :: L) M) : M.ld ⟨b, 0 + 5, none⟩ = some (.slice a.ap x.ps.length a.cp) := by
 obtain ⟨A, c, h9⟩ := jI (P := dH b wb db a x) h; exact bO h9
theorem Ao (h : Hp R (fX (dH b wb db a x) g :: L) M) : M.ld ⟨b, 0 + 6, none⟩ = some (.slice a.am x.ms.length a.cm) := by
 obtain ⟨A, c, h9⟩ := jI (P := dH b wb db a x) h; exact bO h9
theorem sc_P (h : Hp R (fX (dH b wb db a x) g :: L) M) : M.ld ⟨b, 0 + 1, none⟩ = some (.int .i64 x.c.P) := by
 obtain ⟨A, c, h9⟩ := jI (P := dH b wb db a x) h; exact bO h9
theorem ZX (h : Hp R (fX (dH b wb db a x) g :: L) M) : M.ld ⟨b, (0 + 1) + 1, none⟩ = some (.int .i64 x.c.M) := by
 obtain ⟨A, c, h9⟩ := jI (P := dH b wb db a x) h; exact bO h9
theorem Wh (h : Hp R (fX (dH b wb db a x) g :: L) M) : M.ld ⟨b, 0 + 8, none⟩ = some (.pointer (some ⟨db, 0, none⟩)) := by
 obtain ⟨A, c, h9⟩ := jI (P := dH b wb db a x) h; exact bO h9
theorem ZY (h : Hp R (fX (dH b wb db a x) g :: L) M) : M.ld ⟨b, 0, none⟩ = some (.pointer (some ⟨wb, 0, none⟩)) := by
 obtain ⟨A, c, h9⟩ := jI (P := dH b wb db a x) h; exact bO h9
theorem RJ : dH b wb db a (x.own i).1 = dH b wb db a x := by
 unfold Sc.own dH eL Sc.cY; simp
def Rdy (R : Mem) (pa : PA) (p : bZ) (b wb db : Nat) (a : SA) (L' : List HP) (K : Value → Mem → Prop) (m i : Int) (q q2 k1 : Nat) (z : Sc) (kind g : Int) (t : Bool) (M : Mem) : Prop :=
 Hp R (fX (dH b wb db a z) z.gl :: ay (bu pa p) wb z.w :: ay cQ db z.d :: ck (some ⟨q, 0, none⟩) a.cp (bV a.lb z.ps) :: bn bP a.lb (z.ps.map dU.q) :: cw (some ⟨q2, 0, none⟩) a.cm z.ms :: pt k1 [.int .i64 0, .int .i64 0, .int .i64 0, .slice none 0 0] 43 :: L') M ∧
 a.lb.length = z.ps.length ∧ m < z.ms.length ∧ i < z.ps.length ∧ (0 ≤ (aJ z i).turns ∧ (aJ z i).turns < 1000000000) ∧
 (∀ M', Hp R (ay (dZ pa p wb db) b (z.bL m i kind g t).1 :: L') M' → K (Ly (z.bL m i kind g t).2 none 0) M')
theorem FJ {y : dU} {j : Int} (hi : 0 ≤ i) (h1 : i < x.ps.length) (hj : 0 ≤ j) : aJ (x.cY i y) j = if i = j then y else aJ x j := by
 unfold aJ Sc.cY
 dsimp only
 by_cases e : i = j
 ·subst e
  rw [if_pos rfl, List.getD_eq_getElem?_getD, List.getElem?_set_self (by omega)]; rfl
 ·rw [if_neg e, List.getD_eq_getElem?_getD, List.getElem?_set_ne (by omega), ← List.getD_eq_getElem?_getD]
theorem Cs {q q2 k1 : Nat}
  (h : Hp R (fX (dH b wb db a x) x.gl :: ay (bu pa p) wb x.w :: ay cQ db x.d :: ck (some ⟨q, 0, none⟩) a.cp (bV a.lb x.ps) :: bn bP a.lb (x.ps.map dU.q) :: cw (some ⟨q2, 0, none⟩) a.cm x.ms :: pt k1 [.int .i64 0, .int .i64 0, .int .i64 0, .slice none 0 0] 43 :: L') M)
  (hap : a.ap = some ⟨q, 0, none⟩) (Jn : a.am = some ⟨q2, 0, none⟩) (hl : a.lb.length = x.ps.length) (hk : xh x m) (hi : i = (az x m).p) (hd : x.d.Ok)
  (k : let y := (x.own i).1
   if (x.own i).2.2 = false ∧ 1 < x.c.P then match y.d.draw 2 x.c.P with
    | (d', .dh l) => ∀ M', Hp R (ay (dZ pa p wb db) b { y with d := d' } :: L') M' → Kp l M'
    | (d', .num v) =>
     let y := { y with d := d' }
     let s := (aJ y i).q.dQ (aJ y v).q
     let z := if v = i then y else (y.cY i { aJ y i with q := s.1 }).cY v { aJ y v with q := s.2.1 }
     let r := if v = i then (-1, false) else (s.2.2, jT (aJ y v).q s.2.2)
     ∀ M', Hp R (ay (dZ pa p wb db) b (z.bL m i 5 r.1 r.2).1 :: L') M' → K (Ly (z.bL m i 5 r.1 r.2).2 none 0) M'
   else ∀ M', Hp R (ay (dZ pa p wb db) b (y.bL m i 4 (x.own i).2.1 (x.own i).2.2).1 :: L') M' → K (Ly (y.bL m i 4 (x.own i).2.1 (x.own i).2.2).2 none 0) M') :
  aa Tryz.prog 150 #[(.pointer (some ⟨b, 0, none⟩)), (.pointer (some ⟨q, (i.toNat * 3), none⟩))] M (fun Nv qS =>
 ∃ F8 : Int, ∃ t57 : Bool, (Nv = (.tuple #[(.int .i64 F8), (.bool t57)])) ∧
 aP (!t57)
  (aI (Mem.ld qS ⟨b, (0 + 1), none⟩) .i64 fun BT =>
  ∃ Up : List Value → Mem → Prop, (aP (decide ((BT : Int) > 1))
   (cy (Mem.ld qS ⟨b, (0 + 8), none⟩) fun Yl =>
    aI (Mem.ld qS ⟨b, (0 + 1), none⟩) .i64 fun Ka =>
    aa Tryz.prog 107 #[(.pointer Yl), (.int .i64 2), (.int .i64 Ka)] qS (fun TX AD =>
    aI (some TX) .i64 fun n64 =>
    cy (Mem.ld AD ⟨q, (i.toNat * 3), none⟩) fun Qx =>
    aB (Mem.ld AD ⟨b, (0 + 5), none⟩) fun Nw yl DT =>
    ((0 : Int) ≤ n64) ∧
    ((n64 : Int) < ((yl : Nat) : Int)) ∧
    aE Nw fun G0 BY =>
    cy (Mem.ld AD ⟨G0, (BY + ((Int.toNat n64) * 3)), none⟩) fun G1 =>
    aa Tryz.prog 151 #[(.pointer Qx), (.pointer G1)] AD (fun v72 DV =>
    ∃ Lx : Int, ∃ t75 : Bool, (v72 = (.tuple #[(.int .i64 Lx), (.bool t75)])) ∧
    Up [(.int .i64 5), (.int .i64 Lx), (.bool t75)] DV) Kp) Kp)
   (Up [(.int .i64 4), (.int .i64 F8), (.bool t57)] qS)) ∧
  ∀ Uq : Nat → Value, ∀ EG : Int, ∀ mF : Int, ∀ t79 : Bool, ∀ jn : Mem, (Up [(.int .i64 EG), (.int .i64 mF), (.bool t79)] jn) → aP (!t79)
   (aB (Mem.ld jn ⟨b, (0 + 6), none⟩) fun T4 GZ DU =>
   aM jn ⟨q, ((i.toNat * 3) + 2), none⟩ (.int .i64 (-1)) fun EU =>
   ((0 : Int) ≤ m) ∧
   ((m : Int) < ((GZ : Nat) : Int)) ∧
   aE T4 fun IS DW =>
   aM EU ⟨IS, (DW + ((Int.toNat m) * 3)), none⟩ (.int .i64 (-1)) fun E0 =>
   aM E0 ⟨IS, ((DW + ((Int.toNat m) * 3)) + 1), none⟩ (.int .i64 (-1)) fun Ur =>
   aM Ur ⟨IS, ((DW + ((Int.toNat m) * 3)) + 2), none⟩ (.int .i64 0) fun EP =>
   aM EP ⟨k1, 0, none⟩ (.int .i64 6) fun SL =>
   aM SL ⟨k1, (0 + 1), none⟩ (.int .i64 m) fun mK =>
   aM mK ⟨k1, (0 + 2), none⟩ (.int .i64 (-1)) fun Yz =>
   aM Yz ⟨k1, (0 + 3), none⟩ (.slice none 0 0) fun Dg =>
   aI (Mem.ld Dg ⟨k1, 0, none⟩) .i64 fun Qe =>
   aI (Mem.ld Dg ⟨k1, (0 + 1), none⟩) .i64 fun Kd =>
   aI (Mem.ld Dg ⟨k1, (0 + 2), none⟩) .i64 fun Ke =>
   aB (Mem.ld Dg ⟨k1, (0 + 3), none⟩) fun YA Ks W6 =>
   K (.agg #[(.int .i64 Qe), (.int .i64 Kd), (.int .i64 Ke), (.slice YA Ks W6)]) Dg)
   (aI (Mem.ld jn ⟨q, ((i.toNat * 3) + 1), none⟩) .i64 fun uG =>
   aM jn ⟨q, ((i.toNat * 3) + 1), none⟩ (.int .i64 (IntKind.wrap .i64 (uG + 1))) fun gP =>
   aB (Mem.ld gP ⟨b, (0 + 6), none⟩) fun wP kH uV =>
   aB (Mem.ld gP ⟨b, (0 + 6), none⟩) fun zE uQ Bc =>
   aI (Mem.ld gP ⟨b, ((0 + 1) + 3), none⟩) .i64 fun De =>
   ((0 : Int) ≤ m) ∧
   ((m : Int) < ((kH : Nat) : Int)) ∧
   aE wP fun Dh E1 =>
   aM gP ⟨Dh, ((E1 + ((Int.toNat m) * 3)) + 1), none⟩ (.int .i64 mF) fun nX =>
   ((0 : Int) ≤ m) ∧
   ((m : Int) < ((uQ : Nat) : Int)) ∧
   aE zE fun yu Di =>
   aM nX ⟨yu, ((Di + ((Int.toNat m) * 3)) + 2), none⟩ (.int .i64 De) fun tP =>
   aM tP ⟨k1, 0, none⟩ (.int .i64 EG) fun G4 =>
   aM G4 ⟨k1, (0 + 1), none⟩ (.int .i64 m) fun uU =>
   aM uU ⟨k1, (0 + 2), none⟩ (.int .i64 mF) fun G2 =>
   aM G2 ⟨k1, (0 + 3), none⟩ (.slice none 0 0) fun nW =>
   aI (Mem.ld nW ⟨k1, 0, none⟩) .i64 fun Nx =>
   aI (Mem.ld nW ⟨k1, (0 + 1), none⟩) .i64 fun zD =>
   aI (Mem.ld nW ⟨k1, (0 + 2), none⟩) .i64 fun wO =>
   aB (Mem.ld nW ⟨k1, (0 + 3), none⟩) fun G5 Dj EW =>
   K (.agg #[(.int .i64 Nx), (.int .i64 zD), (.int .i64 wO), (.slice G5 Dj EW)]) nW))
  (∃ Ny : List Value → Mem → Prop, (Ny [(.int .i64 4), (.int .i64 F8), (.bool t57)] qS) ∧
  ∀ QE : Nat → Value, ∀ Dk : Int, ∀ yp : Int, ∀ t129 : Bool, ∀ sD : Mem, (Ny [(.int .i64 Dk), (.int .i64 yp), (.bool t129)] sD) → aP (!t129)
   (aB (Mem.ld sD ⟨b, (0 + 6), none⟩) fun EX yq EY =>
   aM sD ⟨q, ((i.toNat * 3) + 2), none⟩ (.int .i64 (-1)) fun G3 =>
   ((0 : Int) ≤ m) ∧
   ((m : Int) < ((yq : Nat) : Int)) ∧
   aE EX fun yw qh =>
   aM G3 ⟨yw, (qh + ((Int.toNat m) * 3)), none⟩ (.int .i64 (-1)) fun Kr =>
   aM Kr ⟨yw, ((qh + ((Int.toNat m) * 3)) + 1), none⟩ (.int .i64 (-1)) fun Us =>
   aM Us ⟨yw, ((qh + ((Int.toNat m) * 3)) + 2), none⟩ (.int .i64 0) fun Df =>
   aM Df ⟨k1, 0, none⟩ (.int .i64 6) fun Ut =>
   aM Ut ⟨k1, (0 + 1), none⟩ (.int .i64 m) fun Dl =>
   aM Dl ⟨k1, (0 + 2), none⟩ (.int .i64 (-1)) fun Nz =>
   aM Nz ⟨k1, (0 + 3), none⟩ (.slice none 0 0) fun zF =>
   aI (Mem.ld zF ⟨k1, 0, none⟩) .i64 fun NA =>
   aI (Mem.ld zF ⟨k1, (0 + 1), none⟩) .i64 fun NB =>
   aI (Mem.ld zF ⟨k1, (0 + 2), none⟩) .i64 fun NC =>
   aB (Mem.ld zF ⟨k1, (0 + 3), none⟩) fun ND E2 NF =>
   K (.agg #[(.int .i64 NA), (.int .i64 NB), (.int .i64 NC), (.slice ND E2 NF)]) zF)
   (aI (Mem.ld sD ⟨q, ((i.toNat * 3) + 1), none⟩) .i64 fun Ns =>
   aM sD ⟨q, ((i.toNat * 3) + 1), none⟩ (.int .i64 (IntKind.wrap .i64 (Ns + 1))) fun uW =>
   aB (Mem.ld uW ⟨b, (0 + 6), none⟩) fun NG NH Nu =>
   aB (Mem.ld uW ⟨b, (0 + 6), none⟩) fun Uu Uv Uw =>
   aI (Mem.ld uW ⟨b, ((0 + 1) + 3), none⟩) .i64 fun Ux =>
   ((0 : Int) ≤ m) ∧
   ((m : Int) < ((NH : Nat) : Int)) ∧
   aE NG fun Uy Uz =>
   aM uW ⟨Uy, ((Uz + ((Int.toNat m) * 3)) + 1), none⟩ (.int .i64 yp) fun wQ =>
   ((0 : Int) ≤ m) ∧
   ((m : Int) < ((Uv : Nat) : Int)) ∧
   aE Uu fun NI NJ =>
   aM wQ ⟨NI, ((NJ + ((Int.toNat m) * 3)) + 2), none⟩ (.int .i64 Ux) fun NK =>
   aM NK ⟨k1, 0, none⟩ (.int .i64 Dk) fun NL =>
   aM NL ⟨k1, (0 + 1), none⟩ (.int .i64 m) fun NM =>
   aM NM ⟨k1, (0 + 2), none⟩ (.int .i64 yp) fun Kt =>
   aM Kt ⟨k1, (0 + 3), none⟩ (.slice none 0 0) fun zG =>
   aI (Mem.ld zG ⟨k1, 0, none⟩) .i64 fun NN =>
   aI (Mem.ld zG ⟨k1, (0 + 1), none⟩) .i64 fun NO =>
   aI (Mem.ld zG ⟨k1, (0 + 2), none⟩) .i64 fun NP =>
   aB (Mem.ld zG ⟨k1, (0 + 3), none⟩) fun UA Ku UB =>
   K (.agg #[(.int .i64 NN), (.int .i64 NO), (.int .i64 NP), (.slice UA Ku UB)]) zG))) Kp := by
 obtain ⟨m0, m1, i0, i1, ZZ, ht0, ht1, Wi, hP, hP2⟩ := hk
 rw [← hi] at i0 i1 ht0 ht1
 have go : ∀ (z : Sc) (kind g : Int) (t : Bool) (M : Mem), Rdy R pa p b wb db a L' K m i q q2 k1 z kind g t M → _ := fun z kind g t M ⟨h, a1, a2, a3, a4, a5⟩ => K7 h hap Jn a1 m0 a2 i0 a3 a4 a5
 refine K6 (i := i) (q := q) (a := a) (x := x) (b := b) (wb := wb) (db := db) h hap hl i0 i1 ZZ ht0 ?_
 clear h; intro M h
 refine ⟨_, _, rfl, ?_⟩
 dsimp only at k
 have ey : dH b wb db a (x.own i).1 = dH b wb db a x := RJ
 have ep : bV a.lb (x.own i).1.ps = bV a.lb x.ps := by
  obtain ⟨lb, hlb, nt, hrow⟩ := qB (i := i) hl i0 i1
  exact An nt rfl rfl
 have el : (x.own i).1.ps.length = x.ps.length := by simp [Sc.own, Sc.cY]
 have et : ∀ j, 0 ≤ j → (aJ (x.own i).1 j).turns = (aJ x j).turns := fun j hj => K8 i0 i1 hj
 have em : (x.own i).1.ms = x.ms := rfl
 have ew : (x.own i).1.w = x.w := rfl
 have ed : (x.own i).1.d = x.d := rfl
 rw [← ey, ← ep] at h
 have hR : Hp R (fX (dH b wb db a (x.own i).1) (x.own i).1.gl :: ay (bu pa p) wb (x.own i).1.w :: ay cQ db (x.own i).1.d :: ck (some ⟨q, 0, none⟩) a.cp (bV a.lb (x.own i).1.ps) :: bn bP a.lb ((x.own i).1.ps.map dU.q) :: cw (some ⟨q2, 0, none⟩) a.cm (x.own i).1.ms :: pt k1 [.int .i64 0, .int .i64 0, .int .i64 0, .slice none 0 0] 43 :: L') M := h.sub br
 clear h
 have h := hR
 clear hR
 have ec : (x.own i).1.c = x.c := rfl
 generalize hy : x.own i = r at h k ey ep el et em ew ed ec
 obtain ⟨y, v1, t1⟩ := r
 dsimp only at h k ey ep el et em ew ed ec ⊢
 have hti := et i i0
 have S9 : ∀ M, Hp R (fX (dH b wb db a y) y.gl :: ay (bu pa p) wb y.w :: ay cQ db y.d :: ck (some ⟨q, 0, none⟩) a.cp (bV a.lb y.ps) :: bn bP a.lb (y.ps.map dU.q) :: cw (some ⟨q2, 0, none⟩) a.cm y.ms :: pt k1 [.int .i64 0, .int .i64 0, .int .i64 0, .slice none 0 0] 43 :: L') M → ¬ (t1 = false ∧ 1 < x.c.P) → Rdy R pa p b wb db a L' K m i q q2 k1 y 4 v1 t1 M := by
  intro M h hno
  rw [if_neg hno] at k
  exact ⟨h, by omega, by rw [em]; exact m1, by omega, by omega, k⟩
 cases t1 with
 | true =>
  refine ae ?_
  refine ⟨fun vs M => ∃ (z : Sc) (kind g : Int) (t : Bool), vs = [.int .i64 kind, .int .i64 g, .bool t] ∧ Rdy R pa p b wb db a L' K m i q q2 k1 z kind g t M, ⟨y, 4, v1, true, rfl, S9 M h (fun hc => by cases hc.1)⟩, ?_⟩
  clear h
  rintro _ n1 n2 t3 M ⟨z, kind, g, t, he, hz⟩
  simp only [List.cons.injEq, Value.int.injEq, Value.bool.injEq, and_true, true_and] at he
  obtain ⟨rfl, rfl, rfl⟩ := he
  exact go z n1 n2 t3 M hz
 | false =>
  refine ai ?_
  rw [sc_P h]
  refine c6 ?_
  refine ⟨fun vs M => ∃ (z : Sc) (kind g : Int) (t : Bool), vs = [.int .i64 kind, .int .i64 g, .bool t] ∧ Rdy R pa p b wb db a L' K m i q q2 k1 z kind g t M, ?_, ?_⟩
  ·rw [ec]
   refine aN.2 ⟨fun hgt => ?_, fun hle => ?_⟩
   ·rw [if_pos ⟨rfl, hgt⟩] at k
    rw [Wh h]
    refine jL ?_
    refine c6 ?_
    rw [ed] at k h
    replace h : Hp R (ay cQ db x.d :: fX (dH b wb db a y) y.gl :: ay (bu pa p) wb y.w :: ck (some ⟨q, 0, none⟩) a.cp (bV a.lb y.ps) :: bn bP a.lb (y.ps.map dU.q) :: cw (some ⟨q2, 0, none⟩) a.cm y.ms :: pt k1 [.int .i64 0, .int .i64 0, .int .i64 0, .slice none 0 0] 43 :: L') M := h.sub br
    refine qx h hd (by omega) Wi ?_
    clear h
    have HW := fun k' v => Ah (k := x.d.k) (kind := 2) hd.1 (Ag x.c.P) (k' := k') (v := v)
    have Bl : ∀ v, (x.d.draw 2 x.c.P).2 = .num v → 0 ≤ v ∧ v < x.c.P := by
     intro v hv
     unfold jE.draw at hv
     split at hv
     ·rename_i k' v' hn
      cases hv
      have := HW k' _ hn
      have e : kK x.c.P = x.c.P := by unfold kK; rw [if_neg (by omega)]
      rw [e] at this
      exact this
     ·cases hv
    generalize lN : x.d.draw 2 x.c.P = dd at k Bl
    obtain ⟨d', o⟩ := dd
    cases o with
    | dh l =>
     dsimp only at k Bl ⊢
     intro M h
     have hsc : dH b wb db a y = dH b wb db a { y with d := d' } := rfl
     rw [hsc] at h
     have h9 : Hp R (fX (dH b wb db a { y with d := d' }) y.gl :: ay (bu pa p) wb y.w :: ay cQ db d' :: ck a.ap a.cp (bV a.lb y.ps) :: bn bP a.lb (y.ps.map dU.q) :: cw a.am a.cm y.ms :: pt k1 [.int .i64 0, .int .i64 0, .int .i64 0, .slice none 0 0] 43 :: L') M := by
      rw [show ck a.ap a.cp (bV a.lb y.ps) = ck (some ⟨q, 0, none⟩) a.cp (bV a.lb y.ps) from by rw [hap], show cw a.am a.cm y.ms = cw (some ⟨q2, 0, none⟩) a.cm y.ms from by rw [Jn]]
      exact h.sub br
     exact k M (Hp.b7 (jj (a := a) (x := { y with d := d' }) (by rw [el]; exact hl) h9))
    | num v =>
     dsimp only at k Bl ⊢
     obtain ⟨v0, v1'⟩ := Bl v rfl
     intro M h
     refine c6 ?_
     have hsc : dH b wb db a y = dH b wb db a { y with d := d' } := rfl
     rw [hsc] at h
     generalize hyz : ({ y with d := d' } : Sc) = y2 at h k
     have p1 : y2.ps = y.ps := by rw [← hyz]
     have p2 : y2.ms = y.ms := by rw [← hyz]
     have p3 : y2.gl = y.gl := by rw [← hyz]
     have p4 : y2.w = y.w := by rw [← hyz]
     have p5 : y2.d = d' := by rw [← hyz]
     rw [← p1, ← p2, ← p3, ← p4, ← p5] at h
     replace h : Hp R (fX (dH b wb db a y2) y2.gl :: ay (bu pa p) wb y2.w :: ay cQ db y2.d :: ck (some ⟨q, 0, none⟩) a.cp (bV a.lb y2.ps) :: bn bP a.lb (y2.ps.map dU.q) :: cw (some ⟨q2, 0, none⟩) a.cm y2.ms :: pt k1 [.int .i64 0, .int .i64 0, .int .i64 0, .slice none 0 0] 43 :: L') M := h.sub br
     have lD : a.lb.length = y2.ps.length := by rw [p1, el]; exact hl
     have N1 : i < y2.ps.length := by rw [p1, el]; exact i1
     have PS : v < y2.ps.length := by rw [p1, el]; omega
     have ZV : m < y2.ms.length := by rw [p2, em]; exact m1
     have ht2 : ∀ j, aJ y2 j = aJ y j := fun j => by unfold aJ; rw [p1]
     obtain ⟨lbi, Z0, Z1, Z2⟩ := qB (i := i) lD i0 N1
     obtain ⟨lbv, Wj, OO, Z3⟩ := qB (i := v) lD v0 PS
     refine mU (Src.at (Src.row (A := some ⟨q, 0, none⟩) : Src R _ _ (qy.cells (bV a.lb y2.ps))) h (i := i.toNat) (j := 0) Z2 rfl (by show _ = 0 + (i.toNat * 3 + 0); simp)) ?_
     rw [ON h]
     refine aQ ⟨v0, PS, ?_⟩
     rw [hap]
     refine bg ?_
     rw [Nat.zero_add]
     refine mU (Src.at (Src.row (A := some ⟨q, 0, none⟩) : Src R _ _ (qy.cells (bV a.lb y2.ps))) h (i := v.toNat) (j := 0) Z3 rfl (by show _ = 0 + (v.toNat * 3 + 0); simp)) ?_
     by_cases hvi : v = i
     ·subst hvi
      rw [Z0] at Wj
      cases Wj
      refine xg ?_
      refine ⟨_, _, rfl, ?_⟩
      simp only [if_true] at k
      exact ⟨y2, 5, -1, false, rfl, h, lD, ZV, N1, by rw [ht2]; omega, k⟩
     ·simp only [if_neg hvi] at k
      have hqi : (y2.ps.map dU.q)[i.toNat]? = some (aJ y2 i).q := by rw [List.getElem?_map, Z1]; rfl
      have hqv : (y2.ps.map dU.q)[v.toNat]? = some (aJ y2 v).q := by rw [List.getElem?_map, OO]; rfl
      obtain ⟨X, hX, Ct⟩ := h.N0 bP (i := i.toNat) (j := v.toNat) (by omega) Z0 hqi Wj hqv
      clear h
      refine Fp hX ?_
      clear hX; intro t M g1 g2 h
      refine ⟨_, _, rfl, ?_⟩
      have hte : t = jT (aJ y2 v).q ((aJ y2 i).q.dQ (aJ y2 v).q).2.2 := by
       unfold jT
       by_cases hc : ((aJ y2 i).q.dQ (aJ y2 v).q).2.2 ≠ -1 ∨ (aJ y2 v).q.l ≠ []
       ·rw [g2 hc]
        rcases hc with hc | hc
        ·simp [hc]
        ·cases hq : (aJ y2 v).q.l with
         | nil => exact absurd hq hc
         | cons _ _ => simp
       ·have Wl : ((aJ y2 i).q.dQ (aJ y2 v).q).2.2 = -1 := Decidable.byContradiction fun e => hc (.inl e)
        have II : (aJ y2 v).q.l = [] := by
         cases hq : (aJ y2 v).q.l with
         | nil => rfl
         | cons _ _ => exact absurd (.inr (by rw [hq]; simp)) hc
        rw [g1 Wl II, Wl, II]; rfl
      subst hte
      replace h := Ct (L2 := _) h
      generalize hs : (aJ y2 i).q.dQ (aJ y2 v).q = s at h k ⊢
      obtain ⟨s1, s2, s3⟩ := s
      dsimp only at h k ⊢
      have e1 : bV a.lb ((y2.cY i { aJ y2 i with q := s1 }).cY v { aJ y2 v with q := s2 }).ps = bV a.lb y2.ps := by
       show bV a.lb ((y2.ps.set i.toNat _).set v.toNat _) = _
       rw [An (ps := y2.ps.set i.toNat { aJ y2 i with q := s1 }) (j := v.toNat) (pr := aJ y2 v) (y := { aJ y2 v with q := s2 }) (by rw [List.getElem?_set_ne (by omega)]; exact OO) rfl rfl]
       exact An Z1 rfl rfl
      have e2 : ((y2.cY i { aJ y2 i with q := s1 }).cY v { aJ y2 v with q := s2 }).ps.map dU.q = ((y2.ps.map dU.q).set i.toNat s1).set v.toNat s2 := by
       simp [Sc.cY, List.map_set]
      have e3 : dH b wb db a ((y2.cY i { aJ y2 i with q := s1 }).cY v { aJ y2 v with q := s2 }) = dH b wb db a y2 := by rw [Al, Al]
      rw [← e1, ← e2, ← e3] at h
      have e4 : (aJ ((y2.cY i { aJ y2 i with q := s1 }).cY v { aJ y2 v with q := s2 }) i).turns = (aJ y2 i).turns := by
       rw [FJ v0 (by rw [qD]; exact PS) i0, if_neg hvi, FJ i0 N1 i0, if_pos rfl]
      refine ⟨(y2.cY i { aJ y2 i with q := s1 }).cY v { aJ y2 v with q := s2 }, 5, s3, _, rfl, h.sub br, ?_, ZV, ?_, ?_, k⟩
      ·rw [qD, qD]; exact lD
      ·rw [qD, qD]; exact N1
      ·rw [e4, ht2]; omega
   ·exact ⟨y, 4, v1, false, rfl, S9 M h (fun hc => hle hc.2)⟩
  ·clear h
   rintro _ n1 n2 t3 M ⟨z, kind, g, t, he, hz⟩
   simp only [List.cons.injEq, Value.int.injEq, Value.bool.injEq, and_true, true_and] at he
   obtain ⟨rfl, rfl, rfl⟩ := he
   exact go z n1 n2 t3 M hz
end
def yy (l : List PanicEntry) : List PanicEntry := l ++ l.map fun e => { e with recovered := true }
theorem Cu : Ci K3 (yy K3) := fun b v M K Kp h => KC h
theorem FK {a k n q v : Int} : Ci (Xg a k n q v) (yy (Xg a k n q v)) := fun b w M K Kp h => Dm h
theorem OP {k k' : gE} {kind m : Int} {l : List PanicEntry} (h : k.next kind m = (k', .dh l)) : k' = k ∧ Ci l (yy l) := by
 cases k with
 | xU l i =>
  unfold gE.next at h
  dsimp only at h
  split at h
  ·cases h; exact ⟨rfl, Cu⟩
  ·cases h
 | tape l i =>
  unfold gE.next at h
  dsimp only at h
  split at h
  ·cases h; exact ⟨rfl, Cu⟩
  ·split at h
   ·cases h; exact ⟨rfl, FK⟩
   ·split at h
    ·cases h; exact ⟨rfl, FK⟩
    ·cases h
theorem qE {x x' : jE} {kind n : Int} {l : List PanicEntry} (h : x.draw kind n = (x', .dh l)) : x' = x ∧ Ci l (yy l) := by
 unfold jE.draw at h
 split at h
 ·cases h
 ·rename_i k' l' hn
  cases h
  obtain ⟨e, h2⟩ := OP hn
  subst e
  exact ⟨rfl, h2⟩
theorem vC {x : jE} {kind n : Int} (h : x.k.Ok) : (x.draw kind n).1.k.Ok := by
 unfold jE.draw
 have := RH (kind := kind) (m := kK n) h
 split
 ·rename_i k' v hn; rw [hn] at this; exact this
 ·rename_i k' v hn; rw [hn] at this; exact this
theorem jk {x x' : jE} {kind n v : Int} (hok : x.k.Ok) (h : x.draw kind n = (x', .num v)) : 0 ≤ v ∧ v < kK n ∧ x'.taken = x.taken ++ [(kind, v)] := by
 unfold jE.draw at h
 split at h
 ·rename_i k' v' hn
  cases h
  have := Ah hok (Ag n) hn
  exact ⟨this.1, this.2, rfl⟩
 ·cases h
def aO (m : Int) (x : Sc) (r : Int) : Sc :=
 let i := (az x m).p
 { x.cY i { aJ x i with q := ((aJ x i).q.ready r x.gl).1 } with gl := ((aJ x i).q.ready r x.gl).2.1 }
def Sc.lK (x : Sc) (m g : Int) (keep : Bool) (ready : List Int) : Sc × Ev :=
 if keep = true ∧ (az x m).left - 1 ≠ 0 then (x.jo m { az x m with left := (az x m).left - 1 }, ⟨7, m, g, ready⟩)
 else ({ x.jo m { az x m with left := (az x m).left - 1, g := -1 } with gl := if (aq x.w g).st = 1 then x.gl ++ [g] else x.gl }, ⟨7, m, g, ready⟩)
def Ap (p : bZ) (x : Sc) (m : Int) : Prop := 0 ≤ m ∧ m < x.ms.length ∧ 0 ≤ (az x m).p ∧ (az x m).p < x.ps.length ∧ x.gl.length ≤ 1000000 ∧ x.d.taken.length < 100000000 ∧ 1 ≤ (az x m).left ∧ (az x m).left < 1000000000 ∧ 0 ≤ (az x m).g
instance (p : bZ) (x : Sc) (m : Int) : Decidable (Ap p x m) := by unfold Ap; infer_instance
def Ta : Option (Int × Int) → Bool
 | none => true
 | some (_, n) => decide (n < 9223372036854775808)
def gG (x : Sc) (m g : Int) (d : jE) (y : Wd) (rest : Bool) : Option (Sc × iK) :=
 if y.ready.length ≤ 10000 ∧ g < y.gs.length then
  some (((y.ready.foldl (aO m) { x with w := y, d := d }).lK m g (ir y g rest) y.ready).1, .ev ((y.ready.foldl (aO m) { x with w := y, d := d }).lK m g (ir y g rest) y.ready).2)
 else none
def dy (d : jE) : Option (Int × Int) → jE × jQ
 | none => (d, .num 0)
 | some (k, n) => d.draw k n
def Sc.run (p : bZ) (x : Sc) (m : Int) : Option (Sc × iK) :=
 if Ap p x m then
  if Ta (asks p { x.w with ready := [] } (az x m).g) then
   match lH p x.w (az x m).g (dy x.d (asks p { x.w with ready := [] } (az x m).g)).2 with
   | none => none
   | some (.dh l y, _) => some ({ x with w := y, d := (dy x.d (asks p { x.w with ready := [] } (az x m).g)).1 }, .dh (yy l))
   | some (.on y, rest) => gG x m (az x m).g (dy x.d (asks p { x.w with ready := [] } (az x m).g)).1 y rest
   | some (.fk n y, rest) => gG x m (az x m).g (dy x.d (asks p { x.w with ready := [] } (az x m).g)).1 { y with end_ := 2, code := n } rest
  else none
 else none
def sO : Sc × iK → Sc × iK
 | (x, .ev e) => ({ x with steps := x.steps + 1 }, .ev e)
 | (x, .dh l) => (x, .dh l)
def yR (x : Sc) : Prop := x.w.gs.length ≤ 1000000 ∧ x.c.M = x.ms.length ∧ x.ps.length ≤ 1000000 ∧ x.ms.length ≤ 1000000 ∧ x.d.taken.length < 10000000 ∧ 0 ≤ x.steps ∧ x.steps < 1000000000
instance (x : Sc) : Decidable (yR x) := by unfold yR; infer_instance
def Sc.act (p : bZ) (x : Sc) (m : Int) : Option (Sc × iK) :=
 if m = x.c.M then (if Ak x then some (x.tick.1, .ev x.tick.2) else none)
 else if (az x m).p = -1 then some ((x.hold m).1, .ev (x.hold m).2)
 else if (az x m).g = -1 then (if xh x m then some (x.find m) else none)
 else x.run p m
def Sc.step (p : bZ) (x : Sc) : Option (Sc × iK) :=
 if yR x then
  if x.status ≠ 0 then some (x, .ev ⟨0, 0, 0, []⟩)
  else match x.d.draw 1 (x.c.M + 1) with
   | (d', .dh l) => some ({ x with d := d' }, .dh l)
   | (d', .num m) => (Sc.act p { x with d := d' } m).map sO
 else none
section
variable {R : Mem} {L L' L2 : List HP} {M : Mem} {K : Value → Mem → Prop} {Kp : List PanicEntry → Mem → Prop} {pa : PA} {p : bZ} {b wb db : Nat} {x : Sc} {m i : Int}
theorem HZ (h : Hp R L M) [o : w8 b L pa p wb db x L'] (hk : xh x m) (hd : x.d.k.Ok)
  (k : match (x.find m).2 with
   | .ev e => ∀ M', Hp R (ay (dZ pa p wb db) b (x.find m).1 :: L') M' → K (Ly e none 0) M'
   | .dh l => ∀ M', Hp R (ay (dZ pa p wb db) b (x.find m).1 :: L') M' → Kp l M') : aa Tryz.prog 110 #[.pointer (some ⟨b, 0, none⟩), .int .i64 m] M K Kp := by
 refine sw ?_
 have hk' := hk
 obtain ⟨m0, m1, i0, i1, ZZ, ht0, ht1, Wi, hP, hP2⟩ := hk'
 have Aq : x.d.Ok := ⟨hd, by omega⟩
 refine aj h ?_
 clear h
 intro k1 M h
 have h' := gh h (b := b)
 clear h
 obtain ⟨a, hl, h⟩ := h'
 obtain ⟨lb, hlb, nt, hrow⟩ := qB (i := (az x m).p) hl i0 i1
 have nu := qC m0 m1
 have m2 : m.toNat < x.ms.length := by omega
 obtain ⟨q, hq⟩ := h.bM (A := a.ap) (l := bV a.lb x.ps) (by rw [lJ hl]; omega) (by decide)
 obtain ⟨q2, oX⟩ := h.bM (A := a.am) (l := x.ms) (by omega) (by decide)
 replace h : Hp R (fX (dH b wb db a x) x.gl :: ay (bu pa p) wb x.w :: ay cQ db x.d :: ck (some ⟨q, 0, none⟩) a.cp (bV a.lb x.ps) :: bn bP a.lb (x.ps.map dU.q) :: cw (some ⟨q2, 0, none⟩) a.cm x.ms :: pt k1 [.int .i64 0, .int .i64 0, .int .i64 0, .slice none 0 0] 43 :: L') M := by
  unfold dY at h
  rw [show ck a.ap a.cp (bV a.lb x.ps) = ck (some ⟨q, 0, none⟩) a.cp (bV a.lb x.ps) from by rw [hq], show cw a.am a.cm x.ms = cw (some ⟨q2, 0, none⟩) a.cm x.ms from by rw [oX]] at h
  exact h.sub (by repeat (first | exact .refl | refine .cons (by repeat (first | exact .here | apply dc.there)) ?_ | apply Sub.drop))
 rw [ON h]
 refine aQ ?_
 rw [Ao h]
 refine aQ ⟨m0, m1, ?_⟩
 rw [oX]
 refine bg ?_
 refine be (Src.at (h.src (A := some ⟨q2, 0, none⟩)) h (i := m.toNat) (j := 0) nu rfl (by show _ = 0 + (m.toNat * 3 + 0); simp)) ?_
 refine ⟨i0, i1, ?_⟩
 rw [hq]
 refine bg ?_
 refine aQ ⟨m0, m1, bg ?_⟩
 refine be (Src.at (h.src (A := some ⟨q2, 0, none⟩)) h (i := m.toNat) (j := 2) nu rfl (by show _ = 0 + (m.toNat * 3 + 2); omega)) ?_
 simp only [Nat.zero_add]
 have hno : ¬ (0 < (az x m).left ∧ (aJ x (az x m).p).q.next ≠ -1) → (let y := (x.own (az x m).p).1
   if (x.own (az x m).p).2.2 = false ∧ 1 < x.c.P then match y.d.draw 2 x.c.P with
    | (d', .dh l) => ∀ M', Hp R (ay (dZ pa p wb db) b { y with d := d' } :: L') M' → Kp l M'
    | (d', .num v) =>
     let y := { y with d := d' }
     let s := (aJ y (az x m).p).q.dQ (aJ y v).q
     let z := if v = (az x m).p then y else (y.cY (az x m).p { aJ y (az x m).p with q := s.1 }).cY v { aJ y v with q := s.2.1 }
     let r := if v = (az x m).p then (-1, false) else (s.2.2, jT (aJ y v).q s.2.2)
     ∀ M', Hp R (ay (dZ pa p wb db) b (z.bL m (az x m).p 5 r.1 r.2).1 :: L') M' → K (Ly (z.bL m (az x m).p 5 r.1 r.2).2 none 0) M'
   else ∀ M', Hp R (ay (dZ pa p wb db) b (y.bL m (az x m).p 4 (x.own (az x m).p).2.1 (x.own (az x m).p).2.2).1 :: L') M' → K (Ly (y.bL m (az x m).p 4 (x.own (az x m).p).2.1 (x.own (az x m).p).2.2).2 none 0) M') := by
  intro hn
  unfold Sc.find at k
  dsimp only at k ⊢
  rw [if_neg hn] at k
  split
  ·rename_i hc
   rw [if_pos hc] at k
   split
   ·rename_i d' l lN
    rw [lN] at k
    exact k
   ·rename_i d' v lN
    rw [lN] at k
    dsimp only at k ⊢
    by_cases hv : v = (az x m).p
    ·simp only [if_pos hv] at k ⊢
     exact k
    ·simp only [if_neg hv] at k ⊢
     exact k
  ·rename_i hc
   rw [if_neg hc] at k
   exact k
 refine aN.2 ⟨fun hgt => ?_, fun hle => ?_⟩
 ·refine mU (Src.at (h.src (A := some ⟨q, 0, none⟩)) h (i := (az x m).p.toNat) (j := 0) hrow rfl (by show _ = 0 + ((az x m).p.toNat * 3 + 0); simp)) ?_
  have hqi : (x.ps.map dU.q)[(az x m).p.toNat]? = some (aJ x (az x m).p).q := by rw [List.getElem?_map, nt]; rfl
  have h3 := h.dg bP hlb hqi
  refine HC h3 ?_
  refine c6 ?_
  refine ⟨fun vs M => vs = [] ∧ (aJ x (az x m).p).q.next = -1 ∧ Hp R (fX (dH b wb db a x) x.gl :: ay (bu pa p) wb x.w :: ay cQ db x.d :: ck (some ⟨q, 0, none⟩) a.cp (bV a.lb x.ps) :: bn bP a.lb (x.ps.map dU.q) :: cw (some ⟨q2, 0, none⟩) a.cm x.ms :: pt k1 [.int .i64 0, .int .i64 0, .int .i64 0, .slice none 0 0] 43 :: L') M, ?_, ?_⟩
  ·refine dJ.2 ⟨fun hne => ?_, fun heq => ⟨rfl, by simpa using heq, h⟩⟩
   clear h3
   unfold Sc.find at k
   dsimp only at k
   rw [if_pos ⟨by omega, hne⟩] at k
   dsimp only at k
   refine mU (Src.at (h.src (A := some ⟨q, 0, none⟩)) h (i := (az x m).p.toNat) (j := 0) hrow rfl (by show _ = 0 + ((az x m).p.toNat * 3 + 0); simp)) ?_
   rw [show M.ld ⟨b, 6, none⟩ = some (.slice a.am x.ms.length a.cm) from Ao h]
   refine aQ ?_
   replace h := h.dg bP hlb hqi
   refine Cf h (b := lb) ?_
   clear h; intro t M _ _ h
   refine ⟨_, _, rfl, ?_⟩
   replace h := h.dW bP lb hlb (by rw [List.length_map]; omega)
   replace h : Hp R (fX (dH b wb db a x) x.gl :: ay (bu pa p) wb x.w :: ay cQ db x.d :: ck (some ⟨q, 0, none⟩) a.cp (bV a.lb x.ps) :: bn bP a.lb ((x.ps.map dU.q).set (az x m).p.toNat (aJ x (az x m).p).q.get.1) :: cw (some ⟨q2, 0, none⟩) a.cm x.ms :: pt k1 [.int .i64 0, .int .i64 0, .int .i64 0, .slice none 0 0] 43 :: L') M := h.sub (by repeat (first | exact .refl | refine .cons (by repeat (first | exact .here | apply dc.there)) ?_ | apply Sub.drop))
   refine ⟨Ao h, m0, m1, ?_⟩
   rw [oX]
   refine bg ?_
   refine iR (E := ju) (a' := ⟨(az x m).p, (aJ x (az x m).p).q.get.2, (az x m).left⟩) m.toNat 1 h nu (by decide) rfl (by show _ = m.toNat * 3 + 1; omega) ?_
   clear h; intro M h
   replace h : Hp R (fX (dH b wb db a x) x.gl :: ay (bu pa p) wb x.w :: ay cQ db x.d :: ck (some ⟨q, 0, none⟩) a.cp (bV a.lb x.ps) :: bn bP a.lb ((x.ps.map dU.q).set (az x m).p.toNat (aJ x (az x m).p).q.get.1) :: cw (some ⟨q2, 0, none⟩) a.cm (x.ms.set m.toNat ⟨(az x m).p, (aJ x (az x m).p).q.get.2, (az x m).left⟩) :: pt k1 [.int .i64 0, .int .i64 0, .int .i64 0, .slice none 0 0] 43 :: L') M := h.sub (by repeat (first | exact .refl | refine .cons (by repeat (first | exact .here | apply dc.there)) ?_ | apply Sub.drop))
   refine ⟨by have := Ao h; rw [oX] at this; exact this, ?_⟩
   rw [show M.ld ⟨b, 6, none⟩ = some (.slice a.am x.ms.length a.cm) from Ao h, oX]
   refine aQ ⟨m0, m1, bg ?_⟩
   refine be (Src.at (h.src (A := some ⟨q2, 0, none⟩)) h (i := m.toNat) (j := 1) (a := ⟨(az x m).p, (aJ x (az x m).p).q.get.2, (az x m).left⟩) (by simp [m2]) rfl (by show _ = 0 + (m.toNat * 3 + 1); omega)) ?_
   dsimp only
   refine qz h ?_
   clear h; intro M h
   refine qA h ?_
   have e1 : bV a.lb (x.cY (az x m).p { aJ x (az x m).p with q := (aJ x (az x m).p).q.get.1 }).ps = bV a.lb x.ps := An nt rfl rfl
   have e2 : ((x.cY (az x m).p { aJ x (az x m).p with q := (aJ x (az x m).p).q.get.1 }).ps).map dU.q = (x.ps.map dU.q).set (az x m).p.toNat (aJ x (az x m).p).q.get.1 := by simp [Sc.cY, List.map_set]
   have h9 : Hp R (fX (dH b wb db a ((x.cY (az x m).p { aJ x (az x m).p with q := (aJ x (az x m).p).q.get.1 }).jo m { az x m with g := (aJ x (az x m).p).q.get.2 })) x.gl :: ay (bu pa p) wb x.w :: ay cQ db x.d :: ck a.ap a.cp (bV a.lb ((x.cY (az x m).p { aJ x (az x m).p with q := (aJ x (az x m).p).q.get.1 }).jo m { az x m with g := (aJ x (az x m).p).q.get.2 }).ps) :: bn bP a.lb (((x.cY (az x m).p { aJ x (az x m).p with q := (aJ x (az x m).p).q.get.1 }).jo m { az x m with g := (aJ x (az x m).p).q.get.2 }).ps.map dU.q) :: cw a.am a.cm (x.ms.set m.toNat ⟨(az x m).p, (aJ x (az x m).p).q.get.2, (az x m).left⟩) :: L') M := by
    rw [Am, Al]
    show Hp R (_ :: _ :: _ :: ck a.ap a.cp (bV a.lb (x.cY (az x m).p { aJ x (az x m).p with q := (aJ x (az x m).p).q.get.1 }).ps) :: bn bP a.lb ((x.cY (az x m).p { aJ x (az x m).p with q := (aJ x (az x m).p).q.get.1 }).ps.map dU.q) :: _) M
    rw [e1, e2, hq, oX]
    exact h.sub (by repeat (first | exact .refl | refine .cons (by repeat (first | exact .here | apply dc.there)) ?_ | apply Sub.drop))
   exact k _ (jj (a := a) (x := (x.cY (az x m).p { aJ x (az x m).p with q := (aJ x (az x m).p).q.get.1 }).jo m { az x m with g := (aJ x (az x m).p).q.get.2 }) (by simpa [Sc.cY, Sc.jo] using hl) h9)
  ·clear h h3
   rintro _ M ⟨_, hnx, h⟩
   exact Cs h hq oX hl hk rfl Aq (hno (fun hc => hc.2 hnx))
 ·refine ⟨fun vs M => vs = [] ∧ Hp R (fX (dH b wb db a x) x.gl :: ay (bu pa p) wb x.w :: ay cQ db x.d :: ck (some ⟨q, 0, none⟩) a.cp (bV a.lb x.ps) :: bn bP a.lb (x.ps.map dU.q) :: cw (some ⟨q2, 0, none⟩) a.cm x.ms :: pt k1 [.int .i64 0, .int .i64 0, .int .i64 0, .slice none 0 0] 43 :: L') M, ⟨rfl, h⟩, ?_⟩
  clear h
  rintro _ M ⟨_, h⟩
  exact Cs h hq oX hl hk rfl Aq (hno (fun hc => hle (by omega)))
end
theorem Cv {p : bZ} {x : Wd} {k v : Int} {l : List PanicEntry} {y : Wd} : x.put p k v ≠ .dh l y := by
 unfold Wd.put; dsimp only; split <;> simp
theorem H6 {p : bZ} {x : Wd} {g : Int} {i : cI} {l : List PanicEntry} {y : Wd} (h : oe p x g i = some (.dh l y)) : False := by
 unfold oe at h
 by_cases e : i.op = 10
 ·rw [if_pos e] at h; obtain ⟨_, h⟩ := cU h; cases h
 rw [if_neg e] at h; clear e
 by_cases e : i.op = 11
 ·rw [if_pos e] at h; obtain ⟨_, h⟩ := cU h; unfold Wd.spawn at h; split at h <;> cases h
 rw [if_neg e] at h; clear e
 by_cases e : i.op = 13
 ·rw [if_pos e] at h; obtain ⟨_, h⟩ := cU h
  unfold Wd.send at h
  split at h
  ·cases h
  ·rename_i hp; exact Cv hp
  ·cases h
  ·cases h
 rw [if_neg e] at h; clear e
 by_cases e : i.op = 14
 ·rw [if_pos e] at h; obtain ⟨_, h⟩ := cU h; cases h
 rw [if_neg e] at h; clear e
 by_cases e : i.op = 15
 ·rw [if_pos e] at h; obtain ⟨_, h⟩ := cU h; unfold Wd.shut at h; dsimp only at h; split at h
  ·cases h
  ·split at h <;> cases h
 rw [if_neg e] at h; clear e
 by_cases e : i.op = 20
 ·rw [if_pos e] at h; obtain ⟨_, h⟩ := cU h; unfold Wd.emit at h; split at h <;> cases h
 rw [if_neg e] at h; clear e
 by_cases e : i.op = 9
 ·rw [if_pos e] at h; obtain ⟨_, h⟩ := cU h; unfold Wd.call at h; split at h <;> cases h
 rw [if_neg e] at h; clear e
 by_cases e : i.op = 12
 ·rw [if_pos e] at h; cases h
 rw [if_neg e] at h; clear e
 by_cases e : i.op = 17
 ·rw [if_pos e] at h; obtain ⟨_, h⟩ := cU h; cases h
 rw [if_neg e] at h; clear e
 by_cases e : i.op = 18
 ·rw [if_pos e] at h; obtain ⟨_, h⟩ := cU h; cases h
 rw [if_neg e] at h; clear e
 by_cases e : i.op = 19
 ·rw [if_pos e] at h; obtain ⟨_, h⟩ := cU h; unfold Wd.unlock at h; split at h
  ·cases h
  ·split at h <;> cases h
 rw [if_neg e] at h; clear e
 by_cases e : i.op = 22
 ·rw [if_pos e] at h; cases h
 rw [if_neg e] at h; cases h
theorem Cw {p : bZ} {x : Wd} {g : Int} {d : jQ} {l : List PanicEntry} {y : Wd} {rest : Bool} (h : lH p x g d = some (.dh l y, rest)) : d = .dh l ∧ y = { x with ready := [] } := by
 unfold lH at h
 dsimp only at h
 split at h
 ·split at h
  ·split at h
   ·cases h
   ·split at h
    ·cases h
    ·split at h
     ·split at h <;> cases h
     ·split at h
      ·split at h
       ·split at h
        ·rename_i hc
         simp only [Option.some.injEq, Prod.mk.injEq] at h
         obtain ⟨h, _⟩ := h
         unfold Wd.choose at h
         split at h
         ·cases h
         ·cases d with
          | dh l' => cases h; exact ⟨rfl, rfl⟩
          | num v =>
           dsimp only at h
           unfold Wd.qt at h
           dsimp only at h
           split at h
           ·split at h
            ·cases h
            ·rename_i hp; exact absurd hp Cv
            ·cases h
           ·cases h
        ·cases h
       ·cases h
      ·split at h
       ·split at h
        ·split at h
         ·simp only [Option.some.injEq, Prod.mk.injEq] at h
          obtain ⟨h, _⟩ := h
          cases d with
          | dh l' => cases h; exact ⟨rfl, rfl⟩
          | num v => cases h
         ·cases h
        ·cases h
       ·split at h
        ·cases h
        ·rename_i r hd
         split at h
         ·simp only [Option.some.injEq, Prod.mk.injEq] at h
          obtain ⟨h, _⟩ := h
          subst h
          exact (H6 hd).elim
         ·cases h
  ·cases h
 ·cases h
theorem K9 {q : Loc} {r : Int} {gl : List Int} : (q.ready r gl).2.1.length ≤ gl.length + q.l.length + 1 := by
 unfold Loc.ready
 split
 ·dsimp only; omega
 ·unfold Loc.put
  dsimp only
  split
  ·dsimp only; omega
  ·dsimp only; simp; omega
section
variable {R : Mem} {L L' L2 : List HP} {M : Mem} {K : Value → Mem → Prop} {Kp : List PanicEntry → Mem → Prop} {pa : PA} {p : bZ} {b wb db : Nat} {x : Sc} {m i : Int} {a : SA}
abbrev Au (dn : Nat) (kp : Bool) (A : Option Addr) (n c : Nat) : HP := pt dn [.bool kp, .slice A n c] 250
theorem FL {q2 k1 dn c : Nat} {g : Int} {kp : Bool} {A : Option Addr} {rd : List Int}
  (h : Hp R (fX (dH b wb db a x) x.gl :: ay (bu pa p) wb x.w :: ay cQ db x.d :: ck a.ap a.cp (bV a.lb x.ps) :: bn bP a.lb (x.ps.map dU.q) :: cw (some ⟨q2, 0, none⟩) a.cm (x.ms.set m.toNat { az x m with left := (az x m).left - 1 }) :: Au dn kp A rd.length c :: pt k1 [.int .i64 0, .int .i64 0, .int .i64 0, .slice none 0 0] 43 :: L') M)
  (Jn : a.am = some ⟨q2, 0, none⟩) (hl : a.lb.length = x.ps.length) (m0 : 0 ≤ m) (m1 : m < x.ms.length) (g0 : 0 ≤ g) (g1 : g < x.w.gs.length) (ZZ : x.gl.length ≤ 100000000)
  (k : ∀ M', Hp R (ay (dZ pa p wb db) b { x.jo m { az x m with left := (az x m).left - 1, g := -1 } with gl := if (aq x.w g).st = 1 then x.gl ++ [g] else x.gl } :: L') M' → K (Ly ⟨7, m, g, rd⟩ A c) M') :
  aM M ⟨q2, ((m.toNat * 3) + 1), none⟩ (.int .i64 (-1)) fun pT =>
  cy (Mem.ld pT ⟨b, 0, none⟩) fun Lw =>
  aa Tryz.prog 119 #[(.pointer Lw), (.int .i64 g)] pT (fun GI qP =>
  aI (some GI) .i64 fun Ba =>
  aP (Ba == 1)
   (aX qP (.cells #[(.int .i64 g)] 3 (0, 0)) fun kS GW =>
   aa Tryz.prog 58 #[(.pointer (some ⟨b, (0 + 7), none⟩)), (.slice (some ⟨kS, 0, none⟩) 1 1)] GW (fun Nv qS =>
   (Nv = (.tuple #[])) ∧
   aB (Mem.ld qS ⟨dn, (0 + 1), none⟩) fun Nj wK xE =>
   aM qS ⟨k1, 0, none⟩ (.int .i64 7) fun AH =>
   aM AH ⟨k1, (0 + 1), none⟩ (.int .i64 m) fun vG =>
   aM vG ⟨k1, (0 + 2), none⟩ (.int .i64 g) fun wz =>
   aM wz ⟨k1, (0 + 3), none⟩ (.slice Nj wK xE) fun vE =>
   aI (Mem.ld vE ⟨k1, 0, none⟩) .i64 fun yf =>
   aI (Mem.ld vE ⟨k1, (0 + 1), none⟩) .i64 fun n64 =>
   aI (Mem.ld vE ⟨k1, (0 + 2), none⟩) .i64 fun wA =>
   aB (Mem.ld vE ⟨k1, (0 + 3), none⟩) fun Nw yl DT =>
   K (.agg #[(.int .i64 yf), (.int .i64 n64), (.int .i64 wA), (.slice Nw yl DT)]) vE) Kp)
   (aB (Mem.ld qP ⟨dn, (0 + 1), none⟩) fun YG BY Kk =>
   aM qP ⟨k1, 0, none⟩ (.int .i64 7) fun Sz =>
   aM Sz ⟨k1, (0 + 1), none⟩ (.int .i64 m) fun DV =>
   aM DV ⟨k1, (0 + 2), none⟩ (.int .i64 g) fun EN =>
   aM EN ⟨k1, (0 + 3), none⟩ (.slice YG BY Kk) fun xL =>
   aI (Mem.ld xL ⟨k1, 0, none⟩) .i64 fun MM =>
   aI (Mem.ld xL ⟨k1, (0 + 1), none⟩) .i64 fun EG =>
   aI (Mem.ld xL ⟨k1, (0 + 2), none⟩) .i64 fun mF =>
   aB (Mem.ld xL ⟨k1, (0 + 3), none⟩) fun Ud ET Ni =>
   K (.agg #[(.int .i64 MM), (.int .i64 EG), (.int .i64 mF), (.slice Ud ET Ni)]) xL)) Kp := by
 have nu := qC m0 m1
 have m2 : m.toNat < x.ms.length := by omega
 refine iR (E := ju) (a := { az x m with left := (az x m).left - 1 }) (a' := ⟨(az x m).p, -1, (az x m).left - 1⟩) m.toNat 1 h (by simp [m2]) (by decide) rfl (by show _ = m.toNat * 3 + 1; omega) ?_
 clear h; intro M h
 rw [jd] at h
 replace h : Hp R (fX (dH b wb db a x) x.gl :: ay (bu pa p) wb x.w :: ay cQ db x.d :: ck a.ap a.cp (bV a.lb x.ps) :: bn bP a.lb (x.ps.map dU.q) :: cw (some ⟨q2, 0, none⟩) a.cm (x.ms.set m.toNat ⟨(az x m).p, -1, (az x m).left - 1⟩) :: Au dn kp A rd.length c :: pt k1 [.int .i64 0, .int .i64 0, .int .i64 0, .slice none 0 0] 43 :: L') M := h.sub br
 rw [ZY h]
 refine jL ?_
 refine vo h g0 g1 ?_
 refine c6 ?_
 have fin : ∀ (La : List Int) (M : Mem), La = (if (aq x.w g).st = 1 then x.gl ++ [g] else x.gl) → Hp R (fX (dH b wb db a x) La :: ay (bu pa p) wb x.w :: ay cQ db x.d :: ck a.ap a.cp (bV a.lb x.ps) :: bn bP a.lb (x.ps.map dU.q) :: cw (some ⟨q2, 0, none⟩) a.cm (x.ms.set m.toNat ⟨(az x m).p, -1, (az x m).left - 1⟩) :: Au dn kp A rd.length c :: pt k1 [.int .i64 0, .int .i64 0, .int .i64 0, .slice none 0 0] 43 :: L') M →
   aB (Mem.ld M ⟨dn, (0 + 1), none⟩) fun Nj wK xE => aM M ⟨k1, 0, none⟩ (.int .i64 7) fun AH => aM AH ⟨k1, (0 + 1), none⟩ (.int .i64 m) fun vG => aM vG ⟨k1, (0 + 2), none⟩ (.int .i64 g) fun wz => aM wz ⟨k1, (0 + 3), none⟩ (.slice Nj wK xE) fun vE =>
   aI (Mem.ld vE ⟨k1, 0, none⟩) .i64 fun yf => aI (Mem.ld vE ⟨k1, (0 + 1), none⟩) .i64 fun n64 => aI (Mem.ld vE ⟨k1, (0 + 2), none⟩) .i64 fun wA => aB (Mem.ld vE ⟨k1, (0 + 3), none⟩) fun Nw yl DT =>
   K (.agg #[(.int .i64 yf), (.int .i64 n64), (.int .i64 wA), (.slice Nw yl DT)]) vE := by
  intro La M hgl' h
  refine aF h ?_
  refine qz h ?_
  clear h; intro M h
  refine qA h ?_
  refine k _ (jj (a := a) (x := { x.jo m { az x m with left := (az x m).left - 1, g := -1 } with gl := if (aq x.w g).st = 1 then x.gl ++ [g] else x.gl }) hl ?_)
  rw [← hgl']
  have e1 : dH b wb db a { x.jo m { az x m with left := (az x m).left - 1, g := -1 } with gl := La } = dH b wb db a x := Am (x := x)
  rw [e1]
  show Hp R (_ :: _ :: _ :: _ :: _ :: cw a.am a.cm (x.ms.set m.toNat ⟨(az x m).p, -1, (az x m).left - 1⟩) :: _) M
  rw [Jn]
  exact h.sub br
 refine aY.2 ⟨fun e1 => ?_, fun e1 => ?_⟩
 ·refine aj h ?_
  clear h; intro kS M h
  replace h := (h.pt kS).gW (E := bl) (l := [g]) rfl
  replace h : Hp R (fX (dH b wb db a x) x.gl :: lU (some ⟨kS, 0, none⟩) 1 [g] :: ay (bu pa p) wb x.w :: ay cQ db x.d :: ck a.ap a.cp (bV a.lb x.ps) :: bn bP a.lb (x.ps.map dU.q) :: cw (some ⟨q2, 0, none⟩) a.cm (x.ms.set m.toNat ⟨(az x m).p, -1, (az x m).left - 1⟩) :: Au dn kp A rd.length c :: pt k1 [.int .i64 0, .int .i64 0, .int .i64 0, .slice none 0 0] 43 :: L') M := h.sub br
  refine oc (P := dH b wb db a x) Ai h (Src.row (A := some ⟨kS, 0, none⟩)) rfl (by simp; omega) ?_
  clear h; intro M h
  refine ⟨rfl, ?_⟩
  exact fin _ M (by rw [if_pos e1]) (h.sub br)
 ·exact fin _ M (by rw [if_neg e1]) h
theorem iw {m : Int} : ∀ (l : List Int) (z : Sc), 0 ≤ (az z m).p → (az z m).p < z.ps.length → (l.foldl (aO m) z).ms = z.ms ∧ (l.foldl (aO m) z).ps.length = z.ps.length ∧ (l.foldl (aO m) z).w = z.w ∧ (l.foldl (aO m) z).d = z.d ∧ (l.foldl (aO m) z).c = z.c ∧ (l.foldl (aO m) z).steps = z.steps ∧ ∀ bs, bV bs (l.foldl (aO m) z).ps = bV bs z.ps
 | [], z, _, _ => ⟨rfl, rfl, rfl, rfl, rfl, rfl, fun _ => rfl⟩
 | r :: l, z, h0, h1 => by
  have hp : z.ps[(az z m).p.toNat]? = some (aJ z (az z m).p) := by
   obtain ⟨y, hy⟩ := aU (l := z.ps) (i := (az z m).p.toNat) (by omega)
   have e : aJ z (az z m).p = y := by simp [aJ, hy]
   rw [e]; exact hy
  have hms : (aO m z r).ms = z.ms := rfl
  have hps : (aO m z r).ps.length = z.ps.length := by simp [aO, Sc.cY]
  have nu : az (aO m z r) m = az z m := rfl
  obtain ⟨a1, a2, a3, a4, a5, a6, a7⟩ := iw l (aO m z r) (by rw [nu]; exact h0) (by rw [nu, hps]; exact h1)
  refine ⟨a1, by rw [List.foldl_cons, a2, hps], a3, a4, a5, a6, fun bs => ?_⟩
  rw [List.foldl_cons, a7]
  exact An hp rfl rfl
end
def OQ (R : Mem) (pa : PA) (p : bZ) (b wb db : Nat) (L' : List HP) (K : Value → Mem → Prop) (Kp : List PanicEntry → Mem → Prop) (y : Sc) : iK → Prop
 | .ev e => ∀ R' A c M', R.le R' → RS bl R' A c e.ready → Hp R' (ay (dZ pa p wb db) b y :: L') M' → K (Ly e A c) M'
 | .dh l => ∀ M', Hp R (ay (dZ pa p wb db) b y :: L') M' → Kp l M'
section
variable {R : Mem} {L L' L2 : List HP} {M : Mem} {K : Value → Mem → Prop} {Kp : List PanicEntry → Mem → Prop} {pa : PA} {p : bZ} {b wb db : Nat} {x : Sc} {m i : Int} {a : SA}
theorem OR {A : Option Addr} {q o : Nat} {G : Nat → Nat → Prop} (e : A = some ⟨q, o, none⟩) (g : G q o) : aE A G := by subst e; exact bg g
theorem FM {q2 k1 c : Nat} {g : Int} {kp : Bool} {A : Option Addr} {w : Wd} {d' : jE} {rest : Bool} {y : Sc} {o : iK}
  (h : Hp R (fX (dH b wb db a x) x.gl :: ay (bu pa p) wb w :: ay cQ db d' :: ck a.ap a.cp (bV a.lb x.ps) :: bn bP a.lb (x.ps.map dU.q) :: cw (some ⟨q2, 0, none⟩) a.cm x.ms :: pt k1 [.int .i64 0, .int .i64 0, .int .i64 0, .slice none 0 0] 43 :: L') M)
  (qY : RS bl R A c w.ready) (Jn : a.am = some ⟨q2, 0, none⟩) (hl : a.lb.length = x.ps.length) (hpre : Ap p x m) (hg : g = (az x m).g) (hkp : kp = ir w g rest) (he : gG x m g d' w rest = some (y, o)) (k : OQ R pa p b wb db L' K Kp y o) :
  ∃ t13 : Bool, ∃ qQ : Option Addr, ∃ iF : Nat, ∃ eX : Nat, ((Value.agg #[.bool kp, .slice A w.ready.length c]) = (.agg #[(.bool t13), (.slice qQ iF eX)])) ∧
aX M (.cells #[(.bool false), (.slice none 0 0)] 250 (0, 0)) fun dn rD =>
aM rD ⟨dn, 0, none⟩ (.bool t13) fun jq =>
aM jq ⟨dn, (0 + 1), none⟩ (.slice qQ iF eX) fun uE =>
aB (Mem.ld uE ⟨dn, (0 + 1), none⟩) fun C2 gO iM =>
∃ Va : Nat → List Value → Mem → Prop, (∃ tr : Nat, Va tr [(.int .i64 0)] uE) ∧
∀ pM : Nat, ∀ Vb : Nat → Value, ∀ xC : Int, ∀ mY : Mem, (Va pM [(.int .i64 xC)] mY) → aP (decide ((xC : Int) < ((gO : Nat) : Int)))
 (((0 : Int) ≤ xC) ∧
 ((xC : Int) < ((gO : Nat) : Int)) ∧
 aE C2 fun l9 qR =>
 aI (Mem.ld mY ⟨l9, (qR + (Int.toNat xC)), none⟩) .i64 fun n32 =>
 aB (Mem.ld mY ⟨b, (0 + 5), none⟩) fun GJ uF wB =>
 aI (Mem.ld mY ⟨q2, (m.toNat * 3), none⟩) .i64 fun vI =>
 ((0 : Int) ≤ vI) ∧
 ((vI : Int) < ((uF : Nat) : Int)) ∧
 aE GJ fun AG fW =>
 cy (Mem.ld mY ⟨AG, (fW + ((Int.toNat vI) * 3)), none⟩) fun Qa =>
 aa Tryz.prog 152 #[(.pointer Qa), (.int .i64 n32), (.pointer (some ⟨b, (0 + 7), none⟩))] mY (fun Kg C6 =>
 aI (some Kg) .i64 fun Pt =>
 ∃ ko : Nat, (ko < pM) ∧
 Va ko [(.int .i64 (IntKind.wrap .i64 (xC + 1)))] C6) Kp)
 (aI (Mem.ld mY ⟨q2, ((m.toNat * 3) + 2), none⟩) .i64 fun AE =>
 aM mY ⟨q2, ((m.toNat * 3) + 2), none⟩ (.int .i64 (IntKind.wrap .i64 (AE - 1))) fun pY =>
 c7 (Mem.ld pY ⟨dn, 0, none⟩) fun t46 =>
 aP (!t46)
  (aM pY ⟨q2, ((m.toNat * 3) + 1), none⟩ (.int .i64 (-1)) fun pT =>
  cy (Mem.ld pT ⟨b, 0, none⟩) fun Lw =>
  aa Tryz.prog 119 #[(.pointer Lw), (.int .i64 g)] pT (fun GI qP =>
  aI (some GI) .i64 fun Ba =>
  aP (Ba == 1)
   (aX qP (.cells #[(.int .i64 g)] 3 (0, 0)) fun kS GW =>
   aa Tryz.prog 58 #[(.pointer (some ⟨b, (0 + 7), none⟩)), (.slice (some ⟨kS, 0, none⟩) 1 1)] GW (fun Nv qS =>
   (Nv = (.tuple #[])) ∧
   aB (Mem.ld qS ⟨dn, (0 + 1), none⟩) fun Nj wK xE =>
   aM qS ⟨k1, 0, none⟩ (.int .i64 7) fun AH =>
   aM AH ⟨k1, (0 + 1), none⟩ (.int .i64 m) fun vG =>
   aM vG ⟨k1, (0 + 2), none⟩ (.int .i64 g) fun wz =>
   aM wz ⟨k1, (0 + 3), none⟩ (.slice Nj wK xE) fun vE =>
   aI (Mem.ld vE ⟨k1, 0, none⟩) .i64 fun yf =>
   aI (Mem.ld vE ⟨k1, (0 + 1), none⟩) .i64 fun n64 =>
   aI (Mem.ld vE ⟨k1, (0 + 2), none⟩) .i64 fun wA =>
   aB (Mem.ld vE ⟨k1, (0 + 3), none⟩) fun Nw yl DT =>
   K (.agg #[(.int .i64 yf), (.int .i64 n64), (.int .i64 wA), (.slice Nw yl DT)]) vE) Kp)
   (aB (Mem.ld qP ⟨dn, (0 + 1), none⟩) fun YG BY Kk =>
   aM qP ⟨k1, 0, none⟩ (.int .i64 7) fun Sz =>
   aM Sz ⟨k1, (0 + 1), none⟩ (.int .i64 m) fun DV =>
   aM DV ⟨k1, (0 + 2), none⟩ (.int .i64 g) fun EN =>
   aM EN ⟨k1, (0 + 3), none⟩ (.slice YG BY Kk) fun xL =>
   aI (Mem.ld xL ⟨k1, 0, none⟩) .i64 fun MM =>
   aI (Mem.ld xL ⟨k1, (0 + 1), none⟩) .i64 fun EG =>
   aI (Mem.ld xL ⟨k1, (0 + 2), none⟩) .i64 fun mF =>
   aB (Mem.ld xL ⟨k1, (0 + 3), none⟩) fun Ud ET Ni =>
   K (.agg #[(.int .i64 MM), (.int .i64 EG), (.int .i64 mF), (.slice Ud ET Ni)]) xL)) Kp)
  (aI (Mem.ld pY ⟨q2, ((m.toNat * 3) + 2), none⟩) .i64 fun IF =>
  aP (IF == 0)
   (aM pY ⟨q2, ((m.toNat * 3) + 1), none⟩ (.int .i64 (-1)) fun C9 =>
   cy (Mem.ld C9 ⟨b, 0, none⟩) fun YH =>
   aa Tryz.prog 119 #[(.pointer YH), (.int .i64 g)] C9 (fun Yt Qw =>
   aI (some Yt) .i64 fun YI =>
   aP (YI == 1)
    (aX Qw (.cells #[(.int .i64 g)] 3 (0, 0)) fun Km EP =>
    aa Tryz.prog 58 #[(.pointer (some ⟨b, (0 + 7), none⟩)), (.slice (some ⟨Km, 0, none⟩) 1 1)] EP (fun Nh mK =>
    (Nh = (.tuple #[])) ∧
    aB (Mem.ld mK ⟨dn, (0 + 1), none⟩) fun T5 Nn Qq =>
    aM mK ⟨k1, 0, none⟩ (.int .i64 7) fun DX =>
    aM DX ⟨k1, (0 + 1), none⟩ (.int .i64 m) fun M96 =>
    aM M96 ⟨k1, (0 + 2), none⟩ (.int .i64 g) fun F7 =>
    aM F7 ⟨k1, (0 + 3), none⟩ (.slice T5 Nn Qq) fun DY =>
    aI (Mem.ld DY ⟨k1, 0, none⟩) .i64 fun Px =>
    aI (Mem.ld DY ⟨k1, (0 + 1), none⟩) .i64 fun uG =>
    aI (Mem.ld DY ⟨k1, (0 + 2), none⟩) .i64 fun MN =>
    aB (Mem.ld DY ⟨k1, (0 + 3), none⟩) fun wP kH uV =>
    K (.agg #[(.int .i64 Px), (.int .i64 uG), (.int .i64 MN), (.slice wP kH uV)]) DY) Kp)
    (aB (Mem.ld Qw ⟨dn, (0 + 1), none⟩) fun zE uQ Bc =>
    aM Qw ⟨k1, 0, none⟩ (.int .i64 7) fun Bd =>
    aM Bd ⟨k1, (0 + 1), none⟩ (.int .i64 m) fun pO =>
    aM pO ⟨k1, (0 + 2), none⟩ (.int .i64 g) fun Vc =>
    aM Vc ⟨k1, (0 + 3), none⟩ (.slice zE uQ Bc) fun nX =>
    aI (Mem.ld nX ⟨k1, 0, none⟩) .i64 fun zn =>
    aI (Mem.ld nX ⟨k1, (0 + 1), none⟩) .i64 fun MQ =>
    aI (Mem.ld nX ⟨k1, (0 + 2), none⟩) .i64 fun MR =>
    aB (Mem.ld nX ⟨k1, (0 + 3), none⟩) fun NX E4 G7 =>
    K (.agg #[(.int .i64 zn), (.int .i64 MQ), (.int .i64 MR), (.slice NX E4 G7)]) nX)) Kp)
   (aB (Mem.ld pY ⟨dn, (0 + 1), none⟩) fun Vd zH NY =>
   aM pY ⟨k1, 0, none⟩ (.int .i64 7) fun Ve =>
   aM Ve ⟨k1, (0 + 1), none⟩ (.int .i64 m) fun Vf =>
   aM Vf ⟨k1, (0 + 2), none⟩ (.int .i64 g) fun Kw =>
   aM Kw ⟨k1, (0 + 3), none⟩ (.slice Vd zH NY) fun sE =>
   aI (Mem.ld sE ⟨k1, 0, none⟩) .i64 fun G8 =>
   aI (Mem.ld sE ⟨k1, (0 + 1), none⟩) .i64 fun Vg =>
   aI (Mem.ld sE ⟨k1, (0 + 2), none⟩) .i64 fun Dk =>
   aB (Mem.ld sE ⟨k1, (0 + 3), none⟩) fun NZ G9 QN =>
   K (.agg #[(.int .i64 G8), (.int .i64 Vg), (.int .i64 Dk), (.slice NZ G9 QN)]) sE))) := by
 obtain ⟨m0, m1, i0, i1, ZZ, Wi, l1, l2, g0⟩ := hpre
 rw [← hg] at g0
 unfold gG at he
 split at he
 ·rename_i hc
  obtain ⟨hr, hgw⟩ := hc
  simp only [Option.some.injEq, Prod.mk.injEq] at he
  obtain ⟨FN, xP⟩ := he
  have nu := qC m0 m1
  have m2 : m.toNat < x.ms.length := by omega
  refine ⟨_, _, _, _, rfl, ?_⟩
  refine aj h ?_
  clear h; intro dn M h
  refine au h ?_
  clear h; intro M h
  refine au h ?_
  clear h; intro M h
  refine aF h ?_
  generalize Dx : ({ x with w := w, d := d' } : Sc) = x1 at FN xP
  have q1 : x1.ps = x.ps := by rw [← Dx]
  have Xh : x1.ms = x.ms := by rw [← Dx]
  have q3 : x1.gl = x.gl := by rw [← Dx]
  have q4 : x1.w = w := by rw [← Dx]
  have q5 : x1.d = d' := by rw [← Dx]
  have q6 : dH b wb db a x1 = dH b wb db a x := by rw [← Dx]
  have q7 : az x1 m = az x m := by rw [← Dx]; rfl
  have hf := iw (m := m) (l := w.ready) (z := x1) (by rw [q7]; exact i0) (by rw [q7, q1]; exact i1)
  rw [← q1, ← Xh, ← q3, ← q4, ← q5, ← q6] at h
  rw [← q4] at qY hgw hr
  rw [show w.ready = x1.w.ready from by rw [q4]] at FN xP hf ⊢
  clear Dx
  have key : ∀ j, j ≤ x1.w.ready.length → ((x1.w.ready.take j).foldl (aO m) x1).ms = x1.ms ∧ ((x1.w.ready.take j).foldl (aO m) x1).ps.length = x1.ps.length ∧ ((x1.w.ready.take j).foldl (aO m) x1).w = x1.w ∧ ((x1.w.ready.take j).foldl (aO m) x1).d = x1.d ∧ ((x1.w.ready.take j).foldl (aO m) x1).c = x1.c ∧ ((x1.w.ready.take j).foldl (aO m) x1).steps = x1.steps ∧ ∀ bs, bV bs ((x1.w.ready.take j).foldl (aO m) x1).ps = bV bs x1.ps :=
   fun j _ => iw (m := m) (l := x1.w.ready.take j) (z := x1) (by rw [q7]; exact i0) (by rw [q7, q1]; exact i1)
  refine ⟨fun d vs M => ∃ j : Nat, vs = [.int .i64 (j : Int)] ∧ d = x1.w.ready.length - j ∧ j ≤ x1.w.ready.length ∧ ((x1.w.ready.take j).foldl (aO m) x1).gl.length ≤ 1000000 + 1030 * j ∧
    Hp R (fX (dH b wb db a x1) ((x1.w.ready.take j).foldl (aO m) x1).gl :: ay (bu pa p) wb x1.w :: ay cQ db x1.d :: ck a.ap a.cp (bV a.lb x1.ps) :: bn bP a.lb (((x1.w.ready.take j).foldl (aO m) x1).ps.map dU.q) :: cw (some ⟨q2, 0, none⟩) a.cm x1.ms :: Au dn kp A x1.w.ready.length c :: pt k1 [.int .i64 0, .int .i64 0, .int .i64 0, .slice none 0 0] 43 :: L') M,
   ⟨_, 0, rfl, rfl, by omega, by rw [List.take_zero, List.foldl_nil, q3]; omega, h.sub br⟩, ?_⟩
  clear h
  rintro d _ nn M ⟨j, he3, hd, hj, Wm, h⟩
  simp only [List.cons.injEq, Value.int.injEq, and_true, true_and] at he3
  subst he3
  obtain ⟨z1, z2, z3, z4, z5, z6, z7⟩ := key j hj
  refine aN.2 ⟨fun hlt => ?_, fun hge => ?_⟩
  ·obtain ⟨rv, hrv⟩ := aU (l := x1.w.ready) (i := j) (by omega)
   refine ⟨by omega, hlt, ?_⟩
   obtain ⟨rb, ro, hrb⟩ := qY.some (by omega) (by decide)
   have Z4 := qY
   rw [hrb] at Z4
   refine OR hrb ?_
   simp only [Int.toNat_natCast]
   refine be (Src.at (Z4.src (L := _)) h (i := j) (j := 0) hrv rfl (by simp [bl])) ?_
   have hstep : (x1.w.ready.take (j + 1)).foldl (aO m) x1 = aO m ((x1.w.ready.take j).foldl (aO m) x1) rv := by rw [eo hrv, List.foldl_append]; rfl
   generalize hz : (x1.w.ready.take j).foldl (aO m) x1 = z at h hstep z1 z2 z3 z4 z5 z6 z7 Wm
   have Z5 : az z m = az x m := by unfold az; rw [z1, Xh]
   have hps : z.ps.length = x.ps.length := by rw [z2, q1]
   rw [ON h]
   refine aQ ?_
   refine be (Src.at (h.src (A := some ⟨q2, 0, none⟩)) h (i := m.toNat) (j := 0) (a := az x m) (by rw [Xh]; exact nu) rfl (by show _ = 0 + (m.toNat * 3 + 0); simp)) ?_
   refine ⟨i0, by rw [q1]; exact i1, ?_⟩
   have Z6 : a.lb.length = z.ps.length := by rw [hps]; exact hl
   obtain ⟨lb, hlb, nt, hrow⟩ := qB (i := (az x m).p) (x := z) Z6 i0 (by rw [hps]; exact i1)
   rw [z7] at hrow
   obtain ⟨q, hq⟩ := h.bM (A := a.ap) (l := bV a.lb x1.ps) (by rw [lJ (by rw [q1]; exact hl), q1]; omega) (by decide)
   have hs0 := (h.src (A := a.ap)) M h
   rw [hq] at hs0
   refine OR hq ?_
   refine mU (Sl.at hs0 (i := (az x m).p.toNat * 3 + 0) (by simp) (hU.mV (E := qy) hrow rfl)) ?_
   clear hs0
   have hqz : (z.ps.map dU.q)[(az x m).p.toNat]? = some (aJ z (az x m).p).q := by rw [List.getElem?_map, nt]; rfl
   replace h := h.dg bP hlb hqz
   replace h : Hp R (ay bP lb (aJ z (az x m).p).q :: fX (dH b wb db a x1) z.gl :: mb bP a.lb (z.ps.map dU.q) (az x m).p.toNat :: ay (bu pa p) wb x1.w :: ay cQ db x1.d :: ck a.ap a.cp (bV a.lb x1.ps) :: cw (some ⟨q2, 0, none⟩) a.cm x1.ms :: Au dn kp A x1.w.ready.length c :: pt k1 [.int .i64 0, .int .i64 0, .int .i64 0, .slice none 0 0] 43 :: L') M := h.sub br
   have hbd := wX h (b := lb)
   have lq := K9 (q := (aJ z (az x m).p).q) (r := rv) (gl := z.gl)
   refine Fl (P := dH b wb db a x1) Ai h (by omega) ?_
   clear h; intro M h
   refine c6 ?_
   replace h := h.dW bP lb hlb (by rw [List.length_map]; omega)
   refine ⟨x1.w.ready.length - (j + 1), by omega, j + 1, by rw [aW (by omega)], rfl, by omega, ?_, ?_⟩
   ·rw [hstep]
    unfold aO
    rw [Z5]
    dsimp only
    obtain ⟨b1, b2, b3⟩ := hbd
    omega
   ·rw [hstep]
    have e2 : (aO m z rv).ps.map dU.q = (z.ps.map dU.q).set (az x m).p.toNat ((aJ z (az x m).p).q.ready rv z.gl).1 := by
     unfold aO; rw [Z5]; simp [Sc.cY, List.map_set]
    have e3 : (aO m z rv).gl = ((aJ z (az x m).p).q.ready rv z.gl).2.1 := by unfold aO; rw [Z5]
    rw [e2, e3]
    exact h.sub br
  ·have F1 : j = x1.w.ready.length := by omega
   subst F1
   rw [List.take_length] at z1 z2 z3 z4 z5 z6 z7 Wm h
   clear key hf
   generalize hrd : x1.w.ready = rd at *
   generalize hz : rd.foldl (aO m) x1 = z at h z1 z2 z3 z4 z5 z6 z7 Wm FN xP
   have Z5 : az z m = az x m := by unfold az; rw [z1, Xh]
   have ez : dH b wb db a z = dH b wb db a x1 := by unfold dH eL; rw [z1, z2, z5, z6]
   have Z6 : a.lb.length = z.ps.length := by rw [z2, q1]; exact hl
   rw [← ez, ← z3, ← z4, ← z7, ← z1] at h
   have Z7 : z.ms[m.toNat]? = some (az z m) := qC m0 (by rw [z1, Xh]; exact m1)
   have m1z : m < z.ms.length := by rw [z1, Xh]; exact m1
   have m2z : m.toNat < z.ms.length := by omega
   rw [← Z5] at l1 l2
   refine be (Src.at (h.src (A := some ⟨q2, 0, none⟩)) h (i := m.toNat) (j := 2) Z7 rfl (by show _ = 0 + (m.toNat * 3 + 2); omega)) ?_
   rw [cC (by omega) (by omega)]
   refine iR (E := ju) (a' := { az z m with left := (az z m).left - 1 }) m.toNat 2 h Z7 (by decide) rfl rfl ?_
   clear h; intro M h
   replace h : Hp R (fX (dH b wb db a z) z.gl :: ay (bu pa p) wb z.w :: ay cQ db z.d :: ck a.ap a.cp (bV a.lb z.ps) :: bn bP a.lb (z.ps.map dU.q) :: cw (some ⟨q2, 0, none⟩) a.cm (z.ms.set m.toNat { az z m with left := (az z m).left - 1 }) :: Au dn kp A rd.length c :: pt k1 [.int .i64 0, .int .i64 0, .int .i64 0, .slice none 0 0] 43 :: L') M := h.sub br
   refine BK h ?_
   have hgz : g < z.w.gs.length := by rw [z3]; exact hgw
   have Z8 : (¬ (ir w g rest = true ∧ (az z m).left - 1 ≠ 0)) → ∀ M', Hp R (ay (dZ pa p wb db) b { z.jo m { az z m with left := (az z m).left - 1, g := -1 } with gl := if (aq z.w g).st = 1 then z.gl ++ [g] else z.gl } :: L') M' → K (Ly ⟨7, m, g, rd⟩ A c) M' := by
    intro hno M' h'
    unfold Sc.lK at FN xP
    rw [if_neg hno] at FN xP
    dsimp only at FN xP
    subst xP
    exact k R A c M' (Mem.le_refl _) qY (by rw [← FN]; exact h')
   cases hk : kp with
   | false =>
    subst hk
    refine ai ?_
    exact FL h Jn Z6 m0 m1z g0 hgz (by omega) (Z8 (fun hc => by rw [← hkp] at hc; cases hc.1))
   | true =>
    subst hk
    refine ae ?_
    refine be (Src.at (h.src (A := some ⟨q2, 0, none⟩)) h (i := m.toNat) (j := 2) (a := { az z m with left := (az z m).left - 1 }) (by simp [m2z]) rfl (by show _ = 0 + (m.toNat * 3 + 2); omega)) ?_
    refine aY.2 ⟨fun e0 => ?_, fun e0 => ?_⟩
    ·exact FL h Jn Z6 m0 m1z g0 hgz (by omega) (Z8 (fun hc => hc.2 e0))
    ·refine aF h ?_
     refine qz h ?_
     clear h; intro M h
     refine qA h ?_
     unfold Sc.lK at FN xP
     rw [if_pos ⟨hkp.symm, e0⟩] at FN xP
     dsimp only at FN xP
     subst xP
     refine k R A c M (Mem.le_refl _) qY ?_
     rw [← FN]
     refine jj (a := a) (x := z.jo m { az z m with left := (az z m).left - 1 }) Z6 ?_
     rw [Am]
     show Hp R (_ :: _ :: _ :: _ :: _ :: cw a.am a.cm (z.ms.set m.toNat { az z m with left := (az z m).left - 1 }) :: _) M
     rw [Jn]
     exact h.sub br
 ·cases he
end
section
variable {R : Mem} {L L' L2 : List HP} {M : Mem} {K : Value → Mem → Prop} {Kp : List PanicEntry → Mem → Prop} {pa : PA} {p : bZ} {b wb db : Nat} {x : Sc} {m i : Int}
theorem Lb {y : Sc} {o : iK} (h : Hp R L M) [q : w8 b L pa p wb db x L'] (hp : kJ R pa p) (hd : x.d.k.Ok) (he : x.run p m = some (y, o)) (k : OQ R pa p b wb db L' K Kp y o) :
  aa Tryz.prog 111 #[.pointer (some ⟨b, 0, none⟩), .int .i64 m] M K Kp := by
 unfold Sc.run at he
 split at he
 ·rename_i hpre
  have Z9 := hpre
  obtain ⟨m0, m1, i0, i1, ZZ, Wi, l1, l2, g0⟩ := Z9
  split at he
  ·rename_i j8
   have Aq : x.d.Ok := ⟨hd, by omega⟩
   refine tQ ?_
   refine aj h ?_
   clear h
   intro k1 M h
   have h' := gh h (b := b)
   clear h
   obtain ⟨a, hl, h⟩ := h'
   have nu := qC m0 m1
   obtain ⟨q2, oX⟩ := h.bM (A := a.am) (l := x.ms) (by omega) (by decide)
   replace h : Hp R (fX (dH b wb db a x) x.gl :: ay (bu pa p) wb x.w :: ay cQ db x.d :: ck a.ap a.cp (bV a.lb x.ps) :: bn bP a.lb (x.ps.map dU.q) :: cw (some ⟨q2, 0, none⟩) a.cm x.ms :: pt k1 [.int .i64 0, .int .i64 0, .int .i64 0, .slice none 0 0] 43 :: L') M := by
    unfold dY at h
    rw [show cw a.am a.cm x.ms = cw (some ⟨q2, 0, none⟩) a.cm x.ms from by rw [oX]] at h
    exact h.sub br
   rw [Ao h]
   refine aQ ⟨m0, m1, ?_⟩
   refine OR oX ?_
   refine be (Src.at (h.src (A := some ⟨q2, 0, none⟩)) h (i := m.toNat) (j := 1) nu rfl (by show _ = 0 + (m.toNat * 3 + 1); omega)) ?_
   simp only [Nat.zero_add]
   rw [ZY h]
   refine jL ?_
   rw [show M.ld ⟨b, 8, none⟩ = some (.pointer (some ⟨db, 0, none⟩)) from Wh h]
   refine jL ⟨trivial, ?_⟩
   replace h : Hp R (ay (bu pa p) wb x.w :: ay cQ db x.d :: fX (dH b wb db a x) x.gl :: ck a.ap a.cp (bV a.lb x.ps) :: bn bP a.lb (x.ps.map dU.q) :: cw (some ⟨q2, 0, none⟩) a.cm x.ms :: pt k1 [.int .i64 0, .int .i64 0, .int .i64 0, .slice none 0 0] 43 :: L') M := h.sub br
   generalize OS : (fX (dH b wb db a x) x.gl :: ck a.ap a.cp (bV a.lb x.ps) :: bn bP a.lb (x.ps.map dU.q) :: cw (some ⟨q2, 0, none⟩) a.cm x.ms :: pt k1 [.int .i64 0, .int .i64 0, .int .i64 0, .slice none 0 0] 43 :: L') = LL at h
   have hds : match asks p { x.w with ready := [] } (az x m).g with
     | none => (ay cQ db (dy x.d (asks p { x.w with ready := [] } (az x m).g)).1 :: LL) = (ay cQ db x.d :: LL)
     | some (kd, n) => ji R (.func (.func 107) #[.pointer (some ⟨db, 0, none⟩)] #[]) kd n (dy x.d (asks p { x.w with ready := [] } (az x m).g)).2 (ay cQ db x.d :: LL) (ay cQ db (dy x.d (asks p { x.w with ready := [] } (az x m).g)).1 :: LL) := by
    cases hak : asks p { x.w with ready := [] } (az x m).g with
    | none => rfl
    | some kn =>
     obtain ⟨kd, n⟩ := kn
     rw [hak] at j8
     exact K5 Aq (of_decide_eq_true j8) Wi
   have HJ : ∀ l, (dy x.d (asks p { x.w with ready := [] } (az x m).g)).2 = .dh l → Ci l (yy l) := by
    intro l hl
    cases hak : asks p { x.w with ready := [] } (az x m).g with
    | none => rw [hak] at hl; cases hl
    | some kn =>
     obtain ⟨kd, n⟩ := kn
     rw [hak] at hl
     exact (qE (x' := (x.d.draw kd n).1) (by rw [← hl]; rfl)).2
   generalize lN : dy x.d (asks p { x.w with ready := [] } (az x m).g) = dd at he hds HJ
   obtain ⟨d', dr⟩ := dd
   dsimp only at he hds HJ
   cases hex : lH p x.w (az x m).g dr with
   | none => rw [hex] at he; cases he
   | some rr =>
    obtain ⟨r, rest⟩ := rr
    rw [hex] at he
    refine Cm h hp ⟨_, _, _, rfl⟩ hex hds ?_
    cases r with
    | dh l w =>
     dsimp only at he
     simp only [Option.some.injEq, Prod.mk.injEq] at he
     obtain ⟨FN, xP⟩ := he
     obtain ⟨Bl, hw⟩ := Cw hex
     refine ⟨yy l, HJ l Bl, ?_⟩
     intro M h
     subst xP
     refine k M ?_
     rw [← FN]
     rw [← OS] at h
     have h9 : Hp R (fX (dH b wb db a { x with w := w, d := d' }) x.gl :: ay (bu pa p) wb w :: ay cQ db d' :: ck a.ap a.cp (bV a.lb x.ps) :: bn bP a.lb (x.ps.map dU.q) :: cw a.am a.cm x.ms :: L') M := by
      rw [show cw a.am a.cm x.ms = cw (some ⟨q2, 0, none⟩) a.cm x.ms from by rw [oX], show dH b wb db a { x with w := w, d := d' } = dH b wb db a x from rfl]
      exact h.sub br
     exact jj (a := a) (x := { x with w := w, d := d' }) hl h9
    | on w =>
     intro R' A c M hle qY h
     rw [← OS] at h
     have h2 : Hp R' (fX (dH b wb db a x) x.gl :: ay (bu pa p) wb w :: ay cQ db d' :: ck a.ap a.cp (bV a.lb x.ps) :: bn bP a.lb (x.ps.map dU.q) :: cw (some ⟨q2, 0, none⟩) a.cm x.ms :: pt k1 [.int .i64 0, .int .i64 0, .int .i64 0, .slice none 0 0] 43 :: L') M := h.sub br
     refine FM (K := K) (Kp := Kp) (w := w) (g := (az x m).g) (kp := ir w (az x m).g rest) (rest := rest) h2 qY oX hl hpre rfl rfl he ?_
     cases o with
     | ev e => exact fun R2 A2 c2 M2 FO => k R2 A2 c2 M2 (Mem.le_trans hle FO)
     | dh l =>
      dsimp only at he
      unfold gG at he
      split at he
      ·simp only [Option.some.injEq, Prod.mk.injEq] at he; cases he.2
      ·cases he
    | fk n w =>
     intro R' A c M hle qY h
     rw [← OS] at h
     have h2 : Hp R' (fX (dH b wb db a x) x.gl :: ay (bu pa p) wb { w with end_ := 2, code := n } :: ay cQ db d' :: ck a.ap a.cp (bV a.lb x.ps) :: bn bP a.lb (x.ps.map dU.q) :: cw (some ⟨q2, 0, none⟩) a.cm x.ms :: pt k1 [.int .i64 0, .int .i64 0, .int .i64 0, .slice none 0 0] 43 :: L') M := h.sub br
     refine FM (K := K) (Kp := Kp) (w := { w with end_ := 2, code := n }) (g := (az x m).g) (kp := ir { w with end_ := 2, code := n } (az x m).g rest) (rest := rest) h2 qY oX hl hpre rfl rfl he ?_
     cases o with
     | ev e => exact fun R2 A2 c2 M2 FO => k R2 A2 c2 M2 (Mem.le_trans hle FO)
     | dh l =>
      dsimp only at he
      unfold gG at he
      split at he
      ·simp only [Option.some.injEq, Prod.mk.injEq] at he; cases he.2
      ·cases he
  ·cases he
 ·cases he
theorem OT {e : Ev} {o : iK} {y z : Sc} (h : sO (z, .ev e) = (y, o)) : o = .ev e ∧ y = { z with steps := z.steps + 1 } := by
 unfold sO at h; cases h; exact ⟨rfl, rfl⟩
theorem H7 {y : Sc} {o : iK} (h : Hp R L M) [q : w8 b L pa p wb db x L'] (hp : kJ R pa p) (hd : x.d.k.Ok) (he : x.step p = some (y, o)) (k : OQ R pa p b wb db L' K Kp y o) :
  aa Tryz.prog 54 #[.pointer (some ⟨b, 0, none⟩)] M K Kp := by
 unfold Sc.step at he
 split at he
 ·rename_i hpre
  obtain ⟨hgs, hcM, hps, hms, Wi, hst0, hst1⟩ := hpre
  refine sq ?_
  refine aj h ?_
  clear h
  intro k1 M h
  refine vB h hgs ?_
  refine c6 ?_
  split at he
  ·rename_i hst
   simp only [Option.some.injEq, Prod.mk.injEq] at he
   obtain ⟨FN, xP⟩ := he
   subst FN; subst xP
   refine dJ.2 ⟨fun _ => ?_, fun hn => absurd hn hst⟩
   refine qz h ?_
   clear h; intro M h
   refine qA h ?_
   exact k R none 0 M (Mem.le_refl _) (RS.nil _ _) (h.drop.pick q.pick)
  ·rename_i hst
   refine dJ.2 ⟨fun hn => absurd hn hst, fun _ => ?_⟩
   have h' := gh h (b := b)
   clear h
   obtain ⟨a, hl, h⟩ := h'
   rw [Wh h]
   refine jL ?_
   rw [ZX h]
   refine c6 ?_
   have Aq : x.d.Ok := ⟨hd, by omega⟩
   have hnw : IntKind.wrap .i64 (x.c.M + 1) = x.c.M + 1 := cC (by omega) (by omega)
   rw [hnw]
   replace h : Hp R (ay cQ db x.d :: fX (dH b wb db a x) x.gl :: ay (bu pa p) wb x.w :: ck a.ap a.cp (bV a.lb x.ps) :: bn bP a.lb (x.ps.map dU.q) :: cw a.am a.cm x.ms :: pt k1 [.int .i64 0, .int .i64 0, .int .i64 0, .slice none 0 0] 43 :: L') M := h.sub br
   refine qx h Aq (by omega) (by omega) ?_
   clear h
   have aaa := vC (kind := 1) (n := x.c.M + 1) hd
   have HW : ∀ x' v, x.d.draw 1 (x.c.M + 1) = (x', .num v) → 0 ≤ v ∧ v < x.c.M + 1 ∧ x'.taken = x.d.taken ++ [(1, v)] := by
    intro x' v hv
    have := jk hd hv
    rw [show kK (x.c.M + 1) = x.c.M + 1 from by unfold kK; rw [if_neg (by omega)]] at this
    exact this
   generalize lN : x.d.draw 1 (x.c.M + 1) = dd at he aaa HW
   obtain ⟨d', dr⟩ := dd
   have mk : ∀ {M : Mem}, Hp R (ay cQ db d' :: fX (dH b wb db a x) x.gl :: ay (bu pa p) wb x.w :: ck a.ap a.cp (bV a.lb x.ps) :: bn bP a.lb (x.ps.map dU.q) :: cw a.am a.cm x.ms :: pt k1 [.int .i64 0, .int .i64 0, .int .i64 0, .slice none 0 0] 43 :: L') M → Hp R (ay (dZ pa p wb db) b { x with d := d' } :: pt k1 [.int .i64 0, .int .i64 0, .int .i64 0, .slice none 0 0] 43 :: L') M :=
    fun h => jj (a := a) (x := { x with d := d' }) hl (h.sub br)
   cases dr with
   | dh l =>
    dsimp only at he ⊢
    simp only [Option.some.injEq, Prod.mk.injEq] at he
    obtain ⟨FN, xP⟩ := he
    intro M h
    subst xP
    refine k M ?_
    rw [← FN]
    exact (mk h).b7
   | num mm =>
    dsimp only at he ⊢
    obtain ⟨v0, v1, htk2⟩ := HW d' mm rfl
    intro M h
    replace h := mk h
    clear mk
    refine c6 ?_
    generalize Dx : ({ x with d := d' } : Sc) = x1 at h he
    have e1 : x1.c = x.c := by rw [← Dx]
    have e2 : x1.ms = x.ms := by rw [← Dx]
    have e3 : x1.ps = x.ps := by rw [← Dx]
    have e4 : x1.d.k.Ok := by rw [← Dx]; exact aaa
    have e5 : x1.steps = x.steps := by rw [← Dx]
    clear Dx
    refine aj h ?_
    clear h; intro fV M h
    replace h : Hp R (ay (dZ pa p wb db) b x1 :: pt k1 [.int .i64 0, .int .i64 0, .int .i64 0, .slice none 0 0] 43 :: pt fV [.int .i64 0, .int .i64 0, .int .i64 0, .slice none 0 0] 43 :: L') M := h.sub br
    have fin : ∀ (R' : Mem) (A : Option Addr) (c : Nat) (M : Mem) (z : Sc) (e : Ev), R.le R' → RS bl R' A c e.ready → z.steps = x.steps → sO (z, .ev e) = (y, o) → Hp R' (ay (dZ pa p wb db) b z :: pt k1 [.int .i64 0, .int .i64 0, .int .i64 0, .slice none 0 0] 43 :: pt fV [.int .i64 0, .int .i64 0, .int .i64 0, .slice none 0 0] 43 :: L') M →
      aM M ⟨fV, 0, none⟩ (.int .i64 e.kind) fun pN => aM pN ⟨fV, (0 + 1), none⟩ (.int .i64 e.m) fun sS => aM sS ⟨fV, (0 + 2), none⟩ (.int .i64 e.g) fun m5 => aM m5 ⟨fV, (0 + 3), none⟩ (.slice A e.ready.length c) fun vK =>
      aI (Mem.ld vK ⟨b, (0 + 9), none⟩) .i64 fun vI => aM vK ⟨b, (0 + 9), none⟩ (.int .i64 (IntKind.wrap .i64 (vI + 1))) fun xK =>
      aI (Mem.ld xK ⟨fV, 0, none⟩) .i64 fun EE => aI (Mem.ld xK ⟨fV, (0 + 1), none⟩) .i64 fun MI => aI (Mem.ld xK ⟨fV, (0 + 2), none⟩) .i64 fun Pu => aB (Mem.ld xK ⟨fV, (0 + 3), none⟩) fun Qm F4 ko =>
      aM xK ⟨k1, 0, none⟩ (.int .i64 EE) fun vJ => aM vJ ⟨k1, (0 + 1), none⟩ (.int .i64 MI) fun pY => aM pY ⟨k1, (0 + 2), none⟩ (.int .i64 Pu) fun BX => aM BX ⟨k1, (0 + 3), none⟩ (.slice Qm F4 ko) fun pT =>
      aI (Mem.ld pT ⟨k1, 0, none⟩) .i64 fun yh => aI (Mem.ld pT ⟨k1, (0 + 1), none⟩) .i64 fun Kn => aI (Mem.ld pT ⟨k1, (0 + 2), none⟩) .i64 fun C7 => aB (Mem.ld pT ⟨k1, (0 + 3), none⟩) fun Pp kS nR =>
      K (.agg #[(.int .i64 yh), (.int .i64 Kn), (.int .i64 C7), (.slice Pp kS nR)]) pT := by
     intro R' A c M z e hle qY hzs hinc h
     obtain ⟨ho, hy⟩ := OT hinc
     subst ho; subst hy
     refine qz h ?_
     clear h; intro M h
     have h' := gh h (b := b)
     clear h
     obtain ⟨a3, Rj, h⟩ := h'
     have h' := rj h
     clear h
     obtain ⟨A4, c4, h⟩ := h'
     refine aG h ?_
     rw [cC (by omega) (by omega)]
     refine au h ?_
     clear h; intro M h
     refine qA h ?_
     refine qz h ?_
     clear h; intro M h
     refine qA h ?_
     refine k R' A c M hle qY (jj (a := a3) (x := { z with steps := z.steps + 1 }) Rj ?_)
     exact yQ (x := { z with steps := z.steps + 1 }) (h.sub br)
    have h' := gh h (b := b)
    clear h
    obtain ⟨a5, hl5, h⟩ := h'
    rw [ZX h]
    refine c6 ?_
    have Ct : ∀ {M : Mem}, Hp R (fX (dH b wb db a5 x1) x1.gl :: ay (bu pa p) wb x1.w :: ay cQ db x1.d :: dY a5 x1 (pt k1 [.int .i64 0, .int .i64 0, .int .i64 0, .slice none 0 0] 43 :: pt fV [.int .i64 0, .int .i64 0, .int .i64 0, .slice none 0 0] 43 :: L')) M → Hp R (ay (dZ pa p wb db) b x1 :: pt k1 [.int .i64 0, .int .i64 0, .int .i64 0, .slice none 0 0] 43 :: pt fV [.int .i64 0, .int .i64 0, .int .i64 0, .slice none 0 0] 43 :: L') M := fun h => jj (a := a5) hl5 h
    unfold Sc.act at he
    refine aY.2 ⟨fun em => ?_, fun em => ?_⟩
    ·rw [if_pos em] at he
     split at he
     ·rename_i aab
      simp only [Option.map_some, Option.some.injEq] at he
      refine HX (Ct h) aab ?_
      clear h; intro R' A c M hle qY h
      refine ⟨_, _, _, _, _, _, rfl, ?_⟩
      exact fin R' A c M _ _ hle qY (by rw [← e5]; rfl) he h
     ·cases he
    rw [if_neg em] at he
    have mlt : mm < x1.ms.length := by
     have a1 : x1.c.M = x.c.M := by rw [e1]
     have a2 : x1.ms.length = x.ms.length := by rw [e2]
     omega
    have nu := qC v0 mlt
    obtain ⟨q2, oX⟩ := h.bM (A := a5.am) (l := x1.ms) (by omega) (by decide)
    have hs0 := (h.src (A := a5.am)) M h
    rw [oX] at hs0
    rw [Ao h]
    refine aQ ⟨v0, mlt, ?_⟩
    refine OR oX ?_
    refine be (Sl.at hs0 (i := mm.toNat * 3 + 0) (by simp) (hU.mV (E := ju) nu rfl)) ?_
    refine aY.2 ⟨fun ep => ?_, fun ep => ?_⟩
    ·rw [if_pos ep] at he
     simp only [Option.map_some, Option.some.injEq] at he
     refine HY (Ct h) v0 mlt (by rw [e3]; omega) ?_
     clear h hs0; intro M h
     have Gw : (x1.hold mm).2.ready = [] := by unfold Sc.hold; split <;> rfl
     have tY : (x1.hold mm).1.steps = x.steps := by rw [← e5]; unfold Sc.hold; split <;> rfl
     refine ⟨_, _, _, _, _, _, rfl, ?_⟩
     exact fin R none 0 M _ _ (Mem.le_refl _) (by rw [Gw]; exact RS.nil _ _) tY he h
    rw [if_neg ep] at he
    refine aQ ⟨v0, mlt, ?_⟩
    refine OR oX ?_
    refine be (Sl.at hs0 (i := mm.toNat * 3 + 1) (by simp) (hU.mV (E := ju) nu rfl)) ?_
    clear hs0
    refine aY.2 ⟨fun eg => ?_, fun eg => ?_⟩
    ·rw [if_pos eg] at he
     split at he
     ·rename_i hfo
      simp only [Option.map_some, Option.some.injEq] at he
      have tY : (x1.find mm).1.steps = x.steps := by
       rw [← e5]
       have Cl : ∀ (z : Sc) a b c d e, (z.bL a b c d e).1.steps = z.steps := by intro z a b c d e; unfold Sc.bL; split <;> rfl
       unfold Sc.find
       dsimp only
       split
       ·rfl
       ·split
        ·split
         ·rfl
         ·split <;> exact Cl ..
        ·exact Cl ..
      have hrd : ∀ e, (x1.find mm).2 = .ev e → e.ready = [] := by
       have Cl : ∀ (z : Sc) a b c d e, (z.bL a b c d e).2.ready = [] := by intro z a b c d e; unfold Sc.bL; split <;> rfl
       intro e Gw
       unfold Sc.find at Gw
       dsimp only at Gw
       split at Gw
       ·cases Gw; rfl
       ·split at Gw
        ·split at Gw
         ·cases Gw
         ·split at Gw <;> · cases Gw; exact Cl ..
        ·cases Gw; exact Cl ..
      refine HZ (Ct h) hfo e4 ?_
      clear h
      generalize MB : x1.find mm = ff at he tY hrd ⊢
      obtain ⟨z, oo⟩ := ff
      cases oo with
      | ev e =>
       dsimp only at tY hrd ⊢
       intro M h
       refine ⟨_, _, _, _, _, _, rfl, ?_⟩
       have hr0 : e.ready = [] := hrd e rfl
       exact fin R none 0 M _ e (Mem.le_refl _) (by rw [hr0]; exact RS.nil _ _) tY he h
      | dh l =>
       dsimp only
       intro M h
       unfold sO at he
       cases he
       exact k M h.b7
     ·cases he
    rw [if_neg eg] at he
    cases hrun : x1.run p mm with
    | none => rw [hrun] at he; cases he
    | some rr =>
     obtain ⟨z, oo⟩ := rr
     rw [hrun] at he
     simp only [Option.map_some, Option.some.injEq] at he
     refine Lb (Ct h) hp e4 hrun ?_
     clear h
     have tY : z.steps = x.steps := by
      rw [← e5]
      unfold Sc.run at hrun
      split at hrun
      ·rename_i aac
       obtain ⟨_, _, i0, i1, _⟩ := aac
       have LW : ∀ d w rest, gG x1 mm (az x1 mm).g d w rest = some (z, oo) → z.steps = x1.steps := by
        intro d w rest LW
        unfold gG at LW
        split at LW
        ·simp only [Option.some.injEq, Prod.mk.injEq] at LW
         rw [← LW.1]
         have := iw (m := mm) w.ready { x1 with w := w, d := d } i0 i1
         unfold Sc.lK
         split <;> exact this.2.2.2.2.2.1
        ·cases LW
       split at hrun
       ·split at hrun
        ·cases hrun
        ·simp only [Option.some.injEq, Prod.mk.injEq] at hrun; rw [← hrun.1]
        ·exact LW _ _ _ hrun
        ·exact LW _ _ _ hrun
       ·cases hrun
      ·cases hrun
     cases oo with
     | ev e =>
      intro R' A c M hle qY h
      refine ⟨_, _, _, _, _, _, rfl, ?_⟩
      exact fin R' A c M _ e hle qY tY he h
     | dh l =>
      intro M h
      unfold sO at he
      cases he
      exact k M h.b7
 ·cases he
end
def Sc.new (p : bZ) (c : Jm) (d : jE) : Sc := ⟨Wd.new p, c, List.replicate c.P.toNat ⟨⟨-1, fa c.R, []⟩, 0, -1⟩, List.replicate c.M.toNat ⟨-1, -1, 0⟩, [0], d, 0⟩
theorem Jo : bj Tryz.prog 132 141 3 24 [.pointer none, .int .i64 0, .int .i64 0] := bj.mk' (zv := .agg #[.pointer none, .int .i64 0, .int .i64 0]) (by kernel_rfl) (by kernel_rfl) rfl (by omega)
theorem RK : bj Tryz.prog 133 143 3 24 [.int .i64 0, .int .i64 0, .int .i64 0] := bj.mk' (zv := .agg #[.int .i64 0, .int .i64 0, .int .i64 0]) (by kernel_rfl) (by kernel_rfl) rfl (by omega)
theorem Cy {bs : List Nat} {ps : List dU} {b : Nat} {y : dU} (h : bs.length = ps.length) : bV (bs ++ [b]) (ps ++ [y]) = bV bs ps ++ [(b, y.turns, y.ia)] := by
 unfold bV; rw [List.zipWith_append h]; rfl
section
variable {R : Mem} {L L' L2 : List HP} {M : Mem} {K : Value → Mem → Prop} {Kp : List PanicEntry → Mem → Prop} {pa : PA} {p : bZ} {b wb db : Nat} {x : Sc} {m i : Int}
theorem Cz {c : Jm} {d : jE} (h : Hp R L M) [o : cq cQ db L d L'] (xO : RS bl R pa.c pa.cc p.dx) (hc : p.dx.length ≤ 1000000) (hk : 0 ≤ p.aK ∧ p.aK ≤ 1000000) (hP : 0 ≤ c.P ∧ c.P ≤ 1000000) (hM : 0 ≤ c.M ∧ c.M ≤ 1000000)
  (k : ∀ b wb M', Hp R (ay (dZ pa p wb db) b (Sc.new p c d) :: L') M' → K (.pointer (some ⟨b, 0, none⟩)) M') :
  aa Tryz.prog 15 #[.agg #[.slice pa.f p.funcs.length pa.fc, .slice pa.c p.dx.length pa.cc, .int .i64 p.aK, .slice pa.k p.cases.length pa.kc], .agg #[.int .i64 c.P, .int .i64 c.M, .int .i64 c.R, .int .i64 c.S], .pointer (some ⟨db, 0, none⟩)] M K Kp := by
 refine Dc ?_
 replace h := h.front cQ db
 refine aj h ?_
 clear h; intro k1 M h
 refine aj h ?_
 clear h; intro k3 M h
 refine aF h (aF h (aG h (aF h ?_)))
 refine aG h (aG h (aG h (aG h ?_)))
 refine Cj (p := p) (pa := pa) h xO hc hk ?_
 clear h; intro wb M h
 refine jL ⟨jM (bO h) (jM (bO h) (jM (bO h) (jM (bO h) uw))), ?_⟩
 refine aj h ?_
 clear h; intro b M h
 refine aG h ?_
 replace h := ((((h.bY qy 141).uI bP).bY ju 143).bY bl 3)
 obtain ⟨nP, hnP⟩ := Int.eq_ofNat_of_zero_le hP.1
 obtain ⟨nM, hnM⟩ := Int.eq_ofNat_of_zero_le hM.1
 refine ⟨fun dd vs M => ∃ (j : Nat) (A : Option Addr) (ca : Nat) (vM : List Nat), vs = [.int .i64 (j : Int)] ∧ dd = nP - j ∧ j ≤ nP ∧ vM.length = j ∧
   Hp R (pt b [.pointer (some ⟨wb, 0, none⟩), .int .i64 c.P, .int .i64 c.M, .int .i64 c.R, .int .i64 c.S, .slice A j ca, .slice none 0 0, .slice none 0 0, .pointer (some ⟨db, 0, none⟩), .int .i64 0] 137 ::
    ck A ca (bV vM (List.replicate j ⟨⟨-1, fa c.R, []⟩, 0, -1⟩)) :: bn bP vM (List.replicate j ⟨-1, fa c.R, []⟩) :: cw none 0 [] :: lU none 0 [] :: ay (bu pa p) wb (Wd.new p) :: ay cQ db d :: pt k3 [.int .i64 c.P, .int .i64 c.M, .int .i64 c.R, .int .i64 c.S] 29 :: L') M,
  ⟨_, 0, none, 0, [], rfl, rfl, by omega, rfl, h.sub br⟩, ?_⟩
 clear h
 rintro dd _ nn M ⟨j, A, ca, vM, he, hd, hj, hlb, h⟩
 simp only [List.cons.injEq, Value.int.injEq, and_true, true_and] at he
 subst he
 refine aN.2 ⟨fun hlt => ?_, fun hge => ?_⟩
 ·have lq : (List.replicate j (⟨⟨-1, fa c.R, []⟩, 0, -1⟩ : dU)).length = j := List.length_replicate
  refine ⟨fun vs M => ∃ (A : Option Addr) (ca : Nat) (lb : Nat),
   Hp R (pt b [.pointer (some ⟨wb, 0, none⟩), .int .i64 c.P, .int .i64 c.M, .int .i64 c.R, .int .i64 c.S, .slice A (j + 1) ca, .slice none 0 0, .slice none 0 0, .pointer (some ⟨db, 0, none⟩), .int .i64 0] 137 ::
    ck A ca (bV (vM ++ [lb]) (List.replicate (j + 1) ⟨⟨-1, fa c.R, []⟩, 0, -1⟩)) :: bn bP (vM ++ [lb]) (List.replicate (j + 1) ⟨-1, fa c.R, []⟩) :: cw none 0 [] :: lU none 0 [] :: ay (bu pa p) wb (Wd.new p) :: ay cQ db d :: pt k3 [.int .i64 c.P, .int .i64 c.M, .int .i64 c.R, .int .i64 c.S] 29 :: L') M, aG h ⟨?_, ?_, trivial⟩, ?_⟩
  ·refine aF h ?_
   refine Cd h ?_
   clear h; intro lb M h
   refine jL ?_
   refine aj h ?_
   clear h; intro sV M h
   refine h.eF (A := A) Jo [(lb, 0, -1)] rfl (by rw [lJ (by rw [hlb, lq]), lq]) rfl (by rw [lJ (by rw [hlb, lq]), lq]; simp only [List.length_singleton]; omega) ?_
   clear h; intro A' c' M h
   refine aQ ?_
   refine au h ?_
   clear h; intro M h
   replace h := h.kT bP lb (by rw [hlb, List.length_replicate])
   refine ⟨A', c', lb, ?_⟩
   have e1 : bV (vM ++ [lb]) (List.replicate (j + 1) (⟨⟨-1, fa c.R, []⟩, 0, -1⟩ : dU)) = bV vM (List.replicate j ⟨⟨-1, fa c.R, []⟩, 0, -1⟩) ++ [(lb, 0, -1)] := by
    rw [List.replicate_succ', Cy (by rw [hlb, lq])]
   have e2 : List.replicate (j + 1) (⟨-1, fa c.R, []⟩ : Loc) = List.replicate j ⟨-1, fa c.R, []⟩ ++ [⟨-1, fa c.R, []⟩] := List.replicate_succ'
   rw [e1, e2]
   exact h.sub br
  ·refine Cd h ?_
   clear h; intro lb M h
   refine jL ?_
   refine aF h ?_
   refine aj h ?_
   clear h; intro sV M h
   refine h.eF (A := A) Jo [(lb, 0, -1)] rfl (by rw [lJ (by rw [hlb, lq]), lq]) rfl (by rw [lJ (by rw [hlb, lq]), lq]; simp only [List.length_singleton]; omega) ?_
   clear h; intro A' c' M h
   refine aQ ?_
   refine au h ?_
   clear h; intro M h
   replace h := h.kT bP lb (by rw [hlb, List.length_replicate])
   refine ⟨A', c', lb, ?_⟩
   have e1 : bV (vM ++ [lb]) (List.replicate (j + 1) (⟨⟨-1, fa c.R, []⟩, 0, -1⟩ : dU)) = bV vM (List.replicate j ⟨⟨-1, fa c.R, []⟩, 0, -1⟩) ++ [(lb, 0, -1)] := by
    rw [List.replicate_succ', Cy (by rw [hlb, lq])]
   have e2 : List.replicate (j + 1) (⟨-1, fa c.R, []⟩ : Loc) = List.replicate j ⟨-1, fa c.R, []⟩ ++ [⟨-1, fa c.R, []⟩] := List.replicate_succ'
   rw [e1, e2]
   exact h.sub br
  ·clear h
   rintro _ M ⟨A', c', lb, h⟩
   rw [aW (by omega)]
   exact ⟨nP - (j + 1), by omega, j + 1, A', c', vM ++ [lb], rfl, rfl, by omega, by simp [hlb], h⟩
 have WW : j = nP := by omega
 subst WW
 refine aG h ?_
 refine ⟨fun dd vs M => ∃ (q : Nat) (B : Option Addr) (cb : Nat), vs = [.int .i64 (q : Int)] ∧ dd = nM - q ∧ q ≤ nM ∧
   Hp R (pt b [.pointer (some ⟨wb, 0, none⟩), .int .i64 c.P, .int .i64 c.M, .int .i64 c.R, .int .i64 c.S, .slice A j ca, .slice B q cb, .slice none 0 0, .pointer (some ⟨db, 0, none⟩), .int .i64 0] 137 ::
    ck A ca (bV vM (List.replicate j ⟨⟨-1, fa c.R, []⟩, 0, -1⟩)) :: bn bP vM (List.replicate j ⟨-1, fa c.R, []⟩) :: cw B cb (List.replicate q ⟨-1, -1, 0⟩) :: lU none 0 [] :: ay (bu pa p) wb (Wd.new p) :: ay cQ db d :: pt k3 [.int .i64 c.P, .int .i64 c.M, .int .i64 c.R, .int .i64 c.S] 29 :: L') M,
  ⟨_, 0, none, 0, rfl, rfl, by omega, h.sub br⟩, ?_⟩
 clear h
 rintro dd _ nn M ⟨q, B, cb, he, Py, hq, h⟩
 simp only [List.cons.injEq, Value.int.injEq, and_true, true_and] at he
 subst he
 refine aN.2 ⟨fun hlt => ?_, fun RL => ?_⟩
 ·refine aF h ?_
  refine aj h ?_
  clear h; intro wK M h
  refine h.eF (A := B) RK [(⟨-1, -1, 0⟩ : Bm)] rfl (by simp) rfl (by simp; omega) ?_
  clear h; intro B' cb' M h
  refine aQ ?_
  refine au h ?_
  clear h; intro M h
  rw [aW (by omega)]
  have e : List.replicate q (⟨-1, -1, 0⟩ : Bm) ++ [⟨-1, -1, 0⟩] = List.replicate (q + 1) ⟨-1, -1, 0⟩ := List.replicate_succ'.symm
  rw [e] at h
  exact ⟨nM - (q + 1), by omega, q + 1, B', cb', rfl, rfl, by omega, h.sub br⟩
 have hqn : q = nM := by omega
 subst hqn
 refine aj h ?_
 clear h; intro DS M h
 have e0 : Sc.new p c d = ⟨Wd.new p, c, List.replicate j ⟨⟨-1, fa c.R, []⟩, 0, -1⟩, List.replicate q ⟨-1, -1, 0⟩, [0], d, 0⟩ := by
  unfold Sc.new; rw [hnP, hnM]; rfl
 have e3 : (List.replicate j (⟨⟨-1, fa c.R, []⟩, 0, -1⟩ : dU)).map dU.q = List.replicate j ⟨-1, fa c.R, []⟩ := by simp
 replace h := (h.pt DS).gW (E := bl) (l := [0]) rfl
 generalize hz : (⟨Wd.new p, c, List.replicate j ⟨⟨-1, fa c.R, []⟩, 0, -1⟩, List.replicate q ⟨-1, -1, 0⟩, [0], d, 0⟩ : Sc) = z at e0
 have z1 : eL wb db ⟨A, ca, vM, B, cb⟩ z none 0 0 = [.pointer (some ⟨wb, 0, none⟩), .int .i64 c.P, .int .i64 c.M, .int .i64 c.R, .int .i64 c.S, .slice A j ca, .slice B q cb, .slice none 0 0, .pointer (some ⟨db, 0, none⟩), .int .i64 0] := by
  rw [← hz]; simp [eL]
 rw [← z1] at h
 have h2 : Hp R (pt b (eL wb db ⟨A, ca, vM, B, cb⟩ z none 0 0) 137 :: lU none 0 [] :: lU (some ⟨DS, 0, none⟩) 1 [0] :: ay (bu pa p) wb (Wd.new p) :: ay cQ db d :: ck A ca (bV vM (List.replicate j ⟨⟨-1, fa c.R, []⟩, 0, -1⟩)) :: bn bP vM (List.replicate j ⟨-1, fa c.R, []⟩) :: cw B cb (List.replicate q ⟨-1, -1, 0⟩) :: L') M := h.sub br
 have h3 : Hp R (fX (dH b wb db ⟨A, ca, vM, B, cb⟩ z) [] :: lU (some ⟨DS, 0, none⟩) 1 [0] :: ay (bu pa p) wb (Wd.new p) :: ay cQ db d :: ck A ca (bV vM (List.replicate j ⟨⟨-1, fa c.R, []⟩, 0, -1⟩)) :: bn bP vM (List.replicate j ⟨-1, fa c.R, []⟩) :: cw B cb (List.replicate q ⟨-1, -1, 0⟩) :: L') M := I7 (P := dH b wb db ⟨A, ca, vM, B, cb⟩ z) h2 rfl
 clear h h2
 refine oc (P := dH b wb db ⟨A, ca, vM, B, cb⟩ z) Ai h3 (Src.row (A := some ⟨DS, 0, none⟩)) rfl (by simp) ?_
 clear h3; intro M h
 refine ⟨rfl, ?_⟩
 refine k b wb M ?_
 rw [e0]
 refine jj (a := ⟨A, ca, vM, B, cb⟩) (x := z) (by rw [← hz]; simp [hlb]) ?_
 rw [← hz] at h ⊢
 unfold dY
 dsimp only at h ⊢
 rw [e3]
 exact h.sub br
end
section
variable {p : bZ} {x y : Sc} {o : iK} {m : Int}
theorem rm {i k g : Int} {t : Bool} : (x.bL m i k g t).1.d = x.d := by unfold Sc.bL; split <;> rfl
theorem yS {g : Int} {d : jE} {w : Wd} {rest : Bool} (h : gG x m g d w rest = some (y, o)) (i0 : 0 ≤ (az x m).p) (i1 : (az x m).p < x.ps.length) : y.d = d := by
 unfold gG at h
 split at h
 ·simp only [Option.some.injEq, Prod.mk.injEq] at h
  rw [← h.1]
  have := iw (m := m) w.ready { x with w := w, d := d } i0 i1
  unfold Sc.lK
  split <;> exact this.2.2.2.1
 ·cases h
end
def mJ (ps : List dU) (a : Int) : Nat := ((ps.map dU.q).flatMap Loc.all).count a
def FP (ms : List Bm) (a : Int) : Nat := (ms.flatMap fun m => j7 m.g).count a
def nv (x : Sc) (a : Int) : Nat := mJ x.ps a + x.gl.count a + FP x.ms a
def RM (q : Loc) : Prop := q.l.length ≤ q.room ∧ q.room ≤ 1024 ∧ 0 < q.room
def MV (P : Nat) (m : Bm) : Prop := (m.p = -1 ∧ m.g = -1 ∧ m.left = 0) ∨ (0 ≤ m.p ∧ m.p < P ∧ -1 ≤ m.g ∧ 0 ≤ m.left ∧ m.left ≤ 1024 ∧ (0 ≤ m.g → 1 ≤ m.left))
structure SV (p : bZ) (N : Nat) (x : Sc) : Prop where
 w : WV p x.w
 one : ∀ a, At x.w a 1 → nv x a = 1
 zero : ∀ a, ¬ At x.w a 1 → nv x a = 0
 cP : x.c.P = x.ps.length
 cM : x.c.M = x.ms.length
 P1 : 1 ≤ x.ps.length ∧ x.ps.length ≤ 64
 M1 : 1 ≤ x.ms.length ∧ x.ms.length ≤ 64
 cS : 1 ≤ x.c.S ∧ x.c.S ≤ 1024
 room : ∀ pr ∈ x.ps, RM pr.q
 gR : ∀ pr ∈ x.ps, 0 ≤ pr.turns ∧ pr.turns ≤ N
 ms : ∀ m ∈ x.ms, MV x.ps.length m
 ia : ∀ (i : Nat) m, x.ms[i]? = some m → m.p ≠ -1 → (aJ x m.p).ia = i
 st : 0 ≤ x.steps ∧ x.steps ≤ N
 tk : x.d.taken.length ≤ 3 * N
 k : x.d.k.Ok
section
variable {p : bZ} {N : Nat} {x y z : Sc} {m i g a : Int}
theorem qF {ps : List dU} {j : Nat} {pr S8 : dU} (h : ps[j]? = some pr) : mJ (ps.set j S8) a + pr.q.all.count a = mJ ps a + S8.q.all.count a := by
 unfold mJ
 rw [List.map_set]
 exact Rb a (by rw [List.getElem?_map, h]; rfl)
theorem Av : ∀ {ms : List Bm} {j : Nat} {mc sP : Bm}, ms[j]? = some mc → FP (ms.set j sP) a + (j7 mc.g).count a = FP ms a + (j7 sP.g).count a
 | [], _, _, _, h => by simp at h
 | z :: ms, 0, mc, sP, h => by
  simp only [List.getElem?_cons_zero, Option.some.injEq] at h; subst h
  simp only [FP, List.set_cons_zero, List.flatMap_cons, List.count_append]; omega
 | z :: ms, j + 1, mc, sP, h => by
  have := Av (ms := ms) (sP := sP) (j := j) (by simpa using h)
  simp only [FP, List.set_cons_succ, List.flatMap_cons, List.count_append] at *; omega
theorem tZ {α : Type} (f : α → List Int) : ∀ (l : List α) (b : α), b ∈ l → (f b).count a ≤ (l.flatMap f).count a
 | c :: l, b, h => by
  simp only [List.flatMap_cons, List.count_append]
  rcases List.mem_cons.1 h with rfl | h
  ·omega
  ·have := tZ f l b h; omega
theorem SV.le1 (h : SV p N x) : nv x a ≤ 1 := by
 by_cases e : At x.w a 1
 ·rw [h.one a e]; omega
 ·rw [h.zero a e]; omega
theorem SV.at_ (h : SV p N x) (hc : 0 < nv x a) : At x.w a 1 := Classical.byContradiction fun e => by rw [h.zero a e] at hc; omega
theorem SV.aad (h : SV p N x) : ∀ v ∈ x.gl, 0 ≤ v := fun v hv => (h.at_ (a := v) (by have : 0 < x.gl.count v := List.count_pos_iff.2 hv; unfold nv; omega)).1
theorem SV.aae (h : SV p N x) {pr : dU} (hp : pr ∈ x.ps) : pr.q.Pos := by
 have iJ : ∀ v ∈ pr.q.all, 0 ≤ v := fun v hv => (h.at_ (a := v) (by
  have h1 := tZ (a := v) Loc.all (x.ps.map dU.q) pr.q (List.mem_map.2 ⟨pr, hp, rfl⟩)
  have : 0 < pr.q.all.count v := List.count_pos_iff.2 hv
  unfold nv mJ; omega)).1
 refine ⟨?_, fun v hv => iJ v (by unfold Loc.all; simp [hv])⟩
 by_cases hn : pr.q.next = -1
 ·omega
 ·have := iJ pr.q.next (by unfold Loc.all; rw [if_neg hn]; simp)
  omega
theorem SV.Wn (h : SV p N x) : x.gl.length ≤ 100 := by
 have h1 := qZ (b := 1) x.w.gs.length x.gl (fun v hv => by
  have := h.at_ (a := v) (by have : 0 < x.gl.count v := List.count_pos_iff.2 hv; unfold nv; omega)
  exact ⟨this.1, this.2.1⟩) (fun v => by have := h.le1 (a := v); unfold nv at this; omega)
 have := h.w.n2
 omega
theorem SV.mg (h : SV p N x) {mc : Bm} (hm : mc ∈ x.ms) (h0 : 0 ≤ mc.g) : At x.w mc.g 1 := h.at_ (by
 have h1 := tZ (a := mc.g) (fun m : Bm => j7 m.g) x.ms mc hm
 have : (j7 mc.g).count mc.g = 1 := by rw [jh h0]; simp
 unfold nv FP; omega)
theorem qG (h0 : 0 ≤ m) (hm : m < x.ms.length) : x.ms[m.toNat]? = some (az x m) := by
 obtain ⟨y, hy⟩ := aU (l := x.ms) (i := m.toNat) (by omega)
 rw [hy]; simp [az, hy]
theorem DE (h0 : 0 ≤ i) (hi : i < x.ps.length) : x.ps[i.toNat]? = some (aJ x i) := by
 obtain ⟨y, hy⟩ := aU (l := x.ps) (i := i.toNat) (by omega)
 rw [hy]; simp [aJ, hy]
def ue : dU := ⟨⟨-1, 0, []⟩, 0, -1⟩
theorem SV.go (h : SV p N x) (m0 : 0 ≤ m) (m1 : m < x.ms.length) (i0 : 0 ≤ i) (i1 : i < x.ps.length) (ps' : List dU) (sP : Bm) (La : List Int) (d' : jE)
  (hl : ps'.length = x.ps.length) (hr : ∀ pr ∈ ps', RM pr.q ∧ 0 ≤ pr.turns ∧ pr.turns ≤ N + 1) (hb : ∀ j : Nat, j ≠ i.toNat → (ps'.getD j ue).ia = (x.ps.getD j ue).ia)
  (hbi : sP.p = -1 ∨ sP.p = i ∧ (ps'.getD i.toNat ue).ia = m) (hold : (az x m).p = i ∨ (aJ x i).ia = -1) (vN : MV x.ps.length sP)
  (hc : ∀ a, mJ ps' a + La.count a + (j7 sP.g).count a = mJ x.ps a + x.gl.count a + (j7 (az x m).g).count a) (hd : d'.taken.length ≤ 3 * N + 3) (hk : d'.k.Ok) :
  SV p (N + 1) { x with ps := ps', ms := x.ms.set m.toNat sP, gl := La, d := d' } := by
 have nu := qG m0 m1
 have hS : ∀ a, nv { x with ps := ps', ms := x.ms.set m.toNat sP, gl := La, d := d' } a = nv x a := fun a => by
  have e1 := Av (a := a) (sP := sP) nu
  have e2 := hc a
  unfold nv
  dsimp only
  omega
 refine ⟨h.w, fun a ha => by rw [hS]; exact h.one a ha, fun a ha => by rw [hS]; exact h.zero a ha, by rw [hl]; exact h.cP, by simpa using h.cM, by rw [hl]; exact h.P1, by simpa using h.M1, h.cS, fun pr hp => (hr pr hp).1, fun pr hp => (by have := (hr pr hp).2; omega), fun mc GF => ?_, fun j mc hj hne => ?_, by have := h.st; dsimp only; omega, by dsimp only; omega, hk⟩
 ·rw [hl]
  rcases jJ GF with GF | rfl
  ·exact h.ms mc GF
  ·exact vN
 ·by_cases e : j = m.toNat
  ·subst e
   rw [List.getElem?_set_self (by omega)] at hj
   simp only [Option.some.injEq] at hj
   subst hj
   rcases hbi with hbi | ⟨e1, e2⟩
   ·exact absurd hbi hne
   ·show (ps'.getD sP.p.toNat ue).ia = _
    rw [e1, e2]; omega
  ·rw [List.getElem?_set_ne (Ne.symm e)] at hj
   have hby := h.ia j mc hj hne
   have hmv2 := h.ms mc (List.mem_of_getElem? hj)
   have hpi : mc.p.toNat ≠ i.toNat := by
    intro e2
    have e3 : mc.p = i := by rcases hmv2 with hh | hh; exact absurd hh.1 hne; omega
    rw [e3] at hby
    rcases hold with e4 | e4
    ·have := h.ia m.toNat (az x m) nu (by rw [e4]; omega)
     rw [e4, hby] at this
     omega
    ·rw [e4] at hby; omega
   show (ps'.getD mc.p.toNat ue).ia = _
   rw [hb _ hpi]
   exact hby
end
section
variable {p : bZ} {N : Nat} {x y z : Sc} {m i g a : Int}
theorem RN {q : Loc} (h : ∀ v ∈ q.all, 0 ≤ v) : q.Pos := by
 refine ⟨?_, fun v hv => h v (by unfold Loc.all; simp [hv])⟩
 by_cases hn : q.next = -1
 ·omega
 ·have := h q.next (by unfold Loc.all; rw [if_neg hn]; simp)
  omega
theorem RO {q : Loc} (h : q.Pos) : ∀ v ∈ q.all, 0 ≤ v := by
 intro v hv
 unfold Loc.all at hv
 rcases List.mem_append.1 hv with hv | hv
 ·split at hv
  ·cases hv
  ·simp only [List.mem_singleton] at hv; subst hv; have := h.1; omega
 ·exact h.2 v hv
theorem RP {q : Loc} {t : Int} {gl : List Int} (hq : q.Pos) (hb : RM q) (hg : ∀ v ∈ gl, 0 ≤ v) :
  RM (sN q t gl).1 ∧ (∀ a, (sN q t gl).1.all.count a + (sN q t gl).2.1.count a + (j7 (sN q t gl).2.2.1).count a = q.all.count a + gl.count a) ∧
   ((sN q t gl).2.2.2 = true → 0 ≤ (sN q t gl).2.2.1) ∧ ((sN q t gl).2.2.2 = false → (sN q t gl).2.2.1 = -1) := by
 have c1 := Oi q gl
 have b1 := Rc hb gl
 unfold sN
 generalize q.gR gl = r at c1 b1
 obtain ⟨q1, g1, n1⟩ := r
 dsimp only at c1 b1 ⊢
 have nn : ∀ v, 0 < q.all.count v + gl.count v → 0 ≤ v := fun v hv => by
  by_cases e : v ∈ gl
  ·exact hg v e
  ·rw [List.count_eq_zero.2 e] at hv
   exact RO hq v (List.count_pos_iff.1 (by omega))
 have p1 : q1.Pos := RN fun v hv => nn v (by have : 0 < q1.all.count v := List.count_pos_iff.2 hv; have := c1 v; omega)
 have KO : ∀ v ∈ g1, 0 ≤ v := fun v hv => nn v (by have : 0 < g1.count v := List.count_pos_iff.2 hv; have := c1 v; omega)
 split
 ·rename_i hh
  cases g1 with
  | nil => simp at hh
  | cons v l =>
   refine ⟨b1, fun a => ?_, fun _ => KO v (by simp), fun e => by cases e⟩
   have := c1 a
   simp only [List.drop_succ_cons, List.drop_zero, List.headD_cons]
   rw [jh (KO v (by simp))]
   simp only [List.count_cons, List.count_nil] at *
   omega
 ·split
  ·rename_i hh
   have hgp := Ja p1
   have h0 : 0 ≤ q1.get.2 := by
    rcases hgp with ⟨e1, e2, _⟩ | ⟨_, h0⟩
    ·unfold w9 at hh
     rw [e1, e2] at hh
     cases hh
    ·exact h0
   refine ⟨Om b1, fun a => ?_, fun _ => h0, fun e => by cases e⟩
   have := c1 a
   have := I9 q1 p1 a
   dsimp only
   omega
  ·rename_i hh
   have e1 : q1.next = -1 ∧ q1.l = [] := by
    unfold w9 at hh
    simp only [Bool.or_eq_true, bne_iff_ne, ne_eq, Bool.not_eq_true', List.isEmpty_eq_false_iff, not_or, Decidable.not_not] at hh
    exact hh
   have eg : q1.get = (q1, -1) := by
    unfold Loc.get
    rw [if_neg (by rw [e1.1]; decide), e1.2]
   rw [eg]
   dsimp only
   have c2 := KI q1 g1 KO 0
   refine ⟨On b1 _ _, fun a => ?_, fun e => ?_, fun e => ?_⟩
   ·have := c1 a
    have := c2 a
    omega
   ·rcases Cg (x := q1) KO 0 with ⟨e2, _⟩ | ⟨_, h0⟩
    ·rw [e2] at e; cases e
    ·exact h0
   ·rcases Cg (x := q1) KO 0 with ⟨_, h0⟩ | ⟨e2, _⟩
    ·exact h0
    ·cases g1 with
     | nil => exact absurd rfl e2
     | cons v l => cases e
theorem SV.mono {N' : Nat} (h : SV p N x) (hn : N ≤ N') : SV p N' x :=
 ⟨h.w, h.one, h.zero, h.cP, h.cM, h.P1, h.M1, h.cS, h.room, fun pr hp => by have := h.gR pr hp; omega, h.ms, h.ia, by have := h.st; omega, by have := h.tk; omega, h.k⟩
theorem SV.inc (h : SV p (N + 1) y) (hs : 0 ≤ y.steps ∧ y.steps ≤ N) : SV p (N + 1) { y with steps := y.steps + 1 } :=
 ⟨h.w, h.one, h.zero, h.cP, h.cM, h.P1, h.M1, h.cS, h.room, h.gR, h.ms, h.ia, by dsimp only; omega, h.tk, h.k⟩
theorem SV.draw {d' : jE} (h : SV p N x) (hd : d'.taken.length ≤ 3 * N + 3) (hk : d'.k.Ok) : SV p (N + 1) { x with d := d' } :=
 ⟨h.w, h.one, h.zero, h.cP, h.cM, h.P1, h.M1, h.cS, h.room, fun pr hp => by have := h.gR pr hp; omega, h.ms, h.ia, by have := h.st; dsimp only; omega, by dsimp only; omega, hk⟩
theorem en {l : List dU} {n : Nat} {b : dU} (h : n < l.length) : (l.set n b).getD n ue = b := by simp [List.getD_eq_getElem?_getD, List.getElem?_set_self h]
theorem getD_set_ne {l : List dU} {n j : Nat} {b : dU} (h : j ≠ n) : (l.set n b).getD j ue = l.getD j ue := by simp [List.getD_eq_getElem?_getD, List.getElem?_set_ne (Ne.symm h)]
theorem SV.hold {d' : jE} (h : SV p N x) (m0 : 0 ≤ m) (m1 : m < x.ms.length) (hm : (az x m).p = -1) (hd : d'.taken.length ≤ 3 * N + 3) (hk : d'.k.Ok) : SV p (N + 1) (Sc.hold { x with d := d' } m).1 ∧ (Sc.hold { x with d := d' } m).1.steps = x.steps := by
 unfold Sc.hold
 dsimp only
 have nu := qG m0 m1
 split
 ·rename_i n hn
  obtain ⟨hlt, hb, _⟩ := List.findIdx?_eq_some_iff_getElem.1 hn
  have nt := DE (x := x) (i := (n : Int)) (by omega) (by omega)
  rw [Int.toNat_natCast] at nt
  have eb : (aJ x (n : Int)).ia = -1 := by
   rw [List.getElem?_eq_getElem hlt, Option.some.injEq] at nt
   rw [← nt]; simpa using hb
  have vN := h.ms _ (List.mem_of_getElem? nu)
  have hg : (az x m).g = -1 ∧ (az x m).left = 0 := by rcases vN with e | e; exact e.2; omega
  refine ⟨?_, rfl⟩
  refine h.go (i := (n : Int)) m0 m1 (by omega) (by omega) (x.ps.set n { aJ x (n : Int) with ia := m }) { az x m with p := (n : Int) } x.gl d' (by simp) (fun pr hp => ?_) (fun j hj => ?_) (.inr ⟨rfl, ?_⟩) (.inr eb) (.inr ⟨by dsimp only; omega, by dsimp only; omega, by dsimp only; omega, by dsimp only; omega, by dsimp only; omega, by dsimp only; omega⟩) (fun a => ?_) hd hk
  ·rcases List.mem_or_eq_of_mem_set hp with hp | rfl
   ·exact ⟨h.room pr hp, by have := h.gR pr hp; omega⟩
   ·have hm := List.mem_of_getElem? nt
    exact ⟨h.room (aJ x (n : Int)) hm, by have := h.gR _ hm; dsimp only; omega⟩
  ·rw [Int.toNat_natCast] at hj
   rw [getD_set_ne hj]
  ·rw [Int.toNat_natCast, en hlt]
  ·have := qF (a := a) (S8 := { aJ x (n : Int) with ia := m }) nt
   dsimp only at *
   omega
 ·exact ⟨h.draw hd hk, rfl⟩
theorem SV.tick {d' : jE} (h : SV p N x) (hd : d'.taken.length ≤ 3 * N + 3) (hk : d'.k.Ok) : Ak { x with d := d' } ∧ SV p (N + 1) (Sc.tick { x with d := d' }).1 ∧ (Sc.tick { x with d := d' }).1.steps = x.steps := by
 obtain ⟨t1, t2, t3, t4⟩ := RF h.w
 have hg := h.Wn
 refine ⟨⟨by have := h.w.Jg; dsimp only; omega, t1, by dsimp only; omega⟩, ?_, rfl⟩
 unfold Sc.tick
 dsimp only
 obtain ⟨a1, l, a2, a3, a4, a5⟩ := t3
 rw [List.nil_append] at a2
 rw [a2]
 have hS : ∀ a, nv { x with w := x.w.tick, gl := x.gl ++ l, d := d' } a = nv x a + l.count a := fun a => by
  unfold nv; dsimp only; rw [List.count_append]; omega
 have hA : ∀ a, At x.w.tick a 1 ↔ At x.w a 1 ∨ a ∈ l := fun a => by
  constructor
  ·rintro ⟨b1, b2, b3⟩
   by_cases e : a ∈ l
   ·exact .inr e
   ·refine .inl ⟨b1, by rw [a1] at b2; exact b2, ?_⟩
    rw [a5 a b1 e] at b3; exact b3
  ·rintro (⟨b1, b2, b3⟩ | e)
   ·by_cases e : a ∈ l
    ·exact ⟨b1, by rw [a1]; exact b2, (a4 a e).2.2.2⟩
    ·exact ⟨b1, by rw [a1]; exact b2, by rw [a5 a b1 e]; exact b3⟩
   ·obtain ⟨c1, c2, c3, c4⟩ := a4 a e
    exact ⟨c1, by rw [a1]; exact c2, c4⟩
 have hn : ∀ a, a ∈ l → ¬ At x.w a 1 := fun a e hh => (a4 a e).2.2.1 hh.2.2
 refine ⟨t2, fun a ha => ?_, fun a ha => ?_, h.cP, h.cM, h.P1, h.M1, h.cS, h.room, fun pr hp => by have := h.gR pr hp; omega, h.ms, h.ia, by have := h.st; dsimp only; omega, by dsimp only; omega, hk⟩
 ·rw [hS]
  rcases (hA a).1 ha with e | e
  ·rw [h.one a e, List.count_eq_zero.2 (fun hm => hn a hm e)]
  ·rw [h.zero a (hn a e), Nat.le_antisymm (List.nodup_iff_count.1 a3 a) (List.count_pos_iff.2 e)]
 ·rw [hS, h.zero a (fun e => ha ((hA a).2 (.inl e))), List.count_eq_zero.2 (fun e => ha ((hA a).2 (.inr e)))]
end
section
variable {p : bZ} {N : Nat} {x y z : Sc} {m i g a kind : Int}
theorem SV.bL {DF : List dU} {glz : List Int} {dz : jE} {t : Bool} (h : SV p N x) (m0 : 0 ≤ m) (m1 : m < x.ms.length) (hmp : (az x m).p = i) (i0 : 0 ≤ i) (i1 : i < x.ps.length) (hg : (az x m).g = -1)
  (hl : DF.length = x.ps.length) (hr : ∀ pr ∈ DF, RM pr.q ∧ 0 ≤ pr.turns ∧ pr.turns ≤ N) (hb : ∀ j : Nat, (DF.getD j ue).ia = (x.ps.getD j ue).ia)
  (hc : ∀ a, mJ DF a + glz.count a + (j7 g).count a = mJ x.ps a + x.gl.count a) (hok : t = true → 0 ≤ g) (hno : t = false → j7 g = []) (hd : dz.taken.length ≤ 3 * N + 3) (hk : dz.k.Ok) :
  SV p (N + 1) (Sc.bL { x with ps := DF, gl := glz, d := dz } m i kind g t).1 ∧ (Sc.bL { x with ps := DF, gl := glz, d := dz } m i kind g t).1.steps = x.steps := by
 have nu := qG m0 m1
 have e0 : j7 (az x m).g = [] := by rw [hg]; rfl
 have hpi : DF[i.toNat]? = some (DF.getD i.toNat ue) := by
  rw [List.getD_eq_getElem?_getD, List.getElem?_eq_getElem (by omega)]; rfl
 have hmem := List.mem_of_getElem? hpi
 have hby : (x.ps.getD i.toNat ue).ia = m := by
  have := h.ia m.toNat (az x m) nu (by rw [hmp]; omega)
  rw [hmp] at this
  show (aJ x i).ia = m
  rw [this]; omega
 have zL : ∀ b : dU, b.q = (DF.getD i.toNat ue).q → ∀ a, mJ (DF.set i.toNat b) a = mJ DF a := fun b e a => by
  have := qF (a := a) (S8 := b) hpi
  rw [e] at this
  omega
 unfold Sc.bL
 cases t with
 | true =>
  rw [if_pos rfl]
  refine ⟨?_, rfl⟩
  have vN := h.ms _ (List.mem_of_getElem? nu)
  refine h.go (i := i) m0 m1 i0 i1 (DF.set i.toNat { DF.getD i.toNat ue with turns := (DF.getD i.toNat ue).turns + 1 }) ⟨(az x m).p, g, x.c.S⟩ glz dz (by simp [hl]) (fun pr hp => ?_) (fun j hj => by rw [getD_set_ne hj]; exact hb j) (.inr ⟨hmp, ?_⟩) (.inl hmp) (.inr ⟨by dsimp only; omega, by dsimp only; omega, by dsimp only; have := hok rfl; omega, by have := h.cS; dsimp only; omega, by have := h.cS; dsimp only; omega, fun _ => by have := h.cS; dsimp only; omega⟩) (fun a => ?_) hd hk
  ·rcases List.mem_or_eq_of_mem_set hp with hp | rfl
   ·have := hr pr hp; exact ⟨this.1, by omega⟩
   ·have := hr _ hmem; exact ⟨this.1, by dsimp only; omega⟩
  ·rw [en (by omega)]
   exact (hb _).trans hby
  ·rw [zL { DF.getD i.toNat ue with turns := (DF.getD i.toNat ue).turns + 1 } rfl, e0]
   have := hc a
   simp only [List.count_nil]
   omega
 | false =>
  rw [if_neg (by decide)]
  refine ⟨?_, rfl⟩
  refine h.go (i := i) m0 m1 i0 i1 (DF.set i.toNat { DF.getD i.toNat ue with ia := -1 }) ⟨-1, -1, 0⟩ glz dz (by simp [hl]) (fun pr hp => ?_) (fun j hj => by rw [getD_set_ne hj]; exact hb j) (.inl rfl) (.inl hmp) (.inl ⟨rfl, rfl, rfl⟩) (fun a => ?_) hd hk
  ·rcases List.mem_or_eq_of_mem_set hp with hp | rfl
   ·have := hr pr hp; exact ⟨this.1, by omega⟩
   ·have := hr _ hmem; exact ⟨this.1, by dsimp only; omega⟩
  ·rw [zL { DF.getD i.toNat ue with ia := -1 } rfl, e0]
   have := hc a
   rw [hno rfl] at this
   simp only [List.count_nil] at *
   have e1 : j7 (-1) = [] := rfl
   rw [e1, List.count_nil]
   omega
theorem Aw {d : jE} {k n : Int} (hk : d.k.Ok) : (d.draw k n).1.taken.length ≤ d.taken.length + 1 := by
 generalize lN : d.draw k n = r
 obtain ⟨d', o⟩ := r
 cases o with
 | num v =>
  have := (jk hk lN).2.2
  dsimp only
  rw [this]; simp
 | dh l =>
  have := (qE lN).1
  dsimp only
  rw [this]; omega
theorem SV.find {d' : jE} (h : SV p N x) (m0 : 0 ≤ m) (m1 : m < x.ms.length) (hp : (az x m).p ≠ -1) (hg : (az x m).g = -1) (hN : N ≤ 10000000) (hd : d'.taken.length ≤ 3 * N + 1) (hk : d'.k.Ok) :
  xh { x with d := d' } m ∧ SV p (N + 1) (Sc.find { x with d := d' } m).1 ∧ (Sc.find { x with d := d' } m).1.steps = x.steps := by
 have nu := qG m0 m1
 have vN := h.ms _ (List.mem_of_getElem? nu)
 have hr : 0 ≤ (az x m).p ∧ (az x m).p < x.ps.length ∧ 0 ≤ (az x m).left ∧ (az x m).left ≤ 1024 := by
  rcases vN with e | e
  ·exact absurd e.1 hp
  ·omega
 obtain ⟨i0, i1, l0, l1⟩ := hr
 have nt := DE i0 i1
 have hpm := List.mem_of_getElem? nt
 have ht := h.gR _ hpm
 have hroom := h.room _ hpm
 have hpos := h.aae hpm
 have e0 : j7 (az x m).g = [] := by rw [hg]; rfl
 have hcP := h.cP
 have hP1 := h.P1
 refine ⟨⟨m0, m1, i0, i1, by have := h.Wn; dsimp only; omega, ht.1, by have := ht.2; show (aJ x (az x m).p).turns < 1000000000; omega, by dsimp only; omega, by dsimp only; omega, by dsimp only; omega⟩, ?_⟩
 have own := RP (t := (aJ x (az x m).p).turns) hpos hroom h.aad
 unfold Sc.find
 dsimp only
 have em : az { x with d := d' } m = az x m := rfl
 have ep : ∀ j, aJ { x with d := d' } j = aJ x j := fun _ => rfl
 rw [em]
 simp only [ep]
 generalize hi : (az x m).p = i at *
 have zL : ∀ b : dU, ∀ a, mJ (x.ps.set i.toNat b) a + (aJ x i).q.all.count a = mJ x.ps a + b.q.all.count a := fun b a => qF nt
 split
 ·rename_i hn
  refine ⟨?_, rfl⟩
  have hgp := Ja hpos
  have h0 : 0 ≤ (aJ x i).q.get.2 := by
   rcases hgp with ⟨e1, _⟩ | ⟨_, h0⟩
   ·exact absurd e1 hn.2
   ·exact h0
  have hby : (aJ x i).ia = m := by
   have := h.ia m.toNat (az x m) nu (by rw [hi]; omega)
   rw [hi] at this
   rw [this]; omega
  refine h.go (i := i) m0 m1 i0 i1 (x.ps.set i.toNat { aJ x i with q := (aJ x i).q.get.1 }) ⟨i, (aJ x i).q.get.2, (az x m).left⟩ x.gl d' (by simp) (fun pr hp => ?_) (fun j hj => by rw [getD_set_ne hj]) (.inr ⟨rfl, by rw [en (by omega)]; exact hby⟩) (.inl hi) (.inr ⟨by dsimp only; omega, by dsimp only; omega, by dsimp only; omega, l0, l1, fun _ => by have := hn.1; dsimp only; omega⟩) (fun a => ?_) (by omega) hk
  ·rcases List.mem_or_eq_of_mem_set hp with hp | rfl
   ·exact ⟨h.room pr hp, by have := h.gR pr hp; omega⟩
   ·exact ⟨Om hroom, by dsimp only; omega⟩
  ·have a1 := zL { aJ x i with q := (aJ x i).q.get.1 } a
   have a2 := I9 _ hpos a
   rw [e0]
   simp only [List.count_nil] at *
   try dsimp only at *
   omega
 ·
  have hown : Sc.own { x with d := d' } i = ({ x with ps := x.ps.set i.toNat { aJ x i with q := (sN (aJ x i).q (aJ x i).turns x.gl).1 }, gl := (sN (aJ x i).q (aJ x i).turns x.gl).2.1, d := d' }, (sN (aJ x i).q (aJ x i).turns x.gl).2.2.1, (sN (aJ x i).q (aJ x i).turns x.gl).2.2.2) := rfl
  rw [hown]
  generalize sN (aJ x i).q (aJ x i).turns x.gl = r at own
  obtain ⟨q1, g1, v1, has⟩ := r
  obtain ⟨o1, o2, o3, o4⟩ := own
  dsimp only at o1 o2 o3 o4 ⊢
  have Wo : ∀ pr ∈ x.ps.set i.toNat { aJ x i with q := q1 }, RM pr.q ∧ 0 ≤ pr.turns ∧ pr.turns ≤ N := fun pr hp => by
   rcases List.mem_or_eq_of_mem_set hp with hp | rfl
   ·exact ⟨h.room pr hp, h.gR pr hp⟩
   ·exact ⟨o1, ht⟩
  have RQ : ∀ j : Nat, ((x.ps.set i.toNat { aJ x i with q := q1 }).getD j ue).ia = (x.ps.getD j ue).ia := fun j => by
   by_cases e : j = i.toNat
   ·subst e
    rw [en (by omega)]
    rfl
   ·rw [getD_set_ne e]
  have ZW : ∀ a, mJ (x.ps.set i.toNat { aJ x i with q := q1 }) a + g1.count a + (j7 v1).count a = mJ x.ps a + x.gl.count a := fun a => by
   have a1 := zL { aJ x i with q := q1 } a
   have a2 := o2 a
   dsimp only at *
   omega
  split
  ·rename_i hh
   have ev1 : j7 v1 = [] := by rw [o4 hh.1]; rfl
   have CY := Aw (k := 2) (n := x.c.P) hk
   have Aq := vC (kind := 2) (n := x.c.P) hk
   split
   ·rename_i d2 l lN
    rw [lN] at CY Aq
    refine ⟨?_, rfl⟩
    have : SV p (N + 1) { x with ps := x.ps.set i.toNat { aJ x i with q := q1 }, ms := x.ms.set m.toNat (az x m), gl := g1, d := d2 } :=
     h.go (i := i) m0 m1 i0 i1 _ (az x m) g1 d2 (by simp) (fun pr hp => by have := Wo pr hp; exact ⟨this.1, by omega⟩) (fun j hj => RQ j) (.inr ⟨hi, by
      rw [RQ]
      have := h.ia m.toNat (az x m) nu (by rw [hi]; omega)
      rw [hi] at this
      show (aJ x i).ia = m
      rw [this]; omega⟩) (.inl hi) vN (fun a => by have := ZW a; rw [ev1] at this; simp only [List.count_nil] at this; exact congrArg (· + (j7 (az x m).g).count a) this) (by dsimp only at CY; omega) Aq
    rw [eV _ _ _ nu] at this
    exact this
   ·rename_i d2 v lN
    rw [lN] at CY Aq
    have hvr := jk hk lN
    have Xq : kK x.c.P = x.c.P := by unfold kK; rw [if_neg (by omega)]
    rw [Xq] at hvr
    dsimp only at CY Aq ⊢
    split
    ·exact h.bL (g := -1) m0 m1 hi i0 i1 hg (by simp) Wo RQ (fun a => by have := ZW a; rw [ev1] at this; exact this) (fun e => by cases e) (fun _ => rfl) (by omega) Aq
    ·rename_i hvi
     have hne : v.toNat ≠ i.toNat := by omega
     have epi : aJ { x with ps := x.ps.set i.toNat { aJ x i with q := q1 }, gl := g1, d := d2 } i = { aJ x i with q := q1 } := en (by omega)
     have epv : aJ { x with ps := x.ps.set i.toNat { aJ x i with q := q1 }, gl := g1, d := d2 } v = aJ x v := getD_set_ne hne
     have OO := DE (x := x) (i := v) hvr.1 (by omega)
     have hvm := List.mem_of_getElem? OO
     have OU := h.aae hvm
     have Wp := h.room _ hvm
     have hst := KJ q1 (aJ x v).q OU o1.1
     have hsb := Oo o1 Wp
     have hsp := KK (x := q1) OU o1.1
     rw [epi, epv]
     dsimp only
     generalize q1.dQ (aJ x v).q = s at hst hsb hsp
     obtain ⟨s1, s2, s3⟩ := s
     dsimp only at hst hsb hsp ⊢
     have hz : Sc.cY (Sc.cY { x with ps := x.ps.set i.toNat { aJ x i with q := q1 }, gl := g1, d := d2 } i { aJ x i with q := s1 }) v { aJ x v with q := s2 } = { x with ps := (x.ps.set i.toNat { aJ x i with q := s1 }).set v.toNat { aJ x v with q := s2 }, gl := g1, d := d2 } := by
      unfold Sc.cY
      dsimp only
      rw [List.set_set]
     rw [hz]
     refine h.bL (g := s3) m0 m1 hi i0 i1 hg (by simp) (fun pr hp => ?_) (fun j => ?_) (fun a => ?_) (fun e => ?_) (fun e => ?_) (by omega) Aq
     ·rcases List.mem_or_eq_of_mem_set hp with hp | rfl
      ·rcases List.mem_or_eq_of_mem_set hp with hp | rfl
       ·exact ⟨h.room pr hp, h.gR pr hp⟩
       ·exact ⟨hsb.1, ht⟩
      ·exact ⟨hsb.2, h.gR (aJ x v) hvm⟩
     ·by_cases e : j = v.toNat
      ·subst e
       rw [en (by simp; omega)]
       rfl
      ·rw [getD_set_ne e]
       by_cases e2 : j = i.toNat
       ·subst e2
        rw [en (by omega)]
        rfl
       ·rw [getD_set_ne e2]
     ·have a1 := zL { aJ x i with q := s1 } a
      have a2 := qF (ps := x.ps.set i.toNat { aJ x i with q := s1 }) (a := a) (S8 := { aJ x v with q := s2 }) (j := v.toNat) (pr := aJ x v) (by rw [List.getElem?_set_ne (Ne.symm hne)]; exact OO)
      have a3 := hst a
      have a4 := o2 a
      rw [ev1] at a4
      simp only [List.count_nil] at a4
      dsimp only at *
      omega
     ·unfold jT at e
      rcases hsp with ⟨e1, e2⟩ | ⟨_, e2⟩
      ·rw [e1] at e
       have h1 := OU.1
       simp at e
       omega
      ·exact e2
     ·unfold jT at e
      simp only [Bool.or_eq_false_iff, bne_eq_false_iff_eq] at e
      rw [e.1]; rfl
  ·rename_i hh
   exact h.bL (g := v1) m0 m1 hi i0 i1 hg (by simp) Wo RQ ZW o3 (fun e => by rw [o4 e]; rfl) (by omega) hk
end
section
variable {p : bZ} {N : Nat} {x y z : Sc} {m i g a kind : Int}
theorem CA : ∀ (l : List Int) (z : Sc), 0 ≤ (az z m).p → (az z m).p < z.ps.length → (∀ v ∈ l, 0 ≤ v) → (∀ pr ∈ z.ps, RM pr.q) →
  (∀ a, mJ (l.foldl (aO m) z).ps a + (l.foldl (aO m) z).gl.count a = mJ z.ps a + z.gl.count a + l.count a) ∧
  (∀ pr ∈ (l.foldl (aO m) z).ps, RM pr.q) ∧ (∀ j : Nat, ((l.foldl (aO m) z).ps.getD j ue).ia = (z.ps.getD j ue).ia ∧ ((l.foldl (aO m) z).ps.getD j ue).turns = (z.ps.getD j ue).turns)
 | [], z, _, _, _, hr => ⟨fun a => by simp, hr, fun j => ⟨rfl, rfl⟩⟩
 | r :: l, z, h0, h1, hv, hr => by
  have nt := DE (x := z) h0 h1
  have hps : (aO m z r).ps.length = z.ps.length := by simp [aO, Sc.cY]
  have nu : az (aO m z r) m = az z m := rfl
  have hrm := hr _ (List.mem_of_getElem? nt)
  have SW : ∀ pr ∈ (aO m z r).ps, RM pr.q := fun pr hp => by
   rcases List.mem_or_eq_of_mem_set hp with hp | rfl
   ·exact hr pr hp
   ·exact Ol hrm _ _
  obtain ⟨a1, a2, a3⟩ := CA l (aO m z r) (by rw [nu]; exact h0) (by rw [nu, hps]; exact h1) (fun v hm => hv v (List.mem_cons_of_mem _ hm)) SW
  rw [List.foldl_cons]
  refine ⟨fun a => ?_, a2, fun j => ?_⟩
  ·have b1 := a1 a
   have b2 := KH (aJ z (az z m).p).q r (by have := hv r (by simp); omega) z.gl a
   have b3 := qF (a := a) (S8 := { aJ z (az z m).p with q := ((aJ z (az z m).p).q.ready r z.gl).1 }) nt
   have b4 : mJ (aO m z r).ps a = mJ (z.ps.set (az z m).p.toNat { aJ z (az z m).p with q := ((aJ z (az z m).p).q.ready r z.gl).1 }) a := rfl
   have b5 : (aO m z r).gl = ((aJ z (az z m).p).q.ready r z.gl).2.1 := rfl
   rw [b4, b5] at b1
   simp only [List.count_cons, List.count_nil] at *
   try dsimp only at *
   omega
  ·obtain ⟨c1, c2⟩ := a3 j
   rw [c1, c2]
   show ((z.ps.set (az z m).p.toNat _).getD j ue).ia = _ ∧ ((z.ps.set (az z m).p.toNat _).getD j ue).turns = _
   by_cases e : j = (az z m).p.toNat
   ·subst e
    rw [en (by omega)]
    exact ⟨rfl, rfl⟩
   ·rw [getD_set_ne e]
    exact ⟨rfl, rfl⟩
theorem RR {w y : Wd} (hy : WV p y) (h : iI g w y) : y.ready.length ≤ 100 := by
 have h1 := qZ (b := 1) y.gs.length y.ready (fun v hv => ⟨(h.2.2.1 v hv).1, (h.2.2.1 v hv).2.1⟩) (fun v => List.nodup_iff_count.1 h.1 v)
 have := hy.n2
 omega
theorem Wq {w y : Wd} (h : iI g w y) (h0 : 0 ≤ g) (hg : g < w.gs.length) : (At y a 1 ↔ (a = g ∧ (aq y g).st = 1) ∨ a ∈ y.ready ∨ (a ≠ g ∧ At w a 1)) := by
 obtain ⟨_, a2, a3, a4, a5, a6⟩ := h
 constructor
 ·rintro ⟨b1, b2, b3⟩
  by_cases e : a = g
  ·exact .inl ⟨e, by rw [← e]; exact b3⟩
  ·by_cases er : a ∈ y.ready
   ·exact .inr (.inl er)
   ·refine .inr (.inr ⟨e, b1, ?_, by rw [← a4 a b1 e er]; exact b3⟩)
    by_cases hl : a < w.gs.length
    ·exact hl
    ·exact absurd (a6 a (by omega) b2) er
 ·rintro (⟨rfl, e⟩ | e | ⟨e, b1, b2, b3⟩)
  ·exact ⟨h0, by omega, e⟩
  ·exact ⟨(a3 a e).1, (a3 a e).2.1, (a3 a e).2.2.2⟩
  ·by_cases er : a ∈ y.ready
   ·exact ⟨(a3 a er).1, (a3 a er).2.1, (a3 a er).2.2.2⟩
   ·exact ⟨b1, by omega, by rw [a4 a b1 e er]; exact b3⟩
theorem SV.gG {d' : jE} {y : Wd} {rest : Bool} (h : SV p N x) (m0 : 0 ≤ m) (m1 : m < x.ms.length) (hp : (az x m).p ≠ -1) (hg : 0 ≤ (az x m).g) (hy : WV p y) (hr : iI (az x m).g { x.w with ready := [] } y)
  (hd : d'.taken.length ≤ 3 * N + 3) (hk : d'.k.Ok) {d0 : jE} : ∃ z o, gG { x with d := d0 } m (az x m).g d' y rest = some (z, o) ∧ SV p (N + 1) z ∧ z.steps = x.steps := by
 have nu := qG m0 m1
 have GF := List.mem_of_getElem? nu
 have vN := h.ms _ GF
 have S4 := h.mg GF hg
 have hbd : 0 ≤ (az x m).p ∧ (az x m).p < x.ps.length ∧ 1 ≤ (az x m).left ∧ (az x m).left ≤ 1024 := by
  rcases vN with e | e
  ·exact absurd e.1 hp
  ·have := e.2.2.2.2.2 hg; omega
 obtain ⟨i0, i1, l0, l1⟩ := hbd
 have lq := RR hy hr
 have hglt : (az x m).g < y.gs.length := by have := hr.2.2.2.2.1; have := S4.2.1; dsimp only at *; omega
 unfold Proofs.gG
 rw [if_pos ⟨by omega, hglt⟩]
 have f1 := iw (m := m) y.ready { x with w := y, d := d' } i0 i1
 have f2 := CA (m := m) y.ready { x with w := y, d := d' } i0 i1 (fun v hv => (hr.2.2.1 v hv).1) h.room
 (try dsimp only at f1 f2 ⊢)
 generalize List.foldl (aO m) { x with w := y, d := d' } y.ready = z at f1 f2
 obtain ⟨z1, z2, z3, z4, z5, z6, _⟩ := f1
 obtain ⟨c1, c2, c3⟩ := f2
 have hran := fun a => Wq (a := a) hr hg S4.2.1
 have Tb : ∀ a, a ∈ y.ready → ¬ At x.w a 1 ∧ a ≠ (az x m).g ∧ y.ready.count a = 1 := fun a ha =>
  ⟨(hr.2.2.1 a ha).2.2.1, fun e => hr.2.1 (e ▸ ha), Nat.le_antisymm (List.nodup_iff_count.1 hr.1 a) (List.count_pos_iff.2 ha)⟩
 have turnz : ∀ pr ∈ z.ps, 0 ≤ pr.turns ∧ pr.turns ≤ N := fun pr nt => by
  obtain ⟨j, hj, e⟩ := List.getElem_of_mem nt
  have e2 : z.ps.getD j ue = pr := by rw [List.getD_eq_getElem?_getD, List.getElem?_eq_getElem hj, e]; rfl
  have Lr : j < x.ps.length := by omega
  have e3 : x.ps.getD j ue = x.ps[j] := by rw [List.getD_eq_getElem?_getD, List.getElem?_eq_getElem Lr]; rfl
  have := (c3 j).2
  rw [e2, e3] at this
  rw [this]
  exact h.gR _ (List.getElem_mem Lr)
 have done : ∀ (sP : Bm) (La : List Int), sP.p = (az x m).p → 0 ≤ sP.left → sP.left ≤ 1024 → -1 ≤ sP.g → (0 ≤ sP.g → 1 ≤ sP.left) →
   (∀ a, La.count a + (j7 sP.g).count a = z.gl.count a + (if (aq y (az x m).g).st = 1 then [(az x m).g].count a else 0)) →
   SV p (N + 1) { z with ms := z.ms.set m.toNat sP, gl := La } := by
  intro sP La e1 e2 e3 e4 e5 e6
  have hS : ∀ a, nv { z with ms := z.ms.set m.toNat sP, gl := La } a + [(az x m).g].count a = nv x a + y.ready.count a + (if (aq y (az x m).g).st = 1 then [(az x m).g].count a else 0) := fun a => by
   have q1 := Av (a := a) (sP := sP) nu
   have q2 := c1 a
   have q3 := e6 a
   rw [jh hg] at q1
   unfold nv
   (try dsimp only)
   rw [z1]
   (try dsimp only at q2)
   omega
  have hwz : z.w = y := z3
  refine ⟨by (try dsimp only); rw [hwz]; exact hy, fun a ha => ?_, fun a ha => ?_, by (try dsimp only); rw [z5, z2]; exact h.cP, by (try dsimp only); rw [z5, z1]; simpa using h.cM, by (try dsimp only); rw [z2]; exact h.P1, by (try dsimp only); rw [z1]; simpa using h.M1, by (try dsimp only); rw [z5]; exact h.cS, c2, fun pr nt => by have := turnz pr nt; omega, fun mc OV => ?_, fun j mc hj hne => ?_, by have := h.st; (try dsimp only); rw [z6]; (try dsimp only); omega, by (try dsimp only); rw [z4]; (try dsimp only); omega, by (try dsimp only); rw [z4]; exact hk⟩
  ·(try dsimp only at ha)
   rw [hwz] at ha
   have hs := hS a
   rcases (hran a).1 ha with ⟨e, es⟩ | e | ⟨e, ew⟩
   ·subst e
    have n1 : y.ready.count (az x m).g = 0 := List.count_eq_zero.2 hr.2.1
    have n2 := h.one _ S4
    rw [if_pos es] at hs
    omega
   ·obtain ⟨w1, w2, w3⟩ := Tb a e
    have n2 := h.zero a w1
    have n3 : [(az x m).g].count a = 0 := List.count_eq_zero.2 (by simpa using w2)
    rw [n3] at hs
    have : (if (aq y (az x m).g).st = 1 then 0 else 0) = 0 := by split <;> rfl
    omega
   ·have n3 : [(az x m).g].count a = 0 := List.count_eq_zero.2 (by simpa using e)
    have n2 := h.one a ew
    have n1 : y.ready.count a = 0 := List.count_eq_zero.2 (fun e2 => (Tb a e2).1 ew)
    rw [n3] at hs
    have : (if (aq y (az x m).g).st = 1 then 0 else 0) = 0 := by split <;> rfl
    omega
  ·(try dsimp only at ha)
   rw [hwz] at ha
   have hs := hS a
   have hn := fun e => ha ((hran a).2 e)
   by_cases e : a = (az x m).g
   ·subst e
    have n1 : y.ready.count (az x m).g = 0 := List.count_eq_zero.2 hr.2.1
    have n2 := h.one _ S4
    have n3 : [(az x m).g].count (az x m).g = 1 := by simp
    rw [if_neg (fun es => hn (.inl ⟨rfl, es⟩))] at hs
    omega
   ·have n3 : [(az x m).g].count a = 0 := List.count_eq_zero.2 (by simpa using e)
    have n2 := h.zero a (fun ew => hn (.inr (.inr ⟨e, ew⟩)))
    have n1 : y.ready.count a = 0 := List.count_eq_zero.2 (fun e2 => hn (.inr (.inl e2)))
    rw [n3] at hs
    have : (if (aq y (az x m).g).st = 1 then 0 else 0) = 0 := by split <;> rfl
    omega
  ·(try dsimp only at OV ⊢)
   rw [z2]
   rw [z1] at OV
   rcases jJ OV with OV | rfl
   ·exact h.ms mc OV
   ·exact .inr ⟨by omega, by (try dsimp only); omega, e4, e2, e3, e5⟩
  ·(try dsimp only at hj)
   rw [z1] at hj
   show (z.ps.getD mc.p.toNat ue).ia = _
   rw [(c3 _).1]
   by_cases e : j = m.toNat
   ·subst e
    rw [List.getElem?_set_self (by (try dsimp only); omega)] at hj
    simp only [Option.some.injEq] at hj
    subst hj
    rw [e1]
    exact h.ia m.toNat _ nu hp
   ·rw [List.getElem?_set_ne (Ne.symm e)] at hj
    exact h.ia j mc hj hne
 have hzm : az z m = az x m := by unfold az; rw [z1]
 have hzs : z.steps = x.steps := z6
 unfold Sc.lK
 rw [hzm]
 split
 ·rename_i hkp
  refine ⟨_, _, rfl, ?_, hzs⟩
  have hst : (aq y (az x m).g).st = 1 := by
   have := hkp.1
   unfold ir at this
   simp only [Bool.and_eq_true, beq_iff_eq] at this
   exact this.2
  exact done { az x m with left := (az x m).left - 1 } z.gl rfl (by (try dsimp only); omega) (by (try dsimp only); omega) (by (try dsimp only); omega) (fun _ => by (try dsimp only); omega) (fun a => by rw [if_pos hst]; (try dsimp only); rw [jh hg])
 ·refine ⟨_, _, rfl, ?_, hzs⟩
  refine done { az x m with left := (az x m).left - 1, g := -1 } _ rfl (by (try dsimp only); omega) (by (try dsimp only); omega) (by (try dsimp only); omega) (fun e => by (try dsimp only at e); omega) (fun a => ?_)
  have e1 : j7 (-1) = [] := rfl
  (try dsimp only)
  rw [e1, z3]
  split
  ·rw [List.count_append]; simp
  ·simp
end
section
variable {p : bZ} {N : Nat} {x y z : Sc} {m i g a kind : Int}
theorem SV.OW (h : SV p N x) {r : List Int} {d' : jE} (hd : d'.taken.length ≤ 3 * N + 3) (hk : d'.k.Ok) : SV p (N + 1) { x with w := { x.w with ready := r }, d := d' } :=
 ⟨h.w.ready, h.one, h.zero, h.cP, h.cM, h.P1, h.M1, h.cS, h.room, fun pr hp => by have := h.gR pr hp; omega, h.ms, h.ia, by have := h.st; dsimp only; omega, by dsimp only; omega, hk⟩
theorem SV.run {d' : jE} (h : SV p N x) (hp : ej p) (m0 : 0 ≤ m) (m1 : m < x.ms.length) (hmp : (az x m).p ≠ -1) (hg : (az x m).g ≠ -1) (hN : N ≤ 1000000) (hd : d'.taken.length ≤ 3 * N + 1) (hk : d'.k.Ok) :
  ∃ z o, Sc.run p { x with d := d' } m = some (z, o) ∧ SV p (N + 1) z ∧ z.steps = x.steps := by
 have nu := qG m0 m1
 have GF := List.mem_of_getElem? nu
 have vN := h.ms _ GF
 have hbd : 0 ≤ (az x m).p ∧ (az x m).p < x.ps.length ∧ 0 ≤ (az x m).g ∧ 1 ≤ (az x m).left ∧ (az x m).left ≤ 1024 := by
  rcases vN with e | e
  ·exact absurd e.1 hmp
  ·have := e.2.2.2.2.2; omega
 obtain ⟨i0, i1, g0, l0, l1⟩ := hbd
 have S4 := h.mg GF g0
 unfold Sc.run
 have em : az { x with d := d' } m = az x m := rfl
 rw [em]
 rw [if_pos (show Ap p { x with d := d' } m from ⟨m0, m1, i0, i1, by have := h.Wn; dsimp only; omega, by dsimp only; omega, l0, by show (az x m).left < 1000000000; omega, g0⟩)]
 dsimp only
 generalize j8 : asks p { x.w with ready := [] } (az x m).g = ak
 have hbk : ∀ k n, ak = some (k, n) → 1 ≤ n ∧ n < 1099511627776 := fun k n e => Jl hp (by rw [j8]; exact e)
 rw [if_pos (show Ta ak = true from by
  cases ak with
  | none => rfl
  | some kn => obtain ⟨k, n⟩ := kn; have := hbk k n rfl; exact decide_eq_true (by omega))]
 have Bl : ∀ d2 dr, dy d' ak = (d2, dr) → d2.k.Ok ∧ d2.taken.length ≤ 3 * N + 2 ∧ (∀ v kd n, dr = .num v → ak = some (kd, n) → 0 ≤ v ∧ v < n) := by
  intro d2 dr e
  cases ak with
  | none =>
   unfold dy at e
   cases e
   exact ⟨hk, by omega, fun v kd n _ e => by cases e⟩
  | some kn =>
   obtain ⟨k, n⟩ := kn
   unfold dy at e
   dsimp only at e
   have a1 := vC (kind := k) (n := n) hk
   have a2 := Aw (k := k) (n := n) hk
   rw [e] at a1 a2
   dsimp only at a1 a2
   refine ⟨a1, by omega, fun v kd n' e1 e2 => ?_⟩
   subst e1
   cases e2
   have := jk hk e
   have hb := hbk _ _ rfl
   rw [show kK n = n from by unfold kK; rw [if_neg (by omega)]] at this
   exact ⟨this.1, this.2.1⟩
 generalize lN : dy d' ak = dd at Bl
 obtain ⟨d2, dr⟩ := dd
 obtain ⟨k2, t2, v2⟩ := Bl d2 dr rfl
 dsimp only
 obtain ⟨r, rest, hex, hres⟩ := FF (d := dr) h.w hp g0 (fun v kd n e1 e2 => v2 v kd n e1 (by rw [← j8]; exact e2))
 rw [hex]
 rcases hres with ⟨hres, _⟩ | ⟨l, e1, e2, _⟩
 ·cases r with
  | on y => exact h.gG m0 m1 hmp g0 hres.1 hres.2 (by omega) k2
  | fk n y => exact h.gG (y := { y with end_ := 2, code := n }) m0 m1 hmp g0 (hres.1.fin (e := 2) (c := n)) (hres.2.KY rfl rfl fun _ _ _ => rfl) (by omega) k2
  | dh l y => exact hres.elim
 ·subst e2
  exact ⟨_, _, rfl, h.OW (by omega) k2, rfl⟩
theorem SV.step (h : SV p N x) (hp : ej p) (hN : N ≤ 1000000) : ∃ y o, x.step p = some (y, o) ∧ SV p (N + 1) y := by
 have hst := h.st
 have Wi := h.tk
 have hM := h.cM
 have hM1 := h.M1
 have hP1 := h.P1
 unfold Sc.step
 rw [if_pos (show yR x from ⟨by have := h.w.n2; omega, hM, by omega, by omega, by omega, hst.1, by omega⟩)]
 split
 ·exact ⟨_, _, rfl, h.mono (by omega)⟩
 ·rename_i hs
  have CY := Aw (k := 1) (n := x.c.M + 1) h.k
  have Aq := vC (kind := 1) (n := x.c.M + 1) h.k
  split
  ·rename_i d' l lN
   rw [lN] at CY Aq
   dsimp only at CY Aq
   exact ⟨_, _, rfl, h.draw (by omega) Aq⟩
  ·rename_i d' m lN
   rw [lN] at CY Aq
   dsimp only at CY Aq
   have hv := jk h.k lN
   rw [show kK (x.c.M + 1) = x.c.M + 1 from by unfold kK; rw [if_neg (by omega)]] at hv
   obtain ⟨m0, mM, _⟩ := hv
   have fin : ∀ z o, SV p (N + 1) z → z.steps = x.steps → ∃ y o', Option.map sO (some (z, o)) = some (y, o') ∧ SV p (N + 1) y := fun z o hz hzs => by
    cases o with
    | ev e => exact ⟨_, _, rfl, hz.inc (by rw [hzs]; exact hst)⟩
    | dh l => exact ⟨_, _, rfl, hz⟩
   unfold Sc.act
   dsimp only
   split
   ·obtain ⟨t1, t2, t3⟩ := h.tick (d' := d') (by omega) Aq
    rw [if_pos t1]
    exact fin _ _ t2 t3
   ·rename_i hmM
    have m1 : m < x.ms.length := by omega
    have em : az { x with d := d' } m = az x m := rfl
    rw [em]
    split
    ·rename_i hmp
     obtain ⟨t2, t3⟩ := h.hold (d' := d') m0 m1 hmp (by omega) Aq
     exact fin _ _ t2 t3
    ·rename_i hmp
     split
     ·rename_i Xi
      obtain ⟨t1, t2, t3⟩ := h.find (d' := d') m0 m1 hmp Xi (by omega) (by omega) Aq
      rw [if_pos t1]
      exact fin _ _ t2 t3
     ·rename_i Xi
      obtain ⟨z, o, t1, t2, t3⟩ := h.run (d' := d') hp m0 m1 hmp Xi hN (by omega) Aq
      rw [t1]
      exact fin _ _ t2 t3
theorem SV.new {c : Jm} {d : jE} (hp : ej p) (hP : 1 ≤ c.P ∧ c.P ≤ 64) (hM : 1 ≤ c.M ∧ c.M ≤ 64) (hS : 1 ≤ c.S ∧ c.S ≤ 1024) (hd : d.taken = []) (hk : d.k.Ok) : SV p 0 (Sc.new p c d) := by
 have hw := Wc hp
 have hA : ∀ a, At (Wd.new p) a 1 ↔ a = 0 := fun a => by
  constructor
  ·rintro ⟨b1, b2, _⟩
   simp [Wd.new] at b2
   omega
  ·rintro rfl
   exact ⟨by decide, by simp [Wd.new], rfl⟩
 have hQ : ∀ a, mJ (List.replicate c.P.toNat ⟨⟨-1, fa c.R, []⟩, 0, -1⟩) a = 0 := fun a => by
  unfold mJ
  rw [List.count_eq_zero]
  intro hm
  obtain ⟨q, hq, h2⟩ := List.mem_flatMap.1 hm
  obtain ⟨pr, nt, rfl⟩ := List.mem_map.1 hq
  rw [List.eq_of_mem_replicate nt] at h2
  simp [Loc.all] at h2
 have hMm : ∀ a, FP (List.replicate c.M.toNat ⟨-1, -1, 0⟩) a = 0 := fun a => by
  unfold FP
  rw [List.count_eq_zero]
  intro hm
  obtain ⟨q, hq, h2⟩ := List.mem_flatMap.1 hm
  rw [List.eq_of_mem_replicate hq] at h2
  simp [j7] at h2
 have hC : ∀ a, nv (Sc.new p c d) a = [(0 : Int)].count a := fun a => by
  unfold nv Sc.new
  dsimp only
  rw [hQ, hMm]; omega
 have cap := I3 c.R
 refine ⟨hw, fun a ha => ?_, fun a ha => ?_, by simp [Sc.new]; omega, by simp [Sc.new]; omega, by simp [Sc.new]; omega, by simp [Sc.new]; omega, hS, fun pr nt => ?_, fun pr nt => ?_, fun mc nu => ?_, fun j mc hj hne => ?_, by simp [Sc.new], by simp [Sc.new, hd], hk⟩
 ·rw [hC, (hA a).1 ha]; rfl
 ·rw [hC]
  exact List.count_eq_zero.2 (fun e => ha ((hA a).2 (by simpa using e)))
 ·rw [List.eq_of_mem_replicate nt]
  exact ⟨by simp, cap.2, cap.1⟩
 ·rw [List.eq_of_mem_replicate nt]
  simp
 ·rw [List.eq_of_mem_replicate nu]
  exact .inl ⟨rfl, rfl, rfl⟩
 ·have := List.eq_of_mem_replicate (List.mem_of_getElem? hj)
  rw [this] at hne
  exact absurd rfl hne
end
def ph7 (t : Int) : Nat := if Int.tmod t 7 = 6 then 1 else 0
def OX (t : Int) : Nat := 6 - (Int.tmod t 7).toNat
theorem t7 {t : Int} (h : 0 ≤ t) : (Int.tmod t 7 = 6 → ph7 t = 1 ∧ OX t = 0 ∧ ph7 (t + 1) = 0 ∧ OX (t + 1) = 6) ∧ (Int.tmod t 7 ≠ 6 → ph7 t = 0 ∧ OX (t + 1) + 1 = OX t) := by
 have e1 : Int.tmod t 7 = t % 7 := Int.tmod_eq_emod_of_nonneg h
 have e2 : Int.tmod (t + 1) 7 = (t + 1) % 7 := Int.tmod_eq_emod_of_nonneg (by omega)
 unfold ph7 OX
 rw [e1, e2]
 constructor
 ·intro e
  rw [if_pos e, if_neg (by omega)]
  omega
 ·intro e
  rw [if_neg e]
  omega
section
variable {p : bZ} {N Rm GG m n u k : Nat} {x y z : Sc} {i g a kind : Int}
theorem SV.apart (h : SV p N x) {mc sP : Bm} {k : Nat} (h1 : x.ms[m]? = some mc) (h2 : x.ms[k]? = some sP) (hp : mc.p ≠ -1) (he : mc.p = sP.p) : m = k := by
 have a1 := h.ia m mc h1 hp
 have a2 := h.ia k sP h2 (by rw [← he]; exact hp)
 rw [he] at a1
 rw [a1] at a2
 omega
theorem SV.mv (h : SV p N x) {mc : Bm} (h1 : x.ms[m]? = some mc) : MV x.ps.length mc := h.ms _ (List.mem_of_getElem? h1)
end
section
variable {p : bZ} {N Rm GG m n u k S : Nat} {x y z : Sc} {i g a kind v : Int}
theorem SV.other (h : SV p N x) {mc : Bm} {c : Nat} (k1 : k < x.ms.length) (hk : (az x (k : Int)).p ≠ -1) (h1 : x.ms[c]? = some mc) (hp : mc.p ≠ -1) (hc : c ≠ k) : mc.p.toNat ≠ (az x (k : Int)).p.toNat := by
 have hmk := qG (x := x) (m := (k : Int)) (by omega) (by omega)
 rw [Int.toNat_natCast] at hmk
 intro e
 have a1 : 0 ≤ mc.p := by rcases h.mv h1 with e | e; exact absurd e.1 hp; omega
 have a2 : 0 ≤ (az x (k : Int)).p := by rcases h.mv hmk with e | e; exact absurd e.1 hk; omega
 exact hc (h.apart h1 hmk hp (by omega))
end
section
variable {p : bZ} {N Rm GG m n u k S : Nat} {x y z : Sc} {i g a kind v : Int}
theorem run_shape {e : Ev} {d0 : jE} (h : Sc.run p { x with d := d0 } a = some (z, .ev e)) : ∃ (l : List Int) (w : Wd) (d : jE) (keep : Bool), (Sc.lK (l.foldl (aO a) { x with w := w, d := d }) a (az x a).g keep l).1 = z ∧ e.kind = 7 ∧ e.g = (az x a).g := by
 have on : ∀ {d' : jE} {w : Wd} {rest : Bool}, gG { x with d := d0 } a (az x a).g d' w rest = some (z, .ev e) → _ := fun {d' w rest} hh => by
  unfold gG at hh
  split at hh
  ·simp only [Option.some.injEq, Prod.mk.injEq, iK.ev.injEq] at hh
   refine (⟨w.ready, w, d', ir w (az x a).g rest, hh.1, ?_⟩ : ∃ (l : List Int) (w : Wd) (d : jE) (keep : Bool), (Sc.lK (l.foldl (aO a) { x with w := w, d := d }) a (az x a).g keep l).1 = z ∧ e.kind = 7 ∧ e.g = (az x a).g)
   rw [← hh.2]
   unfold Sc.lK
   split <;> exact ⟨rfl, rfl⟩
  ·cases hh
 unfold Sc.run at h
 have em : az { x with d := d0 } a = az x a := rfl
 rw [em] at h
 split at h
 ·split at h
  ·split at h
   ·cases h
   ·simp at h
   ·exact on h
   ·exact on h
  ·cases h
 ·cases h
end
section
variable {p : bZ} {N Rm GG m n u k S : Nat} {x y z : Sc} {i g a kind v : Int}
def Oth (rest : List (Int × Int)) : Prop := ∀ r ∈ rest, r.1 ≠ 1 ∧ 0 ≤ r.2
theorem H8 (hk : x.d.k.Ok) : ∃ rest, (x.find a).1.d.taken = x.d.taken ++ rest ∧ Oth rest := by
 unfold Sc.find
 dsimp only
 split
 ·exact ⟨[], by simp [Sc.jo, Sc.cY], by intro r hr; cases hr⟩
 ·have hd : (x.own (az x a).p).1.d = x.d := rfl
  rw [hd]
  split
  ·split
   ·rename_i d' l lN
    exact ⟨[], by rw [(qE lN).1]; simp, by intro r hr; cases hr⟩
   ·rename_i d' v lN
    have hn := jk hk lN
    refine ⟨[(2, v)], ?_, ?_⟩
    ·rw [← hn.2.2]
     try dsimp only
     split <;> rw [rm] <;> rfl
    ·intro r hr
     rw [List.mem_singleton] at hr
     subst hr
     exact ⟨by dsimp only; omega, hn.1⟩
  ·exact ⟨[], by rw [rm]; simp [hd], by intro r hr; cases hr⟩
theorem Lc (hk : x.d.k.Ok) {o : iK} (he : x.run p a = some (y, o)) : ∃ rest, y.d.taken = x.d.taken ++ rest ∧ Oth rest := by
 have hq : ∃ rest, (dy x.d (asks p { x.w with ready := [] } (az x a).g)).1.taken = x.d.taken ++ rest ∧ Oth rest := by
  generalize j8 : asks p { x.w with ready := [] } (az x a).g = q
  cases q with
  | none => exact ⟨[], by simp [dy], by intro r hr; cases hr⟩
  | some q =>
   obtain ⟨kd, n⟩ := q
   have RT : kd = 3 ∨ kd = 4 := by
    unfold asks at j8
    split at j8
    ·split at j8
     ·cases j8
     ·split at j8
      ·cases j8; exact .inr rfl
      ·split at j8
       ·split at j8
        ·cases j8
        ·cases j8; exact .inl rfl
       ·cases j8
    ·cases j8
   unfold dy
   dsimp only
   generalize lN : x.d.draw kd n = r
   obtain ⟨d', o⟩ := r
   cases o with
   | dh l => exact ⟨[], by rw [(qE lN).1]; simp, by intro r hr; cases hr⟩
   | num v =>
    have hn := jk hk lN
    refine ⟨[(kd, v)], hn.2.2, ?_⟩
    intro r hr
    rw [List.mem_singleton] at hr
    subst hr
    exact ⟨by dsimp only; omega, hn.1⟩
 unfold Sc.run at he
 split at he
 ·rename_i hpre
  obtain ⟨m0, m1, i0, i1, _⟩ := hpre
  split at he
  ·split at he
   ·cases he
   ·simp only [Option.some.injEq, Prod.mk.injEq] at he
    rw [← he.1]
    exact hq
   ·rw [yS he i0 i1]; exact hq
   ·rw [yS he i0 i1]; exact hq
  ·cases he
 ·cases he
theorem Ld {d' : jE} (hk' : d'.k.Ok) {o : iK} (hy : Sc.act p { x with d := d' } a = some (y, o)) : ∃ rest, y.d.taken = d'.taken ++ rest ∧ Oth rest := by
 have no : Oth [] := by intro r hr; cases hr
 unfold Sc.act at hy
 split at hy
 ·split at hy
  ·simp only [Option.some.injEq, Prod.mk.injEq] at hy
   exact ⟨[], by rw [← hy.1, List.append_nil]; rfl, no⟩
  ·cases hy
 ·split at hy
  ·simp only [Option.some.injEq, Prod.mk.injEq] at hy
   refine ⟨[], ?_, no⟩
   rw [← hy.1, List.append_nil]
   unfold Sc.hold
   dsimp only
   split <;> rfl
  ·split at hy
   ·split at hy
    ·obtain ⟨rest, h1, h2⟩ := H8 (x := { x with d := d' }) (a := a) hk'
     simp only [Option.some.injEq] at hy
     rw [hy] at h1
     exact ⟨rest, h1, h2⟩
    ·cases hy
   ·exact Lc (x := { x with d := d' }) hk' hy
theorem Le (hs : SV p N x) (hp : ej p) {l : List PanicEntry} (hst : x.status = 0) (hy : x.step p = some (y, .dh l)) : y.steps = x.steps ∧ y.w.gs = x.w.gs ∧ ∃ rest : List (Int × Int), y.d.taken = x.d.taken ++ rest ∧ ∀ r ∈ rest, 0 ≤ r.2 := by
 unfold Sc.step at hy
 split at hy
 ·rw [if_neg (by rw [hst]; decide)] at hy
  split at hy
  ·rename_i d' l' lN
   simp only [Option.some.injEq, Prod.mk.injEq] at hy
   rw [← hy.1]
   exact ⟨rfl, rfl, [], by rw [(qE lN).1]; simp, by intro r hr; cases hr⟩
  ·rename_i d' k lN
   have hn := jk hs.k lN
   have hk' : d'.k.Ok := by have := vC (kind := 1) (n := x.c.M + 1) hs.k; rw [lN] at this; exact this
   have hM := hs.cM
   have hM1 := hs.M1
   rw [show kK (x.c.M + 1) = x.c.M + 1 from by unfold kK; rw [if_neg (by omega)]] at hn
   generalize hac : Sc.act p { x with d := d' } k = r at hy
   cases r with
   | none => cases hy
   | some r =>
    obtain ⟨z, o⟩ := r
    simp only [Option.map_some, Option.some.injEq] at hy
    cases o with
    | ev e => cases hy
    | dh l2 =>
     simp only [sO, Prod.mk.injEq] at hy
     rw [← hy.1]
     obtain ⟨rest, t1, t2⟩ := Ld hk' hac
     have hT : ∃ rest : List (Int × Int), z.d.taken = x.d.taken ++ rest ∧ ∀ r ∈ rest, 0 ≤ r.2 := ⟨(1, k) :: rest, by rw [t1, hn.2.2]; simp, by
      intro r hr
      rcases List.mem_cons.1 hr with rfl | hr
      ·exact hn.1
      ·exact (t2 r hr).2⟩
     refine ⟨?_, ?_, hT⟩
     all_goals
      clear hT t1 t2
      unfold Sc.act at hac
      split at hac
      ·split at hac <;> cases hac
      ·split at hac
       ·cases hac
       ·split at hac
        ·split at hac
         ·simp only [Option.some.injEq] at hac
          unfold Sc.find at hac
          dsimp only at hac
          split at hac
          ·cases hac
          ·split at hac
           ·split at hac
            ·cases hac; rfl
            ·split at hac <;> cases hac
           ·cases hac
         ·cases hac
        ·rename_i hmp Xi
         have Ra : 0 ≤ (az x k).g := by
          have hmk := qG (x := x) (m := k) (by omega) (by dsimp only at *; omega)
          rcases hs.ms _ (List.mem_of_getElem? hmk) with e | e
          ·exact absurd e.2.1 Xi
          ·have : (az x k).g ≠ -1 := Xi
           omega
         unfold Sc.run at hac
         have em : az { x with d := d' } k = az x k := rfl
         rw [em] at hac
         split at hac
         ·split at hac
          ·obtain ⟨r, rest, hex, hres⟩ := FF (d := (dy d' (asks p { x.w with ready := [] } (az x k).g)).2) hs.w hp Ra (fun v kd n e1 e2 => by
            rw [e2] at e1
            unfold dy at e1
            dsimp only at e1
            generalize hq : d'.draw kd n = q at e1
            obtain ⟨d3, o3⟩ := q
            dsimp only at e1
            subst e1
            have := jk hk' hq
            have hb := Jl hp e2
            rw [show kK n = n from by unfold kK; rw [if_neg (by omega)]] at this
            exact ⟨this.1, this.2.1⟩)
           dsimp only at hac
           rw [hex] at hac
           rcases hres with ⟨hres, _⟩ | ⟨l, e1, e3, _⟩
           ·cases r with
            | on y' => unfold gG at hac; dsimp only at hac; split at hac <;> cases hac
            | fk n y' => unfold gG at hac; dsimp only at hac; split at hac <;> cases hac
            | dh l y' => exact hres.elim
           ·subst e3
            cases hac; rfl
          ·cases hac
         ·cases hac
 ·cases hy
theorem Lf {d' : jE} {o : iK} (hy : Sc.act p { x with d := d' } a = some (y, o)) : y.steps = x.steps ∧ y.c = x.c := by
 have fe : ∀ (z : Sc) (i kind g : Int) (t : Bool), (z.bL a i kind g t).1.steps = z.steps ∧ (z.bL a i kind g t).1.c = z.c := fun z i kind g t => by
  unfold Sc.bL; split <;> exact ⟨rfl, rfl⟩
 unfold Sc.act at hy
 split at hy
 ·split at hy
  ·cases hy; exact ⟨rfl, rfl⟩
  ·cases hy
 ·split at hy
  ·simp only [Option.some.injEq, Prod.mk.injEq] at hy
   rw [← hy.1]
   unfold Sc.hold
   dsimp only
   split <;> exact ⟨rfl, rfl⟩
  ·split at hy
   ·split at hy
    ·simp only [Option.some.injEq] at hy
     have hf : (Sc.find { x with d := d' } a).1.steps = x.steps ∧ (Sc.find { x with d := d' } a).1.c = x.c := by
      unfold Sc.find
      dsimp only
      split
      ·exact ⟨rfl, rfl⟩
      ·split
       ·split
        ·exact ⟨rfl, rfl⟩
        ·split <;> exact fe _ _ _ _ _
       ·exact fe _ _ _ _ _
     rw [hy] at hf
     exact hf
    ·cases hy
   ·unfold Sc.run at hy
    split at hy
    ·rename_i hpre
     obtain ⟨m0, m1, i0, i1, _⟩ := hpre
     have on : ∀ {w : Wd} {d2 : jE} {rest : Bool}, gG { x with d := d' } a (az { x with d := d' } a).g d2 w rest = some (y, o) → y.steps = x.steps ∧ y.c = x.c := fun {w d2 rest} hh => by
      unfold gG at hh
      split at hh
      ·simp only [Option.some.injEq, Prod.mk.injEq] at hh
       have f1 := iw (m := a) w.ready { x with w := w, d := d2 } i0 i1
       rw [← hh.1]
       unfold Sc.lK
       split <;> exact ⟨f1.2.2.2.2.2.1, f1.2.2.2.2.1⟩
      ·cases hh
     split at hy
     ·split at hy
      ·cases hy
      ·cases hy; exact ⟨rfl, rfl⟩
      ·exact on hy
      ·exact on hy
     ·cases hy
    ·cases hy
theorem Lg {e : Ev} (hst : x.status = 0) (hy : x.step p = some (y, .ev e)) : y.steps = x.steps + 1 ∧ y.c = x.c := by
 unfold Sc.step at hy
 split at hy
 ·rw [if_neg (by rw [hst]; decide)] at hy
  split at hy
  ·cases hy
  ·rename_i d' k lN
   generalize hac : Sc.act p { x with d := d' } k = r at hy
   cases r with
   | none => cases hy
   | some r =>
    obtain ⟨z, o⟩ := r
    have := Lf hac
    cases o with
    | dh l => cases hy
    | ev e2 =>
     cases hy
     exact ⟨by show z.steps + 1 = _; rw [this.1], this.2⟩
 ·cases hy
end
def Lz (d : jE) (w : Nat) : Prop := ∃ v, d.sM = some (w, v)
section
variable {p : bZ} {N w : Nat} {x y x0 : Sc} {a : Int}
theorem qH {d d' : jE} {k n : Int} {o : jQ} (h : d.draw k n = (d', o)) (hw : Lz d w) : Lz d' w := by
 obtain ⟨v, hv⟩ := hw
 unfold jE.draw at h
 split at h
 ·cases h
  simp only [hv, ZT]
  exact ⟨_, rfl⟩
 ·cases h
  exact ⟨v, hv⟩
theorem OY (hw : Lz x.d w) : Lz (x.find a).1.d w := by
 unfold Sc.find
 dsimp only
 split
 ·exact hw
 ·have hd : (x.own (az x a).p).1.d = x.d := rfl
  rw [hd]
  split
  ·split
   ·rename_i d' l lN
    exact qH lN hw
   ·rename_i d' v lN
    have := qH lN hw
    try dsimp only
    split <;> rw [rm] <;> exact this
  ·rw [rm]; exact hw
theorem RU (hw : Lz x.d w) {o : iK} (he : x.run p a = some (y, o)) : Lz y.d w := by
 have hq : Lz (dy x.d (asks p { x.w with ready := [] } (az x a).g)).1 w := by
  generalize asks p { x.w with ready := [] } (az x a).g = q
  cases q with
  | none => exact hw
  | some q =>
   obtain ⟨kd, n⟩ := q
   unfold dy
   dsimp only
   generalize lN : x.d.draw kd n = r
   obtain ⟨d', o⟩ := r
   exact qH lN hw
 unfold Sc.run at he
 split at he
 ·rename_i hpre
  obtain ⟨m0, m1, i0, i1, _⟩ := hpre
  split at he
  ·split at he
   ·cases he
   ·simp only [Option.some.injEq, Prod.mk.injEq] at he
    rw [← he.1]
    exact hq
   ·rw [yS he i0 i1]; exact hq
   ·rw [yS he i0 i1]; exact hq
  ·cases he
 ·cases he
theorem RV {d' : jE} (hw : Lz d' w) {o : iK} (hy : Sc.act p { x with d := d' } a = some (y, o)) : Lz y.d w := by
 unfold Sc.act at hy
 split at hy
 ·split at hy
  ·simp only [Option.some.injEq, Prod.mk.injEq] at hy
   rw [← hy.1]; exact hw
  ·cases hy
 ·split at hy
  ·simp only [Option.some.injEq, Prod.mk.injEq] at hy
   rw [← hy.1]
   unfold Sc.hold
   dsimp only
   split <;> exact hw
  ·split at hy
   ·split at hy
    ·have := OY (x := { x with d := d' }) (a := a) hw
     simp only [Option.some.injEq] at hy
     rw [hy] at this
     exact this
    ·cases hy
   ·exact RU (x := { x with d := d' }) hw hy
theorem OZ {o : iK} (hw : Lz x.d w) (hy : x.step p = some (y, o)) : Lz y.d w := by
 unfold Sc.step at hy
 split at hy
 ·split at hy
  ·cases hy; exact hw
  ·split at hy
   ·rename_i d' l lN
    cases hy
    exact qH lN hw
   ·rename_i d' k lN
    have Tm := qH lN hw
    generalize hac : Sc.act p { x with d := d' } k = r at hy
    cases r with
    | none => cases hy
    | some r =>
     obtain ⟨z, o2⟩ := r
     have := RV Tm hac
     simp only [Option.map_some, Option.some.injEq] at hy
     cases o2 <;> simp only [sO, Prod.mk.injEq] at hy <;> rw [← hy.1] <;> exact this
 ·cases hy
def Sc.watch (x : Sc) (w : Nat) : Sc := { x with d := { x.d with sM := some (w, 0) } }
theorem SV.watch (h : SV p N x) : SV p N (x.watch w) := by
 obtain ⟨h1, h2, h3, h4, h5, h6, h7, h8, h9, h10, h11, h12, V8, Xf, h15⟩ := h
 exact ⟨h1, h2, h3, h4, h5, h6, h7, h8, h9, h10, h11, h12, V8, Xf, h15⟩
end
structure Tr where
 gH : List (Bool × Int × Int)
 steps : List Int
def Tr.add (t : Tr) (kind g step draw : Int) : Tr :=
 if kind = 1 then ⟨t.gH ++ [(true, -1, 0)], t.steps ++ [step]⟩ else if kind = 7 then ⟨t.gH ++ [(false, g, draw)], t.steps ++ [step]⟩ else t
structure iL where
 kinds : List Int
 who : List Int
def iL.add (s : iL) (kind g : Int) : iL := ⟨s.kinds ++ [kind], s.who ++ [g]⟩
def yz (d : jE) : Int := match d.sM with
 | some (_, v) => v
 | none => 0
def nw (k : Int) : Bool := k == 1 || k == 7
def Bn (l : List Int) : Nat := (l.filter nw).length
structure DG (t : Tr) (s : iL) : Prop where
 len : s.who.length = s.kinds.length
 lm : t.gH.length = Bn s.kinds
 ls : t.steps.length = Bn s.kinds
 at_ : ∀ (i : Nat) k, s.kinds[i]? = some k → nw k = true → t.steps[Bn (s.kinds.take i)]? = some (i : Int) ∧ ∃ g d, t.gH[Bn (s.kinds.take i)]? = some (k == 1, g, d) ∧ s.who[i]? = some g
theorem DG.nil : DG ⟨[], []⟩ ⟨[], []⟩ := ⟨rfl, rfl, rfl, fun i k h => by simp at h⟩
theorem Ax (l : List Int) (k : Int) : Bn (l ++ [k]) = Bn l + if nw k then 1 else 0 := by
 unfold Bn
 rw [List.filter_append, List.length_append]
 cases h : nw k <;> simp [h]
theorem DG.add {t : Tr} {s : iL} {kind g draw : Int} (h : DG t s) (hg : kind = 1 → g = -1) : DG (t.add kind g (s.kinds.length : Int) draw) (s.add kind g) := by
 obtain ⟨h1, h2, h3, h4⟩ := h
 have key : ∀ (m' : List (Bool × Int × Int)) (s' : List Int), (nw kind = true → ∃ d, m' = t.gH ++ [(kind == 1, g, d)] ∧ s' = t.steps ++ [(s.kinds.length : Int)]) → (nw kind = false → m' = t.gH ∧ s' = t.steps) → DG ⟨m', s'⟩ (s.add kind g) := by
  intro m' s' hm hn
  have old : ∀ (i : Nat) k, i < s.kinds.length → (s.add kind g).kinds[i]? = some k → nw k = true → s'[Bn ((s.add kind g).kinds.take i)]? = some (i : Int) ∧ ∃ g' d, m'[Bn ((s.add kind g).kinds.take i)]? = some (k == 1, g', d) ∧ (s.add kind g).who[i]? = some g' := by
   intro i k hi hk vN
   unfold iL.add at hk ⊢
   dsimp only at hk ⊢
   rw [List.getElem?_append_left hi] at hk
   rw [List.take_append_of_le_length (by omega), List.getElem?_append_left (by omega)]
   obtain ⟨a1, g', d, a2, a3⟩ := h4 i k hk vN
   have b1 := (List.getElem?_eq_some_iff.1 a1).1
   have b2 := (List.getElem?_eq_some_iff.1 a2).1
   cases RT : nw kind with
   | true =>
    obtain ⟨d2, e1, e2⟩ := hm RT
    rw [e1, e2, List.getElem?_append_left b1, List.getElem?_append_left b2]
    exact ⟨a1, g', d, a2, a3⟩
   | false =>
    obtain ⟨e1, e2⟩ := hn RT
    rw [e1, e2]
    exact ⟨a1, g', d, a2, a3⟩
  refine ⟨by simp [iL.add, h1], ?_, ?_, fun i k hk vN => ?_⟩
  ·show m'.length = Bn (s.kinds ++ [kind])
   rw [Ax]
   cases RT : nw kind with
   | true => obtain ⟨d2, e1, e2⟩ := hm RT; rw [e1]; simp [h2]
   | false => obtain ⟨e1, e2⟩ := hn RT; rw [e1]; simp [h2]
  ·show s'.length = Bn (s.kinds ++ [kind])
   rw [Ax]
   cases RT : nw kind with
   | true => obtain ⟨d2, e1, e2⟩ := hm RT; rw [e2]; simp [h3]
   | false => obtain ⟨e1, e2⟩ := hn RT; rw [e2]; simp [h3]
  ·rcases Nat.lt_or_ge i s.kinds.length with hi | hi
   ·exact old i k hi hk vN
   ·have hlt := (List.getElem?_eq_some_iff.1 hk).1
    simp only [iL.add, List.length_append, List.length_singleton] at hlt
    obtain rfl : i = s.kinds.length := by omega
    have ek : kind = k := by simpa [iL.add] using hk
    subst ek
    obtain ⟨d2, e1, e2⟩ := hm vN
    have et : (s.add kind g).kinds.take s.kinds.length = s.kinds := by simp [iL.add]
    rw [et, e1, e2, ← h3]
    refine ⟨by simp, g, d2, ?_, ?_⟩
    ·rw [h3, ← h2]; simp
    ·rw [← h1]; simp [iL.add]
 unfold Tr.add
 by_cases e1 : kind = 1
 ·rw [if_pos e1]
  have := hg e1
  refine key _ _ (fun _ => ⟨0, by rw [this, e1]; rfl, rfl⟩) (fun hf => by rw [e1] at hf; simp [nw] at hf)
 ·rw [if_neg e1]
  by_cases e7 : kind = 7
  ·rw [if_pos e7]
   exact key _ _ (fun _ => ⟨draw, by rw [e7]; rfl, rfl⟩) (fun hf => by rw [e7] at hf; simp [nw] at hf)
  ·rw [if_neg e7]
   exact key _ _ (fun hf => by simp [nw, e1, e7] at hf) (fun _ => ⟨rfl, rfl⟩)
section
variable {p : bZ} {N w : Nat} {x y x0 : Sc}
inductive TS (p : bZ) (w : Nat) (x0 : Sc) : Nat → Sc → Tr → iL → Prop
 | zero : TS p w x0 0 x0 ⟨[], []⟩ ⟨[], []⟩
 | succ {j : Nat} {x y : Sc} {t : Tr} {s : iL} {e : Ev} : TS p w x0 j x t s → x.status = 0 → (x.watch w).step p = some (y, .ev e) →
   TS p w x0 (j + 1) y (t.add e.kind e.g (IntKind.wrap .i64 (y.steps - 1)) (yz y.d)) (s.add e.kind e.g)
theorem TS.sv {j : Nat} {t : Tr} {s : iL} (h : TS p w x0 j x t s) (h0 : SV p 0 x0) (hp : ej p) (hj : j ≤ 1000000) : SV p j x := by
 induction h with
 | zero => exact h0
 | succ hw hs he ih =>
  obtain ⟨y', o, h1, h2⟩ := (SV.watch (w := w) (ih (by omega))).step hp (by omega)
  rw [he] at h1
  cases h1
  exact h2
theorem Wr {e : Ev} (hst : x.status = 0) (hy : x.step p = some (y, .ev e)) (hk : e.kind = 1) : e.g = -1 := by
 unfold Sc.step at hy
 split at hy
 ·rw [if_neg (by rw [hst]; decide)] at hy
  split at hy
  ·cases hy
  ·rename_i d' k lN
   unfold Sc.act at hy
   split at hy
   ·split at hy
    ·simp only [Option.map_some, Option.some.injEq, sO, Prod.mk.injEq, iK.ev.injEq] at hy
     rw [← hy.2]; rfl
    ·cases hy
   ·have fw : ∀ (z : Sc) (i kind g : Int) (t : Bool), (z.bL k i kind g t).2.kind = kind ∨ (z.bL k i kind g t).2.kind = 6 := fun z i kind g t => by
     unfold Sc.bL; split
     ·exact .inl rfl
     ·exact .inr rfl
    have n7 : ∀ (z : Sc) (i kind g : Int) (t : Bool), kind = 4 ∨ kind = 5 → (z.bL k i kind g t).2.kind ≠ 1 := fun z i kind g t h => by
     have := fw z i kind g t; omega
    split at hy
    ·simp only [Option.map_some, Option.some.injEq, sO, Prod.mk.injEq, iK.ev.injEq] at hy
     rw [← hy.2] at hk
     unfold Sc.hold at hk
     split at hk <;> cases hk
    ·split at hy
     ·split at hy
      ·have hf : ∀ e, (Sc.find { x with d := d' } k).2 = .ev e → e.kind ≠ 1 := by
        unfold Sc.find
        dsimp only
        split
        ·intro e he; cases he; dsimp only; omega
        ·split
         ·split
          ·intro e he; cases he
          ·split
           ·intro e he; cases he; exact n7 _ _ _ _ _ (.inr rfl)
           ·intro e he; cases he; exact n7 _ _ _ _ _ (.inr rfl)
         ·intro e he; cases he; exact n7 _ _ _ _ _ (.inl rfl)
       generalize Sc.find { x with d := d' } k = r at hy hf
       obtain ⟨z, o⟩ := r
       cases o with
       | dh l => simp [sO] at hy
       | ev e2 =>
        simp only [Option.map_some, Option.some.injEq, sO, Prod.mk.injEq, iK.ev.injEq] at hy
        rw [← hy.2] at hk
        exact absurd hk (hf _ rfl)
      ·cases hy
     ·generalize hrr : Sc.run p { x with d := d' } k = r at hy
      cases r with
      | none => cases hy
      | some r =>
       obtain ⟨z, o⟩ := r
       cases o with
       | dh l => simp [sO] at hy
       | ev e2 =>
        simp only [Option.map_some, Option.some.injEq, sO, Prod.mk.injEq, iK.ev.injEq] at hy
        obtain ⟨_, _, _, _, _, q1, _⟩ := run_shape hrr
        rw [← hy.2, q1] at hk
        exact absurd hk (by decide)
 ·cases hy
theorem TS.facts {j : Nat} {t : Tr} {s : iL} (h : TS p w x0 j x t s) (h0 : SV p 0 x0) (hp : ej p) (hj : j ≤ 1000000) (hs0 : x0.steps = 0) : DG t s ∧ s.kinds.length = j ∧ x.steps = j := by
 induction h with
 | zero => exact ⟨DG.nil, rfl, hs0⟩
 | @succ j x y t s e hw hs he ih =>
  obtain ⟨i1, i2, i3⟩ := ih (by omega)
  have hv := hw.sv h0 hp (by omega)
  have hst : (x.watch w).status = 0 := hs
  have e1 := (Lg hst he).1
  have e2 : (x.watch w).steps = x.steps := rfl
  have ew : IntKind.wrap .i64 (y.steps - 1) = (s.kinds.length : Int) := by rw [e1, e2, i3, lX (by omega) (by omega)]; omega
  rw [ew]
  refine ⟨i1.add (Wr hst he), by simp [iL.add, i2], by rw [e1, e2, i3]; omega⟩
end
def o6 : bZ := ⟨[[⟨20, 0, 0, 0⟩, ⟨10, 0, 0, 0⟩]], [], 0, []⟩
def evOf : Option (Sc × iK) → Option (Sc × Ev)
 | some (x, .ev e) => some (x, e)
 | _ => none
def x18 : Sc := Sc.new o6 ⟨1, 1, 2, 9⟩ ⟨.xU [0, 0, 0, 0] 0, [], none⟩
theorem fM : x18.d.k.Ok := ⟨by decide, by decide, fun v hv => by simp at hv; subst hv; decide⟩
def cG (c : Jm) : Jm :=
 let q := fun (x m : Int) => Int.tmod (IntKind.wrap .i64 (((Nat.bitwise and (BitVec.ofInt IntKind.i64.bits x).toNat (BitVec.ofInt IntKind.i64.bits 255).toNat) : Nat) : Int)) m
 ⟨1 + q c.P 5, 1 + q c.M 5, 2 + q c.R 5, 1 + q c.S 12⟩
theorem yT (x : Int) {m : Int} {n : Nat} (e : m = (n : Int)) (hm : 0 < n) : 0 ≤ Int.tmod (IntKind.wrap .i64 (((Nat.bitwise and (BitVec.ofInt IntKind.i64.bits x).toNat (BitVec.ofInt IntKind.i64.bits 255).toNat) : Nat) : Int)) m ∧ Int.tmod (IntKind.wrap .i64 (((Nat.bitwise and (BitVec.ofInt IntKind.i64.bits x).toNat (BitVec.ofInt IntKind.i64.bits 255).toNat) : Nat) : Int)) m < m := by
 obtain ⟨q, hq, _⟩ := mask (x := x) (y := 255) (m := 255) rfl (by omega)
 rw [hq, e, Go.AF.uu]
 have := Nat.mod_lt q hm
 omega
theorem Ay (c : Jm) : 1 ≤ (cG c).P ∧ (cG c).P ≤ 5 ∧ 1 ≤ (cG c).M ∧ (cG c).M ≤ 5 ∧ 2 ≤ (cG c).R ∧ (cG c).R ≤ 6 ∧ 1 ≤ (cG c).S ∧ (cG c).S ≤ 12 := by
 have a := yT c.P (m := 5) (n := 5) rfl (by omega)
 have b := yT c.M (m := 5) (n := 5) rfl (by omega)
 have d := yT c.R (m := 5) (n := 5) rfl (by omega)
 have e := yT c.S (m := 12) (n := 12) rfl (by omega)
 unfold cG
 dsimp only
 refine ⟨by omega, ?_, by omega, ?_, by omega, ?_, by omega, ?_⟩ <;> omega
section
variable {R : Mem} {L L' : List HP} {M : Mem} {K : Value → Mem → Prop} {Kp : List PanicEntry → Mem → Prop}
theorem mz {x m : Int} {n : Nat} (hm : m = (n : Int)) (hn : 0 < n) (k : K (.int .i64 (Int.tmod (IntKind.wrap .i64 (((Nat.bitwise and (BitVec.ofInt IntKind.i64.bits x).toNat (BitVec.ofInt IntKind.i64.bits 255).toNat) : Nat) : Int)) m)) M) : aa Tryz.prog 55 #[.int .i64 x, .int .i64 m] M K Kp := by
 refine nY ⟨by omega, k⟩
theorem H9 {c : Jm} (h : Hp R L M) (k : ∀ M', Hp R L M' → K (.agg #[.int .i64 (cG c).P, .int .i64 (cG c).M, .int .i64 (cG c).R, .int .i64 (cG c).S]) M') : aa Tryz.prog 14 #[.agg #[.int .i64 c.P, .int .i64 c.M, .int .i64 c.R, .int .i64 c.S]] M K Kp := by
 refine qi ?_
 refine aj h ?_
 clear h; intro k1 M h
 refine aj h ?_
 clear h; intro k3 M h
 refine aG h (aG h (aG h (aG h ?_)))
 refine mz (n := 5) rfl (by omega) (c6 ⟨bO h, bO h, bO h, ?_⟩)
 refine mz (n := 5) rfl (by omega) (c6 ⟨bO h, bO h, bO h, ?_⟩)
 refine mz (n := 5) rfl (by omega) (c6 ⟨bO h, bO h, bO h, ?_⟩)
 refine mz (n := 12) rfl (by omega) (c6 ⟨bO h, bO h, bO h, ?_⟩)
 have ok := Ay c
 have e1 : IntKind.wrap .i64 (1 + Int.tmod (IntKind.wrap .i64 (((Nat.bitwise and (BitVec.ofInt IntKind.i64.bits c.P).toNat (BitVec.ofInt IntKind.i64.bits 255).toNat) : Nat) : Int)) 5) = (cG c).P := cC (z := (cG c).P) (by omega) (by omega)
 have e2 : IntKind.wrap .i64 (1 + Int.tmod (IntKind.wrap .i64 (((Nat.bitwise and (BitVec.ofInt IntKind.i64.bits c.M).toNat (BitVec.ofInt IntKind.i64.bits 255).toNat) : Nat) : Int)) 5) = (cG c).M := cC (z := (cG c).M) (by omega) (by omega)
 have e3 : IntKind.wrap .i64 (2 + Int.tmod (IntKind.wrap .i64 (((Nat.bitwise and (BitVec.ofInt IntKind.i64.bits c.R).toNat (BitVec.ofInt IntKind.i64.bits 255).toNat) : Nat) : Int)) 5) = (cG c).R := cC (z := (cG c).R) (by omega) (by omega)
 have e4 : IntKind.wrap .i64 (1 + Int.tmod (IntKind.wrap .i64 (((Nat.bitwise and (BitVec.ofInt IntKind.i64.bits c.S).toNat (BitVec.ofInt IntKind.i64.bits 255).toNat) : Nat) : Int)) 12) = (cG c).S := cC (z := (cG c).S) (by omega) (by omega)
 rw [e1, e2, e3, e4]
 refine au h ?_
 clear h; intro M h
 refine au h ?_
 clear h; intro M h
 refine au h ?_
 clear h; intro M h
 refine au h ?_
 clear h; intro M h
 refine ⟨bO h, bO h, bO h, aG h (aG h (aG h (aG h ?_)))⟩
 exact k _ (h.sub br)
end
def LA : List Value := [.int .i64 0, .int .i64 0, .int .i64 0, .int .i64 0, .int .u64 0]
inductive pb : List PanicEntry → Int → List Value → Prop
 | d1 : pb K3 1 LA
 | d2 : pb (yy K3) 1 LA
 | u1 (a q n k x : Int) : pb (Xg a q n k x) 2 [.int .i64 a, .int .i64 q, .int .i64 n, .int .i64 k, .int .u64 x]
 | u2 (a q n k x : Int) : pb (yy (Xg a q n k x)) 2 [.int .i64 a, .int .i64 q, .int .i64 n, .int .i64 k, .int .u64 x]
section
variable {R : Mem} {L L' L2 : List HP} {M : Mem} {K : Value → Mem → Prop} {Kp : List PanicEntry → Mem → Prop} {u0 : Value} {S : Mem → List HP → Prop} {D : Mem → List PanicEntry → List HP → Prop}
def DH (R : Mem) (L : List HP) (u0 : Value) (S : Mem → List HP → Prop) (D : Mem → List PanicEntry → List HP → Prop) : Prop := ∀ (Q : HP) (M : Mem) (K : Value → Mem → Prop) (Kp : List PanicEntry → Mem → Prop), Hp R (Q :: L) M →
 (∀ R' L' M', S R' L' → Hp R' (Q :: L') M' → K (.tuple #[]) M') → (∀ R' l L' M', D R' l L' → Hp R' (Q :: L') M' → Kp l M') → gZ Cx u0 [] M K Kp
theorem Bo {b1 b2 : Nat} (h : Hp R (pt b1 [.int .i64 0] 3 :: pt b2 LA 97 :: L) M) (hc : DH R L u0 S D) (hd : ∀ R' l L', D R' l L' → ∃ e vs, pb l e vs)
  (k : ∀ R' L' M', S R' L' → Hp R' (pt b1 [.int .i64 0] 3 :: pt b2 LA 97 :: L') M' → K (.tuple #[]) M')
  (kd : ∀ R' l L' M' e vs, D R' l L' → pb l e vs → Hp R' (pt b1 [.int .i64 e] 3 :: pt b2 vs 97 :: L') M' → K (.tuple #[]) M') :
  aa Tryz.prog 116 #[u0, .pointer (some ⟨b1, 0, none⟩), .pointer (some ⟨b2, 0, none⟩)] M K Kp := by
 refine wR ?_
 refine aj h ?_
 clear h
 intro k1 M h
 refine aj h ?_
 clear h
 intro k3 M h
 refine hc (sep [pt k3 [.pointer (some ⟨b2, 0, none⟩)] _, pt k1 [.pointer (some ⟨b1, 0, none⟩)] _, pt b1 [.int .i64 0] 3, pt b2 LA 97]) M _ _ (Hp.aS.2 h) ?_ ?_
 ·clear h
  intro R' L' M' hs h
  have h := Hp.aS.1 h
  exact ⟨rfl, KD (k R' L' M' hs h.drop.drop)⟩
 ·clear h
  intro R' l L' M hs h
  replace h := Hp.aS.1 h
  obtain ⟨e, vs, hg⟩ := hd _ _ _ hs
  have kd' := kd R' l L'
  simp only [List.cons_append, List.nil_append, LA] at h kd'
  clear kd k hc hd
  cases hg with
  | d1 =>
   refine Hl ?_
   repeat (first|(refine aj h ?_;clear h;intro kb M h)|(refine au h ?_;clear h;intro M h)|refine St.to h ?_|(apply Exists.intro;(repeat apply Exists.intro);refine And.intro rfl ?_)|refine av ?_|refine ai ?_|refine ae ?_)
   exact kd' _ _ _ hs .d1 (h.sub br)
  | d2 =>
   refine E7 ?_
   repeat (first|(refine aj h ?_;clear h;intro kb M h)|(refine au h ?_;clear h;intro M h)|refine St.to h ?_|(apply Exists.intro;(repeat apply Exists.intro);refine And.intro rfl ?_)|refine av ?_|refine ai ?_|refine ae ?_)
   exact kd' _ _ _ hs .d2 (h.sub br)
  | u1 a q n k x =>
   refine Bi ?_
   repeat (first|(refine aj h ?_;clear h;intro kb M h)|(refine au h ?_;clear h;intro M h)|refine St.to h ?_|(apply Exists.intro;(repeat apply Exists.intro);refine And.intro rfl ?_)|refine av ?_|refine ai ?_|refine ae ?_)
   exact kd' _ _ _ hs (.u1 a q n k x) (h.sub br)
  | u2 a q n k x =>
   refine zJ ?_
   repeat (first|(refine aj h ?_;clear h;intro kb M h)|(refine au h ?_;clear h;intro M h)|refine St.to h ?_|(apply Exists.intro;(repeat apply Exists.intro);refine And.intro rfl ?_)|refine av ?_|refine ai ?_|refine ae ?_)
   exact kd' _ _ _ hs (.u2 a q n k x) (h.sub br)
theorem pb.shape {l : List PanicEntry} {e : Int} {vs : List Value} (h : pb l e vs) : (e = 1 ∨ e = 2) ∧ ∃ a q n k x : Int, vs = [.int .i64 a, .int .i64 q, .int .i64 n, .int .i64 k, .int .u64 x] := by
 cases h with
 | d1 => exact ⟨.inl rfl, 0, 0, 0, 0, 0, rfl⟩
 | d2 => exact ⟨.inl rfl, 0, 0, 0, 0, 0, rfl⟩
 | u1 a q n k x => exact ⟨.inr rfl, a, q, n, k, x, rfl⟩
 | u2 a q n k x => exact ⟨.inr rfl, a, q, n, k, x, rfl⟩
theorem DI (h : Hp R L M) (hc : DH R L u0 S D) (hd : ∀ R' l L', D R' l L' → ∃ e vs, pb l e vs)
  (k : ∀ R' L' M', S R' L' → Hp R' L' M' → K (.tuple #[.int .i64 0, .agg #[.int .i64 0, .int .i64 0, .int .i64 0, .int .i64 0, .int .u64 0]]) M')
  (kd : ∀ R' l L' M' e a q n k x, D R' l L' → pb l e [.int .i64 a, .int .i64 q, .int .i64 n, .int .i64 k, .int .u64 x] → Hp R' L' M' → K (.tuple #[.int .i64 e, .agg #[.int .i64 a, .int .i64 q, .int .i64 n, .int .i64 k, .int .u64 x]]) M') :
  aa Tryz.prog 61 #[u0] M K Kp := by
 refine ym ?_
 refine aj h ?_
 clear h
 intro k1 M h
 refine aj h ?_
 clear h
 intro k3 M h
 refine aj h ?_
 clear h
 intro k5 M h
 repeat (refine au h ?_; clear h; intro M h)
 refine Bo (S := fun R' L2 => ∃ L', S R' L' ∧ L2 = pt k1 LA 97 :: L') (D := fun R' l L2 => ∃ L', D R' l L' ∧ L2 = pt k1 LA 97 :: L') (L := pt k1 LA 97 :: L) (h.sub br) ?_ ?_ ?_ ?_
 ·intro Q M K Kp h k1' k2
  refine hc (sep [Q, pt k1 LA 97]) M K Kp (Hp.aS.2 h) ?_ ?_
  ·intro R' L' M' hs h
   exact k1' R' _ M' ⟨L', hs, rfl⟩ (Hp.aS.1 h)
  ·intro R' l L' M' hs h
   exact k2 R' l _ M' ⟨L', hs, rfl⟩ (Hp.aS.1 h)
 ·rintro R' l _ ⟨L', hs, _⟩
  exact hd _ _ _ hs
 ·rintro R' _ M ⟨L', hs, rfl⟩ h
  clear hc hd kd
  simp only [LA] at h
  refine ⟨rfl, ?_⟩
  repeat (first|(refine aj h ?_;clear h;intro kb M h)|(refine au h ?_;clear h;intro M h)|refine St.to h ?_|(apply Exists.intro;(repeat apply Exists.intro);refine And.intro rfl ?_)|refine av ?_|refine ai ?_|refine ae ?_)
  exact k _ _ _ hs (h.sub br)
 ·rintro R' l _ M e vs ⟨L', hs, rfl⟩ hg h
  obtain ⟨_, a, q, n, kk, x, rfl⟩ := hg.shape
  clear hc hd k
  simp only [LA] at h
  refine ⟨rfl, ?_⟩
  repeat (first|(refine aj h ?_;clear h;intro kb M h)|(refine au h ?_;clear h;intro M h)|refine St.to h ?_|(apply Exists.intro;(repeat apply Exists.intro);refine And.intro rfl ?_)|refine av ?_|refine ai ?_|refine ae ?_)
  exact kd _ _ _ _ _ _ _ _ _ _ hs hg (h.sub br)
theorem Lh {k k' : gE} {kind m : Int} {l : List PanicEntry} (h : k.next kind m = (k', .dh l)) : ∃ e vs, pb l e vs ∧ pb (yy l) e vs := by
 cases k with
 | xU t i =>
  unfold gE.next at h
  dsimp only at h
  split at h
  ·cases h; exact ⟨_, _, .d1, .d2⟩
  ·cases h
 | tape t i =>
  unfold gE.next at h
  dsimp only at h
  split at h
  ·cases h; exact ⟨_, _, .d1, .d2⟩
  ·split at h
   ·cases h; exact ⟨_, _, .u1 _ _ _ _ _, .u2 _ _ _ _ _⟩
   ·split at h
    ·cases h; exact ⟨_, _, .u1 _ _ _ _ _, .u2 _ _ _ _ _⟩
    ·cases h
theorem xj {x x' : jE} {kind n : Int} {l : List PanicEntry} (h : x.draw kind n = (x', .dh l)) : ∃ e vs, pb l e vs ∧ pb (yy l) e vs := by
 unfold jE.draw at h
 split at h
 ·cases h
 ·rename_i k' l' hn
  cases h
  exact Lh hn
theorem O0 {d d' : jE} {a : Option (Int × Int)} {l : List PanicEntry} (h : dy d a = (d', .dh l)) : ∃ e vs, pb l e vs ∧ pb (yy l) e vs := by
 cases a with
 | none => cases h
 | some q => exact xj h
theorem RW {z y : Sc} {o : iK} {l : List PanicEntry} (h : sO (z, o) = (y, .dh l)) : o = .dh l := by
 cases o with
 | ev e => cases h
 | dh l' => cases h; rfl
theorem O1 {p : bZ} {x y : Sc} {l : List PanicEntry} (he : x.step p = some (y, .dh l)) : ∃ e vs, pb l e vs := by
 unfold Sc.step at he
 split at he
 ·split at he
  ·cases he
  ·split at he
   ·rename_i hd
    cases he
    obtain ⟨e, vs, h, _⟩ := xj hd
    exact ⟨e, vs, h⟩
   ·rename_i d' m hd
    simp only [Option.map_eq_some_iff] at he
    obtain ⟨⟨z, o⟩, ha, hi⟩ := he
    have ho := RW hi
    subst ho
    clear hi hd
    unfold Sc.act at ha
    split at ha
    ·split at ha
     ·cases ha
     ·cases ha
    ·split at ha
     ·cases ha
     ·split at ha
      ·split at ha
       ·simp only [Option.some.injEq] at ha
        unfold Sc.find at ha
        dsimp only at ha
        split at ha
        ·cases ha
        ·split at ha
         ·split at ha
          ·rename_i hd
           cases ha
           obtain ⟨e, vs, h, _⟩ := xj hd
           exact ⟨e, vs, h⟩
          ·split at ha <;> cases ha
         ·cases ha
       ·cases ha
      ·unfold Sc.run at ha
       split at ha
       ·split at ha
        ·split at ha
         ·cases ha
         ·rename_i l' w rest hex
          cases ha
          obtain ⟨Bl, _⟩ := Cw hex
          obtain ⟨e, vs, _, h⟩ := O0 (d' := _) (by rw [← Bl])
          exact ⟨e, vs, h⟩
         ·unfold gG at ha
          split at ha <;> cases ha
         ·unfold gG at ha
          split at ha <;> cases ha
        ·cases ha
       ·cases ha
 ·cases he
end
end Go.Proofs
namespace Go.Proofs
open Go.AF
set_option maxRecDepth 100000
set_option maxHeartbeats 1000000
attribute [local irreducible] aI c7 fm cy aB eN aE aM aX bk bJ aP
attribute [local irreducible] D0 DN
def jU : hU (Bool × Int × Int) := ⟨3, fun w => [.bool w.1, .int .i64 w.2.1, .int .i64 w.2.2], fun _ => rfl, fun w v hv => by
 simp only [List.mem_cons, List.not_mem_nil, or_false] at hv; obtain rfl | rfl | rfl := hv <;> rfl⟩
def om : tj Tr := ⟨fun b t => exs fun A : Option Addr => exs fun c : Nat => exs fun B : Option Addr => exs fun d : Nat =>
 sep [pt b [.slice A t.gH.length c, .slice B t.steps.length d] 93, bE jU 102 A c t.gH, bE bl 3 B d t.steps]⟩
theorem RX : bj Tryz.prog 91 102 3 24 [.bool false, .int .i64 0, .int .i64 0] := bj.mk' (zv := .agg #[.bool false, .int .i64 0, .int .i64 0]) (by kernel_rfl) (by kernel_rfl) rfl (by omega)
section
variable {R : Mem} {L L' : List HP} {M : Mem} {K : Value → Mem → Prop} {Kp : List PanicEntry → Mem → Prop} {b sb wb db w : Nat} {t : Tr} {x y x0 : Sc} {pa : PA} {p : bZ}
theorem FQ (h : Hp R L M) [o : cq om b L t L'] : ∃ A c B d, Hp R (pt b [.slice A t.gH.length c, .slice B t.steps.length d] 93 :: bE jU 102 A c t.gH :: bE bl 3 B d t.steps :: L') M := by
 have := h.obj om b
 simpa only [om, Hp.de, Hp.aS, List.cons_append, List.nil_append] using this
theorem Ia {A B : Option Addr} {c d : Nat} (h : Hp R (pt b [.slice A t.gH.length c, .slice B t.steps.length d] 93 :: bE jU 102 A c t.gH :: bE bl 3 B d t.steps :: L) M) : Hp R (ay om b t :: L) M := by
 refine Hp.wg ?_
 simp only [om, Hp.de, Hp.aS, List.cons_append, List.nil_append]
 exact ⟨_, _, _, _, h⟩
theorem Li {e : Ev} {A : Option Addr} {c : Nat} {step draw : Int} (h : Hp R L M) [o : cq om b L t L'] (h1 : t.gH.length ≤ 1000000) (h2 : t.steps.length ≤ 1000000) (k : ∀ M', Hp R (ay om b (t.add e.kind e.g step draw) :: L') M' → K (.tuple #[]) M') :
  aa Tryz.prog 82 #[.pointer (some ⟨b, 0, none⟩), .agg #[.int .i64 e.kind, .int .i64 e.m, .int .i64 e.g, .slice A e.ready.length c], .int .i64 step, .int .i64 draw] M K Kp := by
 refine tM ?_
 have h' := FQ h (b := b)
 clear h
 obtain ⟨A1, c1, B1, d1, h⟩ := h'
 refine aj h ?_
 clear h
 intro k1 M h
 unfold Tr.add at k
 have fin : ∀ (M : Mem) (m : Bool × Int × Int) (L2 : List HP), Hp R (pt b [.slice A1 t.gH.length c1, .slice B1 t.steps.length d1] 93 :: bE jU 102 A1 c1 t.gH :: bE bl 3 B1 d1 t.steps :: L2) M → ∀ {G : Mem → Prop},
   (∀ M', Hp R (ay om b ⟨t.gH ++ [m], t.steps ++ [step]⟩ :: L2) M' → G M') →
   aX M (.cells #[.bool m.1, .int .i64 m.2.1, .int .i64 m.2.2] 102 (0, 0)) fun k7 M8 =>
    bk Tryz.prog (Go.Builtin.append_ #[91, 91] 91 #[(.slice A1 t.gH.length c1), (.slice (some ⟨k7, 0, none⟩) 1 1)]) M8 (fun v9 iE =>
    aB (some v9) fun Nd gJ cX =>
    aM iE ⟨b, 0, none⟩ (.slice Nd gJ cX) fun kD =>
    aB (Mem.ld kD ⟨b, (0 + 1), none⟩) fun l8 eX dn =>
    aX kD (.cells #[(.int .i64 step)] 3 (0, 0)) fun fM jq =>
    bk Tryz.prog (Go.Builtin.append_ #[36, 36] 36 #[(.slice l8 eX dn), (.slice (some ⟨fM, 0, none⟩) 1 1)]) jq (fun v20 kj =>
    aB (some v20) fun GV iM mX =>
    aM kj ⟨b, (0 + 1), none⟩ (.slice GV iM mX) fun DR => G DR) Kp) Kp := by
  intro M m L2 h G g
  refine aj h ?_
  clear h
  intro k7 M h
  refine h.aT RX [m] rfl rfl (by simp only [List.length_singleton]; omega) ?_
  clear h
  intro A2 c2 M h
  refine aQ ?_
  refine au h ?_
  clear h; intro M h
  refine aF h ?_
  refine aj h ?_
  clear h
  intro fM M h
  refine h.aT (A := B1) dX [step] rfl rfl (by simp only [List.length_singleton]; omega) ?_
  clear h
  intro B2 d2 M h
  refine aQ ?_
  refine au h ?_
  clear h; intro M h
  exact g M (Ia (t := ⟨t.gH ++ [m], t.steps ++ [step]⟩) (h.sub br))
 have h2 : Hp R (pt b [.slice A1 t.gH.length c1, .slice B1 t.steps.length d1] 93 :: bE jU 102 A1 c1 t.gH :: bE bl 3 B1 d1 t.steps :: pt k1 [.int .i64 e.kind, .int .i64 e.m, .int .i64 e.g, .slice A e.ready.length c] 43 :: L') M := h.sub br
 clear h
 refine aG h2 (aY.2 ⟨fun e1 => ?_, fun e1 => aY.2 ⟨fun e7 => ?_, fun e7 => ?_⟩⟩)
 ·rw [if_pos e1] at k
  refine aF h2 ?_
  exact fin M (true, -1, 0) _ h2 fun M' h => k M' (h.sub br)
 ·rw [if_neg e1, if_pos e7] at k
  refine aF h2 (aG h2 ?_)
  exact fin M (false, e.g, draw) _ h2 fun M' h => k M' (h.sub br)
 ·rw [if_neg e1, if_neg e7] at k
  exact k M ((Ia h2).sub br)
end
def Tc (pa : PA) (p : bZ) (wb db b w : Nat) (x : Sc) (L1 : List HP) : Prop :=
 (x.d.sM = none ∧ ∃ d : Int, L1 = [ay (dZ pa p wb db) b x, pt w [.int .i64 d] 182]) ∨ (Lz x.d w ∧ L1 = [ay (dZ pa p wb db) b x])
def O2 (u : Value) (S : iL → HP) : Prop :=
 (u = .nilFunc ∧ ∀ s k g, S (s.add k g) = S s) ∨ ((∃ f a c, u = .func f a c) ∧ ∀ (R : Mem) (e : Ev) (A : Option Addr) (c : Nat) (s : iL) (L : List HP) (M : Mem) (K : Value → Mem → Prop) (Kp : List PanicEntry → Mem → Prop),
  s.kinds.length ≤ 1000 → s.who.length ≤ 1000 → Hp R (S s :: L) M → (∀ M', Hp R (S (s.add e.kind e.g) :: L) M' → K (.tuple #[]) M') → gZ Cx u [.agg #[.int .i64 e.kind, .int .i64 e.m, .int .i64 e.g, .slice A e.ready.length c]] M K Kp)
inductive WT (p : bZ) (w : Nat) (x0 : Sc) (most : Nat) : Sc → Tr → iL → Int → Prop
 | Ws {j : Nat} {x : Sc} {t : Tr} {s : iL} : TS p w x0 j x t s → j ≤ most → j = most ∨ x.status ≠ 0 → WT p w x0 most x t s 0
 | dh {j : Nat} {x y : Sc} {t : Tr} {s : iL} {v : List PanicEntry} {e : Int} : TS p w x0 j x t s → j < most → x.status = 0 → (x.watch w).step p = some (y, .dh v) → WT p w x0 most y t s e
section
variable {R : Mem} {L L' L1 F : List HP} {M : Mem} {K : Value → Mem → Prop} {Kp : List PanicEntry → Mem → Prop} {b wb db w : Nat} {x y x0 : Sc} {pa : PA} {p : bZ} {S : iL → HP} {u : Value}
theorem WT.facts {most : Nat} {t : Tr} {s : iL} {e : Int} (h : WT p w x0 most y t s e) (h0 : SV p 0 x0) (hp : ej p) (hm : most ≤ 100000) (hs0 : x0.steps = 0) : DG t s ∧ s.kinds.length ≤ most ∧ y.steps = s.kinds.length := by
 cases h with
 | Ws hw hj _ => obtain ⟨a, b, c⟩ := hw.facts h0 hp (by omega) hs0; exact ⟨a, by omega, by rw [c, b]⟩
 | dh hw hj hst hy =>
  obtain ⟨a, b, c⟩ := hw.facts h0 hp (by omega) hs0
  have hv := SV.watch (w := w) (hw.sv h0 hp (by omega))
  have e1 := (Le hv hp hst hy).1
  exact ⟨a, by omega, by rw [e1]; show _ = _; rw [b, ← c]; rfl⟩
theorem Wu (hl : Tc pa p wb db b w x L1) (h : Hp R (L1 ++ F) M) : ∃ L2, Hp R (ay (dZ pa p wb db) b x :: L2) M := by
 rcases hl with ⟨_, d, rfl⟩ | ⟨_, rfl⟩
 ·exact ⟨_, h⟩
 ·exact ⟨_, h⟩
theorem Jp (hl : Tc pa p wb db b w x L1) (h : Hp R (L1 ++ F) M) : ∃ (a : SA) (A : Option Addr) (c kb : Nat) (d : Int) (v : Value), a.lb.length = x.ps.length ∧
  Hp R (pt w [.int .i64 d] 182 :: pt db [jt x.d.k kb, jS x.d.k kb, .slice A x.d.taken.length c, v] 152 :: gF A c x.d.taken :: ay kR kb x.d.k :: fX (dH b wb db a x) x.gl :: ay (bu pa p) wb x.w :: dY a x F) M := by
 rcases hl with ⟨hs, d, rfl⟩ | ⟨⟨d, hs⟩, rfl⟩
 ·have h1 : Hp R (ay (dZ pa p wb db) b x :: pt w [.int .i64 d] 182 :: F) M := h
  obtain ⟨a, hla, h2⟩ := gh h1 (b := b)
  obtain ⟨A, c, kb, h3⟩ := vA h2 (b := db)
  exact ⟨a, A, c, kb, d, _, hla, h3.sub br⟩
 ·have h1 : Hp R (ay (dZ pa p wb db) b x :: F) M := h
  obtain ⟨a, hla, h2⟩ := gh h1 (b := b)
  obtain ⟨A, c, kb, h3⟩ := vA h2 (b := db)
  rw [hs] at h3
  have h4 : Hp R (sep (FH (some (w, d))) :: pt db [jt x.d.k kb, jS x.d.k kb, .slice A x.d.taken.length c, vz (some (w, d))] 152 :: gF A c x.d.taken :: ay kR kb x.d.k :: fX (dH b wb db a x) x.gl :: ay (bu pa p) wb x.w :: dY a x F) M := h3.sub br
  exact ⟨a, A, c, kb, d, _, hla, Hp.aS.1 h4⟩
theorem O3 {a : SA} {A : Option Addr} {c kb : Nat} (hla : a.lb.length = x.ps.length)
  (h : Hp R (pt w [.int .i64 0] 182 :: pt db [jt x.d.k kb, jS x.d.k kb, .slice A x.d.taken.length c, vz (some (w, 0))] 152 :: gF A c x.d.taken :: ay kR kb x.d.k :: fX (dH b wb db a x) x.gl :: ay (bu pa p) wb x.w :: dY a x F) M) :
  Hp R (ay (dZ pa p wb db) b (x.watch w) :: F) M := by
 have h2 : Hp R (sep (FH (some (w, 0))) :: pt db [jt x.d.k kb, jS x.d.k kb, .slice A x.d.taken.length c, vz (some (w, 0))] 152 :: gF A c x.d.taken :: ay kR kb x.d.k :: fX (dH b wb db a x) x.gl :: ay (bu pa p) wb x.w :: dY a x F) M := Hp.aS.2 h
 have h3 : Hp R (ay cQ db { x.d with sM := some (w, 0) } :: fX (dH b wb db a x) x.gl :: ay (bu pa p) wb x.w :: dY a x F) M := w7 (x := { x.d with sM := some (w, 0) }) (A := A) (c := c) (kb := kb) (h2.sub br)
 have h4 : Hp R (fX (dH b wb db a x) x.gl :: ay (bu pa p) wb x.w :: ay cQ db { x.d with sM := some (w, 0) } :: dY a x F) M := h3.sub br
 exact jj (x := x.watch w) hla h4
theorem Wv {a : SA} {A : Option Addr} {c kb : Nat} (hla : a.lb.length = x.ps.length)
  (h : Hp R (pt db [jt x.d.k kb, jS x.d.k kb, .slice A x.d.taken.length c, .nilFunc] 152 :: gF A c x.d.taken :: ay kR kb x.d.k :: fX (dH b wb db a x) x.gl :: ay (bu pa p) wb x.w :: dY a x F) M) :
  Hp R (ay (dZ pa p wb db) b { x with d := { x.d with sM := none } } :: F) M := by
 have h2 := Hp.aS (l := []).2 h
 have h3 : Hp R (ay cQ db { x.d with sM := none } :: fX (dH b wb db a x) x.gl :: ay (bu pa p) wb x.w :: dY a x F) M := w7 (x := { x.d with sM := none }) (A := A) (c := c) (kb := kb) (h2.sub br)
 have h4 : Hp R (fX (dH b wb db a x) x.gl :: ay (bu pa p) wb x.w :: ay cQ db { x.d with sM := none } :: dY a x F) M := h3.sub br
 exact jj (x := { x with d := { x.d with sM := none } }) hla h4
theorem ws_ld {d : Int} (hs : x.d.sM = some (w, d)) (h : Hp R (ay (dZ pa p wb db) b x :: F) M) : M.ld ⟨w, 0, none⟩ = some (.int .i64 (yz x.d)) := by
 obtain ⟨a, hla, h2⟩ := gh h (b := b)
 obtain ⟨A, c, kb, h3⟩ := vA h2 (b := db)
 have e : yz x.d = d := by unfold yz; rw [hs]
 rw [hs] at h3
 have h4 : Hp R (sep (FH (some (w, d))) :: pt db [jt x.d.k kb, jS x.d.k kb, .slice A x.d.taken.length c, vz (some (w, d))] 152 :: gF A c x.d.taken :: ay kR kb x.d.k :: fX (dH b wb db a x) x.gl :: ay (bu pa p) wb x.w :: dY a x F) M := h3.sub br
 have h5 : Hp R (pt w [.int .i64 d] 182 :: pt db [jt x.d.k kb, jS x.d.k kb, .slice A x.d.taken.length c, vz (some (w, d))] 152 :: gF A c x.d.taken :: ay kR kb x.d.k :: fX (dH b wb db a x) x.gl :: ay (bu pa p) wb x.w :: dY a x F) M := Hp.aS.1 h4
 rw [e]
 exact bO h5
end
section
variable {R : Mem} {L L' L1 F : List HP} {M : Mem} {K : Value → Mem → Prop} {Kp : List PanicEntry → Mem → Prop} {b wb db w : Nat} {x y x0 : Sc} {pa : PA} {p : bZ} {S : iL → HP} {u : Value}
theorem Ib {most : Int} {k5 k1 dn k3 cX k7 : Nat} (hp : kJ R pa p) (hok : ej p) (h0 : SV p 0 x0) (hz : x0.steps = 0) (hn : x0.d.sM = none) (hm : most ≤ 900) (hu : O2 u S) :
  DH R (ay (dZ pa p wb db) b x0 :: pt w [.int .i64 0] 182 :: ay om cX ⟨[], []⟩ :: S ⟨[], []⟩ :: pt k5 [.int .i64 most] 3 :: pt k1 [.pointer (some ⟨b, 0, none⟩)] 33 :: pt dn [.pointer (some ⟨w, 0, none⟩)] 180 :: pt k3 [.pointer (some ⟨db, 0, none⟩)] 40 :: pt k7 [u] 100 :: L)
   (.func (.func 79) #[] #[.pointer (some ⟨k5, 0, none⟩), .pointer (some ⟨k1, 0, none⟩), .pointer (some ⟨dn, 0, none⟩), .pointer (some ⟨k3, 0, none⟩), .pointer (some ⟨cX, 0, none⟩), .pointer (some ⟨k7, 0, none⟩)])
   (fun R' L2 => R.le R' ∧ ∃ y t s L1, WT p w x0 most.toNat y t s 0 ∧ Tc pa p wb db b w y L1 ∧ L2 = L1 ++ (ay om cX t :: S s :: pt k3 [.pointer (some ⟨db, 0, none⟩)] 40 :: L))
   (fun R' l L2 => R.le R' ∧ (∃ e vs, pb l e vs) ∧ ∃ y t s L1, (∀ e, WT p w x0 most.toNat y t s e) ∧ Tc pa p wb db b w y L1 ∧ L2 = L1 ++ (ay om cX t :: S s :: pt k3 [.pointer (some ⟨db, 0, none⟩)] 40 :: L)) := by
 intro Q M K Kp h kk kd
 refine B5 (args := []) ⟨by decide, by show _ < 255; decide⟩ ?_
 refine zB ?_
 refine ⟨fun dd vs M' => ∃ (j : Nat) (x : Sc) (t : Tr) (s : iL) (R' : Mem) (L1 : List HP), vs = [.int .i64 (j : Int)] ∧ dd = most.toNat - j ∧ j ≤ most.toNat ∧ R.le R' ∧ TS p w x0 j x t s ∧ Tc pa p wb db b w x L1 ∧
   Hp R' (L1 ++ (Q :: ay om cX t :: S s :: pt k5 [.int .i64 most] 3 :: pt k1 [.pointer (some ⟨b, 0, none⟩)] 33 :: pt dn [.pointer (some ⟨w, 0, none⟩)] 180 :: pt k3 [.pointer (some ⟨db, 0, none⟩)] 40 :: pt k7 [u] 100 :: L)) M',
  ⟨_, 0, x0, _, _, R, _, rfl, rfl, by omega, Mem.le_refl _, .zero, .inl ⟨hn, 0, rfl⟩, h.sub br⟩, ?_⟩
 clear h
 rintro dd _ nn M8 ⟨j, x, t, s, R3, L1, he, hd, hj, Ic, hw, hl, h⟩
 simp only [List.cons.injEq, Value.int.injEq, and_true, true_and] at he
 subst he
 have hv := hw.sv h0 hok (by omega)
 obtain ⟨ti, tk, ts⟩ := hw.facts h0 hok (by omega) hz
 have hg : x.w.gs.length ≤ 1000000 := by have := hv.w.n2; omega
 have tm : Bn s.kinds ≤ s.kinds.length := by unfold Bn; exact List.length_filter_le _ _
 have tl1 := ti.lm
 have tl2 := ti.ls
 have tl3 := ti.len
 have post : ∀ (R' : Mem) (z : Sc) (L1 : List HP) (M' : Mem) (t : Tr) (s : iL) (X : List HP), Tc pa p wb db b w z L1 → Hp R' (L1 ++ (Q :: ay om cX t :: S s :: pt k5 [.int .i64 most] 3 :: pt k1 [.pointer (some ⟨b, 0, none⟩)] 33 :: pt dn [.pointer (some ⟨w, 0, none⟩)] 180 :: pt k3 [.pointer (some ⟨db, 0, none⟩)] 40 :: pt k7 [u] 100 :: L)) M' →
   Hp R' (Q :: (L1 ++ (ay om cX t :: S s :: pt k3 [.pointer (some ⟨db, 0, none⟩)] 40 :: L))) M' := fun R' z L1 M' t s X hl h => by
  rcases hl with ⟨_, d, rfl⟩ | ⟨_, rfl⟩
  ·have h1 := h
   simp only [List.cons_append, List.nil_append] at h1 ⊢
   exact h1.sub br
  ·have h1 := h
   simp only [List.cons_append, List.nil_append] at h1 ⊢
   exact h1.sub br
 obtain ⟨a, A, c, kb, d0, v0, hla, hO⟩ := Jp hl h
 refine aG hO ?_
 have O4 : j = most.toNat ∨ x.status ≠ 0 → K (.tuple #[]) M8 := fun hh => kk R3 _ M8 ⟨Ic, x, t, s, L1, .Ws hw hj hh, hl, rfl⟩ (post R3 x L1 M8 t s [] hl h)
 refine aN.2 ⟨fun hlt => ?_, fun hge => O4 (.inl (by omega))⟩
 refine ou hO ?_
 obtain ⟨L2, hS⟩ := Wu hl h
 refine vB (b := b) hS hg (c6 ?_)
 refine aY.2 ⟨fun hst => ?_, fun hs0 => O4 (.inr hs0)⟩
 clear O4 hS
 refine ou hO (bg ?_)
 refine au hO ?_
 clear hO h hl; intro M h
 refine ou h (ou h ?_)
 refine jc ?_
 show aM _ _ _ _
 refine au h ?_
 clear h; intro M h
 have h1 := O3 (b := b) (x := x) hla (h.sub br)
 clear h
 refine ⟨rfl, ou h1 ?_⟩
 have hvw := SV.watch (w := w) hv
 obtain ⟨y, o, hstep, PS⟩ := hvw.step hok (by omega)
 have hwy := OZ (w := w) (x := x.watch w) ⟨0, rfl⟩ hstep
 refine H7 (b := b) h1 (hp.le Ic) hvw.k hstep ?_
 cases o with
 | dh l =>
  intro M9 h9
  have hL : Tc pa p wb db b w y [ay (dZ pa p wb db) b y] := .inr ⟨hwy, rfl⟩
  exact kd R3 l _ M9 ⟨Ic, O1 hstep, y, t, s, _, fun e => .dh hw (by omega) hst hstep, hL, rfl⟩ (h9.sub br)
 | ev e =>
  intro R4 A4 c4 M9 hle4 qY h9
  clear h1 kd
  refine ⟨_, _, _, _, _, _, rfl, ?_⟩
  obtain ⟨dv, hdv⟩ := hwy
  refine aj h9 ?_
  clear h9; intro jX M h
  refine au h ?_
  clear h; intro M h
  refine au h ?_
  clear h; intro M h
  refine au h ?_
  clear h; intro M h
  refine au h ?_
  clear h; intro M h
  refine ou h (aG h (aG h (aG h (aF h (ou h (bg ?_))))))
  have ldw : ∀ {R' : Mem} {M' : Mem} {G : List HP}, Hp R' (ay (dZ pa p wb db) b y :: G) M' → M'.ld ⟨w, 0, none⟩ = some (.int .i64 (yz y.d)) := fun h => ws_ld hdv h
  have h2 : Hp R4 (ay (dZ pa p wb db) b y :: Q :: ay om cX t :: S s :: pt jX [.int .i64 e.kind, .int .i64 e.m, .int .i64 e.g, .slice A4 e.ready.length c4] 43 :: pt k5 [.int .i64 most] 3 :: pt k1 [.pointer (some ⟨b, 0, none⟩)] 33 :: pt dn [.pointer (some ⟨w, 0, none⟩)] 180 :: pt k3 [.pointer (some ⟨db, 0, none⟩)] 40 :: pt k7 [u] 100 :: L) M := h.sub br
  clear h
  refine be (ldw h2) ?_
  refine xV (b := b) h2 (c6 ⟨ldw h2, bO h2, fC h2 rfl, ?_⟩)
  refine Li (b := cX) (e := e) h2 (by omega) (by omega) ?_
  clear h2; intro M h
  have h2 : Hp R4 (ay (dZ pa p wb db) b y :: Q :: S s :: ay om cX (t.add e.kind e.g (IntKind.wrap .i64 (y.steps - 1)) (yz y.d)) :: pt jX [.int .i64 e.kind, .int .i64 e.m, .int .i64 e.g, .slice A4 e.ready.length c4] 43 :: pt k5 [.int .i64 most] 3 :: pt k1 [.pointer (some ⟨b, 0, none⟩)] 33 :: pt dn [.pointer (some ⟨w, 0, none⟩)] 180 :: pt k3 [.pointer (some ⟨db, 0, none⟩)] 40 :: pt k7 [u] 100 :: L) M := h.sub br
  clear h
  refine ⟨rfl, ldw h2, bO h2, fC h2 rfl, BL h2 ?_⟩
  have nxt : TS p w x0 (j + 1) y (t.add e.kind e.g (IntKind.wrap .i64 (y.steps - 1)) (yz y.d)) (s.add e.kind e.g) := .succ hw hst hstep
  have hL : Tc pa p wb db b w y [ay (dZ pa p wb db) b y] := .inr ⟨⟨dv, hdv⟩, rfl⟩
  rcases hu with ⟨rfl, hS⟩ | ⟨⟨f, a1, a2, rfl⟩, hS⟩
  ·unfold xm
   dsimp only
   refine ae ?_
   refine ⟨most.toNat - (j + 1), by omega, j + 1, y, _, _, R4, _, by rw [aW (by omega)], rfl, by omega, Mem.le_trans Ic hle4, nxt, hL, ?_⟩
   rw [hS]
   exact h2.sub br
  ·unfold xm
   dsimp only
   refine ai (BL h2 (aG h2 (aG h2 (aG h2 (aF h2 ?_)))))
   have h3 : Hp R4 (S s :: ay (dZ pa p wb db) b y :: Q :: ay om cX (t.add e.kind e.g (IntKind.wrap .i64 (y.steps - 1)) (yz y.d)) :: pt jX [.int .i64 e.kind, .int .i64 e.m, .int .i64 e.g, .slice A4 e.ready.length c4] 43 :: pt k5 [.int .i64 most] 3 :: pt k1 [.pointer (some ⟨b, 0, none⟩)] 33 :: pt dn [.pointer (some ⟨w, 0, none⟩)] 180 :: pt k3 [.pointer (some ⟨db, 0, none⟩)] 40 :: pt k7 [.func f a1 a2] 100 :: L) M := h2.sub br
   clear h2
   refine hS R4 e A4 c4 s _ M _ _ (by omega) (by omega) h3 ?_
   clear h3; intro M h
   exact ⟨rfl, most.toNat - (j + 1), by omega, j + 1, y, _, _, R4, _, by rw [aW (by omega)], rfl, by omega, Mem.le_trans Ic hle4, nxt, hL, h.sub br⟩
theorem CB {most : Int} (h : Hp R (ay (dZ pa p wb db) b x0 :: S ⟨[], []⟩ :: L) M) (hp : kJ R pa p) (hok : ej p) (h0 : SV p 0 x0) (hz : x0.steps = 0) (hn : x0.d.sM = none) (hm : most ≤ 900) (hu : O2 u S) (huc : u.cells = #[u])
  (k : ∀ R' w y t s e a q n kk xx A c B d M', R.le R' → WT p w x0 most.toNat y t s e → Hp R' (ay (dZ pa p wb db) b { y with d := { y.d with sM := none } } :: bE jU 102 A c t.gH :: bE bl 3 B d t.steps :: S s :: L) M' →
   K (.tuple #[.agg #[.slice A t.gH.length c, .slice B t.steps.length d], .int .i64 e, .agg #[.int .i64 a, .int .i64 q, .int .i64 n, .int .i64 kk, .int .u64 xx]]) M') :
  aa Tryz.prog 33 #[.pointer (some ⟨b, 0, none⟩), .pointer (some ⟨db, 0, none⟩), .int .i64 most, u] M K Kp := by
 refine Da ?_
 rw [huc]
 refine aj h ?_
 clear h
 intro k1 M h
 refine aj h ?_
 clear h
 intro k3 M h
 refine aj h ?_
 clear h
 intro k5 M h
 refine aj h ?_
 clear h
 intro k7 M h
 refine aj h ?_
 clear h
 intro k9 M h
 refine aj h ?_
 clear h
 intro eu M h
 refine aj h ?_
 clear h
 intro cX M h
 refine aj h ?_
 clear h
 intro w M h
 refine aj h ?_
 clear h
 intro dn M h
 refine au h ?_
 clear h; intro M h
 have ha := (h.bY jU 102).bY bl 3
 clear h
 have hb : Hp R (ay om cX ⟨[], []⟩ :: pt dn [.pointer (some ⟨w, 0, none⟩)] 180 :: pt w [.int .i64 0] 182 :: pt k9 [.slice none 0 0, .slice none 0 0] 93 :: pt eu [.int .i64 0, .int .i64 0, .int .i64 0, .int .i64 0, .int .u64 0] 97 :: pt k7 [u] 100 :: pt k5 [.int .i64 most] 3 :: pt k3 [.pointer (some ⟨db, 0, none⟩)] 40 :: pt k1 [.pointer (some ⟨b, 0, none⟩)] 33 :: ay (dZ pa p wb db) b x0 :: S ⟨[], []⟩ :: L) M := Ia (t := ⟨[], []⟩) (A := none) (c := 0) (B := none) (d := 0) (ha.sub br)
 clear ha
 refine DI (hb.sub br) (Ib (most := most) (b := b) (wb := wb) (db := db) (w := w) (k5 := k5) (k1 := k1) (dn := dn) (k3 := k3) (cX := cX) (k7 := k7) hp hok h0 hz hn hm hu (L := pt k9 [.slice none 0 0, .slice none 0 0] 93 :: pt eu [.int .i64 0, .int .i64 0, .int .i64 0, .int .i64 0, .int .u64 0] 97 :: L)) (fun _ _ _ h => h.2.1) ?_ ?_
 all_goals
  clear hb
  first
   | (rintro R' _ M ⟨hle, y, t, s, L1, hw, hl, rfl⟩ h)
   | (rintro R' l' _ M e a q n kx xx ⟨hle, _, y, t, s, L1, hw0, hl, rfl⟩ _ h; have hw := hw0 e)
  obtain ⟨a0, A, c, kb, d0, v0, hla, hO⟩ := Jp hl h
  clear h
  refine ⟨_, _, _, _, _, _, rfl, ?_⟩
  refine aj hO ?_
  clear hO; intro js M h
  repeat (refine au h ?_; clear h; intro M h)
  refine ou h ?_
  refine jc ?_
  show aM _ _ _ _
  refine au h ?_
  clear h; intro M h
  have h1 := Wv (b := b) (x := y) (F := pt js _ _ :: ay om cX t :: S s :: pt k3 [.pointer (some ⟨db, 0, none⟩)] 40 :: pt k9 [.slice none 0 0, .slice none 0 0] 93 :: pt eu [.int .i64 0, .int .i64 0, .int .i64 0, .int .i64 0, .int .u64 0] 97 :: L) hla (h.sub br)
  clear h
  have hT := FQ h1 (b := cX)
  clear h1
  obtain ⟨A2, c2, B2, d2, h1⟩ := hT
  refine ⟨rfl, aF h1 (aF h1 (aG h1 (aG h1 (aG h1 (aG h1 (aG h1 ?_))))))⟩
  refine au h1 ?_
  clear h1; intro M h
  refine au h ?_
  clear h; intro M h
  refine ⟨fC h rfl, ?_⟩
  repeat (refine au h ?_; clear h; intro M h)
  refine ⟨fC h rfl, aF h (aF h (aG h (aG h (aG h (aG h (aG h ?_))))))⟩
  exact k R' w y t s _ _ _ _ _ _ A2 c2 B2 d2 M hle hw (h.sub br)
end
end Go.Proofs
