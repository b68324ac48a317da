/- A part of proofs about one program. -/
import Derived.ChangeArms
import Derived.Deep.Slices
import Derived.OpenShut
import Derived.Recover
import Derived.Scope
import Derived.Test.YtfjgcljdnhkmaaaGreatProg
import Derived.WalkKit
import Derived.Test.YtfjgcljdnhkmaaaGreatZSchedLostBase
import Derived.Test.YtfjgcljdnhkmaaaGreatZSchedLostOps
import Derived.Test.YtfjgcljdnhkmaaaGreatZSchedLostOpsB
import Derived.Test.YtfjgcljdnhkmaaaGreatZSchedLostOpC
import Derived.Test.YtfjgcljdnhkmaaaGreatZSchedLostFrame
import Derived.Test.YtfjgcljdnhkmaaaGreatZSchedLostReg
import Derived.Test.YtfjgcljdnhkmaaaGreatZSchedLostRegB
import Derived.Test.YtfjgcljdnhkmaaaGreatZSchedLostRegL
import Derived.Test.YtfjgcljdnhkmaaaGreatZSchedLostRegC
import Derived.Test.YtfjgcljdnhkmaaaGreatZSchedLostExec
import Derived.Test.YtfjgcljdnhkmaaaGreatZSchedLostSound
import Derived.Test.YtfjgcljdnhkmaaaGreatZSchedLostSoundB
import Derived.Test.YtfjgcljdnhkmaaaGreatZSchedLostLib
import Derived.Test.YtfjgcljdnhkmaaaGreatZSchedLostHp
import Derived.Test.YtfjgcljdnhkmaaaGreatZSchedLostRow
import Derived.Test.YtfjgcljdnhkmaaaGreatZSchedLostBig
import Derived.Test.YtfjgcljdnhkmaaaGreatZSchedLostStC
import Derived.Test.YtfjgcljdnhkmaaaGreatZSchedLostMod
import Derived.Test.YtfjgcljdnhkmaaaGreatZSchedLostOpen
import Derived.Test.YtfjgcljdnhkmaaaGreatZSchedLostArgs
import Derived.Test.YtfjgcljdnhkmaaaGreatZSchedLostDefer
import Derived.Test.YtfjgcljdnhkmaaaGreatZSchedLostDefer2
import Derived.Test.YtfjgcljdnhkmaaaGreatZSchedLostAgg
import Derived.Test.YtfjgcljdnhkmaaaGreatZSchedLost0
import Derived.Test.YtfjgcljdnhkmaaaGreatZSchedLost1
import Derived.Test.YtfjgcljdnhkmaaaGreatZSchedLost2
import Derived.Test.YtfjgcljdnhkmaaaGreatZSchedLost3
set_option linter.unusedVariables false
namespace Go.Proofs
open Go.AF
set_option maxRecDepth 100000
set_option maxHeartbeats 1000000
attribute [local irreducible] aK cD fH bL aD fx aI aO bj aS bI aV
def xG : gy (Option Addr × Nat × Nat) := ⟨1, fun t => [.slice t.1 t.2.1 t.2.2], fun _ => rfl, fun w v hv => by simp only [List.mem_singleton] at hv; subst hv; rfl⟩
structure kU (R : Mem) (pa : PA) (p : bZ) : Prop where
 funcs : ∃ ts : List (Option Addr × Nat × Nat), RS xG R pa.f pa.fc ts ∧ ts.length = p.funcs.length ∧ ∀ (i : Nat) t f, ts[i]? = some t → p.funcs[i]? = some f → RS iW R t.1 t.2.2 f ∧ t.2.1 = f.length
 cases : RS ij R pa.k pa.kc p.cases
theorem kU.le {R R' : Mem} {pa : PA} {p : bZ} (h : kU R pa p) (hle : R.le R') : kU R' pa p := by
 obtain ⟨⟨ts, h1, h2, h3⟩, h4⟩ := h
 exact ⟨⟨ts, h1.le hle, h2, fun i t f a b => ⟨(h3 i t f a b).1.le hle, (h3 i t f a b).2⟩⟩, h4.le hle⟩
def Wd.next (x : Wd) (g : Int) : Wd := x.bD g ((ay x g).cH (ay x g).top.next)
def RM (n : Int) : List PanicEntry := [{ v := .iface 256 (.int .i64 n), recovered := false }]
def fR (R : Mem) (pa : PA) (p : bZ) (dr : Value) (fnum : Nat) (x : Wd) (g : Int) (i : cC) (r : Out Wd) (L L2 : List HP) : Prop :=
 ∀ (gg : List GA) (b bs c : Nat) (M : Mem) (K : Value → Mem → Prop) (Kp : List PanicEntry → Mem → Prop) (Q : HP), Hp R (aB (bA pa p gg dr) b x :: Q :: L) M → gg[g.toNat]? = some (some ⟨bs, 0, none⟩, c) →
  Out.Ok r (fun y => ∀ lI M', Hp R (aB (bA pa p lI dr) b y :: Q :: L2) M' → K (.tuple #[]) M') (fun n y => ∀ lI M', Hp R (aB (bA pa p lI dr) b y :: Q :: L2) M' → Kp (RM n) M') (fun l y => ∀ lI M', Hp R (aB (bA pa p lI dr) b y :: Q :: L2) M' → Kp l M') →
  ae Tryz.prog fnum #[.pointer (some ⟨b, 0, none⟩), .int .i64 g, .pointer (some ⟨bs, ((ay x g).fs.length - 1) * 11, none⟩), .agg #[.int .i64 i.op, .int .i64 i.a, .int .i64 i.b, .int .i64 i.c]] M K Kp
theorem Out.Ok.mono {α : Type} {r : Out α} {k1 ZH : α → Prop} {k2 k2' : Int → Wd → Prop} {k3 : List PanicEntry → Wd → Prop} (h : r.Ok k1 k2 k3) (h1 : ∀ y, k1 y → ZH y) (h2 : ∀ n y, k2 n y → k2' n y) : r.Ok ZH k2' := by
 cases r with
 | on y => exact h1 y h
 | eJ n y => exact h2 n y h
 | dG l y => trivial
section
variable {R : Mem} {L L' L2 : List HP} {M : Mem} {K : Value → Mem → Prop} {Kp : List PanicEntry → Mem → Prop} {pa : PA} {p : bZ} {gg : List GA} {dr : Value} {b : Nat} {x : Wd} {g : Int} {i : cC}
theorem Qe (hp : kU R pa p) (hk : GM p x g i) (hs : x.Sm) : fR R pa p dr 165 x g i (x.send p g i) L L := fun gg b bs c M K Kp Q h eL k =>
 GN h hp.cases eL hk hs (k.mono (fun y hy M' h' => hy gg M' h') (fun n y hy M' h' => hy gg M' h'))
theorem Qf (hk : vD x g i) (hs : x.Sm) : fR R pa p dr 166 x g i (.on (x.recv g i)) L L := fun gg b bs c M K Kp Q h eL k =>
 GO h eL hk hs fun M' h' => k gg M' h'
theorem Qg (hg : bp x g) (ha : bg i.a) (hs : x.Sm) : fR R pa p dr 171 x g i (x.emit g i) L L := fun gg b bs c M K Kp Q h eL k =>
 GP h eL hg ha hs (k.mono (fun y hy M' h' => hy gg M' h') (fun n y hy M' h' => hy gg M' h'))
theorem NU (hg : bp x g) (hb : bg i.b) (hc : bg i.c) (hs : x.Sm) : fR R pa p dr 163 x g i (x.spawn g i) L L := fun gg b bs c M K Kp Q h eL k =>
 Eu h eL hg hb hc hs (k.mono (fun y hy => hy) (fun n y hy M' h' => hy gg M' h'))
theorem Qh (hp : kU R pa p) (hk : nK p x i) (hs : x.Sm) : fR R pa p dr 167 x g i (x.shut p i) L L := fun gg b bs c M K Kp Q h eL k =>
 GR (f := .nilFunc) h hp.cases hk hs (k.mono (fun y hy M' h' => hy gg M' h') (fun n y hy M' h' => hy gg M' h'))
def Vf : AL := [(9, .func (.func 161) #[] #[]), (10, .func (.func 162) #[] #[]), (11, .func (.func 163) #[] #[]), (12, .func (.func 164) #[] #[]), (13, .func (.func 165) #[] #[]), (14, .func (.func 166) #[] #[]), (15, .func (.func 167) #[] #[]), (17, .func (.func 168) #[] #[]), (18, .func (.func 169) #[] #[]), (19, .func (.func 170) #[] #[]), (20, .func (.func 171) #[] #[]), (22, .func (.func 172) #[] #[])]
theorem EF (h : Hp R L M) (k : ∀ m M', Hp R (ob m (dM Vf) :: L) M' → K (.map (some m)) M') : ae Tryz.prog 124 #[] M K Kp := by
 refine yw ?_
 refine HN h ?_
 clear h
 intro m M h
 replace h : Hp R (ob m (dM []) :: L) M := h
 have hu : Tryz.prog.underlying 261 = some (.map 32 260) := by kernel_rfl
 have hk : Tryz.prog.underlying 32 = some (.int .i64) := by kernel_rfl
 iterate 12
  refine lF h hu hk ?_
  clear h
  intro M h
 exact k _ _ h
end
end Go.Proofs
namespace Go.Proofs
open Go.AF
set_option maxRecDepth 100000
set_option maxHeartbeats 1000000
attribute [local irreducible] aK cD fH bL aD fx aI aO bj aS bI aV
theorem yZ {α β : Type} : ∀ {l : List α} {m : List β} {i : Nat} {u : α} {v : β}, (l.zip m).set i (u, v) = (l.set i u).zip (m.set i v)
 | [], _, _, _, _ => by simp
 | a :: l, [], i, u, v => by simp
 | a :: l, w :: m, 0, u, v => rfl
 | a :: l, w :: m, i + 1, u, v => by
  have := yZ (l := l) (m := m) (i := i) (u := u) (v := v)
  simp [this]
theorem sx {x : Wd} {g : Int} (h0 : 0 ≤ g) (h1 : g < x.gs.length) : x.bD g (ay x g) = x := by
 obtain ⟨y, hy⟩ := aQ (l := x.gs) (i := g.toNat) (by omega)
 have e : ay x g = y := by simp [ay, hy]
 rw [e]
 obtain ⟨hi, rfl⟩ := List.getElem?_eq_some_iff.1 hy
 simp [Wd.bD]
section
variable {R : Mem} {L L' L2 : List HP} {M : Mem} {K : Value → Mem → Prop} {Kp : List PanicEntry → Mem → Prop} {pa : PA} {p : bZ} {gg : List GA} {dr : Value} {b : Nat} {x : Wd} {g : Int} {i : cC}
theorem Qi (hg : bp x g) (ha : bg i.a) (hin : bg (ay x g).top.qH) : fR R pa p dr 162 x g i (.on (x.back g i)) L L := by
 intro gg b bs c M K Kp Q h eL k
 refine qO ?_
 replace k : ∀ lI M', Hp R (aB (bA pa p lI dr) b (x.back g i) :: Q :: L) M' → K (.tuple #[]) M' := k
 have xF := hg
 obtain ⟨h0, h1, h2, h3⟩ := xF
 unfold Wd.back at k
 refine av h ?_
 clear h
 intro kb M h
 have h' := gG h (b := b) h0 h1 eL
 clear h
 obtain ⟨a, gb, hl, fM, h⟩ := h'
 have hl' := hl
 obtain ⟨l1, l2, l3, l4⟩ := hl'
 repeat (first | (refine av h ?_; clear h; intro kb M h) | (refine az h ?_; clear h; intro M h) | refine St.to h ?_ | (apply Exists.intro; (repeat apply Exists.intro); refine And.intro rfl ?_) | (refine And.intro ?_ ?_; first | exact rfl | (refine aa (aj h) ?_; (repeat (refine aa (aj h) ?_)); exact ai) | omega) | refine aq ?_ | refine au ?_)
 refine uO h fM fun q hq => ?_
 repeat (first | (refine av h ?_; clear h; intro kb M h) | (refine az h ?_; clear h; intro M h) | refine St.to h ?_ | (apply Exists.intro; (repeat apply Exists.intro); refine And.intro rfl ?_) | (refine And.intro ?_ ?_; first | exact rfl | (refine aa (aj h) ?_; (repeat (refine aa (aj h) ?_)); exact ai) | omega) | refine aq ?_ | refine au ?_)
 refine ⟨ha.1, ha.2, uq h (eo h2) ha rfl ?_⟩
 refine CK h h2 (by omega) (eo h2) hin ?_ ?_
 ·intro hlt
  rw [if_neg (by omega)] at k
  refine ⟨_, _, _, _, rfl, au ?_⟩
  repeat (first | (refine av h ?_; clear h; intro kb M h) | (refine az h ?_; clear h; intro M h) | refine St.to h ?_ | (apply Exists.intro; (repeat apply Exists.intro); refine And.intro rfl ?_) | (refine And.intro ?_ ?_; first | exact rfl | (refine aa (aj h) ?_; (repeat (refine aa (aj h) ?_)); exact ai) | omega) | refine aq ?_ | refine au ?_)
  refine uO h fM fun q2 mX => ?_
  repeat (first | (refine av h ?_; clear h; intro kb M h) | (refine az h ?_; clear h; intro M h) | refine St.to h ?_ | (apply Exists.intro; (repeat apply Exists.intro); refine And.intro rfl ?_) | (refine And.intro ?_ ?_; first | exact rfl | (refine aa (aj h) ?_; (repeat (refine aa (aj h) ?_)); exact ai) | omega) | refine aq ?_ | refine au ?_)
  refine aZ.2 ⟨fun e0 => ?_, fun e0 => ?_⟩
  ·rw [if_pos e0] at k
   repeat (first | (refine av h ?_; clear h; intro kb M h) | (refine az h ?_; clear h; intro M h) | refine St.to h ?_ | (apply Exists.intro; (repeat apply Exists.intro); refine And.intro rfl ?_) | (refine And.intro ?_ ?_; first | exact rfl | (refine aa (aj h) ?_; (repeat (refine aa (aj h) ?_)); exact ai) | omega) | refine aq ?_ | refine au ?_)
   replace h := cJ h gb hl fM eL
   have kM := c9 (y := { ay x g with st := 4 }) (g := g) hl
   replace h := bk (a := a) (p := p) (pa := pa) (dr := dr) (gg := gg) (x := { x.bD g { ay x g with st := 4 } with end_ := 1 }) kM h b
   exact k _ _ h.bX
  ·rw [if_neg e0] at k
   replace h := cJ h gb hl fM eL
   have kM := c9 (y := { ay x g with st := 4 }) (g := g) hl
   replace h := bk (a := a) (p := p) (pa := pa) (dr := dr) (gg := gg) (x := x.bD g { ay x g with st := 4 }) kM h b
   exact k _ _ h.bX
 ·intro hge b' c' M' fr hfr h'
  clear h
  have h := h'
  clear h'
  rw [if_pos hge] at k
  refine ⟨_, _, _, _, rfl, aq ?_⟩
  repeat (first | (refine av h ?_; clear h; intro kb M h) | (refine az h ?_; clear h; intro M h) | refine St.to h ?_ | (apply Exists.intro; (repeat apply Exists.intro); refine And.intro rfl ?_) | (refine And.intro ?_ ?_; first | exact rfl | (refine aa (aj h) ?_; (repeat (refine aa (aj h) ?_)); exact ai) | omega) | refine aq ?_ | refine au ?_)
  refine uO h fM fun q2 mX => ?_
  repeat (first | (refine av h ?_; clear h; intro kb M h) | (refine az h ?_; clear h; intro M h) | refine St.to h ?_ | (apply Exists.intro; (repeat apply Exists.intro); refine And.intro rfl ?_) | (refine And.intro ?_ ?_; first | exact rfl | (refine aa (aj h) ?_; (repeat (refine aa (aj h) ?_)); exact ai) | omega) | refine aq ?_ | refine au ?_)
  have hlen : (ay x g).fs.length - 1 = (((ay x g).fs.take ((ay x g).fs.length - 1)).set ((ay x g).fs.length - 2) (fr.set (ay x g).top.qH (bB x g i.a))).length := by simp
  have hfr2 : (ay x g).fs.getD ((ay x g).fs.length - 2) ⟨0, 0, [], 0⟩ = fr := by rw [List.getD_eq_getElem?_getD, hfr]; rfl
  have h5 := mI (A := some ⟨b', 0, none⟩) (fs := ((ay x g).fs.take ((ay x g).fs.length - 1)).set ((ay x g).fs.length - 2) (fr.set (ay x g).top.qH (bB x g i.a))) h gb hlen
  have hi := (List.getElem?_eq_some_iff.1 fM).1
  have h6 := h5.dU fQ gb fM (by rw [List.length_zip]; omega)
  rw [yZ] at h6
  have kM : eU (gg.set g.toNat (some ⟨b', 0, none⟩, c')) a (x.bD g ((ay x g).back (bB x g i.a))) := ⟨by simpa [Wd.bD] using l1, by simpa [Wd.bD] using l2, l3, l4⟩
  have e : (ay x g).back (bB x g i.a) = ⟨(ay x g).st, ((ay x g).fs.take ((ay x g).fs.length - 1)).set ((ay x g).fs.length - 2) (fr.set (ay x g).top.qH (bB x g i.a)), (ay x g).wt⟩ := by
   unfold iQ.back; rw [hfr2]
  rw [e] at kM k
  have h7 := bk (a := a) (p := p) (pa := pa) (dr := dr) (gg := gg.set g.toNat (some ⟨b', 0, none⟩, c')) (x := x.bD g ⟨(ay x g).st, ((ay x g).fs.take ((ay x g).fs.length - 1)).set ((ay x g).fs.length - 2) (fr.set (ay x g).top.qH (bB x g i.a)), (ay x g).wt⟩) kM h6 b
  exact k _ _ (h7.sub (by repeat (first | exact .refl | refine .cons (by repeat (first | exact .here | apply aF.there)) ?_ | apply Sub.drop)))
end
end Go.Proofs
namespace Go.Proofs
open Go.AF
set_option maxRecDepth 100000
set_option maxHeartbeats 1000000
attribute [local irreducible] aK cD fH bL aD fx aI aO bj aS bI aV
def Out.fin : Out Wd → Wd
 | .on y => y
 | .eJ n y => { y with end_ := 2, code := n }
 | .dG _ y => y
def GY (op : Int) : Out Wd → Bool
 | .on _ => op == 12 || op == 17
 | .eJ _ _ => false
 | .dG _ _ => false
inductive Step (R : Mem) (pa : PA) (p : bZ) (dr : Value) (x : Wd) (g : Int) (code : List cC) : Out Wd → Bool → List HP → List HP → Prop where
 | out {L : List HP} (h : (code.length : Int) ≤ (ay x g).top.pc) : Step R pa p dr x g code (.eJ (-7) x) false L L
 | pure {L : List HP} (i : cC) (h : code[(ay x g).top.pc.toNat]? = some i) (h0 : 0 ≤ i.op) (h8 : i.op ≤ 8) (hk : i.cy) : Step R pa p dr x g code (.on (x.bD g ((ay x g).cH ((ay x g).top.next.pure i)))) false L L
 | CN {L L2 : List HP} {r : Out Wd} (i : cC) (h : code[(ay x g).top.pc.toNat]? = some i) (ur : i.op = 16) (hs : fR R pa p dr 122 x g i r L L2) : Step R pa p dr x g code r false L L2
 | Vg {L L2 : List HP} {r : Out Wd} (i : cC) (h : code[(ay x g).top.pc.toNat]? = some i) (Yj : i.op = 21) (hs : fR R pa p dr 123 x g i r L L2) : Step R pa p dr x g code r false L L2
 | dflt {L L2 : List HP} {r : Out Wd} (i : cC) (fn : Nat) (h : code[(ay x g).top.pc.toNat]? = some i) (h8 : 8 < i.op) (ur : i.op ≠ 16) (Yj : i.op ≠ 21) (hf : yO Vf i.op = some (.func (.func fn) #[] #[])) (hn : 1 < fn ∧ fn < 228)
   (hs : fR R pa p dr fn (x.next g) g i r L L2) : Step R pa p dr x g code r (GY i.op r) L L2
section
variable {R : Mem} {L L' L2 : List HP} {M : Mem} {K : Value → Mem → Prop} {Kp : List PanicEntry → Mem → Prop} {pa : PA} {p : bZ} {gg : List GA} {dr : Value} {b : Nat} {x : Wd} {g : Int} {i : cC}
theorem Vh {c bs j : Nat} {l : List gD} {f : gD} {G : Int → Prop} (h : Hp R L M) [q : cG (some ⟨bs, 0, none⟩) L gD iX 234 c l L'] (hi : l[j]? = some f) (g : G f.fn) : aK (M.ld ⟨bs, j * 11, none⟩) .i64 G := by
 refine be (Src.at (h.src (A := some ⟨bs, 0, none⟩)) h (i := j) (j := 0) hi rfl ?_) g
 show _ = 0 + (j * 11 + 0); omega
theorem CO {n : Int} {v : Value} {Q : HP} (h : Hp R (aB (bA pa p gg dr) b x :: Q :: L) M) (k : ∀ M', Hp R (aB (bA pa p gg dr) b { x with end_ := 2, code := n } :: L) M' → K v M') :
  cw Tryz.prog 119 (.pointer (some ⟨b, 0, none⟩)) K Kp v (.panicking (RM n)) M := by
 refine GB ?_
 have h' := cj h (b := b)
 clear h
 obtain ⟨a, hl, h⟩ := h'
 repeat (first | (refine av h ?_; clear h; intro kb M h) | (refine az h ?_; clear h; intro M h) | refine St.to h ?_ | (apply Exists.intro; (repeat apply Exists.intro); refine And.intro rfl ?_) | (refine And.intro ?_ ?_; first | exact rfl | (refine aa (aj h) ?_; (repeat (refine aa (aj h) ?_)); exact ai) | omega) | refine aq ?_ | refine au ?_)
 exact k _ (jx (a := a) (x := { x with end_ := 2, code := n }) hl (h.sub (by repeat (first | exact .refl | refine .cons (by repeat (first | exact .here | apply aF.there)) ?_ | apply Sub.drop))))
theorem xH {k : Nat} {bw : Nat} (h : Hp R L M) [o : jE k L [.int .i64 i.op, .int .i64 i.a, .int .i64 i.b, .int .i64 i.c] 34 L'] (g : K (.bool (i.op == 12 || i.op == 17)) M) :
  aK (M.ld ⟨k, 0, none⟩) .i64 fun n => aV (n == 12) (cw Tryz.prog 119 (.pointer (some ⟨bw, 0, none⟩)) K Kp (.bool true) .returning M)
   (aK (M.ld ⟨k, 0, none⟩) .i64 fun n => cw Tryz.prog 119 (.pointer (some ⟨bw, 0, none⟩)) K Kp (.bool (n == 17)) .returning M) := by
 have hp := h.pick o.pick
 refine aJ hp ?_
 refine aZ.2 ⟨fun e => ?_, fun e => ?_⟩
 ·rw [e] at g; exact Eh g
 ·refine aJ hp ?_
  have : (i.op == 12) = false := by simpa using e
  rw [this, Bool.false_or] at g
  exact Eh g
def NV (R : Mem) (pa : PA) (p : bZ) (dr : Value) (b : Nat) (L2 : List HP) (K : Value → Mem → Prop) (Kp : List PanicEntry → Mem → Prop) (r : Out Wd) (rest : Bool) : Prop := match r with
 | .dG l y => ∀ lI M', Hp R (aB (bA pa p lI dr) b y :: L2) M' → cw Tryz.prog 119 (.pointer (some ⟨b, 0, none⟩)) K Kp (.bool false) (.panicking l) M'
 | .on y => ∀ lI M', Hp R (aB (bA pa p lI dr) b y :: L2) M' → K (.bool rest) M'
 | .eJ n y => ∀ lI M', Hp R (aB (bA pa p lI dr) b { y with end_ := 2, code := n } :: L2) M' → K (.bool rest) M'
theorem EG {code : List cC} {r : Out Wd} {rest : Bool} (h : Hp R L M) [o : vB b L pa p gg dr x L'] (hp : kU R pa p) (hg : bp x g) (hfn : 0 ≤ (ay x g).top.fn) (mJ : p.funcs[(ay x g).top.fn.toNat]? = some code)
  (Am : 0 ≤ (ay x g).top.pc ∧ (ay x g).top.pc < 1000000000) (hs : Step R pa p dr x g code r rest L' L2)
  (k : NV R pa p dr b L2 K Kp r rest) : ae Tryz.prog 88 #[.pointer (some ⟨b, 0, none⟩), .int .i64 g] M K Kp := by
 refine uj ?_
 have xF := hg
 obtain ⟨h0, h1, h2, h3⟩ := xF
 have h' := jy h (b := b) h0 h1
 clear h
 obtain ⟨a, gb, A, c, hl, fM, eL, h⟩ := h'
 have hl' := hl
 obtain ⟨l1, l2, l3, l4⟩ := hl'
 obtain ⟨bs, rfl⟩ := h.bx (A := A) h2 (by decide)
 have OQ : ∀ {M : Mem}, Hp R (pt gb (pV (ay x g) (some ⟨bs, 0, none⟩) c) 182 :: uo (some ⟨bs, 0, none⟩) c (ay x g).fs :: pt b (lV pa p dr a x) 164 :: lD fQ a.gb (x.gs.zip gg) g.toNat :: r8 a x L') M → Hp R (aB (bA pa p gg dr) b x :: L') M := by
  intro M h
  replace h := cJ h gb hl fM eL
  have kM := c9 (y := ay x g) (g := g) hl
  replace h := bk (a := a) (p := p) (pa := pa) (dr := dr) (gg := gg) (x := x.bD g (ay x g)) kM h b
  rwa [sx h0 h1] at h
 repeat (first | (refine av h ?_; clear h; intro kb M h) | (refine az h ?_; clear h; intro M h) | refine St.to h ?_ | (apply Exists.intro; (repeat apply Exists.intro); refine And.intro rfl ?_) | (refine And.intro ?_ ?_; first | exact rfl | (refine aa (aj h) ?_; (repeat (refine aa (aj h) ?_)); exact ai) | omega) | refine aq ?_ | refine au ?_)
 refine uO h fM fun q hq => ?_
 repeat (first | (refine av h ?_; clear h; intro kb M h) | (refine az h ?_; clear h; intro M h) | refine St.to h ?_ | (apply Exists.intro; (repeat apply Exists.intro); refine And.intro rfl ?_) | (refine And.intro ?_ ?_; first | exact rfl | (refine aa (aj h) ?_; (repeat (refine aa (aj h) ?_)); exact ai) | omega) | refine aq ?_ | refine au ?_)
 refine mG h2 (by omega) ?_
 repeat (first | (refine av h ?_; clear h; intro kb M h) | (refine az h ?_; clear h; intro M h) | refine St.to h ?_ | (apply Exists.intro; (repeat apply Exists.intro); refine And.intro rfl ?_) | (refine And.intro ?_ ?_; first | exact rfl | (refine aa (aj h) ?_; (repeat (refine aa (aj h) ?_)); exact ai) | omega) | refine aq ?_ | refine au ?_)
 refine Vh h (eo h2) ?_
 obtain ⟨ts, hts, ZF, hrow⟩ := hp.funcs
 have hfl := (List.getElem?_eq_some_iff.1 mJ).1
 obtain ⟨t, ht⟩ := aQ (l := ts) (i := (ay x g).top.fn.toNat) (by omega)
 obtain ⟨xI, Qj⟩ := hrow _ t code ht mJ
 obtain ⟨tA, tn, tc⟩ := t
 dsimp only at xI Qj
 subst Qj
 refine ⟨hfn, by omega, ?_⟩
 obtain ⟨fb, fo, hfb⟩ := hts.some (by omega) (by decide)
 rw [hfb] at hts ⊢
 refine br ?_
 refine Cd (Src.at (hts.src (L := _)) h (i := (ay x g).top.fn.toNat) (j := 0) ht rfl (by simp [xG])) ?_
 dsimp only
 refine br ?_
 refine yS h (eo h2) rfl ?_
 refine aP.2 ⟨fun hge => ?_, fun hlt => ?_⟩
 ·cases hs with
  | out _ =>
   have h5 : Hp R (aB (bA pa p gg dr) b x :: fact True :: L') M := (Hp.fJ.2 ⟨trivial, OQ h⟩).swap
   exact CO h5 fun M' h' => k gg M' h'
  | pure i hi => have := (List.getElem?_eq_some_iff.1 hi).1; omega
  | CN i hi => have := (List.getElem?_eq_some_iff.1 hi).1; omega
  | Vg i hi => have := (List.getElem?_eq_some_iff.1 hi).1; omega
  | dflt i fn hi => have := (List.getElem?_eq_some_iff.1 hi).1; omega
 refine br ?_
 refine yS h (eo h2) rfl ?_
 refine ⟨Am.1, by omega, ?_⟩
 obtain ⟨i, hi⟩ := aQ (l := code) (i := (ay x g).top.pc.toNat) (by omega)
 obtain ⟨ib, io, rfl⟩ := xI.some (by omega) (by decide)
 refine br ?_
 refine be (Src.at (xI.src (L := _)) h (i := (ay x g).top.pc.toNat) (j := 0) hi rfl (by simp [iW])) ?_
 refine be (Src.at (xI.src (L := _)) h (i := (ay x g).top.pc.toNat) (j := 1) hi rfl (by show _ = io + (_ * 4 + 1); omega)) ?_
 refine be (Src.at (xI.src (L := _)) h (i := (ay x g).top.pc.toNat) (j := 2) hi rfl (by show _ = io + (_ * 4 + 2); omega)) ?_
 refine be (Src.at (xI.src (L := _)) h (i := (ay x g).top.pc.toNat) (j := 3) hi rfl (by show _ = io + (_ * 4 + 3); omega)) ?_
 have hpure : i.cy ∧ 0 ≤ i.op ∨ 8 < i.op := by
  cases hs with
  | out h => omega
  | pure j hj a1 a2 a3 => rw [hi] at hj; cases hj; exact .inl ⟨a3, a1⟩
  | CN j hj a1 => rw [hi] at hj; cases hj; exact .inr (by omega)
  | Vg j hj a1 => rw [hi] at hj; cases hj; exact .inr (by omega)
  | dflt j fn hj a1 => rw [hi] at hj; cases hj; exact .inr a1
 have hok : i.cy ∧ 0 ≤ i.op := by
  rcases hpure with h | h
  ·exact h
  ·exact ⟨⟨fun h => by simp at h; omega, fun h => by omega, fun h => by simp at h; omega⟩, by omega⟩
 refine av h ?_
 clear h; intro ki M h
 refine az h ?_
 clear h; intro M h
 refine az h ?_
 clear h; intro M h
 refine az h ?_
 clear h; intro M h
 refine az h ?_
 clear h; intro M h
 refine aJ h (aJ h (aJ h (aJ h ?_)))
 refine GG h (eo h2) hok.1 hok.2 Am ?_ ?_
 ·intro h8 M' h'
  clear h
  have h := h'
  clear h'
  refine mu (aq ?_)
  cases hs with
  | out h => omega
  | CN j hj a1 => rw [hi] at hj; cases hj; omega
  | Vg j hj a1 => rw [hi] at hj; cases hj; omega
  | dflt j fn hj a1 => rw [hi] at hj; cases hj; omega
  | pure j hj a1 a2 a3 =>
   rw [hi] at hj; cases hj
   replace h := cJ h gb hl fM eL (by simp)
   have kM := c9 (y := (ay x g).cH ((ay x g).top.next.pure i)) (g := g) hl
   have h5 := bk (a := a) (p := p) (pa := pa) (dr := dr) (gg := gg) (x := x.bD g ((ay x g).cH ((ay x g).top.next.pure i))) kM h b
   refine xH h5 ?_
   have e1 : (i.op == 12) = false := by simp; omega
   have e2 : (i.op == 17) = false := by simp; omega
   rw [e1, e2]
   exact k gg _ h5.bX
 ·intro h8 M' h'
  clear h
  have h := h'
  clear h'
  refine mu (au ?_)
  refine aJ h ?_
  refine aZ.2 ⟨fun Ir => ?_, fun Ir => ?_⟩
  ·refine aJ h (aJ h (aJ h (aJ h ?_)))
   cases hs with
   | out h => omega
   | pure j hj a1 a2 a3 => rw [hi] at hj; cases hj; omega
   | dflt j fn hj a1 a2 => rw [hi] at hj; cases hj; omega
   | Vg j hj a1 => rw [hi] at hj; cases hj; omega
   | CN j hj a1 hop =>
    rw [hi] at hj; cases hj
    replace h := cJ h gb hl fM eL
    have kM := c9 (y := ay x g) (g := g) hl
    replace h := bk (a := a) (p := p) (pa := pa) (dr := dr) (gg := gg) (x := x.bD g (ay x g)) kM h b
    rw [sx h0 h1] at h
    refine hop gg b bs c M' _ _ _ h eL ?_
    cases r with
    | on y =>
     intro lI M2 h
     refine ⟨rfl, xH h ?_⟩
     have e1 : (i.op == 12) = false := by simp; omega
     have e2 : (i.op == 17) = false := by simp; omega
     rw [e1, e2]
     exact k lI _ h.bX
    | eJ n y =>
     intro lI M2 h
     exact CO h fun M3 h3 => k lI M3 h3
    | dG l y =>
     intro lI M2 h
     exact k lI M2 h.bX
  ·refine aJ h ?_
   refine aZ.2 ⟨fun Wg => ?_, fun Wg => ?_⟩
   ·refine aJ h (aJ h (aJ h (aJ h ?_)))
    cases hs with
    | out h => omega
    | pure j hj a1 a2 a3 => rw [hi] at hj; cases hj; omega
    | CN j hj a1 => rw [hi] at hj; cases hj; omega
    | dflt j fn hj a1 a2 a3 => rw [hi] at hj; cases hj; omega
    | Vg j hj a1 hop =>
     rw [hi] at hj; cases hj
     replace h := cJ h gb hl fM eL
     have kM := c9 (y := ay x g) (g := g) hl
     replace h := bk (a := a) (p := p) (pa := pa) (dr := dr) (gg := gg) (x := x.bD g (ay x g)) kM h b
     rw [sx h0 h1] at h
     refine hop gg b bs c M' _ _ _ h eL ?_
     cases r with
     | on y =>
      intro lI M2 h
      refine ⟨rfl, xH h ?_⟩
      have e1 : (i.op == 12) = false := by simp; omega
      have e2 : (i.op == 17) = false := by simp; omega
      rw [e1, e2]
      exact k lI _ h.bX
     | eJ n y =>
      intro lI M2 h
      exact CO h fun M3 h3 => k lI M3 h3
     | dG l y =>
      intro lI M2 h
      exact k lI M2 h.bX
   cases hs with
   | out h => omega
   | pure j hj a1 a2 a3 => rw [hi] at hj; cases hj; omega
   | CN j hj a1 => rw [hi] at hj; cases hj; omega
   | Vg j hj a1 => rw [hi] at hj; cases hj; omega
   | dflt j fn hj a1 a2 a3 hf hn hop =>
    rw [hi] at hj; cases hj
    refine br ?_
    refine yS h (eo h2) rfl ?_
    refine br ?_
    rw [iY Am.1 (by omega)]
    refine yT h (eo h2) rfl ?_
    clear h; intro M h
    refine aJ h (aJ h (aJ h (aJ h (aJ h ?_))))
    refine EF h ?_
    clear h; intro mp M h
    refine ⟨aa (aj h) (aa (aj h) (aa (aj h) (aa (aj h) ai))), aj h, ?_⟩
    have hu : Tryz.prog.underlying 261 = some (.map 32 260) := by kernel_rfl
    have hkk : Tryz.prog.underlying 32 = some (.int .i64) := by kernel_rfl
    obtain ⟨ti, NI, OR⟩ : ∃ ti, Tryz.prog.info? 260 = some ti ∧ ti.zero = some .nilFunc := ⟨_, rfl, rfl⟩
    refine um h hu hkk NI OR ?_
    rw [hf]
    refine ⟨aa (aj h) (aa (aj h) (aa (aj h) (aa (aj h) ai))), aj h, ?_⟩
    refine En hn ?_
    replace h := cJ h gb hl fM eL (by simp)
    have kM := c9 (y := (ay x g).cH (ay x g).top.next) (g := g) hl
    have h5 := bk (a := a) (p := p) (pa := pa) (dr := dr) (gg := gg) (x := x.next g) kM h b
    have h6 : Hp R (aB (bA pa p gg dr) b (x.next g) :: pt ki [.int .i64 i.op, .int .i64 i.a, .int .i64 i.b, .int .i64 i.c] 34 :: L') M := h5.sub (by repeat (first | exact .refl | refine .cons (by repeat (first | exact .here | apply aF.there)) ?_ | apply Sub.drop))
    clear h h5
    have hfl : (ay (x.next g) g).fs.length = (ay x g).fs.length := by
     unfold Wd.next; rw [gE h0 h1]; simp [iQ.cH]
    have hc := hop gg b bs c M (fun Mv jK => (Mv = (.tuple #[])) ∧ ((Mem.fy jK ⟨ki, 0, none⟩ 0 4) = some [(.int .i64 i.op), (.int .i64 i.a), (.int .i64 i.b), (.int .i64 i.c)]) ∧ ((Mem.ld jK ⟨ki, 0, none⟩) = (some (.int .i64 i.op))) ∧
     aK (jK.ld ⟨ki, 0, none⟩) .i64 fun n => aV (n == 12) (cw Tryz.prog 119 (.pointer (some ⟨b, 0, none⟩)) K Kp (.bool true) .returning jK)
      (aK (jK.ld ⟨ki, 0, none⟩) .i64 fun n => cw Tryz.prog 119 (.pointer (some ⟨b, 0, none⟩)) K Kp (.bool (n == 17)) .returning jK))
     (fun l M => cw Tryz.prog 119 (.pointer (some ⟨b, 0, none⟩)) K Kp (.bool false) (.panicking l) M) _ h6 eL ?_
    ·rw [hfl] at hc
     exact hc
    cases r with
    | on y =>
     intro lI M2 h
     exact ⟨rfl, aa (aj h) (aa (aj h) (aa (aj h) (aa (aj h) ai))), aj h, xH h (k lI _ h.bX)⟩
    | eJ n y =>
     intro lI M2 h
     exact CO h fun M3 h3 => k lI M3 h3
    | dG l y =>
     intro lI M2 h
     exact k lI M2 h.bX
end
end Go.Proofs
namespace Go.Proofs
open Go.AF
set_option maxRecDepth 100000
set_option maxHeartbeats 1000000
attribute [local irreducible] aK cD fH bL aD fx aI aO bj aS bI aV
abbrev qA (pa : PA) (p : bZ) (dr : Value) (a : WA) (x : Wd) (n : Nat) : List Value :=
 [.slice pa.f p.funcs.length pa.fc, .slice pa.c p.dk.length pa.cc, .int .i64 p.aM, .slice pa.k p.cases.length pa.kc, .slice a.ag a.gb.length a.cg, .int .u64 x.clock,
  .slice a.ac a.cb.length a.cc, .slice a.al a.lb.length a.cl, .slice a.ah x.hl.length a.ch, .int .u64 x.kO, .slice a.ao x.out.length a.co, .int .i64 x.end_, .int .i64 x.code, .slice a.ar n a.cr, dr]
abbrev vG (a : WA) (x : Wd) (L : List HP) : List HP :=
 yU a.ag a.cg a.gb :: yV a.ac a.cc a.cb :: bn bJ a.cb x.aE :: yW a.al a.cl a.lb :: bn fL a.lb x.aM :: fV a.ah a.ch x.hl :: yp a.ao a.co x.out :: L
def bF (pa : PA) (p : bZ) : tu Wd := ⟨fun b x => exs fun q : WA × List GA × Value × Nat =>
 sep (pt b (qA pa p q.2.2.1 q.1 x q.2.2.2) 164 :: bn fQ q.1.gb (x.gs.zip q.2.1) :: fact (eU q.2.1 q.1 x) :: vG q.1 x [])⟩
section
variable {R : Mem} {L L' L2 : List HP} {M : Mem} {K : Value → Mem → Prop} {Kp : List PanicEntry → Mem → Prop} {pa : PA} {p : bZ} {gg : List GA} {dr : Value} {b : Nat} {x : Wd} {g : Int}
class Iz (b : Nat) (L : List HP) (pa : outParam PA) (p : outParam bZ) (x : outParam Wd) (L' : outParam (List HP)) : Prop where
 pick : aF L (aB (bF pa p) b x) L'
instance Iz.here : Iz b (aB (bF pa p) b x :: L) pa p x L := ⟨.here⟩
instance (priority := low) Iz.there {Q : HP} [h : Iz b L pa p x L'] : Iz b (Q :: L) pa p x (Q :: L') := ⟨.there h.pick⟩
theorem eF (h : Hp R L M) [o : Iz b L pa p x L'] : ∃ (a : WA) (gg : List GA) (dr : Value) (n : Nat), eU gg a x ∧ Hp R (pt b (qA pa p dr a x n) 164 :: bn fQ a.gb (x.gs.zip gg) :: vG a x L') M := by
 have := h.pick o.pick
 unfold aB at this
 simp only [bF, vG, Hp.dQ, Hp.bl, List.cons_append, List.nil_append] at this
 obtain ⟨⟨a, gg, dr, n⟩, h⟩ := this
 have h2 := h.pick (P := fact (eU gg a x)) (.there (.there .here))
 exact ⟨a, gg, dr, n, (Hp.fJ.1 h2).1, (Hp.fJ.1 h2).2⟩
theorem lK {a : WA} {n : Nat} (hl : eU gg a x) (h : Hp R (pt b (qA pa p dr a x n) 164 :: bn fQ a.gb (x.gs.zip gg) :: vG a x L) M) : Hp R (aB (bF pa p) b x :: L) M := by
 refine Hp.wS ?_
 simp only [bF, vG, Hp.dQ, Hp.bl, List.cons_append, List.nil_append]
 refine ⟨(a, gg, dr, n), ?_⟩
 have h2 : Hp R (fact (eU gg a x) :: pt b (qA pa p dr a x n) 164 :: bn fQ a.gb (x.gs.zip gg) :: vG a x L) M := Hp.fJ.2 ⟨hl, h⟩
 exact h2.nj (.there (.there .here))
def gN (x : Wd) (g : Int) (rest : Bool) : Bool := !rest && x.end_ == 0 && (ay x g).st == 1
def Bz (l l' : List PanicEntry) : Prop := ∀ (b : Nat) (v : Value) (M : Mem) (K : Value → Mem → Prop) (Kp : List PanicEntry → Mem → Prop), Kp l' M → cw Tryz.prog 119 (.pointer (some ⟨b, 0, none⟩)) K Kp v (.panicking l) M
def qB (R : Mem) (pa : PA) (p : bZ) (b : Nat) (g : Int) (L2 : List HP) (K : Value → Mem → Prop) (Kp : List PanicEntry → Mem → Prop) (r : Out Wd) (rest : Bool) : Prop := match r with
 | .dG l y => ∃ l', Bz l l' ∧ ∀ M', Hp R (aB (bF pa p) b y :: L2) M' → Kp l' M'
 | .on y => ∀ R' A c M', R.le R' → RS bu R' A c y.ready → Hp R' (aB (bF pa p) b y :: L2) M' → K (.agg #[.bool (gN y g rest), .slice A y.ready.length c]) M'
 | .eJ n y => ∀ R' A c M', R.le R' → RS bu R' A c y.ready → Hp R' (aB (bF pa p) b { y with end_ := 2, code := n } :: L2) M' → K (.agg #[.bool (gN { y with end_ := 2, code := n } g rest), .slice A y.ready.length c]) M'
theorem NV.of {r : Out Wd} {rest : Bool} (hd : ¬ ∃ l y, r = .dG l y) (k : ∀ lI M', Hp R (aB (bA pa p lI dr) b r.fin :: L2) M' → K (.bool rest) M') : NV R pa p dr b L2 K Kp r rest := by
 cases r with
 | on y => exact k
 | eJ n y => exact k
 | dG l y => exact absurd ⟨l, y, rfl⟩ hd
theorem qB.get {r : Out Wd} {rest : Bool} (hd : ¬ ∃ l y, r = .dG l y) (k : qB R pa p b g L2 K Kp r rest) :
  ∀ R' A c M', R.le R' → RS bu R' A c r.fin.ready → Hp R' (aB (bF pa p) b r.fin :: L2) M' → K (.agg #[.bool (gN r.fin g rest), .slice A r.fin.ready.length c]) M' := by
 cases r with
 | on y => exact k
 | eJ n y => exact k
 | dG l y => exact absurd ⟨l, y, rfl⟩ hd
theorem GZ {code : List cC} {r : Out Wd} {rest : Bool} (h : Hp R L M) [o : Iz b L pa p x L'] (hp : kU R pa p) (hg : bp x g) (he : x.end_ = 0) (hst : (ay x g).st = 1)
  (hfn : 0 ≤ (ay x g).top.fn) (mJ : p.funcs[(ay x g).top.fn.toNat]? = some code)
  (Am : 0 ≤ (ay x g).top.pc ∧ (ay x g).top.pc < 1000000000) (An : ∃ f c d, dr = .func f c d) (hs : ∀ Q, Step R pa p dr { x with ready := [] } g code r rest (Q :: L') (Q :: L2)) (hlen : g < r.fin.gs.length)
  (k : qB R pa p b g L2 K Kp r rest) :
  ae Tryz.prog 41 #[.pointer (some ⟨b, 0, none⟩), .int .i64 g, dr] M K Kp := by
 refine jQ ?_
 have xF := hg
 obtain ⟨h0, h1, h2, h3⟩ := xF
 refine av h ?_
 clear h
 intro kb M h
 have h' := eF h (b := b)
 clear h
 obtain ⟨a, gg, dr0, n0, hl, h⟩ := h'
 have hl' := hl
 obtain ⟨l1, l2, l3, l4⟩ := hl'
 refine aP.2 ⟨fun hn => by omega, fun _ => ?_⟩
 refine aR h ?_
 refine aP.2 ⟨fun hn => by omega, fun _ => ?_⟩
 refine aJ h ?_
 refine de.2 ⟨fun hn => absurd he hn, fun _ => ?_⟩
 refine aR h ?_
 refine ⟨h0, by omega, ?_⟩
 obtain ⟨gb, fM⟩ := aQ (l := a.gb) (i := g.toNat) (by omega)
 refine uO h fM fun q hq => ?_
 obtain ⟨ga, Vi⟩ := aQ (l := gg) (i := g.toNat) (by omega)
 obtain ⟨y, hy⟩ := aQ (l := x.gs) (i := g.toNat) (by omega)
 have ey : ay x g = y := by simp [ay, hy]
 rw [ey] at hst
 refine br ?_
 have NW : M.ld ⟨gb, 0, none⟩ = some (.int .i64 y.st) := by
  have h9 := mH (b := gb) (h.cY fQ fM (nJ hy Vi))
  exact aj h9
 rw [NW]
 refine cE ?_
 refine de.2 ⟨fun hn => absurd hst hn, fun _ => ?_⟩
 refine az h ?_
 clear h NW; intro M h
 have hpc2 : ∀ X : Prop, X → Aw dr X := by
  obtain ⟨f, c, d, rfl⟩ := An
  intro X hX; exact hX
 refine hpc2 _ ?_
 refine az h ?_
 clear h; intro M h
 have h4 := h.bT bu 3
 have h5 : Hp R (aB (bA pa p gg dr) b { x with ready := [] } :: pt kb [.bool false, .slice none 0 0] 120 :: L') M := jx (a := { a with ar := none, cr := 0 }) (x := { x with ready := [] }) hl (h4.sub (by repeat (first | exact .refl | refine .cons (by repeat (first | exact .here | apply aF.there)) ?_ | apply Sub.drop)))
 clear h h4
 by_cases G0 : ∃ l y, r = .dG l y
 ·obtain ⟨l, y, rfl⟩ := G0
  refine EG (b := b) (x := { x with ready := [] }) h5 hp hg hfn mJ Am (hs _) ?_
  clear h5
  intro lI M h
  obtain ⟨l', hdr2, k⟩ := k
  refine hdr2 _ _ _ _ _ (k _ ?_)
  have h' := cj h (b := b)
  clear h
  obtain ⟨a2, kM, h⟩ := h'
  exact lK (a := a2) (n := y.ready.length) (gg := lI) (dr := dr) kM (h.sub (by repeat (first | exact .refl | refine .cons (by repeat (first | exact .here | apply aF.there)) ?_ | apply Sub.drop)))
 refine EG (b := b) (x := { x with ready := [] }) h5 hp hg hfn mJ Am (hs _) (.of G0 ?_)
 clear h5
 intro lI M h
 replace k := qB.get G0 k
 generalize r.fin = z at h k hlen
 have h' := cj h (b := b)
 clear h
 obtain ⟨a2, kM, h⟩ := h'
 have Va := kM
 obtain ⟨m1, m2, m3, m4⟩ := Va
 have fin : ∀ t : Bool, t = gN z g rest → aO M ⟨kb, 0, none⟩ (.bool t) fun Gc =>
    aO Gc ⟨kb, (0 + 1), none⟩ (.slice a2.ar z.ready.length a2.cr) fun xD =>
    cD (Mem.ld xD ⟨kb, 0, none⟩) fun t60 =>
    aD (Mem.ld xD ⟨kb, (0 + 1), none⟩) fun Xo Pz ON =>
    K (.agg #[(.bool t60), (.slice Xo Pz ON)]) xD := by
  intro t ht
  refine az h ?_
  clear h; intro M h
  refine az h ?_
  clear h; intro M h
  refine HQ h (aR h ?_)
  obtain ⟨R', hle, nN, h6⟩ := h.cU a2.ar
  subst ht
  exact k R' _ _ _ hle nN (lK (a := a2) (n := z.ready.length) (gg := lI) (dr := dr) kM (h6.sub (by repeat (first | exact .refl | refine .cons (by repeat (first | exact .here | apply aF.there)) ?_ | apply Sub.drop))))
 refine mu ?_
 cases rest with
 | true =>
  refine au ?_
  refine aR h ?_
  exact fin false (by simp [gN])
 | false =>
  refine aq ?_
  refine aJ h ?_
  refine aZ.2 ⟨fun e0 => ?_, fun e0 => ?_⟩
  ·refine aR h ?_
   refine ⟨h0, by omega, ?_⟩
   obtain ⟨gb2, Yk⟩ := aQ (l := a2.gb) (i := g.toNat) (by omega)
   refine uO h Yk fun q2 mX => ?_
   obtain ⟨ga2, hga2⟩ := aQ (l := lI) (i := g.toNat) (by omega)
   obtain ⟨y2, hy2⟩ := aQ (l := z.gs) (i := g.toNat) (by omega)
   have ey2 : ay z g = y2 := by simp [ay, hy2]
   refine br ?_
   have NW : M.ld ⟨gb2, 0, none⟩ = some (.int .i64 y2.st) := by
    have h9 := mH (b := gb2) (h.cY fQ Yk (nJ hy2 hga2))
    exact aj h9
   rw [NW]
   refine cE ?_
   refine aR h ?_
   exact fin (y2.st == 1) (by simp [gN, e0, ey2])
  ·refine aR h ?_
   have : (z.end_ == 0) = false := by simpa using e0
   exact fin false (by simp [gN, this])
end
end Go.Proofs
namespace Go.Proofs
open Go.AF
set_option maxRecDepth 100000
set_option maxHeartbeats 1000000
attribute [local irreducible] aK cD fH bL aD fx aI aO bj aS bI aV
section
variable {R : Mem} {L L' L2 : List HP} {M : Mem} {K : Value → Mem → Prop} {Kp : List PanicEntry → Mem → Prop} {pa : PA} {p : bZ} {gg : List GA} {dr : Value} {b : Nat} {x : Wd} {g : Int}
theorem Kd (h : Hp R L M) [o : Iz b L pa p x L'] (k : K (.int .i64 (x.gs.length : Int)) M) : ae Tryz.prog 64 #[.pointer (some ⟨b, 0, none⟩)] M K Kp := by
 refine sF ?_
 have h' := eF h (b := b)
 clear h
 obtain ⟨a, gg, dr, n, hl, h⟩ := h'
 refine aR h ?_
 rw [hl.1]
 exact k
theorem BA (h : Hp R L M) [o : Iz b L pa p x L'] (k : K (.tuple #[.int .i64 x.end_, .int .i64 x.code]) M) : ae Tryz.prog 60 #[.pointer (some ⟨b, 0, none⟩)] M K Kp := by
 refine sG ?_
 have h' := eF h (b := b)
 clear h
 obtain ⟨a, gg, dr, n, hl, h⟩ := h'
 refine aJ h (aJ h ?_)
 exact k
theorem uz (h : Hp R L M) [o : Iz b L pa p x L'] (h0 : 0 ≤ g) (h1 : g < x.gs.length) (k : K (.int .i64 (ay x g).st) M) : ae Tryz.prog 65 #[.pointer (some ⟨b, 0, none⟩), .int .i64 g] M K Kp := by
 refine ot ?_
 have h' := eF h (b := b)
 clear h
 obtain ⟨a, gg, dr, n, hl, h⟩ := h'
 have hl' := hl
 obtain ⟨l1, l2, l3, l4⟩ := hl'
 refine aP.2 ⟨fun hn => by omega, fun _ => ?_⟩
 refine aR h ?_
 refine aP.2 ⟨fun hn => by omega, fun _ => ?_⟩
 refine aR h ?_
 refine ⟨h0, by omega, ?_⟩
 obtain ⟨gb, fM⟩ := aQ (l := a.gb) (i := g.toNat) (by omega)
 refine uO h fM fun q hq => ?_
 obtain ⟨ga, Vi⟩ := aQ (l := gg) (i := g.toNat) (by omega)
 obtain ⟨y, hy⟩ := aQ (l := x.gs) (i := g.toNat) (by omega)
 have ey : ay x g = y := by simp [ay, hy]
 rw [ey] at k
 refine br ?_
 have NW : M.ld ⟨gb, 0, none⟩ = some (.int .i64 y.st) := by
  have h9 := mH (b := gb) (h.cY fQ fM (nJ hy Vi))
  exact aj h9
 rw [NW]
 exact cE k
end
end Go.Proofs
namespace Go.Proofs
open Go.AF
set_option maxRecDepth 100000
set_option maxHeartbeats 1000000
attribute [local irreducible] aK cD fH bL aD fx aI aO bj aS bI aV
def Wd.new (p : bZ) : Wd := ⟨[⟨1, [gD.begin 0 0], .zero⟩], 0, p.dk.map aX.new, List.replicate p.aM.toNat ⟨-1, []⟩, [], 0, [], 0, 0, []⟩
theorem RN : bh Tryz.prog 159 183 1 8 [.pointer none] := bh.mk' (zv := .pointer none) (by kernel_rfl) (by kernel_rfl) rfl (by omega)
theorem RO : bh Tryz.prog 160 185 1 8 [.pointer none] := bh.mk' (zv := .pointer none) (by kernel_rfl) (by kernel_rfl) rfl (by omega)
section
variable {R : Mem} {L L' L2 : List HP} {M : Mem} {K : Value → Mem → Prop} {Kp : List PanicEntry → Mem → Prop} {pa : PA} {p : bZ} {gg : List GA} {dr : Value} {b : Nat} {x : Wd} {g : Int}
theorem NX {j : Nat} {q A' : Nat} {c' : Nat} {v : Int} {a : WA} {n k : Nat} {Ac : Option Addr} {Q : List HP} (hl : eU gg a x)
  (h : Hp R (pt b (qA pa p dr { a with ac := Ac, cc := c', cb := a.cb ++ [k] } x n) 164 :: yV Ac c' (a.cb ++ [k]) :: aB bJ k (aX.new v) :: bn bJ a.cb x.aE :: bn fQ a.gb (x.gs.zip gg) :: yU a.ag a.cg a.gb :: yW a.al a.cl a.lb :: bn fL a.lb x.aM :: fV a.ah a.ch x.hl :: yp a.ao a.co x.out :: Q) M) :
  Hp R (aB (bF pa p) b { x with aE := x.aE ++ [aX.new v] } :: Q) M := by
 obtain ⟨l1, l2, l3, l4⟩ := hl
 have h2 := h.ku bJ k l3
 exact lK (a := { a with ac := Ac, cc := c', cb := a.cb ++ [k] }) (gg := gg) (dr := dr) (n := n) (x := { x with aE := x.aE ++ [aX.new v] }) ⟨l1, l2, by simp [l3], l4⟩ (h2.sub (by repeat (first | exact .refl | refine .cons (by repeat (first | exact .here | apply aF.there)) ?_ | apply Sub.drop)))
theorem NY {c' : Nat} {a : WA} {n k : Nat} {Ac : Option Addr} {Q : List HP} (hl : eU gg a x)
  (h : Hp R (pt b (qA pa p dr { a with al := Ac, cl := c', lb := a.lb ++ [k] } x n) 164 :: yW Ac c' (a.lb ++ [k]) :: aB fL k ⟨-1, []⟩ :: bn fL a.lb x.aM :: bn fQ a.gb (x.gs.zip gg) :: yU a.ag a.cg a.gb :: yV a.ac a.cc a.cb :: bn bJ a.cb x.aE :: fV a.ah a.ch x.hl :: yp a.ao a.co x.out :: Q) M) :
  Hp R (aB (bF pa p) b { x with aM := x.aM ++ [⟨-1, []⟩] } :: Q) M := by
 obtain ⟨l1, l2, l3, l4⟩ := hl
 have h2 := h.ku fL k l4
 exact lK (a := { a with al := Ac, cl := c', lb := a.lb ++ [k] }) (gg := gg) (dr := dr) (n := n) (x := { x with aM := x.aM ++ [⟨-1, []⟩] }) ⟨l1, l2, l3, by simp [l4]⟩ (h2.sub (by repeat (first | exact .refl | refine .cons (by repeat (first | exact .here | apply aF.there)) ?_ | apply Sub.drop)))
theorem Ke (h : Hp R L M) (xE : RS bu R pa.c pa.cc p.dk) (hc : p.dk.length ≤ 1000000) (hk : 0 ≤ p.aM ∧ p.aM ≤ 1000000)
  (k : ∀ b M', Hp R (aB (bF pa p) b (Wd.new p) :: L) M' → K (.pointer (some ⟨b, 0, none⟩)) M') :
  ae Tryz.prog 36 #[.agg #[.slice pa.f p.funcs.length pa.fc, .slice pa.c p.dk.length pa.cc, .int .i64 p.aM, .slice pa.k p.cases.length pa.kc]] M K Kp := by
 refine Cu ?_
 repeat (first | (refine av h ?_; clear h; intro kb M h) | (refine az h ?_; clear h; intro M h) | refine St.to h ?_ | (apply Exists.intro; (repeat apply Exists.intro); refine And.intro rfl ?_) | (refine And.intro ?_ ?_; first | exact rfl | (refine aa (aj h) ?_; (repeat (refine aa (aj h) ?_)); exact ai) | omega) | refine aq ?_ | refine au ?_)
 refine pU h ?_
 clear h
 intro bs M h
 repeat (first | (refine av h ?_; clear h; intro kb M h) | (refine az h ?_; clear h; intro M h) | refine St.to h ?_ | (apply Exists.intro; (repeat apply Exists.intro); refine And.intro rfl ?_) | (refine And.intro ?_ ?_; first | exact rfl | (refine aa (aj h) ?_; (repeat (refine aa (aj h) ?_)); exact ai) | omega) | refine aq ?_ | refine au ?_)
 rename_i kp _ _ kr _ kw _
 replace h := mI h kr
 replace h := (h.tV fQ).ku fQ kr rfl
 replace h := (h.pt kw).gW (E := lS) (l := [kr]) rfl
 replace h := (h.bT lS 183).tV bJ
 replace h := (h.bT lS 185).tV fL
 replace h := (h.bT rX 205).bT bu 2
 have base : Hp R (aB (bF pa p) kb { Wd.new p with aE := (p.dk.take 0).map aX.new, aM := [] } :: pt kp [.slice pa.f p.funcs.length pa.fc, .slice pa.c p.dk.length pa.cc, .int .i64 p.aM, .slice pa.k p.cases.length pa.kc] 41 :: L) _ :=
  lK (a := ⟨some ⟨kw, 0, none⟩, 1, [kr], none, 0, [], none, 0, [], none, 0, none, 0, none, 0⟩) (gg := [(some ⟨bs, 0, none⟩, 1)]) (dr := .nilFunc) (n := 0) (x := { Wd.new p with aE := [], aM := [] }) ⟨rfl, rfl, rfl, rfl⟩ (h.sub (by repeat (first | exact .refl | refine .cons (by repeat (first | exact .here | apply aF.there)) ?_ | apply Sub.drop)))
 clear h
 refine ⟨fun d vs M => ∃ j : Nat, vs = [.int .i64 (j : Int)] ∧ d = p.dk.length - j ∧ j ≤ p.dk.length ∧ Hp R (aB (bF pa p) kb { Wd.new p with aE := (p.dk.take j).map aX.new, aM := [] } :: pt kp [.slice pa.f p.funcs.length pa.fc, .slice pa.c p.dk.length pa.cc, .int .i64 p.aM, .slice pa.k p.cases.length pa.kc] 41 :: L) M,
  ⟨_, 0, rfl, rfl, by omega, base⟩, ?_⟩
 clear base
 rintro d _ nn M ⟨j, he, hd, hj, h⟩
 simp only [List.cons.injEq, Value.int.injEq, and_true, true_and] at he
 subst he
 refine aP.2 ⟨fun hlt => ?_, fun hge => ?_⟩
 ·obtain ⟨v, hv⟩ := aQ (l := p.dk) (i := j) (by omega)
  have Yf : (p.dk.take (j + 1)).map aX.new = (p.dk.take j).map aX.new ++ [aX.new v] := by rw [cq hv, List.map_append]; rfl
  have xu : ((p.dk.take j).map aX.new).length ≤ 1000000 := by simp; omega
  rw [aT (by omega)]
  refine ⟨by omega, hlt, ?_⟩
  obtain ⟨cb, co, hcb⟩ := xE.some (by omega) (by decide)
  have Yl := xE
  rw [hcb] at Yl ⊢
  refine br ?_
  simp only [Int.toNat_natCast]
  refine be (Src.at (Yl.src (L := _)) h (i := j) (j := 0) hv rfl (by simp [bu])) ?_
  refine ⟨fun _ M => Hp R (aB (bF pa p) kb { Wd.new p with aE := (p.dk.take j).map aX.new ++ [aX.new v], aM := [] } :: pt kp [.slice pa.f p.funcs.length pa.fc, .slice pa.c p.dk.length pa.cc, .int .i64 p.aM, .slice pa.k p.cases.length pa.kc] 41 :: L) M, ⟨?_, ?_, trivial⟩, ?_⟩
  ·have h' := eF h (b := kb)
   clear h
   obtain ⟨a, gg, dr, n, hl, h⟩ := h'
   have Qk : a.cb.length = ((p.dk.take j).map aX.new).length := hl.2.2.1
   refine aR h ?_
   refine AY h ?_
   clear h
   intro kc M h
   repeat (first | (refine av h ?_; clear h; intro kb M h) | (refine az h ?_; clear h; intro M h) | refine St.to h ?_ | (apply Exists.intro; (repeat apply Exists.intro); refine And.intro rfl ?_) | (refine And.intro ?_ ?_; first | exact rfl | (refine aa (aj h) ?_; (repeat (refine aa (aj h) ?_)); exact ai) | omega) | refine aq ?_ | refine au ?_)
   refine h.bO RN [kc] rfl rfl (by simp only [List.length_singleton]; omega) ?_
   clear h
   intro A' c' M h
   repeat (first | (refine av h ?_; clear h; intro kb M h) | (refine az h ?_; clear h; intro M h) | refine St.to h ?_ | (apply Exists.intro; (repeat apply Exists.intro); refine And.intro rfl ?_) | (refine And.intro ?_ ?_; first | exact rfl | (refine aa (aj h) ?_; (repeat (refine aa (aj h) ?_)); exact ai) | omega) | refine aq ?_ | refine au ?_)
   exact NX (j := j) (q := j) (A' := j) (a := a) (x := { Wd.new p with aE := (p.dk.take j).map aX.new, aM := [] }) hl (h.sub (by repeat (first | exact .refl | refine .cons (by repeat (first | exact .here | apply aF.there)) ?_ | apply Sub.drop)))
  ·have h' := eF h (b := kb)
   clear h
   obtain ⟨a, gg, dr, n, hl, h⟩ := h'
   have Qk : a.cb.length = ((p.dk.take j).map aX.new).length := hl.2.2.1
   refine AY h ?_
   clear h
   intro kc M h
   repeat (first | (refine av h ?_; clear h; intro kb M h) | (refine az h ?_; clear h; intro M h) | refine St.to h ?_ | (apply Exists.intro; (repeat apply Exists.intro); refine And.intro rfl ?_) | (refine And.intro ?_ ?_; first | exact rfl | (refine aa (aj h) ?_; (repeat (refine aa (aj h) ?_)); exact ai) | omega) | refine aq ?_ | refine au ?_)
   refine h.bO RN [kc] rfl rfl (by simp only [List.length_singleton]; omega) ?_
   clear h
   intro A' c' M h
   repeat (first | (refine av h ?_; clear h; intro kb M h) | (refine az h ?_; clear h; intro M h) | refine St.to h ?_ | (apply Exists.intro; (repeat apply Exists.intro); refine And.intro rfl ?_) | (refine And.intro ?_ ?_; first | exact rfl | (refine aa (aj h) ?_; (repeat (refine aa (aj h) ?_)); exact ai) | omega) | refine aq ?_ | refine au ?_)
   exact NX (j := j) (q := j) (A' := j) (a := a) (x := { Wd.new p with aE := (p.dk.take j).map aX.new, aM := [] }) hl (h.sub (by repeat (first | exact .refl | refine .cons (by repeat (first | exact .here | apply aF.there)) ?_ | apply Sub.drop)))
  ·clear h
   intro _ M h
   refine ⟨p.dk.length - (j + 1), by omega, j + 1, rfl, rfl, by omega, ?_⟩
   rw [Yf, ← hcb]; exact h
 ·obtain rfl : j = p.dk.length := by omega
  rw [List.take_length] at h
  refine aJ h ?_
  obtain ⟨nl, hnl⟩ := Int.eq_ofNat_of_zero_le hk.1
  refine ⟨fun d vs M => ∃ j : Nat, vs = [.int .i64 (j : Int)] ∧ d = nl - j ∧ j ≤ nl ∧ Hp R (aB (bF pa p) kb { Wd.new p with aM := List.replicate j ⟨-1, []⟩ } :: pt kp [.slice pa.f p.funcs.length pa.fc, .slice pa.c p.dk.length pa.cc, .int .i64 p.aM, .slice pa.k p.cases.length pa.kc] 41 :: L) M,
   ⟨_, 0, rfl, rfl, by omega, h⟩, ?_⟩
  clear h
  rintro d _ nn M ⟨j, he, hd, hj, h⟩
  simp only [List.cons.injEq, Value.int.injEq, and_true, true_and] at he
  subst he
  refine aP.2 ⟨fun hlt => ?_, fun hge => ?_⟩
  ·have Yf : List.replicate (j + 1) (⟨-1, []⟩ : Lk) = List.replicate j ⟨-1, []⟩ ++ [⟨-1, []⟩] := List.replicate_succ'
   rw [aT (by omega)]
   refine ⟨fun _ M => Hp R (aB (bF pa p) kb { Wd.new p with aM := List.replicate j ⟨-1, []⟩ ++ [⟨-1, []⟩] } :: pt kp [.slice pa.f p.funcs.length pa.fc, .slice pa.c p.dk.length pa.cc, .int .i64 p.aM, .slice pa.k p.cases.length pa.kc] 41 :: L) M, ⟨?_, ?_, trivial⟩, ?_⟩
   ·have h' := eF h (b := kb)
    clear h
    obtain ⟨a, gg, dr, n, hl, h⟩ := h'
    have Qk : a.lb.length = (List.replicate j (⟨-1, []⟩ : Lk)).length := hl.2.2.2
    rw [List.length_replicate] at Qk
    refine aR h ?_
    refine Bo h ?_
    clear h
    intro kc M h
    repeat (first | (refine av h ?_; clear h; intro kb M h) | (refine az h ?_; clear h; intro M h) | refine St.to h ?_ | (apply Exists.intro; (repeat apply Exists.intro); refine And.intro rfl ?_) | (refine And.intro ?_ ?_; first | exact rfl | (refine aa (aj h) ?_; (repeat (refine aa (aj h) ?_)); exact ai) | omega) | refine aq ?_ | refine au ?_)
    refine h.bO RO [kc] rfl rfl (by simp only [List.length_singleton]; omega) ?_
    clear h
    intro A' c' M h
    repeat (first | (refine av h ?_; clear h; intro kb M h) | (refine az h ?_; clear h; intro M h) | refine St.to h ?_ | (apply Exists.intro; (repeat apply Exists.intro); refine And.intro rfl ?_) | (refine And.intro ?_ ?_; first | exact rfl | (refine aa (aj h) ?_; (repeat (refine aa (aj h) ?_)); exact ai) | omega) | refine aq ?_ | refine au ?_)
    exact NY (a := a) (x := { Wd.new p with aM := List.replicate j ⟨-1, []⟩ }) hl (h.sub (by repeat (first | exact .refl | refine .cons (by repeat (first | exact .here | apply aF.there)) ?_ | apply Sub.drop)))
   ·have h' := eF h (b := kb)
    clear h
    obtain ⟨a, gg, dr, n, hl, h⟩ := h'
    have Qk : a.lb.length = (List.replicate j (⟨-1, []⟩ : Lk)).length := hl.2.2.2
    rw [List.length_replicate] at Qk
    refine Bo h ?_
    clear h
    intro kc M h
    repeat (first | (refine av h ?_; clear h; intro kb M h) | (refine az h ?_; clear h; intro M h) | refine St.to h ?_ | (apply Exists.intro; (repeat apply Exists.intro); refine And.intro rfl ?_) | (refine And.intro ?_ ?_; first | exact rfl | (refine aa (aj h) ?_; (repeat (refine aa (aj h) ?_)); exact ai) | omega) | refine aq ?_ | refine au ?_)
    refine h.bO RO [kc] rfl rfl (by simp only [List.length_singleton]; omega) ?_
    clear h
    intro A' c' M h
    repeat (first | (refine av h ?_; clear h; intro kb M h) | (refine az h ?_; clear h; intro M h) | refine St.to h ?_ | (apply Exists.intro; (repeat apply Exists.intro); refine And.intro rfl ?_) | (refine And.intro ?_ ?_; first | exact rfl | (refine aa (aj h) ?_; (repeat (refine aa (aj h) ?_)); exact ai) | omega) | refine aq ?_ | refine au ?_)
    exact NY (a := a) (x := { Wd.new p with aM := List.replicate j ⟨-1, []⟩ }) hl (h.sub (by repeat (first | exact .refl | refine .cons (by repeat (first | exact .here | apply aF.there)) ?_ | apply Sub.drop)))
   ·clear h
    intro _ M h
    refine ⟨nl - (j + 1), by omega, j + 1, rfl, rfl, by omega, ?_⟩
    rw [Yf]; exact h
  ·obtain rfl : j = nl := by omega
   have e : Wd.new p = { Wd.new p with aM := List.replicate j ⟨-1, []⟩ } := by unfold Wd.new; rw [hnl]; rfl
   rw [← e] at h
   exact k _ _ h.bX
end
end Go.Proofs
namespace Go.Proofs
open Go.AF
set_option maxRecDepth 100000
set_option maxHeartbeats 1000000
attribute [local irreducible] aK cD fH bL aD fx aI aO bj aS bI aV
def aG (p : bZ) (i : cC) : List nZ := (p.cases.drop i.a.toNat).take i.b.toNat
def uA (f : gD) : List Int := [f.r.getD 0 0, f.r.getD 1 0, f.r.getD 2 0, f.r.getD 3 0, f.r.getD 4 0, f.r.getD 5 0, f.r.getD 6 0, f.r.getD 7 0]
inductive jz where
 | num (d : Int)
 | dG (l : List PanicEntry)
def iK (R : Mem) (dr : Value) (kind n : Int) (d : jz) (L L2 : List HP) : Prop := ∀ (Q : HP) (M : Mem) (K : Value → Mem → Prop) (Kp : List PanicEntry → Mem → Prop), Hp R (Q :: L) M →
 (match d with
  | .num v => ∀ M', Hp R (Q :: L2) M' → K (.int .i64 v) M'
  | .dG l => ∀ M', Hp R (Q :: L2) M' → Kp l M') → iu Cx dr [.int .i64 kind, .int .i64 n] M K Kp
def Wd.pY (p : bZ) (x : Wd) (g : Int) (i : cC) (k : Int) : Out Wd :=
 let c := (aG p i).getD k.toNat ⟨0, 0, 0⟩
 let x1 := x.next g
 if c.way = 1 then match x1.put p c.ch (bB x1 g c.bS) with
  | .eJ n y => .eJ n y
  | .dG l y => .dG l y
  | .on (y, _) => .on (y.bz g i.c k)
 else .on (((x1.get c.ch).1.bz g c.bS (x1.get c.ch).2.1).bz g i.c k)
def Wd.sY (p : bZ) (x : Wd) (g : Int) (i : cC) : Wd :=
 let x1 := x.next g
 match els (aG p i) with
  | some k => x1.bz g i.c (k : Int)
  | none => Wd.block { x1 with aE := dZ g (uA (ay x1 g).top) (aG p i) x1.aE (aG p i).length } g i
def Wd.choose (p : bZ) (x : Wd) (g : Int) (i : cC) (d : jz) : Out Wd :=
 if enabled (aG p i) x.aE = [] then .on (x.sY p g i)
 else match d with
  | .num v => x.pY p g i ((enabled (aG p i) x.aE).getD v.toNat 0)
  | .dG l => .dG l x
section
variable {R : Mem} {L L' L2 : List HP} {M : Mem} {K : Value → Mem → Prop} {Kp : List PanicEntry → Mem → Prop} {pa : PA} {p : bZ} {gg : List GA} {dr : Value} {b : Nat} {x : Wd} {g : Int} {i : cC}
def uB (p : bZ) (i : cC) : Prop := 0 ≤ i.a ∧ 0 ≤ i.b ∧ i.a + i.b ≤ p.cases.length ∧ p.cases.length ≤ 1000
instance (p : bZ) (i : cC) : Decidable (uB p i) := by unfold uB; infer_instance
theorem EH (h : Hp R L M) [o : vB b L pa p gg dr x L'] (hp : kU R pa p) (hk : uB p i)
  (k : ∀ A c M', RS ij R A c (aG p i) → Hp R (aB (bA pa p gg dr) b x :: L') M' → K (.slice A (aG p i).length c) M') :
  ae Tryz.prog 154 #[.pointer (some ⟨b, 0, none⟩), .agg #[.int .i64 i.op, .int .i64 i.a, .int .i64 i.b, .int .i64 i.c]] M K Kp := by
 refine pD ?_
 obtain ⟨a0, b0, hab, hl⟩ := hk
 have hcap := hp.cases.2
 refine av h ?_
 clear h; intro kb M h
 have hC := h.drop.pick o.pick
 have h' := cj h (b := b)
 clear h
 obtain ⟨a, kM, h⟩ := h'
 refine aR h (aJ h (aJ h (aJ h ?_)))
 rw [cO (by omega) (by omega)]
 refine ⟨by omega, by omega, by omega, by omega, by omega, by omega, ?_⟩
 have e : (aG p i).length = (i.a + i.b).toNat - i.a.toNat := by
  unfold aG
  rw [List.length_take, List.length_drop]; omega
 rw [← e]
 simp only [Int.toNat_natCast]
 exact k _ _ _ ((hp.cases.drop i.a.toNat (by omega)).take i.b.toNat) hC
theorem NZ {bs j : Nat} {l : List gD} {f : gD} (hs : Src R L (some ⟨bs, 0, none⟩) (iX.cells l)) (hi : l[j]? = some f) : Src R L (lj (some ⟨bs, j * 11 + 2, none⟩) 0 8 1) (bu.cells (uA f)) := by
 intro M h
 have e : lj (some ⟨bs, j * 11 + 2, none⟩) 0 8 1 = some ⟨bs, j * 11 + 2, none⟩ := by
  unfold lj; rw [if_neg (by omega)]; rfl
 rw [e]
 intro q hq
 have hq8 : q < 8 := by simpa [bu, gy.cells, uA] using hq
 have e2 : j * 11 + 2 + q = 0 + (j * iX.z + (2 + q)) := by show _ = 0 + (j * 11 + (2 + q)); omega
 obtain rfl | rfl | rfl | rfl | rfl | rfl | rfl | rfl : q = 0 ∨ q = 1 ∨ q = 2 ∨ q = 3 ∨ q = 4 ∨ q = 5 ∨ q = 6 ∨ q = 7 := by omega
 all_goals exact Src.at hs h (i := j) hi rfl e2
theorem G1 {bs c oo : Nat} {v : Int} {G : Mem → Prop} (h : Hp R L M) [o : vB b L pa p gg dr x L'] (hg : bp x g) (eL : gg[g.toNat]? = some (some ⟨bs, 0, none⟩, c)) (e : oo = ((ay x g).fs.length - 1) * 11 + 1) (hv : v = (ay x g).top.pc + 1)
  (k : ∀ M', Hp R (aB (bA pa p gg dr) b (x.next g) :: L') M' → G M') : aO M ⟨bs, oo, none⟩ (.int .i64 v) G := by
 subst hv
 obtain ⟨h0, h1, h2, h3⟩ := hg
 obtain ⟨a, gb, hl, fM, h4⟩ := gG h (b := b) h0 h1 eL
 refine yT h4 (eo h2) e fun M' h5 => ?_
 replace h5 := cJ h5 gb hl fM eL (by simp)
 exact k M' (bk (a := a) (p := p) (pa := pa) (dr := dr) (gg := gg) (x := x.next g) (c9 hl) h5 b)
theorem G2 {bs c oo : Nat} {G : Int → Prop} (h : Hp R L M) [o : vB b L pa p gg dr x L'] (hg : bp x g) (eL : gg[g.toNat]? = some (some ⟨bs, 0, none⟩, c)) (e : oo = ((ay x g).fs.length - 1) * 11 + 1)
  (k : G (ay x g).top.pc) : aK (M.ld ⟨bs, oo, none⟩) .i64 G := by
 obtain ⟨h0, h1, h2, h3⟩ := hg
 obtain ⟨a, gb, hl, fM, h4⟩ := gG h (b := b) h0 h1 eL
 exact yS h4 (eo h2) e k
theorem y3 (hg : bp x g) : ay (x.next g) g = (ay x g).cH (ay x g).top.next := gE hg.1 hg.2.1
theorem sZ (hg : bp x g) : bp (x.next g) g := by
 have e := y3 hg
 obtain ⟨h0, h1, h2, h3⟩ := hg
 refine ⟨h0, by simpa [Wd.next, Wd.bD] using h1, ?_, ?_⟩ <;> rw [e] <;> simpa [iQ.cH]
theorem CP (hg : bp x g) : (ay (x.next g) g).fs.length = (ay x g).fs.length := by rw [y3 hg]; simp [iQ.cH]
theorem Kf {q v : Int} (hg : bp x g) : (ay (x.bz g q v) g).fs.length = (ay x g).fs.length := by rw [iG hg]; simp [iQ.cH]
theorem Ql (hs : x.Sm) : (x.next g).Sm := Iq hs
def EI (p : bZ) (x : Wd) (g : Int) (i : cC) (d : jz) : Prop := bp x g ∧ uB p i ∧ bg i.c ∧ x.Sm ∧ (ay x g).top.pc < 1000000000 ∧ 0 ≤ (ay x g).top.pc ∧ (∀ c ∈ aG p i, c.Ok x.aE.length) ∧
 match enabled (aG p i) x.aE, d with
 | [], _ => True
 | _, .dG _ => True
 | can, .num v => 0 ≤ v ∧ v < can.length ∧
  let k := can.getD v.toNat 0
  let c := (aG p i).getD k.toNat ⟨0, 0, 0⟩
  let x1 := x.next g
  0 ≤ k ∧ k < (aG p i).length ∧ bg c.bS ∧
  if c.way = 1 then oa p x1 c.ch (bB x1 g c.bS) ∧ (match x1.put p c.ch (bB x1 g c.bS) with
   | .on (y, _) => bp y g ∧ (ay y g).fs.length = (ay x g).fs.length
   | _ => True)
  else ux x1 c.ch ∧ bp (x1.get c.ch).1 g ∧ (ay (x1.get c.ch).1 g).fs.length = (ay x g).fs.length
theorem Kg {d : jz} (hp : kU R pa p) (hk : EI p x g i d) (hd : if enabled (aG p i) x.aE = [] then L2 = L else iK R dr 3 ((enabled (aG p i) x.aE).length : Int) d L L2) :
  fR R pa p dr 122 x g i (x.choose p g i d) L L2 := by
 intro gg b bs c M K Kp Q h eL k
 obtain ⟨hg, hcs, Qm, hs, Am, Qn, hok, hk⟩ := hk
 have xF := hg
 obtain ⟨h0, h1, h2, h3⟩ := xF
 have hs' := hs
 obtain ⟨s1, s2, s3, s4, s5, s6, s7, s8⟩ := hs'
 have OQ : (aG p i).length ≤ 1000 := by
  obtain ⟨_, _, _, hl⟩ := hcs
  unfold aG
  rw [List.length_take, List.length_drop]; omega
 refine ou ?_
 refine av h ?_
 clear h; intro k1 M h
 refine aJ h (aJ h (aJ h (aJ h ?_)))
 refine EH (b := b) h hp hcs ?_
 clear h; intro A ca M hA h
 refine aY ?_
 unfold Wd.choose at k
 have hen : ∀ {X : HP} {M : Mem} {L3 : List HP}, Hp R (aB (bA pa p gg dr) b x :: L3) M → ∀ (K1 : Value → Mem → Prop), (∀ A' c' M', Hp R (j6 A' c' (enabled (aG p i) x.aE) :: aB (bA pa p gg dr) b x :: L3) M' → K1 (.slice A' (enabled (aG p i) x.aE).length c') M') →
   aD (M.ld ⟨b, 0 + 6, none⟩) fun sB c7 fX => ae Tryz.prog 155 #[.slice A (aG p i).length ca, .slice sB c7 fX] M K1 Kp := by
  intro X M L3 h K1 k1
  have h' := cj h (b := b)
  clear h
  obtain ⟨a, hl, h⟩ := h'
  have hl' := hl
  obtain ⟨l1, l2, l3, l4⟩ := hl'
  refine aR h ?_
  refine zX h (hA.src) (Src.row (A := a.ac)) rfl rfl (by omega) l3 hok ?_
  clear h; intro A' c' M h
  exact k1 _ _ _ ((bk (a := a) (p := p) (pa := pa) (dr := dr) (gg := gg) (x := x) hl h b).swap)
 refine hen (X := Q) h _ ?_
 clear h hen; intro A2 c2 M h
 refine aY ?_
 by_cases hcan : enabled (aG p i) x.aE = []
 ·rw [if_pos hcan] at k hd
  subst hd
  rw [hcan] at h ⊢
  refine aq ?_
  unfold Wd.sY at k
  dsimp only at k
  refine G2 (b := b) h hg eL rfl ?_
  rw [iY Qn (by omega)]
  refine G1 (b := b) h hg eL rfl rfl ?_
  clear h; intro M h
  have Kh := sZ hg
  have Jk := CP hg
  refine F7 h hA.src rfl (by omega) ?_
  clear h; intro M h
  refine ⟨_, _, rfl, ?_⟩
  cases he : els (aG p i) with
  | some q =>
   rw [he] at k
   dsimp only at k ⊢
   refine aq ?_
   refine aJ h ?_
   refine ⟨Qm.1, Qm.2, ?_⟩
   refine lH (b := b) h Kh eL Qm (by rw [Jk]) ?_
   clear h; intro M h
   exact k _ _ (h.sub (by repeat (first | exact .refl | refine .cons (by repeat (first | exact .here | apply aF.there)) ?_ | apply Sub.drop)))
  | none =>
   rw [he] at k
   dsimp only at k ⊢
   refine au ⟨by decide, by decide, by decide, by decide, by decide, by decide, ?_⟩
   have zD := Kh
   obtain ⟨g0, g1, g2, g3⟩ := zD
   have h' := gG h (b := b) g0 g1 eL
   clear h
   obtain ⟨a, gb, hl, fM, h⟩ := h'
   have hl' := hl
   obtain ⟨l1, l2, l3, l4⟩ := hl'
   refine aR h ?_
   refine F9 (fE := uA (ay (x.next g) g).top) h hA.src (Src.row (A := a.ac)) ?_ rfl rfl rfl rfl (by omega) l3 hok (fun c hc => s1 c hc) ?_
   ·have e9 : ∀ {L9 : List HP}, Src R L9 (some ⟨bs, 0, none⟩) (iX.cells (ay (x.next g) g).fs) → Src R L9 (lj (some ⟨bs, ((ay x g).fs.length - 1) * 11 + 2, none⟩) 0 8 1) (bu.cells (uA (ay (x.next g) g).top)) := fun hs => by
     have := NZ hs (eo g2)
     rwa [Jk] at this
    exact e9 Src.row
   clear h; intro M h
   refine ⟨rfl, ?_⟩
   refine aJ h (aJ h (aJ h (aJ h ?_)))
   replace h := cJ h gb hl fM eL
   have kM := c9 (y := ay (x.next g) g) (g := g) hl
   have hcl2 : ∀ x' : Wd, x' = { (x.next g).bD g (ay (x.next g) g) with aE := dZ g (uA (ay (x.next g) g).top) (aG p i) x.aE (aG p i).length } → eU gg a x' := by
    rintro _ rfl
    obtain ⟨m1, m2, m3, m4⟩ := kM
    exact ⟨m1, m2, by show _ = List.length _; rw [kN]; exact l3, m4⟩
   replace h := bk (a := a) (p := p) (pa := pa) (dr := dr) (gg := gg) (x := { (x.next g).bD g (ay (x.next g) g) with aE := dZ g (uA (ay (x.next g) g).top) (aG p i) x.aE (aG p i).length }) (hcl2 _ rfl) h b
   rw [sx g0 g1] at h
   refine lG (b := b) (i := i) (x := { x.next g with aE := dZ g (uA (ay (x.next g) g).top) (aG p i) x.aE (aG p i).length }) h g0 g1 ?_
   clear h; intro M h
   exact ⟨rfl, k _ _ (h.sub (by repeat (first | exact .refl | refine .cons (by repeat (first | exact .here | apply aF.there)) ?_ | apply Sub.drop)))⟩
 rw [if_neg hcan] at k hd
 have Ym : 0 < (enabled (aG p i) x.aE).length := by
  cases hh : enabled (aG p i) x.aE with
  | nil => exact absurd hh hcan
  | cons _ _ => simp
 refine FT (by simp; omega) ?_
 have An : M.ld ⟨b, 0 + 14, none⟩ = some dr := by
  obtain ⟨a, hl, h9⟩ := cj h (b := b)
  exact aj h9
 rw [An]
 refine LN ?_
 have h5 : Hp R (sep [j6 A2 c2 (enabled (aG p i) x.aE), aB (bA pa p gg dr) b x, pt k1 [.int .i64 i.op, .int .i64 i.a, .int .i64 i.b, .int .i64 i.c] 34, Q] :: L) M := Hp.bl.2 (h.sub (by repeat (first | exact .refl | refine .cons (by repeat (first | exact .here | apply aF.there)) ?_ | apply Sub.drop)))
 refine hd _ _ _ _ h5 ?_
 clear h h5 An
 cases d with
 | dG l =>
  dsimp only at k ⊢
  intro M h5
  have h : Hp R (j6 A2 c2 (enabled (aG p i) x.aE) :: aB (bA pa p gg dr) b x :: pt k1 [.int .i64 i.op, .int .i64 i.a, .int .i64 i.b, .int .i64 i.c] 34 :: Q :: L2) M := Hp.bl.1 h5
  exact k _ _ (h.sub (by repeat (first | exact .refl | refine .cons (by repeat (first | exact .here | apply aF.there)) ?_ | apply Sub.drop)))
 | num v =>
  dsimp only at k ⊢
  intro M h5
  have h : Hp R (j6 A2 c2 (enabled (aG p i) x.aE) :: aB (bA pa p gg dr) b x :: pt k1 [.int .i64 i.op, .int .i64 i.a, .int .i64 i.b, .int .i64 i.c] 34 :: Q :: L2) M := Hp.bl.1 h5
  clear h5
  have hk2 : 0 ≤ v ∧ v < (enabled (aG p i) x.aE).length ∧
    0 ≤ (enabled (aG p i) x.aE).getD v.toNat 0 ∧ (enabled (aG p i) x.aE).getD v.toNat 0 < (aG p i).length ∧ bg ((aG p i).getD ((enabled (aG p i) x.aE).getD v.toNat 0).toNat ⟨0, 0, 0⟩).bS ∧
    if ((aG p i).getD ((enabled (aG p i) x.aE).getD v.toNat 0).toNat ⟨0, 0, 0⟩).way = 1 then oa p (x.next g) ((aG p i).getD ((enabled (aG p i) x.aE).getD v.toNat 0).toNat ⟨0, 0, 0⟩).ch (bB (x.next g) g ((aG p i).getD ((enabled (aG p i) x.aE).getD v.toNat 0).toNat ⟨0, 0, 0⟩).bS) ∧
     (match (x.next g).put p ((aG p i).getD ((enabled (aG p i) x.aE).getD v.toNat 0).toNat ⟨0, 0, 0⟩).ch (bB (x.next g) g ((aG p i).getD ((enabled (aG p i) x.aE).getD v.toNat 0).toNat ⟨0, 0, 0⟩).bS) with
      | .on (y, _) => bp y g ∧ (ay y g).fs.length = (ay x g).fs.length
      | _ => True)
    else ux (x.next g) ((aG p i).getD ((enabled (aG p i) x.aE).getD v.toNat 0).toNat ⟨0, 0, 0⟩).ch ∧ bp ((x.next g).get ((aG p i).getD ((enabled (aG p i) x.aE).getD v.toNat 0).toNat ⟨0, 0, 0⟩).ch).1 g ∧ (ay ((x.next g).get ((aG p i).getD ((enabled (aG p i) x.aE).getD v.toNat 0).toNat ⟨0, 0, 0⟩).ch).1 g).fs.length = (ay x g).fs.length := by
   revert hk
   cases hh : enabled (aG p i) x.aE with
   | nil => exact absurd hh hcan
   | cons a l => exact fun hk => hk
  clear hk hcan hd
  generalize hcane : enabled (aG p i) x.aE = can at h k hk2 Ym ⊢
  obtain ⟨v0, v1, q0, q1, RP, Vj⟩ := hk2
  refine cE ⟨v0, v1, ?_⟩
  obtain ⟨ab, rfl⟩ := h.bx (A := A2) Ym (by decide)
  refine br ?_
  obtain ⟨q, hq⟩ := aQ (l := can) (i := v.toNat) (by omega)
  have hqe : can.getD v.toNat 0 = q := by simp [hq]
  rw [hqe] at k q0 q1 RP Vj
  refine be (Src.at (h.src (A := some ⟨ab, 0, none⟩)) h (i := v.toNat) (j := 0) hq rfl (by simp [bu])) ?_
  unfold Wd.pY at k
  dsimp only at k
  obtain ⟨cc, Wh⟩ := aQ (l := aG p i) (i := q.toNat) (by omega)
  have hce : (aG p i).getD q.toNat ⟨0, 0, 0⟩ = cc := by simp [Wh]
  rw [hce] at k RP Vj
  refine G2 (b := b) h hg eL rfl ?_
  rw [iY Qn (by omega)]
  refine G1 (b := b) h hg eL rfl rfl ?_
  clear h; intro M h
  have Kh := sZ hg
  have Jk := CP hg
  have uU : (x.next g).Sm := Ql hs
  generalize CQ : x.next g = x1 at h k Vj Kh Jk uU
  refine ⟨q0, q1, ?_⟩
  obtain ⟨cb, co, rfl⟩ := hA.some (by omega) (by decide)
  refine br ?_
  refine be (Src.at (hA.src (L := _)) h (i := q.toNat) (j := 0) Wh rfl (by simp [ij])) ?_
  refine be (Src.at (hA.src (L := _)) h (i := q.toNat) (j := 1) Wh rfl (by show _ = co + (_ * 3 + 1); omega)) ?_
  refine be (Src.at (hA.src (L := _)) h (i := q.toNat) (j := 2) Wh rfl (by show _ = co + (_ * 3 + 2); omega)) ?_
  refine av h ?_
  clear h; intro kc M h
  refine az h ?_
  clear h; intro M h
  refine az h ?_
  clear h; intro M h
  refine az h ?_
  clear h; intro M h
  refine aJ h ?_
  refine aZ.2 ⟨fun e1 => ?_, fun e1 => ?_⟩
  ·rw [if_pos e1] at k Vj
   obtain ⟨hput, hy⟩ := Vj
   refine aJ h (aJ h ⟨RP.1, RP.2, ?_⟩)
   refine Es (b := b) h Kh eL RP (by rw [Jk]) ?_
   refine Bp (b := b) h hp.cases hput uU ?_ ?_
   ·clear h
    intro y ok M e h
    rw [e] at k hy
    dsimp only at k hy
    refine mu ?_
    refine aJ h ⟨Qm.1, Qm.2, ?_⟩
    refine lH (b := b) h hy.1 eL Qm (by rw [hy.2]) ?_
    clear h; intro M h
    exact k _ _ (h.sub (by repeat (first | exact .refl | refine .cons (by repeat (first | exact .here | apply aF.there)) ?_ | apply Sub.drop)))
   ·clear h
    intro y n M e h
    rw [e] at k
    exact k _ _ (h.sub (by repeat (first | exact .refl | refine .cons (by repeat (first | exact .here | apply aF.there)) ?_ | apply Sub.drop)))
  ·rw [if_neg e1] at k Vj
   obtain ⟨U9, Et, hfl⟩ := Vj
   refine aJ h (aJ h ?_)
   refine Bq (b := b) h U9 uU ?_
   clear h; intro M h
   generalize x1.get cc.ch = r at h k Et hfl
   obtain ⟨y, w, sm, ok⟩ := r
   dsimp only at h k Et hfl ⊢
   refine ⟨_, _, _, rfl, aj h, RP.1, RP.2, ?_⟩
   refine lH (b := b) h Et eL RP (by rw [hfl]) ?_
   clear h; intro M h
   refine ⟨aj h, aJ h ⟨Qm.1, Qm.2, ?_⟩⟩
   refine lH (b := b) h (iH Et) eL Qm (by rw [Kf Et, hfl]) ?_
   clear h; intro M h
   exact k _ _ (h.sub (by repeat (first | exact .refl | refine .cons (by repeat (first | exact .here | apply aF.there)) ?_ | apply Sub.drop)))
end
end Go.Proofs
namespace Go.Proofs
open Go.AF
set_option maxRecDepth 100000
set_option maxHeartbeats 1000000
attribute [local irreducible] aK cD fH bL aD fx aI aO bj aS bI aV
def bC.before (a b : bC) : Bool := decide (a.t < b.t) || (a.t == b.t && decide (a.seq < b.seq))
def mY (l : List bC) (i : Nat) : bC := l.getD i ⟨0, 0, 0⟩
def eO (l : List bC) (i j : Nat) : List bC := (l.set i (mY l j)).set j (mY l i)
def Ki : Nat → Nat → List bC → List bC
 | 0, _, l => l
 | f + 1, i, l => if 0 < i ∧ (mY l i).before (mY l ((i - 1) / 4)) = true then Ki f ((i - 1) / 4) (eO l i ((i - 1) / 4)) else l
def gq (l : List bC) : Nat → Nat → Nat → Nat
 | 0, _, out => out
 | n + 1, k, out => if k < l.length then gq l n (k + 1) (if (mY l k).before (mY l out) then k else out) else out
def gO (l : List bC) (i : Nat) : Nat := gq l 4 (4 * i + 1) i
def oc : Nat → Nat → List bC → List bC
 | 0, _, l => l
 | f + 1, i, l => if gO l i = i then l else oc f (gO l i) (eO l i (gO l i))
def r9 (l : List bC) (x : bC) : List bC := Ki l.length l.length (l ++ [x])
def dV (l : List bC) (i : Nat) : List bC :=
 if i < l.length - 1 then Ki i i (oc l.length i ((eO l i (l.length - 1)).take (l.length - 1))) else (eO l i (l.length - 1)).take (l.length - 1)
def dO : Nat → List bC → Int → List bC × List bC
 | 0, l, _ => (l, [])
 | f + 1, l, now => if 0 < l.length ∧ (mY l 0).t ≤ now then ((dO f (dV l 0) now).1, mY l 0 :: (dO f (dV l 0) now).2) else (l, [])
def Qo : Nat → List bC → List bC
 | 0, _ => []
 | f + 1, l => if 0 < l.length then mY l 0 :: Qo f (dV l 0) else []
theorem EJ {f i : Nat} {l : List bC} : Ki (f + 1) i l = if 0 < i ∧ (mY l i).before (mY l ((i - 1) / 4)) = true then Ki f ((i - 1) / 4) (eO l i ((i - 1) / 4)) else l := rfl
theorem xh {l : List bC} {n k out : Nat} : gq l (n + 1) k out = if k < l.length then gq l n (k + 1) (if (mY l k).before (mY l out) then k else out) else out := rfl
theorem G3 {f i : Nat} {l : List bC} : oc (f + 1) i l = if gO l i = i then l else oc f (gO l i) (eO l i (gO l i)) := rfl
theorem y4 {f : Nat} {l : List bC} {now : Int} : dO (f + 1) l now = if 0 < l.length ∧ (mY l 0).t ≤ now then ((dO f (dV l 0) now).1, mY l 0 :: (dO f (dV l 0) now).2) else (l, []) := rfl
theorem fm {l : List bC} {i j : Nat} : (eO l i j).length = l.length := by simp [eO]
theorem CR : ∀ {f i : Nat} {l : List bC}, (Ki f i l).length = l.length
 | 0, _, _ => rfl
 | f + 1, i, l => by unfold Ki; split; rw [CR, fm]; rfl
theorem ja : ∀ {f i : Nat} {l : List bC}, (oc f i l).length = l.length
 | 0, _, _ => rfl
 | f + 1, i, l => by unfold oc; split; rfl; rw [ja, fm]
theorem EK {l : List bC} {i : Nat} : (dV l i).length = l.length - 1 := by
 unfold dV; split
 ·rw [CR, ja, List.length_take, fm]; omega
 ·rw [List.length_take, fm]; omega
theorem Kj {l : List bC} {x : bC} : (r9 l x).length = l.length + 1 := by unfold r9; rw [CR]; simp
theorem lW {l : List bC} {i : Nat} (h : i < l.length) : l[i]? = some (mY l i) := by
 unfold mY; rw [List.getD_eq_getElem?_getD, List.getElem?_eq_getElem h]; rfl
theorem lX {l : List bC} : ∀ (n k out : Nat), out < l.length → out < k → gq l n k out < l.length ∧ (out ≤ gq l n k out)
 | 0, _, _, h, _ => ⟨h, Nat.le_refl _⟩
 | n + 1, k, out, h, hk => by
  unfold gq; split
  ·rename_i hl
   split
   ·have := lX n (k + 1) k hl (by omega); omega
   ·exact lX n (k + 1) out h (by omega)
  ·exact ⟨h, Nat.le_refl _⟩
theorem BB {l : List bC} {i : Nat} (h : i < l.length) : gO l i < l.length ∧ i ≤ gO l i := lX 4 _ i h (by omega)
structure RQ (b o : Nat) (P : Option Addr → Nat → Nat → Int → HP) : Prop where
 Fp : ∀ (R : Mem) (L : List HP) (M : Mem) (A : Option Addr) (n c : Nat) (s : Int), Hp R (P A n c s :: L) M → M.ld ⟨b, o, none⟩ = some (.slice A n c)
 ldI : ∀ (R : Mem) (L : List HP) (M : Mem) (A : Option Addr) (n c : Nat) (s : Int), Hp R (P A n c s :: L) M → M.ld ⟨b, o + 1, none⟩ = some (.int .u64 s)
 Yh : ∀ (R : Mem) (L : List HP) (M : Mem) (A A' : Option Addr) (n c n' c' : Nat) (s : Int) (G : Mem → Prop), Hp R (P A n c s :: L) M → (∀ M', Hp R (P A' n' c' s :: L) M' → G M') → aO M ⟨b, o, none⟩ (.slice A' n' c') G
 stI : ∀ (R : Mem) (L : List HP) (M : Mem) (A : Option Addr) (n c : Nat) (s s' : Int) (G : Mem → Prop), Hp R (P A n c s :: L) M → (∀ M', Hp R (P A n c s' :: L) M' → G M') → aO M ⟨b, o + 1, none⟩ (.int .u64 s') G
theorem IA : bh Tryz.prog 65 205 3 24 [.int .u64 0, .int .u64 0, .int .i64 0] := bh.mk' (zv := .agg #[.int .u64 0, .int .u64 0, .int .i64 0]) (by kernel_rfl) (by kernel_rfl) rfl (by omega)
section
variable {R : Mem} {L L' : List HP} {M : Mem} {K : Value → Mem → Prop} {Kp : List PanicEntry → Mem → Prop} {b o : Nat} {P : Option Addr → Nat → Nat → Int → HP} {A : Option Addr} {c : Nat} {s : Int} {l : List bC} {i j : Nat}
theorem lM {q o0 o1 o2 o3 : Nat} {x : bC} {G : Int → Int → Int → Prop} (h : Hp R L M) (hs : Src R L (some ⟨q, o0, none⟩) (rX.cells l)) (hi : l[i]? = some x) (e1 : o1 = o0 + i * 3) (e2 : o2 = o0 + i * 3 + 1) (e3 : o3 = o0 + i * 3 + 2) (g : G x.t x.seq x.id) :
  aK (M.ld ⟨q, o1, none⟩) .u64 fun a => aK (M.ld ⟨q, o2, none⟩) .u64 fun b => aK (M.ld ⟨q, o3, none⟩) .i64 fun d => G a b d := by
 refine be (Src.at hs h (i := i) (j := 0) hi rfl (by rw [e1]; rfl)) ?_
 refine be (Src.at hs h (i := i) (j := 1) hi rfl (by rw [e2]; show _ = o0 + (i * 3 + 1); omega)) ?_
 exact be (Src.at hs h (i := i) (j := 2) hi rfl (by rw [e3]; show _ = o0 + (i * 3 + 2); omega)) g
theorem IB {q o1 o2 o3 : Nat} {x y : bC} {G : Mem → Prop} (h : Hp R L M) [r : cG (some ⟨q, 0, none⟩) L bC rX 205 c l L'] (hi : l[i]? = some x) (e1 : o1 = i * 3) (e2 : o2 = i * 3 + 1) (e3 : o3 = i * 3 + 2)
  (k : ∀ M', Hp R (fV (some ⟨q, 0, none⟩) c (l.set i y) :: L') M' → G M') :
  aO M ⟨q, o1, none⟩ (.int .u64 y.t) fun M1 => aO M1 ⟨q, o2, none⟩ (.int .u64 y.seq) fun M2 => aO M2 ⟨q, o3, none⟩ (.int .i64 y.id) G := by
 have hl := (List.getElem?_eq_some_iff.1 hi).1
 refine iB (E := rX) (a := x) (a' := ⟨y.t, x.seq, x.id⟩) i 0 h hi (by decide) rfl e1 ?_
 clear h; intro M h
 refine iB (E := rX) (a := ⟨y.t, x.seq, x.id⟩) (a' := ⟨y.t, y.seq, x.id⟩) i 1 h (by simp [hl]) (by decide) rfl e2 ?_
 clear h; intro M h
 refine iB (E := rX) (a := ⟨y.t, y.seq, x.id⟩) (a' := y) i 2 h (by simp [hl]) (by decide) rfl e3 ?_
 clear h; intro M h
 rw [iF, iF] at h
 exact k _ h
theorem wI {x y : bC} (h : Hp R L M) (k : ∀ M', Hp R L M' → K (.bool (x.before y)) M') : ae Tryz.prog 186 #[.agg #[.int .u64 x.t, .int .u64 x.seq, .int .i64 x.id], .agg #[.int .u64 y.t, .int .u64 y.seq, .int .i64 y.id]] M K Kp := by
 refine yy ?_
 repeat (first | (refine av h ?_; clear h; intro kb M h) | (refine az h ?_; clear h; intro M h) | refine St.to h ?_ | (apply Exists.intro; (repeat apply Exists.intro); refine And.intro rfl ?_) | (refine And.intro ?_ ?_; first | exact rfl | (refine aa (aj h) ?_; (repeat (refine aa (aj h) ?_)); exact ai) | omega) | refine aq ?_ | refine au ?_)
 unfold bC.before at k
 refine aP.2 ⟨fun h1 => ?_, fun h1 => ?_⟩
 ·have := k _ h.vb
  rwa [decide_eq_true h1, Bool.true_or] at this
 ·repeat (first | (refine av h ?_; clear h; intro kb M h) | (refine az h ?_; clear h; intro M h) | refine St.to h ?_ | (apply Exists.intro; (repeat apply Exists.intro); refine And.intro rfl ?_) | (refine And.intro ?_ ?_; first | exact rfl | (refine aa (aj h) ?_; (repeat (refine aa (aj h) ?_)); exact ai) | omega) | refine aq ?_ | refine au ?_)
  refine aZ.2 ⟨fun h2 => ?_, fun h2 => ?_⟩
  ·repeat (first | (refine av h ?_; clear h; intro kb M h) | (refine az h ?_; clear h; intro M h) | refine St.to h ?_ | (apply Exists.intro; (repeat apply Exists.intro); refine And.intro rfl ?_) | (refine And.intro ?_ ?_; first | exact rfl | (refine aa (aj h) ?_; (repeat (refine aa (aj h) ?_)); exact ai) | omega) | refine aq ?_ | refine au ?_)
   have := k _ h.vb
   rwa [decide_eq_false h1, Bool.false_or, beq_iff_eq.2 h2, Bool.true_and] at this
  ·have := k _ h.vb
   rwa [decide_eq_false h1, Bool.false_or, show (x.t == y.t) = false from by simpa using h2, Bool.false_and] at this
theorem vH (D : RQ b o P) (h : Hp R (P A l.length c s :: fV A c l :: L) M) (hi : i < l.length) (hj : j < l.length)
  (k : ∀ M', Hp R (P A l.length c s :: fV A c (eO l i j) :: L) M' → K (.tuple #[]) M') : ae Tryz.prog 136 #[.pointer (some ⟨b, o, none⟩), .int .i64 (i : Int), .int .i64 (j : Int)] M K Kp := by
 refine ua ?_
 obtain ⟨q, rfl⟩ := h.bx (A := A) (by omega) (by decide)
 have hs := h.src (A := some ⟨q, 0, none⟩)
 rw [D.Fp _ _ _ _ _ _ _ h]
 refine aY (aY (aY ⟨by omega, by omega, br ?_⟩))
 refine lM h hs (lW hj) (by simp) (by simp) (by simp) ?_
 refine aY ⟨by omega, by omega, br ?_⟩
 refine lM h hs (lW hi) (by simp) (by simp) (by simp) ?_
 clear hs
 refine ⟨by omega, by omega, br ?_⟩
 refine IB (y := mY l j) h (lW hi) (by simp) (by simp) (by simp) ?_
 clear h; intro M h
 refine ⟨by omega, by omega, br ?_⟩
 have KO : (l.set i (mY l j))[j]? = some (mY l j) := by
  rw [List.getElem?_set]
  split
  ·rfl
  ·exact lW hj
 refine IB (y := mY l i) h KO (by simp) (by simp) (by simp) ?_
 clear h; intro M h
 exact k _ (h.sub (by repeat (first | exact .refl | refine .cons (by repeat (first | exact .here | apply aF.there)) ?_ | apply Sub.drop)))
theorem y5 (D : RQ b o P) (h : Hp R (P A l.length c s :: fV A c l :: L) M) (hi : i < l.length) (hl : l.length ≤ 1000000)
  (k : ∀ M', Hp R (P A l.length c s :: fV A c l :: L) M' → K (.int .i64 (gO l i : Int)) M') : ae Tryz.prog 185 #[.pointer (some ⟨b, o, none⟩), .int .i64 (i : Int)] M K Kp := by
 refine sP ?_
 have e1 : IntKind.wrap .i64 (IntKind.wrap .i64 (4 * (i : Int)) + 1) = ((4 * i + 1 : Nat) : Int) := by
  rw [cO (z := 4 * (i : Int)) (by omega) (by omega), cO (by omega) (by omega)]; omega
 have e4 : IntKind.wrap .i64 (IntKind.wrap .i64 (4 * (i : Int)) + 4) = ((4 * i + 4 : Nat) : Int) := by
  rw [cO (z := 4 * (i : Int)) (by omega) (by omega), cO (by omega) (by omega)]; omega
 rw [e1, e4]
 refine ⟨fun d vs M => ∃ kk out : Nat, vs = [.int .i64 (out : Int), .int .i64 (kk : Int)] ∧ d = 4 * i + 5 - kk ∧ kk ≤ 4 * i + 5 ∧ out < l.length ∧ out < kk ∧ gq l (4 * i + 5 - kk) kk out = gO l i ∧ Hp R (P A l.length c s :: fV A c l :: L) M,
  ⟨_, 4 * i + 1, i, rfl, rfl, by omega, hi, by omega, by rw [show 4 * i + 5 - (4 * i + 1) = 4 from by omega]; rfl, h⟩, ?_⟩
 clear h
 rintro d _ n5 n6 M ⟨kk, out, he, hd, hkk, ho, hok, hf, h⟩
 simp only [List.cons.injEq, Value.int.injEq, and_true, true_and] at he
 obtain ⟨rfl, rfl⟩ := he
 refine aP.2 ⟨fun hle => ?_, fun hgt => ?_⟩
 ·rw [D.Fp _ _ _ _ _ _ _ h]
  obtain ⟨n, hn⟩ : ∃ n, 4 * i + 5 - kk = n + 1 := ⟨4 * i + 4 - kk, by omega⟩
  rw [hn] at hf
  rw [xh] at hf
  refine aY ?_
  refine aP.2 ⟨fun hlt => ?_, fun hge => ?_⟩
  ·rw [if_pos (by omega)] at hf
   obtain ⟨q, rfl⟩ := h.bx (A := A) (by omega) (by decide)
   have hs := h.src (A := some ⟨q, 0, none⟩)
   refine aY ⟨by omega, by omega, br ?_⟩
   refine lM h hs (lW (i := kk) (by omega)) (by simp) (by simp) (by simp) ?_
   refine aY ⟨by omega, by omega, br ?_⟩
   refine lM h hs (lW (i := out) (by omega)) (by simp) (by simp) (by simp) ?_
   refine wI h ?_
   clear h hs; intro M h
   refine mu ?_
   have e : IntKind.wrap .i64 ((kk : Int) + 1) = ((kk + 1 : Nat) : Int) := by rw [cO (by omega) (by omega)]; omega
   rw [e]
   cases hb : (mY l kk).before (mY l out) with
   | true =>
    rw [hb] at hf
    exact aq ⟨n, by omega, kk + 1, kk, rfl, by omega, by omega, by omega, by omega, by rw [show 4 * i + 5 - (kk + 1) = n from by omega]; exact hf, h⟩
   | false =>
    rw [hb] at hf
    exact au ⟨n, by omega, kk + 1, out, rfl, by omega, by omega, by omega, by omega, by rw [show 4 * i + 5 - (kk + 1) = n from by omega]; exact hf, h⟩
  ·rw [if_neg (by omega)] at hf
   subst hf
   exact k _ h
 ·have : 4 * i + 5 - kk = 0 := by omega
  rw [this] at hf
  have DF : out = gO l i := hf
  subst DF
  exact k _ h
theorem Kk (D : RQ b o P) {f : Nat} (h : Hp R (P A l.length c s :: fV A c l :: L) M) (hi : i < l.length) (hl : l.length ≤ 1000000) (hf : l.length ≤ f + i)
  (k : ∀ M', Hp R (P A l.length c s :: fV A c (oc f i l) :: L) M' → K (.tuple #[]) M') : ae Tryz.prog 137 #[.pointer (some ⟨b, o, none⟩), .int .i64 (i : Int)] M K Kp := by
 refine uc ?_
 refine y5 D h hi hl ?_
 clear h; intro M h
 refine cE ?_
 refine ⟨fun d vs M => ∃ (f' i' : Nat) (l' : List bC), vs = [.int .i64 (i' : Int), .int .i64 (gO l' i' : Int)] ∧ d = l.length - i' ∧ i' < l.length ∧ l'.length = l.length ∧ l.length ≤ f' + i' ∧ oc f' i' l' = oc f i l ∧ Hp R (P A l.length c s :: fV A c l' :: L) M,
  ⟨_, f, i, l, rfl, rfl, hi, rfl, hf, rfl, h⟩, ?_⟩
 clear h
 rintro d _ n5 n6 M ⟨f', i', l', he, hd, hi', hl', Fz, BC, h⟩
 simp only [List.cons.injEq, Value.int.injEq, and_true, true_and] at he
 obtain ⟨rfl, rfl⟩ := he
 obtain ⟨g, rfl⟩ : ∃ g, f' = g + 1 := ⟨f' - 1, by omega⟩
 rw [G3] at BC
 obtain ⟨m1, m2⟩ := BB (l := l') (i := i') (by omega)
 rw [← hl'] at h
 refine de.2 ⟨fun hne => ?_, fun heq => ?_⟩
 ·rw [if_neg (by intro e; apply hne; rw [e])] at BC
  refine vH D h (i := i') (j := gO l' i') (by omega) (by omega) ?_
  clear h; intro M h
  refine ⟨rfl, ?_⟩
  have Wi : (eO l' i' (gO l' i')).length = l'.length := fm
  rw [← Wi] at h
  refine y5 D h (by omega) (by omega) ?_
  clear h; intro M h
  rw [Wi] at h
  refine cE ?_
  exact ⟨l.length - gO l' i', by omega, g, gO l' i', _, rfl, rfl, by omega, by omega, by omega, BC, by rw [← hl']; exact h⟩
 ·rw [if_pos (by omega)] at BC
  subst BC
  rw [hl'] at h
  exact k _ h
theorem IC (D : RQ b o P) {f : Nat} (h : Hp R (P A l.length c s :: fV A c l :: L) M) (hi : i < l.length) (hl : l.length ≤ 1000000) (hf : i ≤ f)
  (k : ∀ M', Hp R (P A l.length c s :: fV A c (Ki f i l) :: L) M' → K (.tuple #[]) M') : ae Tryz.prog 138 #[.pointer (some ⟨b, o, none⟩), .int .i64 (i : Int)] M K Kp := by
 refine w6 ?_
 refine ⟨fun d vs M => ∃ (f' i' : Nat) (l' : List bC), vs = [.int .i64 (i' : Int)] ∧ d = i' ∧ i' < l.length ∧ l'.length = l.length ∧ i' ≤ f' ∧ Ki f' i' l' = Ki f i l ∧ Hp R (P A l.length c s :: fV A c l' :: L) M,
  ⟨_, f, i, l, rfl, rfl, hi, rfl, hf, rfl, h⟩, ?_⟩
 clear h
 rintro d _ n5 M ⟨f', i', l', he, hd, hi', hl', Fz, BC, h⟩
 simp only [List.cons.injEq, Value.int.injEq, and_true, true_and] at he
 subst he
 refine aP.2 ⟨fun hgt => ?_, fun hle => ?_⟩
 ·obtain ⟨g, rfl⟩ : ∃ g, f' = g + 1 := ⟨f' - 1, by omega⟩
  rw [EJ] at BC
  have ep : IntKind.wrap .i64 (Int.tdiv (IntKind.wrap .i64 ((i' : Int) - 1)) 4) = (((i' - 1) / 4 : Nat) : Int) := by
   rw [cO (z := (i' : Int) - 1) (by omega) (by omega), show ((i' : Int) - 1) = ((i' - 1 : Nat) : Int) from by omega, show (4 : Int) = ((4 : Nat) : Int) from rfl, ← Int.ofNat_tdiv, cO (by omega) (by omega)]
  have hp : (i' - 1) / 4 < i' := by omega
  generalize hpe : (i' - 1) / 4 = p at ep BC hp
  rw [ep, D.Fp _ _ _ _ _ _ _ h]
  obtain ⟨q, rfl⟩ := h.bx (A := A) (by omega) (by decide)
  have hs := h.src (A := some ⟨q, 0, none⟩)
  refine ⟨by omega, aY ⟨by omega, by omega, br ?_⟩⟩
  refine lM h hs (lW (i := i') (by omega)) (by simp) (by simp) (by simp) ?_
  refine aY ⟨by omega, by omega, br ?_⟩
  refine lM h hs (lW (i := p) (by omega)) (by simp) (by simp) (by simp) ?_
  refine wI h ?_
  clear h hs; intro M h
  refine mu ?_
  cases hb : (mY l' i').before (mY l' p) with
  | true =>
   rw [if_pos ⟨by omega, hb⟩] at BC
   refine aq ⟨by omega, ?_⟩
   rw [← hl'] at h
   refine vH D h (i := i') (j := p) (by omega) (by omega) ?_
   clear h; intro M h
   rw [hl'] at h
   exact ⟨rfl, by omega, p, by omega, g, p, _, rfl, rfl, by omega, by rw [fm]; exact hl', by omega, BC, h⟩
  | false =>
   rw [if_neg (by rintro ⟨_, h2⟩; rw [hb] at h2; cases h2)] at BC
   refine au ?_
   subst BC
   exact k _ h
 ·have : Ki f' i' l' = l' := by
   have h0 : i' = 0 := by omega
   subst h0
   cases f' with
   | zero => rfl
   | succ g => rw [EJ]; rw [if_neg (by omega)]
  rw [this] at BC
  subst BC
  exact k _ h
theorem Kl (D : RQ b o P) {t id : Int} (h : Hp R (P A l.length c s :: fV A c l :: L) M) (hl : l.length < 1000000)
  (k : ∀ v A' c' M', Hp R (P A' (l.length + 1) c' (IntKind.wrap .u64 (s + 1)) :: fV A' c' (r9 l ⟨t, s, id⟩) :: L) M' → K (.int .u64 v) M') : ae Tryz.prog 214 #[.pointer (some ⟨b, o, none⟩), .int .u64 t, .int .i64 id] M K Kp := by
 refine ud ?_
 rw [D.Fp _ _ _ _ _ _ _ h, D.ldI _ _ _ _ _ _ _ h]
 refine aY (cE ?_)
 refine av h ?_
 clear h; intro kb M h
 replace h : Hp R (P A l.length c s :: fV A c l :: pt kb [.int .u64 t, .int .u64 s, .int .i64 id] 205 :: L) M := h.sub (by repeat (first | exact .refl | refine .cons (by repeat (first | exact .here | apply aF.there)) ?_ | apply Sub.drop))
 refine h.bO (A := A) IA [(⟨t, s, id⟩ : bC)] rfl rfl (by simp only [List.length_singleton]; omega) ?_
 clear h; intro A' c' M h
 refine aY ?_
 have hlen : (l ++ [(⟨t, s, id⟩ : bC)]).length = l.length + 1 := by simp
 refine D.Yh _ _ _ _ _ _ _ _ _ _ _ h.swap ?_
 clear h; intro M h
 rw [D.ldI _ _ _ _ _ _ _ h]
 refine cE ?_
 refine D.stI _ _ _ _ _ _ _ _ _ h ?_
 clear h; intro M h
 rw [D.Fp _ _ _ _ _ _ _ h]
 refine aY ?_
 have e : IntKind.wrap .i64 (((l ++ [(⟨t, s, id⟩ : bC)]).length : Int) - 1) = ((l.length : Nat) : Int) := by
  rw [cO (by omega) (by omega)]; omega
 rw [e]
 refine IC D (f := l.length) h (by omega) (by omega) (Nat.le_refl _) ?_
 clear h; intro M h
 refine ⟨rfl, ?_⟩
 rw [D.ldI _ _ _ _ _ _ _ h]
 refine cE ?_
 rw [hlen] at h
 exact k _ _ _ _ h
theorem EL (D : RQ b o P) (h : Hp R (P A l.length c s :: fV A c l :: L) M) (hi : i < l.length) (hl : l.length ≤ 1000000)
  (k : ∀ M', Hp R (P A (l.length - 1) c s :: fV A c (dV l i) :: L) M' → K (.agg #[.int .u64 (mY l i).t, .int .u64 (mY l i).seq, .int .i64 (mY l i).id]) M') : ae Tryz.prog 106 #[.pointer (some ⟨b, o, none⟩), .int .i64 (i : Int)] M K Kp := by
 refine qM ?_
 have hcap := h.jF A
 obtain ⟨q, rfl⟩ := h.bx (A := A) (by omega) (by decide)
 refine av h ?_
 clear h; intro k1 M h
 have hs := h.src (A := some ⟨q, 0, none⟩)
 replace h : Hp R (P (some ⟨q, 0, none⟩) l.length c s :: fV (some ⟨q, 0, none⟩) c l :: pt k1 [.int .u64 0, .int .u64 0, .int .i64 0] 205 :: L) M := h.sub (by repeat (first | exact .refl | refine .cons (by repeat (first | exact .here | apply aF.there)) ?_ | apply Sub.drop))
 replace hs := h.src (A := some ⟨q, 0, none⟩)
 rw [D.Fp _ _ _ _ _ _ _ h]
 refine aY ⟨by omega, by omega, br ?_⟩
 refine lM h hs (lW hi) (by simp) (by simp) (by simp) ?_
 clear hs
 generalize hx : mY l i = x at k
 refine av h ?_
 clear h; intro k2 M h
 refine az h ?_
 clear h; intro M h
 refine az h ?_
 clear h; intro M h
 refine az h ?_
 clear h; intro M h
 replace h : Hp R (P (some ⟨q, 0, none⟩) l.length c s :: fV (some ⟨q, 0, none⟩) c l :: pt k2 [.int .u64 x.t, .int .u64 x.seq, .int .i64 x.id] 205 :: pt k1 [.int .u64 0, .int .u64 0, .int .i64 0] 205 :: L) M := h.sub (by repeat (first | exact .refl | refine .cons (by repeat (first | exact .here | apply aF.there)) ?_ | apply Sub.drop))
 rw [D.Fp _ _ _ _ _ _ _ h]
 have e : IntKind.wrap .i64 ((l.length : Int) - 1) = ((l.length - 1 : Nat) : Int) := by
  rw [cO (by omega) (by omega)]; omega
 refine aY ?_
 rw [e]
 refine vH D h hi (j := l.length - 1) (by omega) ?_
 clear h; intro M h
 refine ⟨rfl, ?_⟩
 rw [D.Fp _ _ _ _ _ _ _ h]
 refine aY ⟨by omega, by omega, by omega, by omega, by omega, by omega, ?_⟩
 have e2 : lj (some ⟨q, 0, none⟩) 0 (Int.toNat (c : Int)) 3 = some ⟨q, 0, none⟩ := by
  unfold lj; rw [if_neg (by simp; omega)]; rfl
 rw [e2]
 simp only [Int.toNat_natCast, Nat.sub_zero]
 refine D.Yh _ _ _ _ _ _ _ _ _ _ _ h ?_
 clear h; intro M h
 have Wi : ((eO l i (l.length - 1)).take (l.length - 1)).length = l.length - 1 := by rw [List.length_take, fm]; omega
 have fin : ∀ (M : Mem) (Q : List HP), Hp R (P (some ⟨q, 0, none⟩) (l.length - 1) c s :: fV (some ⟨q, 0, none⟩) c (dV l i) :: pt k2 [.int .u64 x.t, .int .u64 x.seq, .int .i64 x.id] 205 :: pt k1 [.int .u64 0, .int .u64 0, .int .i64 0] 205 :: L) M →
   aK (Mem.ld M ⟨k2, 0, none⟩) .u64 fun wA => aK (Mem.ld M ⟨k2, (0 + 1), none⟩) .u64 fun Gb => aK (Mem.ld M ⟨k2, (0 + 2), none⟩) .i64 fun tv =>
   aO M ⟨k1, 0, none⟩ (.int .u64 wA) fun mA => aO mA ⟨k1, (0 + 1), none⟩ (.int .u64 Gb) fun tT => aO tT ⟨k1, (0 + 2), none⟩ (.int .i64 tv) fun lY =>
   aK (Mem.ld lY ⟨k1, 0, none⟩) .u64 fun KW => aK (Mem.ld lY ⟨k1, (0 + 1), none⟩) .u64 fun xB => aK (Mem.ld lY ⟨k1, (0 + 2), none⟩) .i64 fun Md =>
   K (.agg #[(.int .u64 KW), (.int .u64 xB), (.int .i64 Md)]) lY := by
  intro M _ h
  refine aJ h (aJ h (aJ h ?_))
  refine az h ?_
  clear h; intro M h
  refine az h ?_
  clear h; intro M h
  refine az h ?_
  clear h; intro M h
  refine aJ h (aJ h (aJ h ?_))
  exact k _ (h.sub (by repeat (first | exact .refl | refine .cons (by repeat (first | exact .here | apply aF.there)) ?_ | apply Sub.drop)))
 replace h : Hp R (P (some ⟨q, 0, none⟩) (l.length - 1) c s :: fV (some ⟨q, 0, none⟩) c ((eO l i (l.length - 1)).take (l.length - 1)) :: pt k2 [.int .u64 x.t, .int .u64 x.seq, .int .i64 x.id] 205 :: pt k1 [.int .u64 0, .int .u64 0, .int .i64 0] 205 :: L) M := (h.swap.LP (l.length - 1)).swap
 unfold dV at fin
 refine aP.2 ⟨fun hlt => ?_, fun hge => ?_⟩
 ·rw [if_pos (by omega)] at fin
  have h' : Hp R (P (some ⟨q, 0, none⟩) ((eO l i (l.length - 1)).take (l.length - 1)).length c s :: fV (some ⟨q, 0, none⟩) c ((eO l i (l.length - 1)).take (l.length - 1)) :: pt k2 [.int .u64 x.t, .int .u64 x.seq, .int .i64 x.id] 205 :: pt k1 [.int .u64 0, .int .u64 0, .int .i64 0] 205 :: L) M := by rw [Wi]; exact h
  clear h
  have h := h'
  clear h'
  refine Kk D (f := l.length) h (by omega) (by omega) (by omega) ?_
  clear h; intro M h
  refine ⟨rfl, ?_⟩
  rw [show ((eO l i (l.length - 1)).take (l.length - 1)).length = (oc l.length i ((eO l i (l.length - 1)).take (l.length - 1))).length from ja.symm] at h
  refine IC D (f := i) h (by rw [ja]; omega) (by rw [ja]; omega) (Nat.le_refl _) ?_
  clear h; intro M h
  refine ⟨rfl, ?_⟩
  rw [ja, Wi] at h
  exact fin M [] h
 ·rw [if_neg (by omega)] at fin
  exact fin M [] h
theorem Km (D : RQ b o P) {now : Int} (h : Hp R (P A l.length c s :: fV A c l :: L) M) (hl : l.length ≤ 1000000)
  (k : ∀ A' c' M', Hp R (P A (dO l.length l now).1.length c s :: fV A c (dO l.length l now).1 :: fV A' c' (dO l.length l now).2 :: L) M' → K (.slice A' (dO l.length l now).2.length c') M') :
  ae Tryz.prog 89 #[.pointer (some ⟨b, o, none⟩), .int .u64 now] M K Kp := by
 refine tY ?_
 have h0 := h.bT rX 205
 refine ⟨fun d vs M => ∃ (A' : Option Addr) (c' : Nat) (out l' : List bC), vs = [.slice A' out.length c'] ∧ d = l'.length ∧ l'.length + out.length = l.length ∧ (dO l'.length l' now).1 = (dO l.length l now).1 ∧ out ++ (dO l'.length l' now).2 = (dO l.length l now).2 ∧
   Hp R (P A l'.length c s :: fV A c l' :: fV A' c' out :: L) M, ⟨_, none, 0, [], l, rfl, rfl, rfl, rfl, rfl, h0.sub (by repeat (first | exact .refl | refine .cons (by repeat (first | exact .here | apply aF.there)) ?_ | apply Sub.drop))⟩, ?_⟩
 clear h h0
 rintro d _ A' n' c' M ⟨A2, c2, out, l', he, hd, Wi, e1, e2, h⟩
 simp only [List.cons.injEq, Value.slice.injEq, and_true, true_and] at he
 obtain ⟨rfl, rfl, rfl⟩ := he
 rw [D.Fp _ _ _ _ _ _ _ h]
 have stop : ¬ (0 < l'.length ∧ (mY l' 0).t ≤ now) → K (.slice A' out.length c') M := by
  intro hn
  have e : dO l'.length l' now = (l', []) := by
   cases hl' : l'.length with
   | zero => rfl
   | succ m => rw [y4]; rw [if_neg hn]
  rw [e] at e1 e2
  dsimp only at e1 e2
  rw [List.append_nil] at e2
  subst e1; subst e2
  exact k _ _ _ h
 refine aY ?_
 refine aP.2 ⟨fun hgt => ?_, fun hle => stop (by omega)⟩
 have hcap := h.jF A
 obtain ⟨q, rfl⟩ := h.bx (A := A) (by omega) (by decide)
 have hs := h.src (A := some ⟨q, 0, none⟩)
 refine aY ⟨by omega, by omega, br ?_⟩
 refine be (Src.at hs h (i := 0) (j := 0) (lW (by omega)) rfl rfl) ?_
 clear hs
 refine aP.2 ⟨fun hle => ?_, fun hgt2 => stop (fun hn => hgt2 hn.2)⟩
 refine EL D h (i := 0) (by omega) (by omega) ?_
 clear h stop; intro M h
 refine ⟨_, _, _, rfl, ?_⟩
 refine av h ?_
 clear h; intro kb M h
 refine h.bO (A := A') IA [mY l' 0] rfl rfl (by simp only [List.length_singleton]; omega) ?_
 clear h; intro A3 c3 M h
 refine aY ?_
 have kf : (dV l' 0).length = l'.length - 1 := EK
 have hw : dO l'.length l' now = ((dO (dV l' 0).length (dV l' 0) now).1, mY l' 0 :: (dO (dV l' 0).length (dV l' 0) now).2) := by
  obtain ⟨m, hm⟩ : ∃ m, l'.length = m + 1 := ⟨l'.length - 1, by omega⟩
  rw [kf, hm]
  show dO (m + 1) l' now = _
  rw [y4]
  rw [if_pos ⟨by omega, hle⟩]; rfl
 rw [hw] at e1 e2
 rw [← kf] at h
 exact ⟨_, by omega, A3, c3, out ++ [mY l' 0], dV l' 0, rfl, rfl, by simp; omega, e1, by rw [List.append_assoc]; exact e2, h.sub (by repeat (first | exact .refl | refine .cons (by repeat (first | exact .here | apply aF.there)) ?_ | apply Sub.drop))⟩
end
end Go.Proofs
namespace Go.Proofs
open Go.AF
set_option maxRecDepth 100000
set_option maxHeartbeats 1000000
attribute [local irreducible] aK cD fH bL aD fx aI aO bj aS bI aV
def oK (x : Wd) (k : Int) : Lk := x.aM.getD k.toNat ⟨-1, []⟩
def Wd.gr (x : Wd) (k : Int) (c : Lk) : Wd := { x with aM := x.aM.set k.toNat c }
def Wd.lock (x : Wd) (g : Int) (i : cC) : Wd := if ((oK x i.a).take g).2 then x.gr i.a ((oK x i.a).take g).1 else (x.gr i.a ((oK x i.a).take g).1).block g i
def Wd.unlock (x : Wd) (g : Int) (i : cC) : Out Wd :=
 if ((oK x i.a).rN g).2.2 ≠ 0 then .eJ (-3) (x.gr i.a ((oK x i.a).rN g).1)
 else if ((oK x i.a).rN g).2.1 ≠ -1 then .on ((x.gr i.a ((oK x i.a).rN g).1).eY ((oK x i.a).rN g).2.1) else .on (x.gr i.a ((oK x i.a).rN g).1)
def CS (x : Wd) (k : Int) : Prop := 0 ≤ k ∧ k < x.aM.length
instance (x : Wd) (k : Int) : Decidable (CS x k) := by unfold CS; infer_instance
def mK (x : Wd) (g : Int) (i : cC) : Prop := CS x i.a ∧ (((oK x i.a).rN g).2.1 ≠ -1 → 0 ≤ ((oK x i.a).rN g).2.1 ∧ ((oK x i.a).rN g).2.1 < x.gs.length)
instance (x : Wd) (g : Int) (i : cC) : Decidable (mK x g i) := by unfold mK; infer_instance
def Wd.rand (x : Wd) (g : Int) (i : cC) : jz → Out Wd
 | .num d => .on ((x.next g).bz g i.a d)
 | .dG l => .dG l x
def pZ (x : Wd) (g : Int) (i : cC) : Int := if 1048576 < bB x g i.a then 1048576 else bB x g i.a
def Wd.sleep (x : Wd) (g : Int) (i : cC) : Wd :=
 if 0 < pZ x g i then { x.bD g { ay x g with st := 3 } with hl := r9 x.hl ⟨IntKind.wrap .u64 (x.clock + IntKind.wrap .u64 (pZ x g i)), x.kO, g⟩, kO := IntKind.wrap .u64 (x.kO + 1) } else x
def Wd.tick (x : Wd) : Wd := if x.end_ ≠ 0 then { x with ready := [] } else
 let r := dO x.hl.length x.hl (IntKind.wrap .u64 (x.clock + 1))
 (r.2.map (·.id)).foldl Wd.eY { x with clock := IntKind.wrap .u64 (x.clock + 1), hl := r.1, ready := [] }
section
variable {R : Mem} {L L' L2 : List HP} {M : Mem} {K : Value → Mem → Prop} {Kp : List PanicEntry → Mem → Prop} {pa : PA} {p : bZ} {gg : List GA} {dr : Value} {b : Nat} {x : Wd} {g : Int} {i : cC}
theorem Qp (hg : bp x g) (hb : bg i.b) : fR R pa p dr 161 x g i (x.call g i) L L := by
 intro gg b bs c M K Kp Q h eL k
 refine qN ?_
 have xF := hg
 obtain ⟨h0, h1, h2, h3⟩ := xF
 unfold Wd.call at k
 refine av h ?_
 clear h
 intro kb M h
 have hC := h
 have h' := gG h (b := b) h0 h1 eL
 clear h
 obtain ⟨a, gb, hl, fM, h⟩ := h'
 have hl' := hl
 obtain ⟨l1, l2, l3, l4⟩ := hl'
 repeat (first | (refine av h ?_; clear h; intro kb M h) | (refine az h ?_; clear h; intro M h) | refine St.to h ?_ | (apply Exists.intro; (repeat apply Exists.intro); refine And.intro rfl ?_) | (refine And.intro ?_ ?_; first | exact rfl | (refine aa (aj h) ?_; (repeat (refine aa (aj h) ?_)); exact ai) | omega) | refine aq ?_ | refine au ?_)
 refine uO h fM fun q hq => ?_
 repeat (first | (refine av h ?_; clear h; intro kb M h) | (refine az h ?_; clear h; intro M h) | refine St.to h ?_ | (apply Exists.intro; (repeat apply Exists.intro); refine And.intro rfl ?_) | (refine And.intro ?_ ?_; first | exact rfl | (refine aa (aj h) ?_; (repeat (refine aa (aj h) ?_)); exact ai) | omega) | refine aq ?_ | refine au ?_)
 refine ⟨hb.1, hb.2, uq h (eo h2) hb rfl ?_⟩
 repeat (first | (refine av h ?_; clear h; intro kb M h) | (refine az h ?_; clear h; intro M h) | refine St.to h ?_ | (apply Exists.intro; (repeat apply Exists.intro); refine And.intro rfl ?_) | (refine And.intro ?_ ?_; first | exact rfl | (refine aa (aj h) ?_; (repeat (refine aa (aj h) ?_)); exact ai) | omega) | refine aq ?_ | refine au ?_)
 refine GH h h2 ?_ ?_
 ·intro ur
  rw [if_pos (by omega)] at k
  refine ⟨_, _, _, _, rfl, aq ?_⟩
  exact k _ _ (hC.sub (by repeat (first | exact .refl | refine .cons (by repeat (first | exact .here | apply aF.there)) ?_ | apply Sub.drop)))
 ·intro hlt b' c' M' h'
  clear h hC
  have h := h'
  clear h'
  rw [if_neg (by omega)] at k
  refine ⟨_, _, _, _, rfl, au ?_⟩
  repeat (first | (refine av h ?_; clear h; intro kb M h) | (refine az h ?_; clear h; intro M h) | refine St.to h ?_ | (apply Exists.intro; (repeat apply Exists.intro); refine And.intro rfl ?_) | (refine And.intro ?_ ?_; first | exact rfl | (refine aa (aj h) ?_; (repeat (refine aa (aj h) ?_)); exact ai) | omega) | refine aq ?_ | refine au ?_)
  refine uO h fM fun q2 mX => ?_
  repeat (first | (refine av h ?_; clear h; intro kb M h) | (refine az h ?_; clear h; intro M h) | refine St.to h ?_ | (apply Exists.intro; (repeat apply Exists.intro); refine And.intro rfl ?_) | (refine And.intro ?_ ?_; first | exact rfl | (refine aa (aj h) ?_; (repeat (refine aa (aj h) ?_)); exact ai) | omega) | refine aq ?_ | refine au ?_)
  have hlen : (ay x g).fs.length + 1 = ((ay x g).fs ++ [(⟨i.a, 0, [bB x g i.b, 0, 0, 0, 0, 0, 0, 0], i.c⟩ : gD)]).length := by simp
  have h5 := mI (A := some ⟨b', 0, none⟩) (fs := (ay x g).fs ++ [⟨i.a, 0, [bB x g i.b, 0, 0, 0, 0, 0, 0, 0], i.c⟩]) h gb hlen
  have hi := (List.getElem?_eq_some_iff.1 fM).1
  have h6 := h5.dU fQ gb fM (by rw [List.length_zip]; omega)
  rw [yZ] at h6
  have kM : eU (gg.set g.toNat (some ⟨b', 0, none⟩, c')) a (x.bD g ⟨(ay x g).st, (ay x g).fs ++ [⟨i.a, 0, [bB x g i.b, 0, 0, 0, 0, 0, 0, 0], i.c⟩], (ay x g).wt⟩) := ⟨by simpa [Wd.bD] using l1, by simpa [Wd.bD] using l2, l3, l4⟩
  have h7 := bk (a := a) (p := p) (pa := pa) (dr := dr) (gg := gg.set g.toNat (some ⟨b', 0, none⟩, c')) (x := x.bD g ⟨(ay x g).st, (ay x g).fs ++ [⟨i.a, 0, [bB x g i.b, 0, 0, 0, 0, 0, 0, 0], i.c⟩], (ay x g).wt⟩) kM h6 b
  exact k _ _ (h7.sub (by repeat (first | exact .refl | refine .cons (by repeat (first | exact .here | apply aF.there)) ?_ | apply Sub.drop)))
theorem ID {a : WA} {k : Int} {c : Lk} (hl : eU gg a x) : eU gg a (x.gr k c) := by
 obtain ⟨l1, l2, l3, l4⟩ := hl
 exact ⟨l1, l2, l3, by simpa [Wd.gr] using l4⟩
theorem Qq (hg : bp x g) (hk : CS x i.a) (hs : x.Sm) : fR R pa p dr 169 x g i (.on (x.lock g i)) L L := by
 intro gg b bs c M K Kp Q h eL k
 refine qS ?_
 replace k : ∀ lI M', Hp R (aB (bA pa p lI dr) b (x.lock g i) :: Q :: L) M' → K (.tuple #[]) M' := k
 unfold Wd.lock at k
 obtain ⟨s1, s2, s3, s4, s5, s6, s7, s8⟩ := hs
 obtain ⟨k0, k1⟩ := hk
 refine av h ?_
 clear h
 intro kb M h
 have h' := cj h (b := b)
 clear h
 obtain ⟨a, hl, h⟩ := h'
 have hl' := hl
 obtain ⟨l1, l2, l3, l4⟩ := hl'
 refine aR h (aJ h ⟨k0, by omega, ?_⟩)
 obtain ⟨lb, hlb⟩ := aQ (l := a.lb) (i := i.a.toNat) (by omega)
 refine uO h hlb fun q hq => ?_
 obtain ⟨y, hy⟩ := aQ (l := x.aM) (i := i.a.toNat) (by omega)
 have e : oK x i.a = y := by simp [oK, hy]
 rw [e] at k
 replace h := h.cY fL hlb hy
 refine GI h (Nat.le_trans (s6 y (List.mem_of_getElem? hy)) (by decide)) ?_
 clear h; intro M h
 replace h := h.dU fL lb hlb (by omega)
 replace h := bk (a := a) (p := p) (pa := pa) (dr := dr) (gg := gg) (x := x.gr i.a (y.take g).1) (ID hl) h b
 refine mu ?_
 cases ht : (y.take g).2 with
 | true =>
  rw [ht] at k
  simp only [if_true] at k
  refine au ?_
  exact k _ _ (h.sub (by repeat (first | exact .refl | refine .cons (by repeat (first | exact .here | apply aF.there)) ?_ | apply Sub.drop)))
 | false =>
  rw [ht] at k
  simp only [Bool.false_eq_true, if_false] at k
  refine aq ?_
  refine aJ h (aJ h (aJ h (aJ h ?_)))
  refine lG (b := b) (i := i) h hg.1 (show g < (x.gr i.a (y.take g).1).gs.length from hg.2.1) ?_
  clear h; intro M h
  exact ⟨rfl, k _ _ (h.sub (by repeat (first | exact .refl | refine .cons (by repeat (first | exact .here | apply aF.there)) ?_ | apply Sub.drop)))⟩
theorem Kn (hk : mK x g i) (hs : x.Sm) : fR R pa p dr 170 x g i (x.unlock g i) L L := by
 intro gg b bs c M K Kp Q h eL k
 refine ox ?_
 unfold Wd.unlock at k
 obtain ⟨s1, s2, s3, s4, s5, s6, s7, s8⟩ := hs
 obtain ⟨⟨k0, k1⟩, hw⟩ := hk
 refine av h ?_
 clear h
 intro kb M h
 have h' := cj h (b := b)
 clear h
 obtain ⟨a, hl, h⟩ := h'
 have hl' := hl
 obtain ⟨l1, l2, l3, l4⟩ := hl'
 refine aR h (aJ h ⟨k0, by omega, ?_⟩)
 obtain ⟨lb, hlb⟩ := aQ (l := a.lb) (i := i.a.toNat) (by omega)
 refine uO h hlb fun q hq => ?_
 obtain ⟨y, hy⟩ := aQ (l := x.aM) (i := i.a.toNat) (by omega)
 have e : oK x i.a = y := by simp [oK, hy]
 rw [e] at k hw
 replace h := h.cY fL hlb hy
 refine GJ h (Nat.le_trans (s6 y (List.mem_of_getElem? hy)) (by decide)) ?_
 clear h; intro M h
 replace h := h.dU fL lb hlb (by omega)
 replace h := bk (a := a) (p := p) (pa := pa) (dr := dr) (gg := gg) (x := x.gr i.a (y.rN g).1) (ID hl) h b
 refine ⟨_, _, rfl, ?_⟩
 refine de.2 ⟨fun hn => ?_, fun hn => ?_⟩
 ·rw [if_pos hn] at k
  exact k _ _ (h.sub (by repeat (first | exact .refl | refine .cons (by repeat (first | exact .here | apply aF.there)) ?_ | apply Sub.drop)))
 rw [if_neg (by simpa using hn)] at k
 refine de.2 ⟨fun xX => ?_, fun xX => ?_⟩
 ·rw [if_pos xX] at k
  obtain ⟨w0, w1⟩ := hw xX
  refine gY (b := b) h w0 (show _ < ((x.gr i.a (y.rN g).1).gs.length : Int) from w1) (by show x.ready.length ≤ _; omega) ?_
  clear h; intro M h
  exact ⟨rfl, k _ _ (h.sub (by repeat (first | exact .refl | refine .cons (by repeat (first | exact .here | apply aF.there)) ?_ | apply Sub.drop)))⟩
 ·rw [if_neg (by simpa using xX)] at k
  exact k _ _ (h.sub (by repeat (first | exact .refl | refine .cons (by repeat (first | exact .here | apply aF.there)) ?_ | apply Sub.drop)))
theorem Qr : fR R pa p dr 172 x g i (.eJ i.a x) L L := by
 intro gg b bs c M K Kp Q h eL k
 refine qU ?_
 refine av h ?_
 clear h
 intro kb M h
 refine aJ h ?_
 exact k _ _ (h.sub (by repeat (first | exact .refl | refine .cons (by repeat (first | exact .here | apply aF.there)) ?_ | apply Sub.drop)))
theorem N0 : fR R pa p dr 164 x g i (.on x) L L := by
 intro gg b bs c M K Kp Q h eL k
 refine pG ?_
 refine av h ?_
 clear h
 intro kb M h
 exact k _ _ (h.sub (by repeat (first | exact .refl | refine .cons (by repeat (first | exact .here | apply aF.there)) ?_ | apply Sub.drop)))
theorem Qs {d : jz} (hg : bp x g) (ha : bg i.a) (Am : 0 ≤ (ay x g).top.pc ∧ (ay x g).top.pc < 1000000000) (hd : iK R dr 4 i.b d L L2) : fR R pa p dr 123 x g i (x.rand g i d) L L2 := by
 intro gg b bs c M K Kp Q h eL k
 refine qL ?_
 refine av h ?_
 clear h
 intro kb M h
 have An : M.ld ⟨b, 0 + 14, none⟩ = some dr := by
  obtain ⟨a, hl, h9⟩ := cj h (b := b)
  exact aj h9
 rw [An]
 refine LN (aJ h ?_)
 have h5 : Hp R (sep [aB (bA pa p gg dr) b x, pt kb [.int .i64 i.op, .int .i64 i.a, .int .i64 i.b, .int .i64 i.c] 34, Q] :: L) M := Hp.bl.2 (h.sub (by repeat (first | exact .refl | refine .cons (by repeat (first | exact .here | apply aF.there)) ?_ | apply Sub.drop)))
 refine hd _ _ _ _ h5 ?_
 clear h h5 An
 cases d with
 | dG l =>
  dsimp only at k ⊢
  intro M h5
  have h : Hp R (aB (bA pa p gg dr) b x :: pt kb [.int .i64 i.op, .int .i64 i.a, .int .i64 i.b, .int .i64 i.c] 34 :: Q :: L2) M := Hp.bl.1 h5
  exact k _ _ (h.sub (by repeat (first | exact .refl | refine .cons (by repeat (first | exact .here | apply aF.there)) ?_ | apply Sub.drop)))
 | num v =>
  dsimp only at k ⊢
  intro M h5
  have h : Hp R (aB (bA pa p gg dr) b x :: pt kb [.int .i64 i.op, .int .i64 i.a, .int .i64 i.b, .int .i64 i.c] 34 :: Q :: L2) M := Hp.bl.1 h5
  clear h5
  refine cE ?_
  refine G2 (b := b) h hg eL rfl ?_
  rw [iY Am.1 (by omega)]
  refine G1 (b := b) h hg eL rfl rfl ?_
  clear h; intro M h
  refine aJ h ⟨ha.1, ha.2, ?_⟩
  refine lH (b := b) h (sZ hg) eL ha (by rw [CP hg]) ?_
  clear h; intro M h
  exact k _ _ (h.sub (by repeat (first | exact .refl | refine .cons (by repeat (first | exact .here | apply aF.there)) ?_ | apply Sub.drop)))
abbrev wPre (pa : PA) (p : bZ) (a : WA) (x : Wd) : List Value :=
 [.slice pa.f p.funcs.length pa.fc, .slice pa.c p.dk.length pa.cc, .int .i64 p.aM, .slice pa.k p.cases.length pa.kc, .slice a.ag a.gb.length a.cg, .int .u64 x.clock, .slice a.ac a.cb.length a.cc, .slice a.al a.lb.length a.cl]
abbrev CT (pa : PA) (p : bZ) (dr : Value) (a : WA) (x : Wd) (nr : Nat) (A : Option Addr) (n c : Nat) (s : Int) : List Value :=
 [.slice pa.f p.funcs.length pa.fc, .slice pa.c p.dk.length pa.cc, .int .i64 p.aM, .slice pa.k p.cases.length pa.kc, .slice a.ag a.gb.length a.cg, .int .u64 x.clock,
  .slice a.ac a.cb.length a.cc, .slice a.al a.lb.length a.cl, .slice A n c, .int .u64 s, .slice a.ao x.out.length a.co, .int .i64 x.end_, .int .i64 x.code, .slice a.ar nr a.cr, dr]
theorem RR {a : WA} {nr T : Nat} : RQ b (0 + 8) (fun A n c s => pt b (CT pa p dr a x nr A n c s) T) :=
 ⟨fun R L M A n c s h => aj h, fun R L M A n c s h => aj h, fun R L M A A' n c n' c' s G h k => az h k, fun R L M A n c s s' G h k => az h k⟩
theorem N1 (hg : bp x g) (ha : bg i.a) (hs : x.hl.length < 1000000) : fR R pa p dr 168 x g i (.on (x.sleep g i)) L L := by
 intro gg b bs c M K Kp Q h eL k
 refine pH ?_
 replace k : ∀ lI M', Hp R (aB (bA pa p lI dr) b (x.sleep g i) :: Q :: L) M' → K (.tuple #[]) M' := k
 have xF := hg
 obtain ⟨h0, h1, h2, h3⟩ := xF
 unfold Wd.sleep at k
 refine av h ?_
 clear h
 intro kb M h
 refine aJ h ⟨ha.1, ha.2, ?_⟩
 refine Es (b := b) h hg eL ha rfl ?_
 have hC := h
 have h' := cj h (b := b)
 clear h
 obtain ⟨a, hl, h⟩ := h'
 have hl' := hl
 obtain ⟨l1, l2, l3, l4⟩ := hl'
 have e : (if (1048576 : Int) < bB x g i.a then 1048576 else bB x g i.a) = pZ x g i := rfl
 rw [e]
 refine aP.2 ⟨fun hn => ?_, fun hn => ?_⟩
 ·rw [if_pos (by omega)] at k
  refine aJ h ?_
  clear hC
  replace h : Hp R (pt b (CT pa p dr a x x.ready.length a.ah x.hl.length a.ch x.kO) 164 :: fV a.ah a.ch x.hl :: bn fQ a.gb (x.gs.zip gg) :: yU a.ag a.cg a.gb :: yV a.ac a.cc a.cb :: bn bJ a.cb x.aE :: yW a.al a.cl a.lb :: bn fL a.lb x.aM :: yp a.ao a.co x.out :: j6 a.ar a.cr x.ready :: Q :: L) M := h.sub (by repeat (first | exact .refl | refine .cons (by repeat (first | exact .here | apply aF.there)) ?_ | apply Sub.drop))
  refine Kl (RR (a := a) (x := x)) h hs ?_
  clear h; intro v A' c' M h
  refine cE ?_
  have h9 : Hp R (aB (bA pa p gg dr) b { x with hl := r9 x.hl ⟨IntKind.wrap .u64 (x.clock + IntKind.wrap .u64 (pZ x g i)), x.kO, g⟩, kO := IntKind.wrap .u64 (x.kO + 1) } :: Q :: L) M := by
   have := Kj (l := x.hl) (x := ⟨IntKind.wrap .u64 (x.clock + IntKind.wrap .u64 (pZ x g i)), x.kO, g⟩)
   rw [← this] at h
   exact jx (a := { a with ah := A', ch := c' }) (x := { x with hl := r9 x.hl ⟨IntKind.wrap .u64 (x.clock + IntKind.wrap .u64 (pZ x g i)), x.kO, g⟩, kO := IntKind.wrap .u64 (x.kO + 1) }) ⟨l1, l2, l3, l4⟩ (h.sub (by repeat (first | exact .refl | refine .cons (by repeat (first | exact .here | apply aF.there)) ?_ | apply Sub.drop)))
  clear h hl l1 l2 l3 l4
  have h := h9
  clear h9
  have h' := gG (x := { x with hl := r9 x.hl ⟨IntKind.wrap .u64 (x.clock + IntKind.wrap .u64 (pZ x g i)), x.kO, g⟩, kO := IntKind.wrap .u64 (x.kO + 1) }) h (b := b) h0 h1 eL
  clear h
  obtain ⟨a2, gb, hl, fM, h⟩ := h'
  have hl' := hl
  obtain ⟨l1, l2, l3, l4⟩ := hl'
  refine aR h ⟨h0, by dsimp only at l1; omega, ?_⟩
  refine uO h fM fun q hq => ?_
  refine br ?_
  refine az h ?_
  clear h; intro M h
  replace h := cJ h gb hl fM eL
  have kM := c9 (y := { ay x g with st := 3 }) (g := g) hl
  replace h := bk (a := a2) (p := p) (pa := pa) (dr := dr) (gg := gg) (x := { x.bD g { ay x g with st := 3 } with hl := r9 x.hl ⟨IntKind.wrap .u64 (x.clock + IntKind.wrap .u64 (pZ x g i)), x.kO, g⟩, kO := IntKind.wrap .u64 (x.kO + 1) }) kM h b
  exact k _ _ (h.sub (by repeat (first | exact .refl | refine .cons (by repeat (first | exact .here | apply aF.there)) ?_ | apply Sub.drop)))
 ·rw [if_neg (by omega)] at k
  exact k _ _ (hC.sub (by repeat (first | exact .refl | refine .cons (by repeat (first | exact .here | apply aF.there)) ?_ | apply Sub.drop)))
theorem Qt {l : List Int} : ∀ {x : Wd}, (l.foldl Wd.eY x).gs.length = x.gs.length := by
 induction l with
 | nil => intro x; rfl
 | cons a l ih => intro x; rw [List.foldl_cons, ih]; simp [Wd.eY, Wd.bD]
theorem G4 {l : List Int} : ∀ {x : Wd}, (l.foldl Wd.eY x).ready = x.ready ++ l := by
 induction l with
 | nil => intro x; simp
 | cons a l ih => intro x; rw [List.foldl_cons, ih]; simp [Wd.eY]
theorem G5 (h : Hp R L M) [o : Iz b L pa p x L'] (hs : x.hl.length ≤ 1000000) (hw : ∀ y ∈ (dO x.hl.length x.hl (IntKind.wrap .u64 (x.clock + 1))).2, 0 ≤ y.id ∧ y.id < x.gs.length)
  (k : ∀ R' A c M', R.le R' → RS bu R' A c x.tick.ready → Hp R' (aB (bF pa p) b x.tick :: L') M' → K (.slice A x.tick.ready.length c) M') :
  ae Tryz.prog 43 #[.pointer (some ⟨b, 0, none⟩)] M K Kp := by
 refine qI ?_
 have h' := eF h (b := b)
 clear h
 obtain ⟨a, gg, dr, n, hl, h⟩ := h'
 have hl' := hl
 obtain ⟨l1, l2, l3, l4⟩ := hl'
 unfold Wd.tick at k
 dsimp only at k
 refine aJ h ?_
 refine de.2 ⟨fun he => ?_, fun he => ?_⟩
 ·rw [if_pos he] at k
  exact k R none 0 M (Mem.le_refl _) (RS.nil _ _) (lK (a := a) (gg := gg) (dr := dr) (n := n) (x := { x with ready := [] }) hl h)
 rw [if_neg (by simpa using he)] at k
 refine aJ h ?_
 refine az h ?_
 clear h; intro M h
 refine az h ?_
 clear h; intro M h
 refine aJ h ?_
 replace h : Hp R (pt b (CT pa p dr { a with ar := none, cr := 0 } { x with clock := IntKind.wrap .u64 (x.clock + 1) } 0 a.ah x.hl.length a.ch x.kO) 164 :: fV a.ah a.ch x.hl :: bn fQ a.gb (x.gs.zip gg) :: yU a.ag a.cg a.gb :: yV a.ac a.cc a.cb :: bn bJ a.cb x.aE :: yW a.al a.cl a.lb :: bn fL a.lb x.aM :: yp a.ao a.co x.out :: L') M := h.sub (by repeat (first | exact .refl | refine .cons (by repeat (first | exact .here | apply aF.there)) ?_ | apply Sub.drop))
 refine Km (RR (a := { a with ar := none, cr := 0 }) (x := { x with clock := IntKind.wrap .u64 (x.clock + 1) })) h hs ?_
 clear h; intro A' c' M h
 have hlen : (dO x.hl.length x.hl (IntKind.wrap .u64 (x.clock + 1))).2.length ≤ x.hl.length := by
  have : ∀ (f : Nat) (l : List bC) (now : Int), (dO f l now).2.length ≤ f := by
   intro f
   induction f with
   | zero => intro l now; exact Nat.le_refl _
   | succ f ih =>
    intro l now; unfold dO; split
    ·have := ih (dV l 0) now; simp; exact this
    ·exact Nat.zero_le _
  exact this _ _ _
 generalize dO x.hl.length x.hl (IntKind.wrap .u64 (x.clock + 1)) = r at h k hw hlen
 refine aY ?_
 have h0 := h.bT bu 3
 have hW : Hp R (aB (bA pa p gg dr) b { x with clock := IntKind.wrap .u64 (x.clock + 1), hl := r.1, ready := [] } :: fV A' c' r.2 :: L') M :=
  jx (a := { a with ar := none, cr := 0 }) (x := { x with clock := IntKind.wrap .u64 (x.clock + 1), hl := r.1, ready := [] }) ⟨l1, l2, l3, l4⟩ (h0.sub (by repeat (first | exact .refl | refine .cons (by repeat (first | exact .here | apply aF.there)) ?_ | apply Sub.drop)))
 clear h h0
 generalize CQ : ({ x with clock := IntKind.wrap .u64 (x.clock + 1), hl := r.1, ready := [] } : Wd) = x1 at hW k
 have hgs : x1.gs.length = x.gs.length := by rw [← CQ]
 have hrd : x1.ready = [] := by rw [← CQ]
 refine ⟨fun d vs M => ∃ j : Nat, vs = [.int .i64 (j : Int)] ∧ d = r.2.length - j ∧ j ≤ r.2.length ∧ Hp R (aB (bA pa p gg dr) b (((r.2.take j).map (·.id)).foldl Wd.eY x1) :: fV A' c' r.2 :: L') M, ⟨_, 0, rfl, rfl, by omega, hW⟩, ?_⟩
 clear hW
 rintro d _ nn M ⟨j, wH, hd, hj, h⟩
 simp only [List.cons.injEq, Value.int.injEq, and_true, true_and] at wH
 subst wH
 refine aP.2 ⟨fun hlt => ?_, fun hge => ?_⟩
 ·obtain ⟨w, hww⟩ := aQ (l := r.2) (i := j) (by omega)
  have hwm := hw w (List.mem_of_getElem? hww)
  obtain ⟨q, rfl⟩ := h.bx (A := A') (by omega) (by decide)
  have Wj := h.src (A := some ⟨q, 0, none⟩)
  refine ⟨by omega, hlt, br ?_⟩
  refine lM h Wj hww (by simp) (by simp) (by simp) ?_
  clear Wj
  refine av h ?_
  clear h; intro kw M h
  refine az h ?_
  clear h; intro M h
  refine az h ?_
  clear h; intro M h
  refine az h ?_
  clear h; intro M h
  refine aJ h ?_
  refine gY (b := b) h hwm.1 (by rw [Qt, hgs]; exact hwm.2) (by rw [G4, hrd]; simp; omega) ?_
  clear h; intro M h
  refine ⟨rfl, r.2.length - (j + 1), by omega, j + 1, by rw [aT (by omega)], rfl, by omega, ?_⟩
  rw [cq hww, List.map_append, List.foldl_append]
  exact h.sub (by repeat (first | exact .refl | refine .cons (by repeat (first | exact .here | apply aF.there)) ?_ | apply Sub.drop))
 ·have xu : j = r.2.length := by omega
  subst xu
  rw [List.take_length] at h
  generalize hz : (r.2.map (·.id)).foldl Wd.eY x1 = z at h k
  have h' := cj h (b := b)
  clear h
  obtain ⟨a2, kM, h⟩ := h'
  refine aR h ?_
  obtain ⟨R', hle, nN, h6⟩ := h.cU a2.ar
  exact k R' _ _ _ hle nN (lK (a := a2) (n := z.ready.length) (gg := gg) (dr := dr) kM (h6.sub (by repeat (first | exact .refl | refine .cons (by repeat (first | exact .here | apply aF.there)) ?_ | apply Sub.drop))))
end
end Go.Proofs
namespace Go.Proofs
open Go.AF
set_option maxRecDepth 100000
set_option maxHeartbeats 1000000
attribute [local irreducible] aK cD fH bL aD fx aI aO bj aS bI aV
def uC (x : Wd) (g : Int) (i : cC) : Out (Wd × Bool) → Prop
 | .on (y, false) => bp y g ∧ (ay y g).fs.length = (ay x g).fs.length ∧ yX y i.a
 | .on (_, true) => True
 | .eJ _ _ => True
 | .dG _ _ => True
instance (x : Wd) (g : Int) (i : cC) (r : Out (Wd × Bool)) : Decidable (uC x g i r) := match r with
 | .on (y, false) => by unfold uC; infer_instance
 | .on (_, true) => isTrue trivial
 | .eJ _ _ => isTrue trivial
 | .dG _ _ => isTrue trivial
theorem Ko {p : bZ} {x : Wd} {g : Int} {i : cC} (h : bp x g ∧ bg i.b ∧ oa p x i.a (bB x g i.b) ∧ uC x g i (x.put p i.a (bB x g i.b))) : GM p x g i := by
 obtain ⟨h1, h2, h3, h4⟩ := h
 refine ⟨h1, h2, h3, ?_⟩
 generalize x.put p i.a (bB x g i.b) = r at h4
 match r, h4 with
 | .on (y, false), h4 => exact h4
 | .on (y, true), _ => trivial
 | .eJ _ _, _ => trivial
 | .dG _ _, _ => trivial
instance (x : Wd) (g : Int) (i : cC) : Decidable (vD x g i) := by unfold vD; infer_instance
instance (p : bZ) (x : Wd) (i : cC) : Decidable (nK p x i) := by unfold nK; infer_instance
def y6 (p : bZ) (x : Wd) (g : Int) (i : cC) (k : Int) : Prop :=
 let c := (aG p i).getD k.toNat ⟨0, 0, 0⟩
 let x1 := x.next g
 0 ≤ k ∧ k < (aG p i).length ∧ bg c.bS ∧
  if c.way = 1 then oa p x1 c.ch (bB x1 g c.bS) ∧ (match x1.put p c.ch (bB x1 g c.bS) with
   | .on (y, _) => bp y g ∧ (ay y g).fs.length = (ay x g).fs.length
   | _ => True)
  else ux x1 c.ch ∧ bp (x1.get c.ch).1 g ∧ (ay (x1.get c.ch).1 g).fs.length = (ay x g).fs.length
instance (g : Int) (n : Nat) (r : Out (Wd × Bool)) : Decidable (match r with
   | .on (y, _) => bp y g ∧ (ay y g).fs.length = n
   | _ => True) := match r with
 | .on (y, _) => by dsimp only; infer_instance
 | .eJ _ _ => isTrue trivial
 | .dG _ _ => isTrue trivial
instance (p : bZ) (x : Wd) (g : Int) (i : cC) (k : Int) : Decidable (y6 p x g i k) := by unfold y6; infer_instance
def mL (p : bZ) (x : Wd) (g : Int) (i : cC) (d : jz) : Bool :=
 decide (bp x g ∧ uB p i ∧ bg i.c ∧ x.Sm ∧ (ay x g).top.pc < 1000000000 ∧ 0 ≤ (ay x g).top.pc ∧ (∀ c ∈ aG p i, c.Ok x.aE.length)) &&
 (match d with
  | .dG _ => true
  | .num v => (enabled (aG p i) x.aE).isEmpty || decide (0 ≤ v ∧ v < (enabled (aG p i) x.aE).length ∧ y6 p x g i ((enabled (aG p i) x.aE).getD v.toNat 0)))
theorem EM {p : bZ} {x : Wd} {g : Int} {i : cC} {d : jz} (h : mL p x g i d = true) : EI p x g i d := by
 unfold mL at h
 rw [Bool.and_eq_true] at h
 obtain ⟨h1, h2⟩ := h
 obtain ⟨a1, a2, a3, a4, a5, a6, a7⟩ := of_decide_eq_true h1
 refine ⟨a1, a2, a3, a4, a5, a6, a7, ?_⟩
 cases d with
 | dG l => split <;> trivial
 | num v =>
  dsimp only at h2
  cases he : enabled (aG p i) x.aE with
  | nil => trivial
  | cons q l =>
   rw [he] at h2
   rw [List.isEmpty_cons, Bool.false_or] at h2
   have h3 := of_decide_eq_true h2
   exact h3
def nO (p : bZ) (x : Wd) (g : Int) (i : cC) : Option (Out Wd) :=
 if i.op = 10 then (if bp x g ∧ bg i.a ∧ bg (ay x g).top.qH then some (.on (x.back g i)) else none)
 else if i.op = 11 then (if bp x g ∧ bg i.b ∧ bg i.c ∧ x.Sm then some (x.spawn g i) else none)
 else if i.op = 13 then (if (bp x g ∧ bg i.b ∧ oa p x i.a (bB x g i.b) ∧ uC x g i (x.put p i.a (bB x g i.b))) ∧ x.Sm then some (x.send p g i) else none)
 else if i.op = 14 then (if vD x g i ∧ x.Sm then some (.on (x.recv g i)) else none)
 else if i.op = 15 then (if nK p x i ∧ x.Sm then some (x.shut p i) else none)
 else if i.op = 20 then (if bp x g ∧ bg i.a ∧ x.Sm then some (x.emit g i) else none)
 else if i.op = 9 then (if bp x g ∧ bg i.b then some (x.call g i) else none)
 else if i.op = 12 then some (.on x)
 else if i.op = 17 then (if bp x g ∧ bg i.a ∧ x.hl.length < 1000000 then some (.on (x.sleep g i)) else none)
 else if i.op = 18 then (if bp x g ∧ CS x i.a ∧ x.Sm then some (.on (x.lock g i)) else none)
 else if i.op = 19 then (if mK x g i ∧ x.Sm then some (x.unlock g i) else none)
 else if i.op = 22 then some (.eJ i.a x)
 else none
def EN (p : bZ) (x : Wd) (g : Int) : Option cC := match p.funcs[(ay x g).top.fn.toNat]? with
 | none => none
 | some code => code[(ay x g).top.pc.toNat]?
def wJ (x : Wd) (g : Int) : Prop := 0 ≤ g ∧ g < x.gs.length ∧ x.end_ = 0 ∧ (ay x g).st = 1
instance (x : Wd) (g : Int) : Decidable (wJ x g) := by unfold wJ; infer_instance
def asks (p : bZ) (x : Wd) (g : Int) : Option (Int × Int) :=
 if wJ x g then match EN p x g with
  | none => none
  | some i => if i.op = 21 then some (4, i.b) else if i.op = 16 then (if enabled (aG p i) x.aE = [] then none else some (3, (enabled (aG p i) x.aE).length)) else none
 else none
def uD (p : bZ) (x0 : Wd) (g : Int) (d : jz) : Option (Out Wd × Bool) :=
 let x := { x0 with ready := [] }
 if wJ x g then
  if bp x g ∧ 0 ≤ (ay x g).top.fn ∧ 0 ≤ (ay x g).top.pc ∧ (ay x g).top.pc < 1000000000 then
   match p.funcs[(ay x g).top.fn.toNat]? with
   | none => none
   | some code => match code[(ay x g).top.pc.toNat]? with
    | none => some (.eJ (-7) x, false)
    | some i =>
     if 0 ≤ i.op ∧ i.op ≤ 8 then (if i.cy then some (.on (x.bD g ((ay x g).cH ((ay x g).top.next.pure i))), false) else none)
     else if i.op = 16 then (if mL p x g i d = true then (if g < (x.choose p g i d).fin.gs.length then some (x.choose p g i d, false) else none) else none)
     else if i.op = 21 then (if bg i.a then (if g < (x.rand g i d).fin.gs.length then some (x.rand g i d, false) else none) else none)
     else match nO p (x.next g) g i with
      | none => none
      | some r => if g < r.fin.gs.length then some (r, GY i.op r) else none
  else none
 else some (.on x, true)
def exec (p : bZ) (x : Wd) (g : Int) (d : jz) : Option (Wd × Bool) := match uD p x g d with
 | some (.on y, rest) => some (y, gN y g rest)
 | some (.eJ n y, rest) => some ({ y with end_ := 2, code := n }, gN { y with end_ := 2, code := n } g rest)
 | _ => none
section
variable {R : Mem} {L L' L2 : List HP} {M : Mem} {K : Value → Mem → Prop} {Kp : List PanicEntry → Mem → Prop} {pa : PA} {p : bZ} {gg : List GA} {dr : Value} {b : Nat} {x : Wd} {g : Int}
theorem cK {α : Type} {c : Prop} [Decidable c] {a b : α} (h : (if c then some a else none) = some b) : c ∧ b = a := by
 split at h
 ·rename_i hc; cases h; exact ⟨hc, rfl⟩
 ·cases h
theorem Kr {i : cC} {r : Out Wd} (hp : kU R pa p) (h : nO p x g i = some r) : ∃ fn, yO Vf i.op = some (.func (.func fn) #[] #[]) ∧ (1 < fn ∧ fn < 228) ∧ i.op ≠ 16 ∧ i.op ≠ 21 ∧ 8 < i.op ∧ ∀ L, fR R pa p dr fn x g i r L L := by
 unfold nO at h
 by_cases e : i.op = 10
 ·rw [if_pos e] at h
  obtain ⟨hc, rfl⟩ := cK h
  exact ⟨162, by rw [e]; rfl, by decide, by omega, by omega, by omega, fun L => Qi hc.1 hc.2.1 hc.2.2⟩
 rw [if_neg e] at h
 clear e
 by_cases e : i.op = 11
 ·rw [if_pos e] at h
  obtain ⟨hc, rfl⟩ := cK h
  exact ⟨163, by rw [e]; rfl, by decide, by omega, by omega, by omega, fun L => NU hc.1 hc.2.1 hc.2.2.1 hc.2.2.2⟩
 rw [if_neg e] at h
 clear e
 by_cases e : i.op = 13
 ·rw [if_pos e] at h
  obtain ⟨hc, rfl⟩ := cK h
  exact ⟨165, by rw [e]; rfl, by decide, by omega, by omega, by omega, fun L => Qe hp (Ko hc.1) hc.2⟩
 rw [if_neg e] at h
 clear e
 by_cases e : i.op = 14
 ·rw [if_pos e] at h
  obtain ⟨hc, rfl⟩ := cK h
  exact ⟨166, by rw [e]; rfl, by decide, by omega, by omega, by omega, fun L => Qf hc.1 hc.2⟩
 rw [if_neg e] at h
 clear e
 by_cases e : i.op = 15
 ·rw [if_pos e] at h
  obtain ⟨hc, rfl⟩ := cK h
  exact ⟨167, by rw [e]; rfl, by decide, by omega, by omega, by omega, fun L => Qh hp hc.1 hc.2⟩
 rw [if_neg e] at h
 clear e
 by_cases e : i.op = 20
 ·rw [if_pos e] at h
  obtain ⟨hc, rfl⟩ := cK h
  exact ⟨171, by rw [e]; rfl, by decide, by omega, by omega, by omega, fun L => Qg hc.1 hc.2.1 hc.2.2⟩
 rw [if_neg e] at h
 clear e
 by_cases e : i.op = 9
 ·rw [if_pos e] at h
  obtain ⟨hc, rfl⟩ := cK h
  exact ⟨161, by rw [e]; rfl, by decide, by omega, by omega, by omega, fun L => Qp hc.1 hc.2⟩
 rw [if_neg e] at h
 clear e
 by_cases e : i.op = 12
 ·rw [if_pos e] at h
  cases h
  exact ⟨164, by rw [e]; rfl, by decide, by omega, by omega, by omega, fun L => N0⟩
 rw [if_neg e] at h
 clear e
 by_cases e : i.op = 17
 ·rw [if_pos e] at h
  obtain ⟨hc, rfl⟩ := cK h
  exact ⟨168, by rw [e]; rfl, by decide, by omega, by omega, by omega, fun L => N1 hc.1 hc.2.1 hc.2.2⟩
 rw [if_neg e] at h
 clear e
 by_cases e : i.op = 18
 ·rw [if_pos e] at h
  obtain ⟨hc, rfl⟩ := cK h
  exact ⟨169, by rw [e]; rfl, by decide, by omega, by omega, by omega, fun L => Qq hc.1 hc.2.1 hc.2.2⟩
 rw [if_neg e] at h
 clear e
 by_cases e : i.op = 19
 ·rw [if_pos e] at h
  obtain ⟨hc, rfl⟩ := cK h
  exact ⟨170, by rw [e]; rfl, by decide, by omega, by omega, by omega, fun L => Kn hc.1 hc.2⟩
 rw [if_neg e] at h
 clear e
 by_cases e : i.op = 22
 ·rw [if_pos e] at h
  cases h
  exact ⟨172, by rw [e]; rfl, by decide, by omega, by omega, by omega, fun L => Qr⟩
 rw [if_neg e] at h
 clear e
 cases h
theorem G6 {l : List Int} (h : Hp R (aB (bF pa p) b x :: L) M) : Hp R (aB (bF pa p) b { x with ready := l } :: L) M := by
 obtain ⟨a, gg, dr, n, hl, h⟩ := eF h (b := b)
 exact lK (a := a) (gg := gg) (dr := dr) (n := n) (x := { x with ready := l }) hl h
theorem iK.cons {kind n : Int} {d : jz} {Q : HP} (h : iK R dr kind n d L L2) : iK R dr kind n d (Q :: L) (Q :: L2) := by
 intro Q' M K Kp hM k
 refine h (sep [Q', Q]) M K Kp (Hp.bl.2 hM) ?_
 cases d with
 | num v => exact fun M' h' => k M' (Hp.bl.1 h')
 | dG l => exact fun M' h' => k M' (Hp.bl.1 h')
theorem Ks {d : jz} {r : Out Wd} {rest : Bool} (h : Hp R L M) [o : Iz b L pa p x L'] (hp : kU R pa p) (An : ∃ f c d, dr = .func f c d) (he : uD p x g d = some (r, rest))
  (hd : match asks p { x with ready := [] } g with | none => L2 = L' | some (kd, n) => iK R dr kd n d L' L2) (k : qB R pa p b g L2 K Kp r rest) :
  ae Tryz.prog 41 #[.pointer (some ⟨b, 0, none⟩), .int .i64 g, dr] M K Kp := by
 unfold uD at he
 dsimp only at he
 split at he
 ·rename_i hg
  have xF := hg
  obtain ⟨h0, h1, hr0, xI⟩ := xF
  split at he
  ·rename_i Am
   obtain ⟨N2, hf0, Vk, Qb⟩ := Am
   split at he
   ·cases he
   ·rename_i code mJ
    have done : ∀ (r : Out Wd) (rest : Bool), qB R pa p b g L2 K Kp r rest → (∀ Q, Step R pa p dr { x with ready := [] } g code r rest (Q :: L') (Q :: L2)) → g < r.fin.gs.length → ae Tryz.prog 41 #[.pointer (some ⟨b, 0, none⟩), .int .i64 g, dr] M K Kp := by
     intro r rest k hs hl
     exact GZ (x := x) h hp (show bp x g from N2) hr0 xI hf0 mJ ⟨Vk, Qb⟩ An hs hl k
    have xj : ∀ i, code[(ay x g).top.pc.toNat]? = some i → asks p { x with ready := [] } g = if i.op = 21 then some (4, i.b) else if i.op = 16 then (if enabled (aG p i) x.aE = [] then none else some (3, ((enabled (aG p i) x.aE).length : Int))) else none := by
     intro i hi
     unfold asks
     rw [if_pos hg]
     unfold EN
     rw [show p.funcs[(ay { x with ready := [] } g).top.fn.toNat]? = some code from mJ]
     dsimp only
     rw [show code[(ay { x with ready := [] } g).top.pc.toNat]? = some i from hi]
    split at he
    ·rename_i hnone
     cases he
     have e : asks p { x with ready := [] } g = none := by
      unfold asks
      rw [if_pos hg]
      unfold EN
      rw [show p.funcs[(ay { x with ready := [] } g).top.fn.toNat]? = some code from mJ]
      dsimp only
      rw [hnone]
     rw [e] at hd
     dsimp only at hd
     subst hd
     refine done (.eJ (-7) { x with ready := [] }) false k (fun Q => .out ?_) h1
     have := List.getElem?_eq_none_iff.1 hnone
     omega
    ·rename_i i hi
     have e := xj i hi
     rw [e] at hd
     clear e xj
     split at he
     ·rename_i h8
      split at he
      ·rename_i hok
       cases he
       rw [if_neg (by omega), if_neg (by omega)] at hd
       dsimp only at hd
       subst hd
       exact done (.on _) false k (fun Q => .pure i hi h8.1 h8.2 hok) (by simpa [Out.fin, Wd.bD] using h1)
      ·cases he
     split at he
     ·rename_i Ir
      split at he
      ·rename_i hok
       split at he
       ·rename_i hl
        cases he
        rw [if_neg (by omega), if_pos Ir] at hd
        refine done _ false k (fun Q => .CN i hi Ir (Kg hp (EM hok) ?_)) hl
        split at hd
        ·rename_i hq
         split at hq
         ·rename_i mX
          rw [if_pos (by exact mX), hd]
         ·cases hq
        ·rename_i kd n hq
         split at hq
         ·cases hq
         ·rename_i mX
          cases hq
          rw [if_neg (by exact mX)]
          exact hd.cons
       ·cases he
      ·cases he
     split at he
     ·rename_i Wg
      split at he
      ·rename_i hok
       split at he
       ·rename_i hl
        cases he
        rw [if_pos Wg] at hd
        exact done _ false k (fun Q => .Vg i hi Wg (Qs N2 hok ⟨Vk, Qb⟩ (iK.cons hd))) hl
       ·cases he
      ·cases he
     split at he
     ·cases he
     ·rename_i Ir Wg _ r' wK
      split at he
      ·rename_i hl
       cases he
       rw [if_neg Wg, if_neg Ir] at hd
       dsimp only at hd
       subst hd
       obtain ⟨fn, f1, f2, f3, f4, f5, f6⟩ := Kr (R := R) (pa := pa) (dr := dr) hp wK
       exact done _ _ k (fun Q => .dflt i fn hi f5 f3 f4 f1 f2 (f6 _)) hl
      ·cases he
  ·cases he
 ·rename_i hr
  cases he
  have e : asks p { x with ready := [] } g = none := by
   unfold asks
   rw [if_neg hr]
  rw [e] at hd
  dsimp only at hd
  subst hd
  refine jQ ?_
  refine av h ?_
  clear h
  intro kb M h
  have hC := h
  have h' := eF h (b := b)
  clear h
  obtain ⟨a, gg, dr0, n0, hl, h⟩ := h'
  have hl' := hl
  obtain ⟨l1, l2, l3, l4⟩ := hl'
  have fin : aO M ⟨kb, 0, none⟩ (.bool false) fun lY => aO lY ⟨kb, (0 + 1), none⟩ (.slice none 0 0) fun qu =>
    cD (Mem.ld qu ⟨kb, 0, none⟩) fun t36 => aD (Mem.ld qu ⟨kb, (0 + 1), none⟩) fun KY gL vn => K (.agg #[(.bool t36), (.slice KY gL vn)]) qu := by
   have h := hC
   clear hC
   refine az h ?_
   clear h; intro M h
   refine az h ?_
   clear h; intro M h
   refine HQ h (aR h ?_)
   have k2 := k R none 0 M (Mem.le_refl _) (RS.nil _ _) (G6 (h.drop.pick o.pick))
   exact k2
  refine aP.2 ⟨fun hn => fin, fun h0 => ?_⟩
  refine aR h ?_
  refine aP.2 ⟨fun hn => fin, fun h1 => ?_⟩
  refine aJ h ?_
  refine de.2 ⟨fun hn => fin, fun he0 => ?_⟩
  refine aR h ?_
  refine ⟨by omega, by omega, ?_⟩
  obtain ⟨gb, fM⟩ := aQ (l := a.gb) (i := g.toNat) (by omega)
  refine uO h fM fun q hq => ?_
  obtain ⟨ga, Vi⟩ := aQ (l := gg) (i := g.toNat) (by omega)
  obtain ⟨z, hy⟩ := aQ (l := x.gs) (i := g.toNat) (by omega)
  have ey : ay x g = z := by simp [ay, hy]
  refine br ?_
  have NW : M.ld ⟨gb, 0, none⟩ = some (.int .i64 z.st) := by
   have h9 := mH (b := gb) (h.cY fQ fM (nJ hy Vi))
   exact aj h9
  rw [NW]
  refine cE ?_
  refine de.2 ⟨fun hn => fin, fun hn => ?_⟩
  exact absurd ⟨by omega, by show g < (x.gs.length : Int); omega, he0, by show (ay x g).st = 1; rw [ey]; exact hn⟩ hr
end
end Go.Proofs
namespace Go.Proofs
open Go.AF
set_option maxRecDepth 100000
set_option maxHeartbeats 1000000
attribute [local irreducible] aK cD fH bL aD fx aI aO bj aS bI aV
theorem qC {b : Nat} : ∀ (n : Nat) (l : List Int), (∀ g ∈ l, 0 ≤ g ∧ g < (n : Int)) → (∀ g, l.count g ≤ b) → l.length ≤ b * n
 | 0, l, h, _ => by
  cases l with
  | nil => simp
  | cons a l => have := h a (by simp); omega
 | n + 1, l, h, hc => by
  have h1 : (l.filter (fun g => g != (n : Int))).length ≤ b * n := by
   refine qC n _ (fun g hg => ?_) (fun g => ?_)
   ·obtain ⟨hm, hne⟩ := List.mem_filter.1 hg
    have := h g hm
    simp at hne
    omega
   ·exact Nat.le_trans (List.Sublist.count_le _ List.filter_sublist) (hc g)
  have h2 : l.length = l.count (n : Int) + (l.filter (fun g => g != (n : Int))).length := by
   have := List.length_eq_countP_add_countP (l := l) (fun g => g == (n : Int))
   rw [this, List.count, List.countP_eq_length_filter (p := fun a => decide ¬(a == (n : Int)) = true)]
   congr 2
   apply List.filter_congr
   intro a _
   cases h : (a == (n : Int)) <;> simp_all
  have := hc (n : Int)
  rw [h2, Nat.mul_succ]; omega
theorem lN {α : Type} (f : α → Nat) : ∀ (l : List α) (k : Nat) (c d : α), l[k]? = some d → ((l.set k c).map f).sum + f d = (l.map f).sum + f c
 | [], k, c, d, h => by simp at h
 | a :: l, 0, c, d, h => by simp at h; subst h; simp; omega
 | a :: l, k + 1, c, d, h => by
  have := lN f l k c d (by simpa using h)
  simp only [List.set_cons_succ, List.map_cons, List.sum_cons]; omega
theorem y7 {α : Type} (f : α → Nat) : ∀ (l : List α), (l.map f).sum = 0 → ∀ a ∈ l, f a = 0
 | [], _, a, h => by cases h
 | b :: l, hs, a, h => by
  simp only [List.map_cons, List.sum_cons] at hs
  rcases List.mem_cons.1 h with rfl | h
  ·omega
  ·exact y7 f l (by omega) a h
theorem y8 {α : Type} (f : α → Nat) : ∀ (l : List α) (a : α), a ∈ l → f a ≤ (l.map f).sum
 | b :: l, a, h => by
  simp only [List.map_cons, List.sum_cons]
  rcases List.mem_cons.1 h with rfl | h
  ·omega
  ·have := y8 f l a h; omega
theorem qb {α : Type} (f : α → Nat) : ∀ (l : List α), (∀ a ∈ l, f a = 0) → (l.map f).sum = 0
 | [], _ => rfl
 | b :: l, h => by
  simp only [List.map_cons, List.sum_cons]
  rw [h b (by simp), qb f l fun a ha => h a (by simp [ha])]
def cL (c : aX) : List Int := c.snd.map Wt.g ++ c.en.map Wt.g
def bY (cs : List aX) (g : Int) : Nat := (cs.map fun c => (cL c).count g).sum
def gI (ls : List Lk) (g : Int) : Nat := (ls.map fun l => l.waits.count g).sum
def CU (hl : List bC) (g : Int) : Nat := (hl.map bC.id).count g
def mN (x : Wd) (g : Int) : Prop := (∀ c ∈ x.aE, g ∉ cL c) ∧ (∀ l ∈ x.aM, g ∉ l.waits) ∧ ∀ y ∈ x.hl, y.id ≠ g
theorem uE {cs : List aX} {g : Int} : bY cs g = 0 ↔ ∀ c ∈ cs, g ∉ cL c := by
 constructor
 ·intro h c hc
  exact List.count_eq_zero.1 (y7 _ cs h c hc)
 ·intro h
  exact qb _ cs fun c hc => List.count_eq_zero.2 (h c hc)
theorem xJ {ls : List Lk} {g : Int} : gI ls g = 0 ↔ ∀ l ∈ ls, g ∉ l.waits := by
 constructor
 ·intro h c hc
  exact List.count_eq_zero.1 (y7 _ ls h c hc)
 ·intro h
  exact qb _ ls fun c hc => List.count_eq_zero.2 (h c hc)
def At (x : Wd) (g s : Int) : Prop := 0 ≤ g ∧ g < x.gs.length ∧ (ay x g).st = s
def jR (p : bZ) (f : List cC) (i : cC) : Prop := 0 ≤ i.op ∧ i.op < 23 ∧ i.cy ∧ (i.op = 7 → 0 ≤ i.a ∧ i.a < f.length) ∧ (i.op = 8 → 0 ≤ i.b ∧ i.b < f.length) ∧
 (i.op = 9 ∨ i.op = 11 → 0 ≤ i.a ∧ i.a < p.funcs.length ∧ bg i.b ∧ bg i.c) ∧ (i.op = 10 ∨ i.op = 17 ∨ i.op = 20 ∨ i.op = 21 → bg i.a) ∧
 (i.op = 13 ∨ i.op = 14 ∨ i.op = 15 → 0 ≤ i.a ∧ i.a < p.dk.length) ∧ (i.op = 13 ∨ i.op = 14 → bg i.b) ∧ (i.op = 14 ∨ i.op = 16 → bg i.c) ∧
 (i.op = 16 → 0 ≤ i.a ∧ 1 ≤ i.b ∧ i.a + i.b ≤ p.cases.length) ∧ (i.op = 18 ∨ i.op = 19 → 0 ≤ i.a ∧ i.a < p.aM) ∧ (i.op = 21 → 1 ≤ i.b ∧ i.b < 1099511627776)
structure fN (p : bZ) : Prop where
 f1 : 0 < p.funcs.length
 ch : p.dk.length ≤ 8
 lk : 0 ≤ p.aM ∧ p.aM ≤ 8
 cs : p.cases.length ≤ 32
 cas : ∀ c ∈ p.cases, c.Ok p.dk.length ∧ bg c.bS
 code : ∀ f ∈ p.funcs, 0 < f.length ∧ f.length ≤ 64 ∧ ∀ i ∈ f, jR p f i
def EO (p : bZ) (f : gD) : Prop := 0 ≤ f.fn ∧ f.fn < p.funcs.length ∧ 0 ≤ f.pc ∧ f.pc ≤ 64 ∧ bg f.qH
structure oL (p : bZ) (y : iQ) : Prop where
 l1 : 0 < y.fs.length
 l2 : y.fs.length ≤ 16
 fr : ∀ f ∈ y.fs, EO p f
 wt : y.st = 2 → ∃ f ∈ p.funcs, jR p f y.wt
 st : 1 ≤ y.st ∧ y.st ≤ 4
structure WV (p : bZ) (x : Wd) : Prop where
 n1 : 0 < x.gs.length
 n2 : x.gs.length ≤ 100
 EP : ∀ y ∈ x.gs, oL p y
 ch : x.aE.length = p.dk.length
 lk : (x.aM.length : Int) = p.aM
 buf : ∀ c ∈ x.aE, c.buf.length ≤ c.room ∧ c.room ≤ 16
 en : ∀ c ∈ x.aE, ∀ v ∈ c.en, At x v.g 2 ∧ ((ay x v.g).wt.op = 14 ∨ (ay x v.g).wt.op = 16 ∧ 0 ≤ v.cs ∧ v.cs < (ay x v.g).wt.b)
 snd : ∀ c ∈ x.aE, ∀ v ∈ c.snd, At x v.g 2 ∧ ((ay x v.g).wt.op = 13 ∨ (ay x v.g).wt.op = 16 ∧ 0 ≤ v.cs ∧ v.cs < (ay x v.g).wt.b)
 lw : ∀ l ∈ x.aM, ∀ g ∈ l.waits, At x g 2 ∧ (ay x g).wt.op = 18
 hl : ∀ y ∈ x.hl, At x y.id 3
 one : ∀ g, 0 ≤ g → (ay x g).wt.op ≠ 16 → bY x.aE g + gI x.aM g ≤ 1
 CN : ∀ g, bY x.aE g ≤ 32
 h1 : ∀ g, CU x.hl g ≤ 1
 out : x.out.length ≤ 1000
section
variable {p : bZ} {x : Wd} {g : Int}
theorem WV.Qu (h : WV p x) {c : aX} (hc : c ∈ x.aE) {q : Int} (hq : q ∈ cL c) : At x q 2 ∧ ((ay x q).wt.op = 13 ∨ (ay x q).wt.op = 14 ∨ (ay x q).wt.op = 16) := by
 unfold cL at hq
 rcases List.mem_append.1 hq with hq | hq
 ·obtain ⟨v, hv, rfl⟩ := List.mem_map.1 hq
  obtain ⟨a, b⟩ := h.snd c hc v hv
  exact ⟨a, by rcases b with b | b; exact .inl b; exact .inr (.inr b.1)⟩
 ·obtain ⟨v, hv, rfl⟩ := List.mem_map.1 hq
  obtain ⟨a, b⟩ := h.en c hc v hv
  exact ⟨a, by rcases b with b | b; exact .inr (.inl b); exact .inr (.inr b.1)⟩
theorem WV.free (h : WV p x) (h2 : (ay x g).st ≠ 2) (h3 : (ay x g).st ≠ 3) : mN x g :=
 ⟨fun c hc hg => h2 (h.Qu hc hg).1.2.2, fun l hl hg => h2 (h.lw l hl g hg).1.2.2, fun y hy e => h3 (by have := (h.hl y hy).2.2; rwa [e] at this)⟩
theorem WV.IE (h : WV p x) {c : aX} (hc : c ∈ x.aE) : (cL c).length ≤ 3200 := by
 have h1 := qC (b := 32) x.gs.length (cL c) (fun q hq => ⟨(h.Qu hc hq).1.1, (h.Qu hc hq).1.2.1⟩) (fun q => Nat.le_trans (y8 (fun c => (cL c).count q) x.aE c hc) (h.CN q))
 have := h.n2
 omega
theorem WV.Vl (h : WV p x) {l : Lk} (hl : l ∈ x.aM) : l.waits.length ≤ 100 := by
 have h1 := qC (b := 1) x.gs.length l.waits (fun q hq => ⟨(h.lw l hl q hq).1.1, (h.lw l hl q hq).1.2.1⟩) (fun q => by
  by_cases hq : q ∈ l.waits
  ·have := h.one q (h.lw l hl q hq).1.1 (by rw [(h.lw l hl q hq).2]; decide)
   have := y8 (fun l : Lk => l.waits.count q) x.aM l hl
   unfold gI at *
   omega
  ·rw [List.count_eq_zero.2 hq]; omega)
 have := h.n2
 omega
theorem WV.IF (h : WV p x) : x.hl.length ≤ 100 := by
 have h1 := qC (b := 1) x.gs.length (x.hl.map bC.id) (fun q hq => by
  obtain ⟨y, hy, rfl⟩ := List.mem_map.1 hq
  exact ⟨(h.hl y hy).1, (h.hl y hy).2.1⟩) h.h1
 rw [List.length_map] at h1
 have := h.n2
 omega
theorem WV.sm (h : WV p x) (hp : fN p) (hr : x.ready.length ≤ 1000000) : x.Sm := by
 refine ⟨fun c hc => ?_, by have := h.ch; have := hp.ch; omega, by have := h.n2; omega, hr, by have := h.out; omega, fun l hl => by have := h.Vl hl; omega, by have := h.lk; have := hp.lk; omega, by have := h.IF; omega⟩
 have h1 := h.IE hc
 unfold cL at h1
 rw [List.length_append, List.length_map, List.length_map] at h1
 have := h.buf c hc
 exact ⟨by omega, by omega, by omega⟩
end
end Go.Proofs
namespace Go.Proofs
open Go.AF
set_option maxRecDepth 100000
set_option maxHeartbeats 1000000
attribute [local irreducible] aK cD fH bL aD fx aI aO bj aS bI aV
section
variable {p : bZ} {x y : Wd} {g q k v : Int} {f : List cC} {i : cC}
theorem gZ {z : iQ} (hg : g < x.gs.length) (h0 : 0 ≤ g) : ay (x.bD g z) q = if q.toNat = g.toNat then z else ay x q := by
 unfold ay Wd.bD
 dsimp only
 by_cases e : q.toNat = g.toNat
 ·rw [if_pos e, e]
  simp [List.getD_eq_getElem?_getD, List.getElem?_set_self (show g.toNat < x.gs.length by omega)]
 ·rw [if_neg e, List.getD_eq_getElem?_getD, List.getD_eq_getElem?_getD, List.getElem?_set_ne (Ne.symm e)]
theorem vI (h0 : 0 ≤ g) (hg : g < x.gs.length) : ay x g ∈ x.gs := by
 unfold ay
 rw [List.getD_eq_getElem?_getD, List.getElem?_eq_getElem (by omega), Option.getD_some]
 exact List.getElem_mem _
theorem WV.congr (h : WV p x) (hl : y.gs.length = x.gs.length) (hst : ∀ q, (ay y q).st = (ay x q).st ∧ (ay y q).wt = (ay x q).wt) (hg : ∀ z ∈ y.gs, oL p z) (e1 : y.aE = x.aE) (e2 : y.aM = x.aM) (e3 : y.hl = x.hl) (e4 : y.out.length ≤ 1000) : WV p y := by
 have at_ : ∀ q s, At x q s → At y q s := fun q s ha => ⟨ha.1, by rw [hl]; exact ha.2.1, by rw [(hst q).1]; exact ha.2.2⟩
 refine ⟨by rw [hl]; exact h.n1, by rw [hl]; exact h.n2, hg, by rw [e1]; exact h.ch, by rw [e2]; exact h.lk, by rw [e1]; exact h.buf, ?_, ?_, ?_, ?_, ?_, by rw [e1]; exact h.CN, by rw [e3]; exact h.h1, e4⟩
 ·intro c hc v hv
  rw [e1] at hc
  rw [(hst v.g).2]
  exact ⟨at_ _ _ (h.en c hc v hv).1, (h.en c hc v hv).2⟩
 ·intro c hc v hv
  rw [e1] at hc
  rw [(hst v.g).2]
  exact ⟨at_ _ _ (h.snd c hc v hv).1, (h.snd c hc v hv).2⟩
 ·intro l hl q hq
  rw [e2] at hl
  rw [(hst q).2]
  exact ⟨at_ _ _ (h.lw l hl q hq).1, (h.lw l hl q hq).2⟩
 ·intro z hz
  rw [e3] at hz
  exact at_ _ _ (h.hl z hz)
 ·intro q h0 hq
  rw [(hst q).2] at hq
  rw [e1, e2]
  exact h.one q h0 hq
theorem y9 {l : List iQ} {n : Nat} {z w : iQ} (h : w ∈ l.set n z) : w ∈ l ∨ w = z := List.mem_or_eq_of_mem_set h
theorem WV.bD (h : WV p x) (h0 : 0 ≤ g) (hg : g < x.gs.length) {z : iQ} (hz : oL p z) (e1 : z.st = (ay x g).st) (e2 : z.wt = (ay x g).wt) : WV p (x.bD g z) := by
 refine h.congr (by simp [Wd.bD]) (fun q => ?_) (fun w hw => ?_) rfl rfl rfl h.out
 ·rw [gZ hg h0]
  split
  ·rename_i e
   have : ay x q = ay x g := by unfold ay; rw [e]
   rw [this]; exact ⟨e1, e2⟩
  ·exact ⟨rfl, rfl⟩
 ·rcases y9 hw with hw | rfl
  ·exact h.EP w hw
  ·exact hz
theorem WV.ready (h : WV p x) {r : List Int} : WV p { x with ready := r } := h.congr rfl (fun _ => ⟨rfl, rfl⟩) h.EP rfl rfl rfl h.out
theorem WV.fin (h : WV p x) {e c : Int} : WV p { x with end_ := e, code := c } := h.congr rfl (fun _ => ⟨rfl, rfl⟩) h.EP rfl rfl rfl h.out
theorem WV.IG (h : WV p x) (h0 : 0 ≤ g) (hg : g < x.gs.length) (hf : mN x g) {z : iQ} (hz : oL p z) : WV p (x.bD g z) := by
 have ne : ∀ q, 0 ≤ q → q ≠ g → ay (x.bD g z) q = ay x q := fun q q0 hq => by rw [gZ hg h0, if_neg (by omega)]
 have at_ : ∀ q s, q ≠ g → At x q s → At (x.bD g z) q s := fun q s hq ha => ⟨ha.1, by simpa [Wd.bD] using ha.2.1, by rw [ne q ha.1 hq]; exact ha.2.2⟩
 refine ⟨by simpa [Wd.bD] using h.n1, by simpa [Wd.bD] using h.n2, fun w hw => ?_, h.ch, h.lk, h.buf, ?_, ?_, ?_, ?_, ?_, h.CN, h.h1, h.out⟩
 ·rcases y9 hw with hw | rfl
  ·exact h.EP w hw
  ·exact hz
 ·intro c hc v hv
  have hne : v.g ≠ g := fun e => hf.1 c hc (by rw [← e]; exact List.mem_append_right _ (List.mem_map.2 ⟨v, hv, rfl⟩))
  obtain ⟨a, b⟩ := h.en c hc v hv
  rw [ne _ a.1 hne]
  exact ⟨at_ _ _ hne a, b⟩
 ·intro c hc v hv
  have hne : v.g ≠ g := fun e => hf.1 c hc (by rw [← e]; exact List.mem_append_left _ (List.mem_map.2 ⟨v, hv, rfl⟩))
  obtain ⟨a, b⟩ := h.snd c hc v hv
  rw [ne _ a.1 hne]
  exact ⟨at_ _ _ hne a, b⟩
 ·intro l hl q hq
  have hne : q ≠ g := fun e => hf.2.1 l hl (by rw [← e]; exact hq)
  obtain ⟨a, b⟩ := h.lw l hl q hq
  rw [ne _ a.1 hne]
  exact ⟨at_ _ _ hne a, b⟩
 ·intro w hw
  have hne : w.id ≠ g := hf.2.2 w hw
  exact at_ _ _ hne (h.hl w hw)
 ·intro q q0 hq
  by_cases e : q = g
  ·subst e
   have a := uE.2 hf.1
   have b := xJ.2 hf.2.1
   show bY x.aE q + gI x.aM q ≤ 1
   omega
  ·rw [ne q q0 e] at hq
   exact h.one q q0 hq
theorem oL.N3 {z : iQ} (h : oL p z) {s : Int} (h1 : s ≠ 2) (h2 : 1 ≤ s ∧ s ≤ 4) : oL p { z with st := s } := ⟨h.l1, h.l2, h.fr, fun e => absurd e h1, h2⟩
theorem WV.eY (h : WV p x) (h0 : 0 ≤ g) (hg : g < x.gs.length) (hf : mN x g) : WV p (x.eY g) :=
 WV.ready (h.IG h0 hg hf ((h.EP _ (vI h0 hg)).N3 (by decide) (by decide)))
theorem WV.block (h : WV p x) (ha : At x g 1) (hf : f ∈ p.funcs) (hi : jR p f i) : WV p (x.block g i) := by
 have hz := h.EP _ (vI ha.1 ha.2.1)
 exact h.IG ha.1 ha.2.1 (h.free (by rw [ha.2.2]; decide) (by rw [ha.2.2]; decide)) ⟨hz.l1, hz.l2, hz.fr, fun _ => ⟨f, hf, hi⟩, by show (1 : Int) ≤ 2 ∧ (2 : Int) ≤ 4; decide⟩
theorem ji {α : Type} {l : List α} {n : Nat} {a b : α} (h : b ∈ l.set n a) : b ∈ l ∨ b = a := List.mem_or_eq_of_mem_set h
theorem WV.less (h : WV p x) {c c' : aX} (hc : x.aE[k.toNat]? = some c) (hb : c'.buf.length ≤ c'.room ∧ c'.room ≤ 16) (hr : ∀ v ∈ c'.en, v ∈ c.en) (hs : ∀ v ∈ c'.snd, v ∈ c.snd) (hn : ∀ q, (cL c').count q ≤ (cL c).count q) : WV p (x.b9 k c') := by
 have hm : c ∈ x.aE := List.mem_of_getElem? hc
 have N4 : ∀ q, bY (x.aE.set k.toNat c') q ≤ bY x.aE q := by
  intro q
  have := lN (fun c : aX => (cL c).count q) x.aE k.toNat c' c hc
  have := hn q
  unfold bY
  omega
 refine ⟨h.n1, h.n2, h.EP, by simpa [Wd.b9] using h.ch, h.lk, ?_, ?_, ?_, h.lw, h.hl, ?_, ?_, h.h1, h.out⟩
 ·intro d hd
  rcases ji hd with hd | rfl
  ·exact h.buf d hd
  ·exact hb
 ·intro d hd v hv
  rcases ji hd with hd | rfl
  ·exact h.en d hd v hv
  ·exact h.en c hm v (hr v hv)
 ·intro d hd v hv
  rcases ji hd with hd | rfl
  ·exact h.snd d hd v hv
  ·exact h.snd c hm v (hs v hv)
 ·intro q q0 hq
  have := h.one q q0 hq
  have := N4 q
  show bY (x.aE.set k.toNat c') q + gI x.aM q ≤ 1
  omega
 ·intro q
  exact Nat.le_trans (N4 q) (h.CN q)
theorem WV.more (h : WV p x) {c c' : aX} {w : Wt} (hc : x.aE[k.toNat]? = some c) (hb : c'.buf.length ≤ c'.room ∧ c'.room ≤ 16)
  (hr : ∀ v ∈ c'.en, v ∈ c.en ∨ v = w ∧ At x w.g 2 ∧ ((ay x w.g).wt.op = 14 ∨ (ay x w.g).wt.op = 16 ∧ 0 ≤ w.cs ∧ w.cs < (ay x w.g).wt.b))
  (hs : ∀ v ∈ c'.snd, v ∈ c.snd ∨ v = w ∧ At x w.g 2 ∧ ((ay x w.g).wt.op = 13 ∨ (ay x w.g).wt.op = 16 ∧ 0 ≤ w.cs ∧ w.cs < (ay x w.g).wt.b))
  (hn : ∀ q, (cL c').count q ≤ (cL c).count q + (if q = w.g then 1 else 0)) (hz : (ay x w.g).wt.op ≠ 16 → bY x.aE w.g + gI x.aM w.g = 0) (h32 : bY x.aE w.g < 32) : WV p (x.b9 k c') := by
 have hm : c ∈ x.aE := List.mem_of_getElem? hc
 have N4 : ∀ q, bY (x.aE.set k.toNat c') q ≤ bY x.aE q + (if q = w.g then 1 else 0) := by
  intro q
  have := lN (fun c : aX => (cL c).count q) x.aE k.toNat c' c hc
  have := hn q
  unfold bY
  omega
 refine ⟨h.n1, h.n2, h.EP, by simpa [Wd.b9] using h.ch, h.lk, ?_, ?_, ?_, h.lw, h.hl, ?_, ?_, h.h1, h.out⟩
 ·intro d hd
  rcases ji hd with hd | rfl
  ·exact h.buf d hd
  ·exact hb
 ·intro d hd v hv
  rcases ji hd with hd | rfl
  ·exact h.en d hd v hv
  ·rcases hr v hv with hv | ⟨rfl, hv⟩
   ·exact h.en c hm v hv
   ·exact hv
 ·intro d hd v hv
  rcases ji hd with hd | rfl
  ·exact h.snd d hd v hv
  ·rcases hs v hv with hv | ⟨rfl, hv⟩
   ·exact h.snd c hm v hv
   ·exact hv
 ·intro q q0 hq
  have a := N4 q
  show bY (x.aE.set k.toNat c') q + gI x.aM q ≤ 1
  by_cases e : q = w.g
  ·subst e
   have := hz hq
   rw [if_pos rfl] at a
   omega
  ·have := h.one q q0 hq
   rw [if_neg e] at a
   omega
 ·intro q
  have a := N4 q
  show bY (x.aE.set k.toNat c') q ≤ 32
  by_cases e : q = w.g
  ·subst e
   rw [if_pos rfl] at a
   omega
  ·have := h.CN q
   rw [if_neg e] at a
   omega
end
end Go.Proofs
namespace Go.Proofs
open Go.AF
set_option maxRecDepth 100000
set_option maxHeartbeats 1000000
attribute [local irreducible] aK cD fH bL aD fx aI aO bj aS bI aV
section
variable {p : bZ} {x y : Wd} {g q k n : Int} {f : List cC} {i : cC} {v : Wt}
theorem N5 {α : Type} (f g : α → Nat) : ∀ (l : List α), (∀ a ∈ l, f a ≤ g a) → (l.map f).sum ≤ (l.map g).sum
 | [], _ => Nat.le_refl _
 | b :: l, h => by
  simp only [List.map_cons, List.sum_cons]
  have := h b (by simp)
  have := N5 f g l fun a ha => h a (by simp [ha])
  omega
theorem za (c : aX) : cL (c.drop g) = (cL c).filter (fun q => q != g) := by
 unfold cL aX.drop wo
 simp only [List.filter_append, List.filter_map]
 rfl
theorem ER (cs : List aX) (q : Int) : bY (cs.map fun c => c.drop g) q ≤ bY cs q := by
 unfold bY
 rw [List.map_map]
 refine N5 _ _ cs fun c _ => ?_
 show (cL (c.drop g)).count q ≤ _
 rw [za]
 exact List.Sublist.count_le _ List.filter_sublist
theorem WV.leave (h : WV p x) : WV p (x.leave g) := by
 refine ⟨h.n1, h.n2, h.EP, by simpa [Wd.leave] using h.ch, h.lk, ?_, ?_, ?_, h.lw, h.hl, ?_, ?_, h.h1, h.out⟩
 ·intro d hd
  obtain ⟨c, hc, rfl⟩ := List.mem_map.1 hd
  exact h.buf c hc
 ·intro d hd v hv
  obtain ⟨c, hc, rfl⟩ := List.mem_map.1 hd
  exact h.en c hc v (List.mem_filter.1 hv).1
 ·intro d hd v hv
  obtain ⟨c, hc, rfl⟩ := List.mem_map.1 hd
  exact h.snd c hc v (List.mem_filter.1 hv).1
 ·intro q q0 hq
  have := ER (g := g) x.aE q
  have := h.one q q0 hq
  show bY (x.aE.map fun c => c.drop g) q + gI x.aM q ≤ 1
  omega
 ·intro q
  exact Nat.le_trans (ER x.aE q) (h.CN q)
theorem G7 (h : WV p x) (h3 : (ay x g).wt.op ≠ 18) (h2 : (ay x g).st = 2) : mN (x.leave g) g := by
 refine ⟨fun d hd hg => ?_, fun l hl hg => h3 (h.lw l hl g hg).2, fun w hw e => ?_⟩
 ·obtain ⟨c, hc, rfl⟩ := List.mem_map.1 hd
  rw [za] at hg
  have := (List.mem_filter.1 hg).2
  simp at this
 ·have := (h.hl w hw).2.2
  rw [e, h2] at this
  cases this
theorem EO.set {r : gD} (h : EO p r) (q v : Int) : EO p (r.set q v) := h
theorem oL.cH {z : iQ} (h : oL p z) {r : gD} (hr : EO p r) : oL p (z.cH r) :=
 ⟨by simpa [iQ.cH] using h.l1, by simpa [iQ.cH] using h.l2, fun f hf => by
  rcases List.mem_or_eq_of_mem_set hf with hf | rfl
  ·exact h.fr f hf
  ·exact hr, h.wt, h.st⟩
theorem oL.top {z : iQ} (h : oL p z) : EO p z.top := by
 unfold iQ.top
 have := h.l1
 rw [List.getD_eq_getElem?_getD, List.getElem?_eq_getElem (by omega), Option.getD_some]
 exact h.fr _ (List.getElem_mem _)
theorem WV.jL (h : WV p x) (h0 : 0 ≤ g) (hg : g < x.gs.length) : oL p (ay x g) := h.EP _ (vI h0 hg)
theorem WV.bz (h : WV p x) (h0 : 0 ≤ g) (hg : g < x.gs.length) : WV p (x.bz g q n) :=
 h.bD h0 hg ((h.jL h0 hg).cH ((h.jL h0 hg).top.set q n)) rfl rfl
theorem BD (h0 : 0 ≤ g) (hg : g < x.gs.length) {m : Int} : (ay (x.bz g q n) m).st = (ay x m).st ∧ (ay (x.bz g q n) m).wt = (ay x m).wt ∧ (ay (x.bz g q n) m).fs.length = (ay x m).fs.length := by
 unfold Wd.bz
 rw [gZ hg h0]
 split
 ·rename_i e
  have : ay x m = ay x g := by unfold ay; rw [e]
  rw [this]
  exact ⟨rfl, rfl, by simp [iQ.cH]⟩
 ·exact ⟨rfl, rfl, rfl⟩
theorem mO (h0 : 0 ≤ g) (hg : g < x.gs.length) {m : Int} (h1 : 0 ≤ m) (hne : m ≠ g) : ay (x.bz g q n) m = ay x m := by
 unfold Wd.bz
 rw [gZ hg h0, if_neg (by omega)]
theorem WV.bp (h : WV p x) (h0 : 0 ≤ g) (hg : g < x.gs.length) : bp x g := ⟨h0, hg, (h.jL h0 hg).l1, by have := (h.jL h0 hg).l2; omega⟩
theorem Kt (hp : fN p) {a : Int} (h0 : 0 ≤ a) (h1 : a < p.cases.length) : pB p a ∈ p.cases := by
 unfold pB
 rw [List.getD_eq_getElem?_getD, List.getElem?_eq_getElem (by omega), Option.getD_some]
 exact List.getElem_mem _
theorem WV.pC (h : WV p x) (hp : fN p) (ha : At x v.g 2) (hw : (ay x v.g).wt.op = 14 ∨ (ay x v.g).wt.op = 16 ∧ 0 ≤ v.cs ∧ v.cs < (ay x v.g).wt.b) : pC p x v := by
 refine ⟨h.bp ha.1 ha.2.1, ?_⟩
 obtain ⟨f, hf, hi⟩ := (h.jL ha.1 ha.2.1).wt ha.2.2
 obtain ⟨_, _, _, _, _, _, _, _, i13, i14, i16, _⟩ := hi
 split
 ·rename_i e
  rcases hw with hw | ⟨_, c0, c1⟩
  ·rw [e] at hw; cases hw
  ·obtain ⟨a0, a1, a2⟩ := i16 e
   refine ⟨by omega, by omega, by have := hp.cs; omega, (hp.cas _ (Kt hp (by omega) (by omega))).2, i14 (.inr e)⟩
 ·rename_i e
  rcases hw with hw | ⟨hw, _⟩
  ·exact ⟨i13 (.inr hw), i14 (.inl hw)⟩
  ·exact absurd hw e
theorem WV.wB (h : WV p x) (ha : At x v.g 2) : wB x v := by
 refine ⟨h.bp ha.1 ha.2.1, fun e => ?_⟩
 obtain ⟨f, hf, hi⟩ := (h.jL ha.1 ha.2.1).wt ha.2.2
 obtain ⟨_, _, _, _, _, _, _, _, _, i14, _⟩ := hi
 exact i14 (.inr e)
theorem mN.bS (h : mN x g) : mN (x.bz q k n) g := h
theorem bP {m : Int} : (x.bz g q m).gs.length = x.gs.length := by simp [Wd.bz, Wd.bD]
theorem mP : (x.eY g).gs.length = x.gs.length := by simp [Wd.eY, Wd.bD]
theorem qD (h0 : 0 ≤ g) (hg : g < x.gs.length) {m : Int} (h1 : 0 ≤ m) (hne : m ≠ g) : ay (x.eY g) m = ay x m := by
 show ay (x.bD g _) m = _
 rw [gZ hg h0, if_neg (by omega)]
theorem uF (h0 : 0 ≤ g) (hg : g < x.gs.length) : (ay (x.eY g) g).st = 1 := by
 show (ay (x.bD g _) g).st = _
 rw [gZ hg h0, if_pos rfl]
theorem WV.gp (h : WV p x) (ha : At x g 2) (RT : (ay x g).wt.op ≠ 18) : WV p (x.gp g k) ∧ mN (x.gp g k) g := by
 obtain ⟨h0, hg, h2⟩ := ha
 unfold Wd.gp
 have r2 := h.bz (q := (ay x g).wt.c) (n := k) h0 hg
 have e2 := BD (x := x) (q := (ay x g).wt.c) (n := k) h0 hg (m := g)
 exact ⟨r2.leave, G7 r2 (by rw [e2.2.1]; exact RT) (by rw [e2.1]; exact h2)⟩
theorem gu : (x.gp g k).gs.length = x.gs.length := by simp [Wd.gp, Wd.leave, bP]
theorem BE (h0 : 0 ≤ g) (hg : g < x.gs.length) {m : Int} (h1 : 0 ≤ m) (hne : m ≠ g) : ay (x.gp g k) m = ay x m := by
 show ay (x.bz g _ _) m = _
 exact mO h0 hg h1 hne
theorem WV.received (h : WV p x) (ha : At x v.g 2) (RT : (ay x v.g).wt.op ≠ 18) (hf : (ay x v.g).wt.op ≠ 16 → mN x v.g) {s : Int} : WV p (x.received p v s) := by
 have ha' := ha
 obtain ⟨h0, hg, h2⟩ := ha'
 unfold Wd.received
 dsimp only
 split
 ·have r1 := h.bz (q := (pB p ((ay x v.g).wt.a + v.cs)).bS) (n := v.v) h0 hg
  have e1 := BD (x := x) (q := (pB p ((ay x v.g).wt.a + v.cs)).bS) (n := v.v) h0 hg (m := v.g)
  have l1 := bP (x := x) (g := v.g) (q := (pB p ((ay x v.g).wt.a + v.cs)).bS) (m := v.v)
  obtain ⟨r2, f2⟩ := r1.gp (k := v.cs) ⟨h0, by rw [l1]; exact hg, by rw [e1.1]; exact h2⟩ (by rw [e1.2.1]; exact RT)
  exact r2.eY h0 (by rw [gu, l1]; exact hg) f2
 ·rename_i e
  have r1 := h.bz (q := (ay x v.g).wt.b) (n := v.v) h0 hg
  have r2 := r1.bz (g := v.g) (q := (ay x v.g).wt.c) (n := s) h0 (by rw [bP]; exact hg)
  exact r2.eY h0 (by rw [bP, bP]; exact hg) (hf e)
theorem uG {s : Int} : (x.received p v s).gs.length = x.gs.length := by
 unfold Wd.received
 dsimp only
 split
 ·rw [mP, gu, bP]
 ·rw [mP, bP, bP]
theorem wL (h0 : 0 ≤ v.g) (hg : v.g < x.gs.length) {s m : Int} (h1 : 0 ≤ m) (hne : m ≠ v.g) : ay (x.received p v s) m = ay x m := by
 unfold Wd.received
 dsimp only
 split
 ·rw [qD h0 (by rw [gu, bP]; exact hg) h1 hne, BE h0 (by rw [bP]; exact hg) h1 hne, mO h0 hg h1 hne]
 ·rw [qD h0 (by rw [bP, bP]; exact hg) h1 hne, mO h0 (by rw [bP]; exact hg) h1 hne, mO h0 hg h1 hne]
theorem lO (h0 : 0 ≤ v.g) (hg : v.g < x.gs.length) {s : Int} : (ay (x.received p v s) v.g).st = 1 ∧ (x.received p v s).ready = x.ready ++ [v.g] := by
 unfold Wd.received
 dsimp only
 split
 ·exact ⟨uF h0 (by rw [gu, bP]; exact hg), rfl⟩
 ·exact ⟨uF h0 (by rw [bP, bP]; exact hg), rfl⟩
theorem WV.sent (h : WV p x) (ha : At x v.g 2) (RT : (ay x v.g).wt.op ≠ 18) (hf : (ay x v.g).wt.op ≠ 16 → mN x v.g) : WV p (x.sent v) := by
 have ha' := ha
 obtain ⟨h0, hg, h2⟩ := ha'
 unfold Wd.sent
 split
 ·obtain ⟨r2, f2⟩ := h.gp (k := v.cs) ha RT
  exact r2.eY h0 (by rw [gu]; exact hg) f2
 ·rename_i e
  exact h.eY h0 hg (hf e)
theorem N6 : (x.sent v).gs.length = x.gs.length := by
 unfold Wd.sent
 split
 ·rw [mP, gu]
 ·rw [mP]
theorem Qv (h0 : 0 ≤ v.g) (hg : v.g < x.gs.length) {m : Int} (h1 : 0 ≤ m) (hne : m ≠ v.g) : ay (x.sent v) m = ay x m := by
 unfold Wd.sent
 split
 ·rw [qD h0 (by rw [gu]; exact hg) h1 hne, BE h0 hg h1 hne]
 ·rw [qD h0 hg h1 hne]
theorem II (h0 : 0 ≤ v.g) (hg : v.g < x.gs.length) : (ay (x.sent v) v.g).st = 1 ∧ (x.sent v).ready = x.ready ++ [v.g] := by
 unfold Wd.sent
 split
 ·exact ⟨uF h0 (by rw [gu]; exact hg), rfl⟩
 ·exact ⟨uF h0 hg, rfl⟩
theorem ES (hk : uw x k) : ∃ c, x.aE[k.toNat]? = some c ∧ dL x.aE k = c := by
 obtain ⟨k0, k1⟩ := hk
 obtain ⟨c, hc⟩ := aQ (l := x.aE) (i := k.toNat) (by omega)
 exact ⟨c, hc, by simp [dL, hc]⟩
theorem CV (h : WV p x) {c c' : aX} (hc : x.aE[k.toNat]? = some c) (h0 : 0 ≤ g) (h2 : (ay x g).st = 2) (ur : (ay x g).wt.op ≠ 16) (hn : (cL c').count g + 1 ≤ (cL c).count g) : mN (x.b9 k c') g := by
 have a := h.one g h0 ur
 have b := lN (fun c : aX => (cL c).count g) x.aE k.toNat c' c hc
 have e1 : bY (x.aE.set k.toNat c') g = 0 := by unfold bY at *; omega
 have e2 : gI x.aM g = 0 := by
  have := y8 (fun c : aX => (cL c).count g) x.aE c (List.mem_of_getElem? hc)
  unfold bY at a
  omega
 refine ⟨uE.1 e1, xJ.1 e2, fun w hw e => ?_⟩
 have := (h.hl w hw).2.2
 rw [e, h2] at this
 cases this
end
end Go.Proofs
namespace Go.Proofs
open Go.AF
set_option maxRecDepth 100000
set_option maxHeartbeats 1000000
attribute [local irreducible] aK cD fH bL aD fx aI aO bj aS bI aV
def Wk (x y : Wd) : Prop := y.gs.length = x.gs.length ∧ ∃ l : List Int, y.ready = x.ready ++ l ∧ l.Nodup ∧ (∀ q ∈ l, 0 ≤ q ∧ q < x.gs.length ∧ (ay x q).st ≠ 1 ∧ (ay y q).st = 1) ∧ ∀ q, 0 ≤ q → q ∉ l → ay y q = ay x q
section
variable {p : bZ} {x y z : Wd} {g q k n : Int} {f : List cC} {i : cC} {v : Wt}
theorem Wk.refl (x : Wd) : Wk x x := ⟨rfl, [], by simp, List.nodup_nil, (fun q h => by cases h), fun q _ _ => rfl⟩
theorem Wk.same (h1 : y.gs = x.gs) (h2 : y.ready = x.ready) : Wk x y := ⟨by rw [h1], [], by simp [h2], List.nodup_nil, fun q h => by (cases h), fun q _ _ => by unfold ay; rw [h1]⟩
theorem Wk.trans (h : Wk x y) (h' : Wk y z) : Wk x z := by
 obtain ⟨a1, l, a2, a3, a4, a5⟩ := h
 obtain ⟨b1, m, b2, b3, b4, b5⟩ := h'
 refine ⟨by rw [b1, a1], l ++ m, by rw [b2, a2, List.append_assoc], ?_, ?_, ?_⟩
 ·refine List.nodup_append.2 ⟨a3, b3, fun q hq r hr e => ?_⟩
  subst e
  exact (b4 q hr).2.2.1 (a4 q hq).2.2.2
 ·intro q hq
  rcases List.mem_append.1 hq with hq | hq
  ·obtain ⟨c1, c2, c3, c4⟩ := a4 q hq
   refine ⟨c1, c2, c3, ?_⟩
   by_cases hm : q ∈ m
   ·exact (b4 q hm).2.2.2
   ·rw [b5 q c1 hm]; exact c4
  ·obtain ⟨c1, c2, c3, c4⟩ := b4 q hq
   by_cases hl : q ∈ l
   ·exact absurd (a4 q hl).2.2.2 c3
   ·exact ⟨c1, by rw [← a1]; exact c2, by rw [← a5 q c1 hl]; exact c3, c4⟩
 ·intro q q0 hq
  rw [List.mem_append] at hq
  rw [b5 q q0 (fun h => hq (.inr h)), a5 q q0 (fun h => hq (.inl h))]
theorem Wk.keep (h : Wk x y) (h0 : 0 ≤ q) (h1 : (ay x q).st = 1) : ay y q = ay x q := by
 obtain ⟨_, l, _, _, a4, a5⟩ := h
 exact a5 q h0 fun hq => (a4 q hq).2.2.1 h1
theorem Wk.received (h0 : 0 ≤ v.g) (hg : v.g < x.gs.length) (h1 : (ay x v.g).st ≠ 1) {s : Int} : Wk x (x.received p v s) :=
 ⟨uG, [v.g], (lO h0 hg).2, by simp, fun q hq => by
  simp only [List.mem_singleton] at hq; subst hq
  exact ⟨h0, hg, h1, (lO h0 hg).1⟩, fun q q0 hq => wL h0 hg q0 (by simpa using hq)⟩
theorem Wk.sent (h0 : 0 ≤ v.g) (hg : v.g < x.gs.length) (h1 : (ay x v.g).st ≠ 1) : Wk x (x.sent v) :=
 ⟨N6, [v.g], (II h0 hg).2, by simp, fun q hq => by
  simp only [List.mem_singleton] at hq; subst hq
  exact ⟨h0, hg, h1, (II h0 hg).1⟩, fun q q0 hq => Qv h0 hg q0 (by simpa using hq)⟩
theorem Wk.eY (h0 : 0 ≤ g) (hg : g < x.gs.length) (h1 : (ay x g).st ≠ 1) : Wk x (x.eY g) :=
 ⟨mP, [g], rfl, by simp, fun q hq => by
  simp only [List.mem_singleton] at hq; subst hq
  exact ⟨h0, hg, h1, uF h0 hg⟩, fun q q0 hq => qD h0 hg q0 (by simpa using hq)⟩
theorem Wk.b9 {c : aX} : Wk x (x.b9 k c) := Wk.same rfl rfl
theorem qc (h : WV p x) {c : aX} (hc : c ∈ x.aE) : c.buf.length ≤ 16 ∧ c.snd.length ≤ 3200 ∧ c.en.length ≤ 3200 := by
 have h1 := h.IE hc
 unfold cL at h1
 rw [List.length_append, List.length_map, List.length_map] at h1
 have := h.buf c hc
 omega
def Vm (p : bZ) (x : Wd) : Out (Wd × Bool) → Prop
 | .eJ _ y => WV p y ∧ y.gs = x.gs ∧ y.ready = x.ready
 | .on (y, true) => WV p y ∧ Wk x y
 | .on (y, false) => y = x
 | .dG _ _ => False
theorem eI {α : Type} : ∀ (l : List α) (n : Nat) (a : α), l[n]? = some a → l.set n a = l
 | [], _, _, _ => rfl
 | b :: l, 0, a, h => by simp at h; subst h; rfl
 | b :: l, n + 1, a, h => by rw [List.set_cons_succ, eI l n a (by simpa using h)]
theorem nQ {c : aX} (hc : x.aE[k.toNat]? = some c) : x.b9 k c = x := by
 unfold Wd.b9
 rw [eI _ _ _ hc]
theorem WV.put (h : WV p x) (hp : fN p) (hk : uw x k) : oa p x k n ∧ Vm p x (x.put p k n) := by
 obtain ⟨c, hc, e⟩ := ES hk
 have hm := List.mem_of_getElem? hc
 obtain ⟨s1, s2, s3⟩ := qc h hm
 have hb := h.buf c hm
 have hr := h.en c hm
 unfold oa Wd.put
 rw [e]
 refine ⟨⟨hk, ?_, ?_⟩, ?_⟩
 ·unfold aX.send
  split
  ·intro h; cases h
  ·split
   ·rename_i w r hw
    intro _
    obtain ⟨a, b⟩ := hr w (by rw [hw]; simp)
    exact h.pC (v := ⟨w.g, w.cs, n⟩) hp a b
   ·split <;> (intro h; cases h)
 ·have : c.Small 3200 := ⟨by omega, s2, s3⟩
  exact (this.send n).mono (by omega)
 ·unfold aX.send
  split
  ·dsimp only
   rw [if_pos rfl, nQ hc]
   exact ⟨h, rfl, rfl⟩
  ·split
   ·rename_i w r hw
    dsimp only
    obtain ⟨a, b⟩ := hr w (by rw [hw]; simp)
    have hl : WV p (x.b9 k { c with en := r }) := h.less hc hb (fun v hv => by rw [hw]; exact List.mem_cons_of_mem _ hv) (fun v hv => hv) (fun q => by
     unfold cL; rw [hw]; simp only [List.map_cons, List.count_append, List.count_cons]; omega)
    have hne : (ay x w.g).wt.op ≠ 18 := by rcases b with b | b; rw [b]; decide; rw [b.1]; decide
    rw [if_neg (by decide), if_pos rfl]
    refine ⟨hl.received (v := ⟨w.g, w.cs, n⟩) a hne (fun ur => ?_), Wk.b9.trans (Wk.received (x := x.b9 k { c with en := r }) (v := ⟨w.g, w.cs, n⟩) a.1 a.2.1 (by show (ay x w.g).st ≠ 1; rw [a.2.2]; decide))⟩
    exact CV h hc a.1 a.2.2 ur (by unfold cL; rw [hw]; simp only [List.map_cons, List.count_append, List.count_cons, beq_self_eq_true, if_true]; omega)
   ·rename_i hw
    split
    ·dsimp only
     rw [if_neg (by decide), if_neg (by decide)]
     exact ⟨h.less hc ⟨by simp; omega, hb.2⟩ (fun v hv => hv) (fun v hv => hv) (fun q => Nat.le_refl _), Wk.b9⟩
    ·dsimp only
     rw [if_neg (by decide), if_neg (by decide), nQ hc]
     exact rfl
theorem WV.get (h : WV p x) (hp : fN p) (hk : uw x k) : ux x k ∧ WV p (x.get k).1 ∧ Wk x (x.get k).1 ∧ ((x.get k).2.2.2 = false → (x.get k).1 = x) := by
 obtain ⟨c, hc, e⟩ := ES hk
 have hm := List.mem_of_getElem? hc
 obtain ⟨s1, s2, s3⟩ := qc h hm
 have hb := h.buf c hm
 have hs := h.snd c hm
 unfold ux Wd.get
 rw [e]
 obtain ⟨room, buf, snd, en, closed⟩ := c
 cases snd with
 | cons w r =>
  obtain ⟨a, b⟩ := hs w (by simp)
  obtain ⟨v, l, hv⟩ : ∃ v l, buf ++ [w.v] = v :: l := by
   cases buf with
   | nil => exact ⟨_, _, rfl⟩
   | cons q t => exact ⟨q, t ++ [w.v], rfl⟩
  have hlen : l.length = buf.length := by
   have := congrArg List.length hv
   simp at this; omega
  have er : aX.recv ⟨room, buf, w :: r, en, closed⟩ = (⟨room, l, r, en, closed⟩, v, true, w, true, 0) := by
   unfold aX.recv aX.all
   dsimp only
   rw [hv]
   rfl
  rw [er]
  dsimp only
  have hl : WV p (x.b9 k ⟨room, l, r, en, closed⟩) := h.less hc (by rw [hlen]; exact hb) (fun v hv => hv) (fun v hv => List.mem_cons_of_mem _ hv) (fun q => by
   unfold cL; simp only [List.map_cons, List.cons_append, List.count_cons]; omega)
  have hne : (ay x w.g).wt.op ≠ 18 := by rcases b with b | b; rw [b]; decide; rw [b.1]; decide
  rw [if_pos rfl, if_pos rfl]
  refine ⟨⟨hk, fun _ => h.wB a, ⟨by dsimp only at *; omega, by simp only [List.length_cons] at s2; dsimp only; omega, by dsimp only at *; omega⟩⟩, hl.sent a hne (fun ur => ?_), Wk.b9.trans (Wk.sent (x := x.b9 k ⟨room, l, r, en, closed⟩) a.1 a.2.1 (by show (ay x w.g).st ≠ 1; rw [a.2.2]; decide)), (fun h => by cases h)⟩
  exact CV h hc a.1 a.2.2 ur (by unfold cL; simp only [List.map_cons, List.cons_append, List.count_cons, beq_self_eq_true, if_true]; omega)
 | nil =>
  cases buf with
  | cons q t =>
   have er : aX.recv ⟨room, q :: t, [], en, closed⟩ = (⟨room, t, [], en, closed⟩, q, true, .zero, false, 0) := rfl
   rw [er]
   dsimp only
   simp only [Bool.false_eq_true, if_false, if_true]
   simp only [List.length_cons] at s1 hb
   exact ⟨⟨hk, (fun h => by cases h), ⟨by dsimp only; omega, by dsimp only at *; omega, by dsimp only at *; omega⟩⟩, h.less hc ⟨by dsimp only; omega, hb.2⟩ (fun v hv => hv) (fun v hv => hv) (fun q => Nat.le_refl _), Wk.b9, (fun h => by cases h)⟩
  | nil =>
   have er : aX.recv ⟨room, [], [], en, closed⟩ = (⟨room, [], [], en, closed⟩, 0, false, .zero, false, if closed then 0 else 5) := rfl
   rw [er]
   dsimp only
   simp only [Bool.false_eq_true, if_false, nQ hc]
   exact ⟨⟨hk, (fun h => by cases h), ⟨by dsimp only at *; omega, by dsimp only at *; omega, by dsimp only at *; omega⟩⟩, h, Wk.refl _, fun _ => trivial⟩
end
end Go.Proofs
namespace Go.Proofs
open Go.AF
set_option maxRecDepth 100000
set_option maxHeartbeats 1000000
attribute [local irreducible] aK cD fH bL aD fx aI aO bj aS bI aV
section
variable {p : bZ} {x y z : Wd} {g q k n : Int} {f : List cC} {i : cC} {v : Wt}
def Vn (x : Wd) (v : Wt) : Prop := 0 ≤ v.g ∧ v.g < x.gs.length ∧ ((ay x v.g).st = 2 → (ay x v.g).wt.op = 14 ∧ mN x v.g ∨ (ay x v.g).wt.op = 16 ∧ 0 ≤ v.cs ∧ v.cs < (ay x v.g).wt.b)
def zb (x y : Wd) : Prop := (∀ d ∈ y.aE, ∃ c ∈ x.aE, ∀ q ∈ cL d, q ∈ cL c) ∧ y.aM = x.aM ∧ y.hl = x.hl
theorem zb.refl (x : Wd) : zb x x := ⟨fun d hd => ⟨d, hd, fun _ h => h⟩, rfl, rfl⟩
theorem zb.free (h : zb x y) (hf : mN x g) : mN y g := by
 obtain ⟨a, b, c⟩ := h
 refine ⟨fun d hd hg => ?_, by rw [b]; exact hf.2.1, by rw [c]; exact hf.2.2⟩
 obtain ⟨e, he, hs⟩ := a d hd
 exact hf.1 e he (hs g hg)
theorem zb.leave : zb x (x.leave g) := ⟨fun d hd => by
 obtain ⟨c, hc, rfl⟩ := List.mem_map.1 hd
 exact ⟨c, hc, fun q hq => by rw [za] at hq; exact (List.mem_filter.1 hq).1⟩, rfl, rfl⟩
theorem zb.received {s : Int} : zb x (x.received p v s) := by
 unfold Wd.received
 dsimp only
 split
 ·exact zb.leave (x := (x.bz v.g (pB p ((ay x v.g).wt.a + v.cs)).bS v.v).bz v.g _ _)
 ·exact zb.refl x
theorem vJ (hp : fN p) : ∀ (l : List Wt) (x : Wd), WV p x → x.ready.length + l.length ≤ 1000000 → (∀ v ∈ l, Vn x v) → vC p x l ∧ WV p (l.foldl (dN p) x) ∧ Wk x (l.foldl (dN p) x)
 | [], x, h, _, _ => ⟨trivial, h, Wk.refl x⟩
 | v :: l, x, h, hr, ha => by
  obtain ⟨h0, hg, h2⟩ := ha v (by simp)
  have kf : x.ready.length ≤ 1000000 := by simp only [List.length_cons] at hr; omega
  by_cases e : (ay x v.g).st = 2
  ·have RU : At x v.g 2 := ⟨h0, hg, e⟩
   have hne : (ay x v.g).wt.op ≠ 18 := by rcases h2 e with b | b; rw [b.1]; decide; rw [b.1]; decide
   have hw := h.received (v := { v with v := 0 }) RU hne (fun ur => by
    rcases h2 e with b | b
    ·exact b.2
    ·exact absurd b.1 ur) (s := 0)
   have hk : Wk x (x.received p { v with v := 0 } 0) := Wk.received (v := { v with v := 0 }) h0 hg (by rw [e]; decide)
   have es : dN p x v = x.received p { v with v := 0 } 0 := by unfold dN; rw [if_pos e]
   have hrd : (x.received p { v with v := 0 } 0).ready = x.ready ++ [v.g] := (lO (v := { v with v := 0 }) h0 hg).2
   obtain ⟨r1, r2, r3⟩ := vJ hp l (x.received p { v with v := 0 } 0) hw (by rw [hrd]; simp only [List.length_append, List.length_cons, List.length_nil] at *; omega) (fun w Ww => by
    obtain ⟨b0, b1, b2⟩ := ha w (List.mem_cons_of_mem _ Ww)
    refine ⟨b0, by rw [uG]; exact b1, fun Wl => ?_⟩
    by_cases ew : w.g = v.g
    ·rw [ew, (lO (v := { v with v := 0 }) h0 hg).1] at Wl; cases Wl
    ·rw [wL (v := { v with v := 0 }) h0 hg b0 ew] at Wl ⊢
     rcases b2 Wl with c | c
     ·exact .inl ⟨c.1, zb.received.free c.2⟩
     ·exact .inr c)
   refine ⟨⟨h.sm hp kf, h0, hg, fun _ => h.pC (v := { v with v := 0 }) hp RU ?_, by rw [es]; exact r1⟩, by rw [List.foldl_cons, es]; exact r2, by rw [List.foldl_cons, es]; exact hk.trans r3⟩
   rcases h2 e with b | b
   ·exact .inl b.1
   ·exact .inr b
  ·have es : dN p x v = x := by unfold dN; rw [if_neg e]
   obtain ⟨r1, r2, r3⟩ := vJ hp l x h (by simp only [List.length_cons] at hr; omega) (fun w Ww => ha w (List.mem_cons_of_mem _ Ww))
   exact ⟨⟨h.sm hp kf, h0, hg, fun Wl => absurd Wl e, by rw [es]; exact r1⟩, by rw [List.foldl_cons, es]; exact r2, by rw [List.foldl_cons, es]; exact r3⟩
def OpEnd (p : bZ) (x : Wd) : Out Wd → Prop
 | .eJ _ y => WV p y ∧ Wk x y
 | .on y => WV p y ∧ Wk x y
 | .dG _ _ => False
end
end Go.Proofs
namespace Go.Proofs
open Go.AF
set_option maxRecDepth 100000
set_option maxHeartbeats 1000000
attribute [local irreducible] aK cD fH bL aD fx aI aO bj aS bI aV
theorem IJ {l : List bC} {i : Nat} (h : i < l.length) : mY l i = l[i] := by
 unfold mY; rw [List.getD_eq_getElem?_getD, List.getElem?_eq_getElem h]; rfl
theorem s9 {l : List bC} {i j : Nat} (hi : i < l.length) (hj : j < l.length) : (eO l i j).Perm l := by
 unfold eO
 rw [IJ hi, IJ hj]
 exact List.set_set_perm hi hj
theorem zc : ∀ (f i : Nat) (l : List bC), i < l.length → (Ki f i l).Perm l
 | 0, _, l, _ => List.Perm.refl l
 | f + 1, i, l, h => by
  unfold Ki
  split
  ·exact (zc f _ _ (by rw [fm]; omega)).trans (s9 h (by omega))
  ·exact List.Perm.refl l
theorem zd : ∀ (f i : Nat) (l : List bC), i < l.length → (oc f i l).Perm l
 | 0, _, l, _ => List.Perm.refl l
 | f + 1, i, l, h => by
  unfold oc
  split
  ·exact List.Perm.refl l
  ·have := (BB h).1
   exact (zd f _ _ (by rw [fm]; exact this)).trans (s9 h this)
theorem ze {l : List bC} {x : bC} : (r9 l x).Perm (l ++ [x]) := zc _ _ _ (by simp)
theorem CW {l : List bC} {i : Nat} (h : i < l.length) : l.Perm (mY l i :: dV l i) := by
 have hn : l.length - 1 < l.length := by omega
 have h1 : (eO l i (l.length - 1)).Perm l := s9 h hn
 have NJ : (eO l i (l.length - 1))[l.length - 1]? = some (mY l i) := by
  unfold eO
  rw [List.getElem?_set_self (by rw [List.length_set]; exact hn)]
 have h2 : eO l i (l.length - 1) = (eO l i (l.length - 1)).take (l.length - 1) ++ [mY l i] := by
  have e : eO l i (l.length - 1) = (eO l i (l.length - 1)).take (l.length - 1 + 1) := by
   rw [List.take_of_length_le (by rw [fm]; omega)]
  conv => lhs; rw [e]
  rw [List.take_add_one, NJ]
  rfl
 have h3 : l.Perm (mY l i :: (eO l i (l.length - 1)).take (l.length - 1)) := by
  refine h1.symm.trans ?_
  rw [h2]
  have : (List.take (l.length - 1) (eO l i (l.length - 1)) ++ [mY l i]).take (l.length - 1) = (eO l i (l.length - 1)).take (l.length - 1) := by rw [← h2]
  rw [this]
  exact List.perm_append_comm
 unfold dV
 split
 ·rename_i hlt
  have hlen : ((eO l i (l.length - 1)).take (l.length - 1)).length = l.length - 1 := by rw [List.length_take, fm]; omega
  refine h3.trans (List.Perm.cons _ ?_)
  exact ((zc _ _ _ (by rw [ja, hlen]; exact hlt)).trans (zd _ _ _ (by rw [hlen]; exact hlt))).symm
 ·exact h3
theorem zf : ∀ (f : Nat) (l : List bC) (now : Int), l.Perm ((dO f l now).2 ++ (dO f l now).1)
 | 0, l, _ => by simp [dO]
 | f + 1, l, now => by
  unfold dO
  split
  ·rename_i h
   refine (CW h.1).trans ?_
   dsimp only
   exact List.Perm.cons _ (zf f _ now)
  ·simp
end Go.Proofs
namespace Go.Proofs
open Go.AF
set_option maxRecDepth 100000
set_option maxHeartbeats 1000000
attribute [local irreducible] aK cD fH bL aD fx aI aO bj aS bI aV
def ia (g : Int) (x y : Wd) : Prop := y.ready.Nodup ∧ g ∉ y.ready ∧ (∀ q ∈ y.ready, 0 ≤ q ∧ q < y.gs.length ∧ ¬ At x q 1 ∧ (ay y q).st = 1) ∧
 (∀ q, 0 ≤ q → q ≠ g → q ∉ y.ready → ay y q = ay x q) ∧ x.gs.length ≤ y.gs.length ∧ ∀ q : Int, x.gs.length ≤ q → q < y.gs.length → q ∈ y.ready
section
variable {p : bZ} {x y z : Wd} {g q k n : Int} {f : List cC} {i : cC} {v : Wt}
theorem ia.refl (hr : x.ready = []) : ia g x x := by
 refine ⟨by rw [hr]; exact List.nodup_nil, by rw [hr]; simp, fun q hq => ?_, fun _ _ _ _ => rfl, Nat.le_refl _, fun q a b => by omega⟩
 rw [hr] at hq; cases hq
theorem ia.of (h : Wk x y) (hr : x.ready = []) (hg : At x g 1) : ia g x y := by
 obtain ⟨a1, l, a2, a3, a4, a5⟩ := h
 rw [hr, List.nil_append] at a2
 rw [ia, a2]
 refine ⟨a3, fun hm => (a4 g hm).2.2.1 hg.2.2, fun q hq => ?_, fun q q0 _ hn => a5 q q0 hn, by omega, fun q b c => by omega⟩
 obtain ⟨b1, b2, b3, b4⟩ := a4 q hq
 exact ⟨b1, by omega, fun ha => b3 ha.2.2, b4⟩
theorem ia.Ku (h : ia g x y) (h1 : z.ready = y.ready) (h2 : z.gs.length = y.gs.length) (h3 : ∀ q, 0 ≤ q → q ≠ g → ay z q = ay y q) : ia g x z := by
 obtain ⟨a1, a2, a3, a4, a5, a6⟩ := h
 rw [ia, h1, h2]
 refine ⟨a1, a2, fun q hq => ?_, fun q q0 hne hn => by rw [h3 q q0 hne]; exact a4 q q0 hne hn, a5, a6⟩
 have hne : q ≠ g := fun e => a2 (e ▸ hq)
 obtain ⟨b1, b2, b3, b4⟩ := a3 q hq
 exact ⟨b1, b2, b3, by rw [h3 q b1 hne]; exact b4⟩
theorem ia.pre (h : ia g y z) (h2 : y.gs.length = x.gs.length) (h3 : ∀ q, 0 ≤ q → q ≠ g → ay y q = ay x q) : ia g x z := by
 obtain ⟨a1, a2, a3, a4, a5, a6⟩ := h
 refine ⟨a1, a2, fun q hq => ?_, fun q q0 hne hn => by rw [a4 q q0 hne hn, h3 q q0 hne], by omega, fun q a b => a6 q (by omega) b⟩
 have hne : q ≠ g := fun e => a2 (e ▸ hq)
 obtain ⟨b1, b2, b3, b4⟩ := a3 q hq
 exact ⟨b1, b2, fun ha => b3 ⟨ha.1, by rw [h2]; exact ha.2.1, by rw [h3 q b1 hne]; exact ha.2.2⟩, b4⟩
theorem ia.bS (h : ia g x y) (h0 : 0 ≤ g) (hg : g < y.gs.length) : ia g x (y.bz g q n) := h.Ku rfl bP fun m m0 hne => mO h0 hg m0 hne
theorem qE {w : iQ} (h0 : 0 ≤ g) (hg : g < x.gs.length) {m : Int} (m0 : 0 ≤ m) (hne : m ≠ g) : ay (x.bD g w) m = ay x m := by
 rw [gZ hg h0, if_neg (by omega)]
theorem ia.bD {w : iQ} (h : ia g x y) (h0 : 0 ≤ g) (hg : g < y.gs.length) : ia g x (y.bD g w) := h.Ku rfl (by simp [Wd.bD]) fun m m0 hne => qE h0 hg m0 hne
def gU (p : bZ) (g : Int) (x : Wd) : Out Wd → Prop
 | .eJ _ y => WV p y ∧ ia g x y
 | .on y => WV p y ∧ ia g x y
 | .dG _ _ => False
theorem gU.lt {r : Out Wd} (h : gU p g x r) (hg : At x g 1) : g < r.fin.gs.length := by
 cases r with
 | on y => have := h.2.2.2.2.2.1; have := hg.2.1; show g < y.gs.length; omega
 | eJ n y => have := h.2.2.2.2.2.1; have := hg.2.1; show g < y.gs.length; omega
 | dG l y => exact h.elim
theorem mN.xp (h : mN x g) : bY x.aE g = 0 ∧ gI x.aM g = 0 ∧ CU x.hl g = 0 :=
 ⟨uE.2 h.1, xJ.2 h.2.1, List.count_eq_zero.2 fun hm => by
  obtain ⟨y, hy, e⟩ := List.mem_map.1 hm
  exact h.2.2 y hy e⟩
theorem At.free (hg : At x g 1) (h : WV p x) : mN x g := h.free (by rw [hg.2.2]; decide) (by rw [hg.2.2]; decide)
theorem Qw (h : WV p x) (hg : At x g 1) (hi : jR p f i) (h9 : i.op = 9) (hr : x.ready = []) : (bp x g ∧ bg i.b) ∧ gU p g x (x.call g i) := by
 obtain ⟨_, _, _, _, _, i9, _⟩ := hi
 obtain ⟨a0, a1, b1, c1⟩ := i9 (.inl h9)
 have hz := h.jL hg.1 hg.2.1
 refine ⟨⟨h.bp hg.1 hg.2.1, b1⟩, ?_⟩
 unfold Wd.call
 split
 ·exact ⟨h, ia.refl hr⟩
 ·rename_i hn
  refine ⟨h.bD hg.1 hg.2.1 ⟨by simp, by simp; omega, fun r hr => ?_, hz.wt, hz.st⟩ rfl rfl, (ia.refl hr).bD hg.1 hg.2.1⟩
  rcases List.mem_append.1 hr with hr | hr
  ·exact hz.fr r hr
  ·simp only [List.mem_singleton] at hr; subst hr
   exact ⟨a0, a1, Int.le_refl 0, (by show (0 : Int) ≤ 64; decide), c1⟩
theorem Qx (h : WV p x) (hp : fN p) (hg : At x g 1) (hi : jR p f i) (h20 : i.op = 20) (hr : x.ready = []) : (bp x g ∧ bg i.a ∧ x.Sm) ∧ gU p g x (x.emit g i) := by
 obtain ⟨_, _, _, _, _, _, i10, _⟩ := hi
 refine ⟨⟨h.bp hg.1 hg.2.1, i10 (.inr (.inr (.inl h20))), h.sm hp (by rw [hr]; decide)⟩, ?_⟩
 unfold Wd.emit
 split
 ·exact ⟨h, ia.refl hr⟩
 ·rename_i hn
  exact ⟨h.congr rfl (fun _ => ⟨rfl, rfl⟩) h.EP rfl rfl rfl (by simp; omega), (ia.refl hr).Ku rfl rfl fun _ _ _ => rfl⟩
theorem Qy (h : WV p x) (hg : At x g 1) (hi : jR p f i) (h10 : i.op = 10) (hr : x.ready = []) : (bp x g ∧ bg i.a ∧ bg (ay x g).top.qH) ∧ gU p g x (.on (x.back g i)) := by
 obtain ⟨_, _, _, _, _, _, i10, _⟩ := hi
 have hz := h.jL hg.1 hg.2.1
 refine ⟨⟨h.bp hg.1 hg.2.1, i10 (.inl h10), hz.top.2.2.2.2⟩, ?_⟩
 have hf := hg.free h
 unfold Wd.back
 split
 ·rename_i h2
  refine ⟨h.bD hg.1 hg.2.1 ⟨by simp [iQ.back]; omega, by have := hz.l2; simp [iQ.back]; omega, fun r hr => ?_, hz.wt, hz.st⟩ rfl rfl, (ia.refl hr).bD hg.1 hg.2.1⟩
  rcases List.mem_or_eq_of_mem_set hr with hr | rfl
  ·exact hz.fr r (List.mem_of_mem_take hr)
  ·refine EO.set ?_ _ _
   rw [List.getD_eq_getElem?_getD, List.getElem?_eq_getElem (by omega), Option.getD_some]
   exact hz.fr _ (List.getElem_mem _)
 ·have hd : WV p (x.bD g { ay x g with st := 4 }) := h.IG hg.1 hg.2.1 hf (hz.N3 (by decide) (by decide))
  have RV : ia g x (x.bD g { ay x g with st := 4 }) := (ia.refl hr).bD hg.1 hg.2.1
  split
  ·exact ⟨hd.congr rfl (fun _ => ⟨rfl, rfl⟩) hd.EP rfl rfl rfl hd.out, RV.Ku rfl rfl fun _ _ _ => rfl⟩
  ·exact ⟨hd, RV⟩
theorem Qz (h : WV p x) (hp : fN p) (hg : At x g 1) (hf : f ∈ p.funcs) (hi : jR p f i) (Yn : i.op = 13) (hr : x.ready = []) :
  ((bp x g ∧ bg i.b ∧ oa p x i.a (bB x g i.b) ∧ uC x g i (x.put p i.a (bB x g i.b))) ∧ x.Sm) ∧ gU p g x (x.send p g i) := by
 have hi' := hi
 obtain ⟨_, _, _, _, _, _, _, i13, N7, _⟩ := hi'
 obtain ⟨a0, a1⟩ := i13 (.inl Yn)
 have hk : uw x i.a := ⟨a0, by rw [h.ch]; exact a1⟩
 obtain ⟨p1, p2⟩ := h.put (n := bB x g i.b) hp hk
 have N2 := h.bp hg.1 hg.2.1
 have hs := h.sm hp (by rw [hr]; decide)
 have hfr := hg.free h
 obtain ⟨c, hc, ec⟩ := ES hk
 have hm := List.mem_of_getElem? hc
 obtain ⟨s1, s2, s3⟩ := qc h hm
 unfold Wd.send
 generalize jj : x.put p i.a (bB x g i.b) = r at p2
 match r, p2 with
 | .eJ n y, p2 =>
  exact ⟨⟨⟨N2, N7 (.inl Yn), p1, trivial⟩, hs⟩, p2.1, ia.of (Wk.same p2.2.1 p2.2.2) hr hg⟩
 | .on (y, true), p2 =>
  exact ⟨⟨⟨N2, N7 (.inl Yn), p1, trivial⟩, hs⟩, p2.1, ia.of p2.2 hr hg⟩
 | .on (y, false), p2 =>
  have p3 : y = x := p2
  subst p3
  refine ⟨⟨⟨N2, N7 (.inl Yn), p1, N2, rfl, hk, by rw [ec]; exact ⟨by omega, by omega, by omega⟩⟩, hs⟩, ?_, ?_⟩
  ·have hb := h.block hg hf hi
   have eg : ay (y.block g i) g = { ay y g with st := 2, wt := i } := gE hg.1 hg.2.1
   show WV p ((y.block g i).b9 i.a { dL y.aE i.a with snd := (dL y.aE i.a).snd ++ [⟨g, 0, bB y g i.b⟩] })
   rw [ec]
   refine hb.more (c := c) (w := ⟨g, 0, bB y g i.b⟩) hc (h.buf c hm) (fun v hv => .inl hv) (fun v hv => ?_) (fun q => ?_) (fun _ => ?_) ?_
   ·rcases List.mem_append.1 hv with hv | hv
    ·exact .inl hv
    ·refine .inr ⟨by simpa using hv, ⟨hg.1, by simpa [Wd.block, Wd.bD] using hg.2.1, by rw [eg]⟩, .inl (by rw [eg]; exact Yn)⟩
   ·unfold cL
    simp only [List.map_append, List.map_cons, List.map_nil, List.count_append, List.count_cons, List.count_nil]
    by_cases e : q = g
    ·subst e; simp; omega
    ·rw [if_neg e]
     have : (g == q) = false := by simp; exact fun h => e h.symm
     simp [this]
   ·have := hfr.xp
    show bY y.aE g + gI y.aM g = 0
    omega
   ·have := hfr.xp
    show bY y.aE g < 32
    omega
  ·exact (ia.refl hr).Ku rfl (by simp [Wd.block, Wd.It, Wd.bD, Wd.b9]) fun m m0 hne => by
    show ay (y.bD g _) m = _
    exact qE hg.1 hg.2.1 m0 hne
 | .dG l y, p2 => exact p2.elim
end
end Go.Proofs
namespace Go.Proofs
open Go.AF
set_option maxRecDepth 100000
set_option maxHeartbeats 1000000
attribute [local irreducible] aK cD fH bL aD fx aI aO bj aS bI aV
section
variable {p : bZ} {x y z : Wd} {g q k n : Int} {f : List cC} {i : cC} {v : Wt}
theorem kV (l : List Int) (q g : Int) : (l ++ [g]).count q ≤ l.count q + (if q = g then 1 else 0) := by
 rw [List.count_append, List.count_cons, List.count_nil]
 by_cases e : q = g
 ·subst e; simp
 ·rw [if_neg e]
  have : (g == q) = false := by simp; exact fun h => e h.symm
  simp [this]
theorem QA (h : WV p x) (hp : fN p) (hg : At x g 1) (hf : f ∈ p.funcs) (hi : jR p f i) (ZI : i.op = 14) (hr : x.ready = []) :
  (vD x g i ∧ x.Sm) ∧ gU p g x (.on (x.recv g i)) := by
 have hi' := hi
 obtain ⟨_, _, _, _, _, _, _, i13, N7, i14, _⟩ := hi'
 obtain ⟨a0, a1⟩ := i13 (.inr (.inl ZI))
 have hk : uw x i.a := ⟨a0, by rw [h.ch]; exact a1⟩
 obtain ⟨p1, p2, p3, p4⟩ := h.get hp hk
 have N2 := h.bp hg.1 hg.2.1
 have hs := h.sm hp (by rw [hr]; decide)
 have hfr := hg.free h
 obtain ⟨c, hc, ec⟩ := ES hk
 have hm := List.mem_of_getElem? hc
 obtain ⟨s1, s2, s3⟩ := qc h hm
 have ek := p3.keep hg.1 hg.2.2
 have el := p3.1
 refine ⟨⟨⟨N2, N7 (.inr ZI), i14 (.inl ZI), p1, p2.bp hg.1 (by rw [el]; exact hg.2.1), by rw [ek], fun e => ?_⟩, hs⟩, ?_⟩
 ·rw [p4 e]
  exact ⟨hk, by rw [ec]; exact ⟨by omega, by omega, by omega⟩⟩
 ·unfold Wd.recv
  have RV : ia g x (x.get i.a).1 := ia.of p3 hr hg
  split
  ·have r1 := p2.bz (g := g) (q := i.b) (n := (x.get i.a).2.1) hg.1 (by rw [el]; exact hg.2.1)
   refine ⟨r1.bz hg.1 (by rw [bP, el]; exact hg.2.1), (RV.bS hg.1 (by rw [el]; exact hg.2.1)).bS hg.1 (by rw [bP, el]; exact hg.2.1)⟩
  ·rename_i e
   rw [p4 (by simpa using e)]
   have hb := h.block hg hf hi
   have eg : ay (x.block g i) g = { ay x g with st := 2, wt := i } := gE hg.1 hg.2.1
   refine ⟨?_, ?_⟩
   ·show WV p ((x.block g i).b9 i.a { dL x.aE i.a with en := (dL x.aE i.a).en ++ [⟨g, 0, 0⟩] })
    rw [ec]
    refine hb.more (c := c) (w := ⟨g, 0, 0⟩) hc (h.buf c hm) (fun v hv => ?_) (fun v hv => .inl hv) (fun q => ?_) (fun _ => ?_) ?_
    ·rcases List.mem_append.1 hv with hv | hv
     ·exact .inl hv
     ·exact .inr ⟨by simpa using hv, ⟨hg.1, by simpa [Wd.block, Wd.bD] using hg.2.1, by rw [eg]⟩, .inl (by rw [eg]; exact ZI)⟩
    ·unfold cL
     rw [List.map_append, ← List.append_assoc]
     exact kV _ _ _
    ·have := hfr.xp
     show bY x.aE g + gI x.aM g = 0
     omega
    ·have := hfr.xp
     show bY x.aE g < 32
     omega
   ·exact (ia.refl hr).Ku rfl (by simp [Wd.block, Wd.Iu, Wd.bD, Wd.b9]) fun m m0 hne => by
     show ay (x.bD g _) m = _
     exact qE hg.1 hg.2.1 m0 hne
theorem QB (h : WV p x) (hp : fN p) (hg : At x g 1) (hi : jR p f i) (h15 : i.op = 15) (hr : x.ready = []) :
  (nK p x i ∧ x.Sm) ∧ gU p g x (x.shut p i) := by
 have hi' := hi
 obtain ⟨_, _, _, _, _, _, _, i13, _⟩ := hi'
 obtain ⟨a0, a1⟩ := i13 (.inr (.inr h15))
 have hk : uw x i.a := ⟨a0, by rw [h.ch]; exact a1⟩
 have hs := h.sm hp (by rw [hr]; decide)
 obtain ⟨c, hc, ec⟩ := ES hk
 have hm := List.mem_of_getElem? hc
 obtain ⟨s1, s2, s3⟩ := qc h hm
 have hb := h.buf c hm
 have hrc := h.en c hm
 unfold nK Wd.shut
 rw [ec]
 obtain ⟨room, buf, snd, en, closed⟩ := c
 cases closed with
 | true =>
  refine ⟨⟨⟨hk, by dsimp only at *; omega, fun e => by simp [aX.close] at e⟩, hs⟩, ?_⟩
  simp only [aX.close, if_true]
  rw [nQ hc]
  exact ⟨h, ia.refl hr⟩
 | false =>
  have OQ : WV p (x.b9 i.a ⟨room, buf, [], [], true⟩) := h.less hc hb (fun v hv => by cases hv) (fun v hv => by cases hv) (fun q => by simp [cL])
  have N8 := vJ hp en (x.b9 i.a ⟨room, buf, [], [], true⟩) OQ (by show x.ready.length + en.length ≤ 1000000; rw [hr]; dsimp only [List.length_nil] at *; omega) (fun v hv => by
   obtain ⟨a, b⟩ := hrc v hv
   refine ⟨a.1, a.2.1, fun _ => ?_⟩
   rcases b with b | b
   ·refine .inl ⟨b, CV h hc a.1 a.2.2 (by rw [b]; decide) ?_⟩
    have : 0 < List.count v.g (cL ⟨room, buf, snd, en, false⟩) := List.count_pos_iff.2 (List.mem_append_right _ (List.mem_map.2 ⟨v, hv, rfl⟩))
    show List.count v.g (cL ⟨room, buf, [], [], true⟩) + 1 ≤ _
    simp only [cL, List.map_nil, List.append_nil, List.count_nil] at *
    omega
   ·exact .inr b)
  refine ⟨⟨⟨hk, by dsimp only at *; omega, fun _ _ => ?_⟩, hs⟩, ?_⟩
  ·simp only [aX.close, Bool.false_eq_true, if_false]
   exact N8.1
  ·simp only [aX.close, Bool.false_eq_true, if_false]
   rw [if_neg (by decide)]
   split
   ·exact ⟨OQ, (ia.refl hr).Ku rfl rfl fun _ _ _ => rfl⟩
   ·exact ⟨N8.2.1, ia.of (Wk.b9.trans N8.2.2) hr hg⟩
theorem N9 (h : WV p x) (hp : fN p) (hg : At x g 1) (hi : jR p f i) (h17 : i.op = 17) (hr : x.ready = []) :
  (bp x g ∧ bg i.a ∧ x.hl.length < 1000000) ∧ gU p g x (.on (x.sleep g i)) := by
 obtain ⟨_, _, _, _, _, _, i10, _⟩ := hi
 refine ⟨⟨h.bp hg.1 hg.2.1, i10 (.inr (.inl h17)), by have := h.IF; omega⟩, ?_⟩
 unfold Wd.sleep
 split
 ·have hf := hg.free h
  have hz := h.jL hg.1 hg.2.1
  have h1 := h.IG hg.1 hg.2.1 hf (hz.N3 (s := 3) (by decide) (by decide))
  have RV : ia g x (x.bD g { ay x g with st := 3 }) := (ia.refl hr).bD hg.1 hg.2.1
  refine ⟨⟨h1.n1, h1.n2, h1.EP, h1.ch, h1.lk, h1.buf, h1.en, h1.snd, h1.lw, fun w hw => ?_, h1.one, h1.CN, fun q => ?_, h1.out⟩, RV.Ku rfl rfl fun _ _ _ => rfl⟩
  ·have F8 := ze.mem_iff.1 hw
   rcases List.mem_append.1 F8 with F8 | F8
   ·exact h1.hl w F8
   ·simp only [List.mem_singleton] at F8; subst F8
    refine ⟨hg.1, by simpa [Wd.bD] using hg.2.1, ?_⟩
    show (ay (x.bD g { ay x g with st := 3 }) g).st = 3
    rw [gE hg.1 hg.2.1]
  ·show CU (r9 x.hl _) q ≤ 1
   unfold CU
   rw [(ze.map bC.id).count_eq, List.map_append, List.map_cons, List.map_nil]
   have a := kV (x.hl.map bC.id) q g
   have b := h.h1 q
   unfold CU at b
   by_cases e : q = g
   ·subst e
    have := hf.xp.2.2
    unfold CU at this
    rw [if_pos rfl] at a
    dsimp only at *
    omega
   ·rw [if_neg e] at a
    dsimp only at *
    omega
 ·exact ⟨h, ia.refl hr⟩
theorem RW (hk : CS x k) : ∃ c, x.aM[k.toNat]? = some c ∧ oK x k = c := by
 obtain ⟨k0, k1⟩ := hk
 obtain ⟨c, hc⟩ := aQ (l := x.aM) (i := k.toNat) (by omega)
 exact ⟨c, hc, by simp [oK, hc]⟩
theorem WV.G8 (h : WV p x) {c c' : Lk} (hc : x.aM[k.toNat]? = some c) (hr : ∀ v ∈ c'.waits, v ∈ c.waits) (hn : ∀ q, c'.waits.count q ≤ c.waits.count q) : WV p (x.gr k c') := by
 have hm : c ∈ x.aM := List.mem_of_getElem? hc
 refine ⟨h.n1, h.n2, h.EP, h.ch, by simpa [Wd.gr] using h.lk, h.buf, h.en, h.snd, fun d hd v hv => ?_, h.hl, fun q q0 hq => ?_, h.CN, h.h1, h.out⟩
 ·rcases ji hd with hd | rfl
  ·exact h.lw d hd v hv
  ·exact h.lw c hm v (hr v hv)
 ·have a := h.one q q0 hq
  have b := lN (fun l : Lk => l.waits.count q) x.aM k.toNat c' c hc
  have := hn q
  show bY x.aE q + gI (x.aM.set k.toNat c') q ≤ 1
  unfold gI at *
  omega
theorem QC (h : WV p x) (hp : fN p) (hg : At x g 1) (hf : f ∈ p.funcs) (hi : jR p f i) (RT : i.op = 18) (hr : x.ready = []) :
  (bp x g ∧ CS x i.a ∧ x.Sm) ∧ gU p g x (.on (x.lock g i)) := by
 have hi' := hi
 obtain ⟨_, _, _, _, _, _, _, _, _, _, _, i18, _⟩ := hi'
 obtain ⟨a0, a1⟩ := i18 (.inl RT)
 have hk : CS x i.a := ⟨a0, by rw [h.lk]; exact a1⟩
 refine ⟨⟨h.bp hg.1 hg.2.1, hk, h.sm hp (by rw [hr]; decide)⟩, ?_⟩
 obtain ⟨c, hc, ec⟩ := RW hk
 have hm := List.mem_of_getElem? hc
 have hfr := hg.free h
 unfold Wd.lock
 rw [ec]
 unfold Lk.take
 split
 ·dsimp only
  rw [if_pos rfl]
  exact ⟨h.G8 hc (fun v hv => hv) (fun q => Nat.le_refl _), (ia.refl hr).Ku rfl rfl fun _ _ _ => rfl⟩
 ·dsimp only
  rw [if_neg (by decide)]
  have hb := h.block hg hf hi
  have eg : ay (x.block g i) g = { ay x g with st := 2, wt := i } := gE hg.1 hg.2.1
  refine ⟨?_, ?_⟩
  ·show WV p ((x.block g i).gr i.a ⟨c.owner, c.waits ++ [g]⟩)
   refine ⟨hb.n1, hb.n2, hb.EP, hb.ch, by simpa [Wd.gr] using hb.lk, hb.buf, hb.en, hb.snd, fun d hd v hv => ?_, hb.hl, fun q q0 hq => ?_, hb.CN, hb.h1, hb.out⟩
   ·rcases ji hd with hd | rfl
    ·exact hb.lw d hd v hv
    ·rcases List.mem_append.1 hv with hv | hv
     ·exact hb.lw c hm v hv
     ·simp only [List.mem_singleton] at hv; subst hv
      exact ⟨⟨hg.1, by simpa [Wd.gr, Wd.block, Wd.bD] using hg.2.1, by show (ay (x.block v i) v).st = 2; rw [eg]⟩, by show (ay (x.block v i) v).wt.op = 18; rw [eg]; exact RT⟩
   ·have a := hb.one q q0 hq
    have b := lN (fun l : Lk => l.waits.count q) x.aM i.a.toNat ⟨c.owner, c.waits ++ [g]⟩ c hc
    have d := kV c.waits q g
    show bY x.aE q + gI (x.aM.set i.a.toNat _) q ≤ 1
    have a' : bY x.aE q + gI x.aM q ≤ 1 := a
    by_cases e : q = g
    ·subst e
     have := hfr.xp
     rw [if_pos rfl] at d
     unfold gI at *
     dsimp only at *
     omega
    ·rw [if_neg e] at d
     unfold gI at *
     dsimp only at *
     omega
  ·exact (ia.refl hr).Ku rfl (by simp [Wd.block, Wd.gr, Wd.bD]) fun m m0 hne => by
    show ay (x.bD g _) m = _
    exact qE hg.1 hg.2.1 m0 hne
theorem Kv (h : WV p x) (hp : fN p) (hg : At x g 1) (hi : jR p f i) (h19 : i.op = 19) (hr : x.ready = []) :
  (mK x g i ∧ x.Sm) ∧ gU p g x (x.unlock g i) := by
 have hi' := hi
 obtain ⟨_, _, _, _, _, _, _, _, _, _, _, i18, _⟩ := hi'
 obtain ⟨a0, a1⟩ := i18 (.inr h19)
 have hk : CS x i.a := ⟨a0, by rw [h.lk]; exact a1⟩
 have hs := h.sm hp (by rw [hr]; decide)
 obtain ⟨c, hc, ec⟩ := RW hk
 have hm := List.mem_of_getElem? hc
 have hw := h.lw c hm
 unfold mK Wd.unlock
 rw [ec]
 unfold Lk.rN
 split
 ·refine ⟨⟨⟨hk, fun e => absurd rfl e⟩, hs⟩, ?_⟩
  dsimp only
  rw [if_pos (by decide)]
  have e : x.gr i.a c = x := by unfold Wd.gr; rw [eI _ _ _ hc]
  rw [e]
  exact ⟨h, ia.refl hr⟩
 ·obtain ⟨o, ws⟩ := c
  cases ws with
  | nil =>
   refine ⟨⟨⟨hk, fun e => absurd rfl e⟩, hs⟩, ?_⟩
   split
   ·rename_i e; exact absurd rfl e
   ·split
    ·rename_i e; exact absurd rfl e
    ·exact ⟨h.G8 (c' := ⟨-1, []⟩) hc (fun v hv => by cases hv) (fun q => by simp), (ia.refl hr).Ku rfl rfl fun _ _ _ => rfl⟩
  | cons w ws =>
   obtain ⟨a, b⟩ := hw w (by simp)
   refine ⟨⟨⟨hk, fun _ => ⟨a.1, a.2.1⟩⟩, hs⟩, ?_⟩
   have hne : w ≠ -1 := by have := a.1; omega
   have hl : WV p (x.gr i.a ⟨w, ws⟩) := h.G8 hc (fun v hv => List.mem_cons_of_mem _ hv) (fun q => by simp only [List.count_cons]; omega)
   have hfr : mN (x.gr i.a ⟨w, ws⟩) w := by
    have o1 := h.one w a.1 (by rw [b]; decide)
    have s := lN (fun l : Lk => l.waits.count w) x.aM i.a.toNat ⟨w, ws⟩ ⟨o, w :: ws⟩ hc
    simp only [List.count_cons, beq_self_eq_true, if_true] at s
    have e1 : gI (x.aM.set i.a.toNat ⟨w, ws⟩) w = 0 := by unfold gI at *; omega
    have e2 : bY x.aE w = 0 := by
     have := y8 (fun l : Lk => l.waits.count w) x.aM ⟨o, w :: ws⟩ hm
     simp only [List.count_cons, beq_self_eq_true, if_true] at this
     unfold gI at *; omega
    refine ⟨uE.1 e2, xJ.1 e1, fun y hy e => ?_⟩
    have := (h.hl y hy).2.2
    rw [e, a.2.2] at this
    cases this
   have hres : gU p g x (.on ((x.gr i.a ⟨w, ws⟩).eY w)) := ⟨hl.eY a.1 a.2.1 hfr, ia.of (Wk.trans (Wk.same rfl rfl) (Wk.eY (x := x.gr i.a ⟨w, ws⟩) a.1 a.2.1 (by show (ay x w).st ≠ 1; rw [a.2.2]; decide))) hr hg⟩
   split
   ·rename_i e; exact absurd rfl e
   ·split
    ·exact hres
    ·rename_i e; exact absurd hne e
end
end Go.Proofs
namespace Go.Proofs
open Go.AF
set_option maxRecDepth 100000
set_option maxHeartbeats 1000000
attribute [local irreducible] aK cD fH bL aD fx aI aO bj aS bI aV
section
variable {p : bZ} {x y z : Wd} {g q k n : Int} {f : List cC} {i : cC} {v : Wt}
theorem kA {w : iQ} (h0 : 0 ≤ q) (hq : q < x.gs.length) : ay { x with gs := x.gs ++ [w] } q = ay x q := by
 unfold ay
 dsimp only
 rw [List.getD_eq_getElem?_getD, List.getD_eq_getElem?_getD, List.getElem?_append_left (by omega)]
theorem BF {w : iQ} : ay { x with gs := x.gs ++ [w] } (x.gs.length : Int) = w := by
 unfold ay
 dsimp only
 rw [Int.toNat_natCast, List.getD_eq_getElem?_getD, List.getElem?_append_right (Nat.le_refl _)]
 simp
theorem WV.spawn (h : WV p x) (hn : x.gs.length < 100) {w : iQ} (hw : oL p w) : WV p { x with gs := x.gs ++ [w] } := by
 have at_ : ∀ q s, At x q s → At { x with gs := x.gs ++ [w] } q s := fun q s ha => ⟨ha.1, by have := ha.2.1; simp; omega, by rw [kA ha.1 ha.2.1]; exact ha.2.2⟩
 refine ⟨by simp, by simp; omega, fun z hz => ?_, h.ch, h.lk, h.buf, fun c hc v hv => ?_, fun c hc v hv => ?_, fun l hl q hq => ?_, fun z hz => at_ _ _ (h.hl z hz), fun q q0 hq => ?_, h.CN, h.h1, h.out⟩
 ·rcases List.mem_append.1 hz with hz | hz
  ·exact h.EP z hz
  ·simp only [List.mem_singleton] at hz; subst hz; exact hw
 ·obtain ⟨a, b⟩ := h.en c hc v hv
  rw [kA a.1 a.2.1]
  exact ⟨at_ _ _ a, b⟩
 ·obtain ⟨a, b⟩ := h.snd c hc v hv
  rw [kA a.1 a.2.1]
  exact ⟨at_ _ _ a, b⟩
 ·obtain ⟨a, b⟩ := h.lw l hl q hq
  rw [kA a.1 a.2.1]
  exact ⟨at_ _ _ a, b⟩
 ·by_cases hlt : q < x.gs.length
  ·rw [kA q0 hlt] at hq
   exact h.one q q0 hq
  ·refine h.one q q0 ?_
   unfold ay
   rw [List.getD_eq_getElem?_getD, List.getElem?_eq_none (by omega)]
   decide
theorem Oa {w : iQ} : Wd.eY { x with gs := x.gs ++ [{ w with st := 0 }] } (x.gs.length : Int) = { x with gs := x.gs ++ [{ w with st := 1 }], ready := x.ready ++ [(x.gs.length : Int)] } := by
 unfold Wd.eY Wd.bD
 rw [BF]
 simp [List.set_append_right]
theorem Ob (h : WV p x) (hp : fN p) (hg : At x g 1) (hi : jR p f i) (h11 : i.op = 11) (hr : x.ready = []) : (bp x g ∧ bg i.b ∧ bg i.c ∧ x.Sm) ∧ gU p g x (x.spawn g i) := by
 obtain ⟨_, _, _, _, _, i9, _⟩ := hi
 obtain ⟨a0, a1, b1, c1⟩ := i9 (.inr h11)
 refine ⟨⟨h.bp hg.1 hg.2.1, b1, c1, h.sm hp (by rw [hr]; decide)⟩, ?_⟩
 unfold Wd.spawn
 split
 ·exact ⟨h, ia.refl hr⟩
 ·rename_i hn
  rw [Oa (w := ⟨0, [gD.begin i.a (bB x g i.b)], .zero⟩)]
  have hw : oL p ⟨1, [gD.begin i.a (bB x g i.b)], .zero⟩ := ⟨by simp, by simp, fun r hr => by
   simp only [List.mem_singleton] at hr; subst hr
   exact ⟨a0, a1, Int.le_refl 0, (by show (0 : Int) ≤ 64; decide), by show bg 0; decide⟩, (fun e => by cases e), by show (1 : Int) ≤ 1 ∧ (1 : Int) ≤ 4; decide⟩
  have h1 := (h.spawn (by omega) hw).ready (r := x.ready ++ [(x.gs.length : Int)])
  have hlen : g < (x.gs ++ [(⟨1, [gD.begin i.a (bB x g i.b)], .zero⟩ : iQ)]).length := by have := hg.2.1; simp; omega
  refine ⟨h1.bz hg.1 hlen, ?_⟩
  have RV : ia g x { x with gs := x.gs ++ [⟨1, [gD.begin i.a (bB x g i.b)], .zero⟩], ready := x.ready ++ [(x.gs.length : Int)] } := by
   rw [ia, hr]
   simp only [List.nil_append, List.length_append, List.length_cons, List.length_nil]
   refine ⟨by simp, by have := hg.2.1; simp; omega, fun q hq => ?_, fun q q0 _ hn => ?_, by omega, fun q a b => by simp; omega⟩
   ·simp only [List.mem_singleton] at hq; subst hq
    exact ⟨by omega, by omega, fun ha => by have := ha.2.1; omega, by show (ay { x with gs := x.gs ++ [_] } _).st = 1; rw [BF]⟩
   ·show ay { x with gs := x.gs ++ [_] } q = ay x q
    by_cases hlt : q < x.gs.length
    ·exact kA q0 hlt
    ·simp only [List.mem_singleton] at hn
     unfold ay
     dsimp only
     rw [List.getD_eq_getElem?_getD, List.getD_eq_getElem?_getD, List.getElem?_eq_none (by simp; omega), List.getElem?_eq_none (by omega)]
  exact RV.bS hg.1 hlen
theorem IK (h : WV p x) (hg : At x g 2) (ur : (ay x g).wt.op = 16) (hf : mN x g) {fE : List Int} {cases : List nZ} (hc : ∀ c ∈ cases, c.Ok x.aE.length) (hb : (cases.length : Int) ≤ (ay x g).wt.b) (h32 : cases.length ≤ 32) :
  ∀ j, j ≤ cases.length → WV p { x with aE := dZ g fE cases x.aE j } ∧ bY (dZ g fE cases x.aE j) g ≤ j
 | 0, _ => ⟨h, by show bY x.aE g ≤ 0; have := hf.xp; omega⟩
 | j + 1, hj => by
  obtain ⟨ih, ic⟩ := IK h hg ur hf (fE := fE) hc hb h32 j (by omega)
  obtain ⟨c, Da⟩ := aQ (l := cases) (i := j) (by omega)
  have ok := hc c (List.mem_of_getElem? Da)
  unfold dZ
  rw [Da]
  dsimp only
  unfold j0
  generalize hcs : dZ g fE cases x.aE j = cs at ih ic
  have hlen : cs.length = x.aE.length := by
   have a := ih.ch
   have b := h.ch
   dsimp only at a
   omega
  have key : ∀ d : aX, (c.way = 0 ∨ c.way = 1) → dL cs c.ch = d → ∀ d' : aX, d'.buf = d.buf → d'.room = d.room →
    ((∀ v ∈ d'.en, v ∈ d.en ∨ v = ⟨g, j, 0⟩) ∧ d'.snd = d.snd ∨ (∀ v ∈ d'.snd, v ∈ d.snd ∨ v = ⟨g, j, fE.getD c.bS.toNat 0⟩) ∧ d'.en = d.en) →
    (∀ q, (cL d').count q ≤ (cL d).count q + (if q = g then 1 else 0)) →
    WV p { x with aE := cs.set c.ch.toNat d' } ∧ bY (cs.set c.ch.toNat d') g ≤ j + 1 := by
   intro d Vo hd d' e1 e2 e3 hn
   obtain ⟨k0, k1, _⟩ := ok.2.2 (by rcases Vo with e | e <;> rw [e] <;> decide)
   obtain ⟨d2, OS⟩ := aQ (l := cs) (i := c.ch.toNat) (by omega)
   have : d2 = d := by rw [← hd]; simp [dL, OS]
   subst this
   have hm : d2 ∈ cs := List.mem_of_getElem? OS
   have Yo := ih.buf d2 hm
   refine ⟨?_, ?_⟩
   ·rcases e3 with ⟨e3, e4⟩ | ⟨e3, e4⟩
    ·exact ih.more (k := c.ch) (w := ⟨g, j, 0⟩) OS (by rw [e1, e2]; exact Yo) (fun v hv => by
      rcases e3 v hv with e | e
      ·exact .inl e
      ·exact .inr ⟨e, hg, .inr ⟨ur, by dsimp only; omega, by dsimp only; show (j : Int) < (ay x g).wt.b; omega⟩⟩) (fun v hv => .inl (by rw [← e4]; exact hv)) hn (fun e => absurd ur e) (by show bY cs g < 32; omega)
    ·exact ih.more (k := c.ch) (w := ⟨g, j, fE.getD c.bS.toNat 0⟩) OS (by rw [e1, e2]; exact Yo) (fun v hv => .inl (by rw [← e4]; exact hv)) (fun v hv => by
      rcases e3 v hv with e | e
      ·exact .inl e
      ·exact .inr ⟨e, hg, .inr ⟨ur, by dsimp only; omega, by dsimp only; show (j : Int) < (ay x g).wt.b; omega⟩⟩) hn (fun e => absurd ur e) (by show bY cs g < 32; omega)
   ·have a := lN (fun c : aX => (cL c).count g) cs c.ch.toNat d' d2 OS
    have b := hn g
    rw [if_pos rfl] at b
    unfold bY at *
    omega
  split
  ·rename_i hw
   refine key _ (.inl hw) rfl _ rfl rfl (.inl ⟨fun v hv => ?_, rfl⟩) (fun q => ?_)
   ·rcases List.mem_append.1 hv with hv | hv
    ·exact .inl hv
    ·exact .inr (by simpa using hv)
   ·unfold cL
    rw [List.map_append, ← List.append_assoc]
    exact kV _ _ _
  ·split
   ·rename_i hw
    refine key _ (.inr hw) rfl _ rfl rfl (.inr ⟨fun v hv => ?_, rfl⟩) (fun q => ?_)
    ·rcases List.mem_append.1 hv with hv | hv
     ·exact .inl hv
     ·exact .inr (by simpa using hv)
    ·unfold cL
     have := kV ((dL cs c.ch).snd.map Wt.g) q g
     simp only [List.map_append, List.map_cons, List.map_nil, List.count_append] at *
     omega
   ·exact ⟨ih, by omega⟩
end
end Go.Proofs
namespace Go.Proofs
open Go.AF
set_option maxRecDepth 100000
set_option maxHeartbeats 1000000
attribute [local irreducible] aK cD fH bL aD fx aI aO bj aS bI aV
section
variable {p : bZ} {x y z : Wd} {g q k n : Int} {f : List cC} {i : cC} {v : Wt} {d : jz}
theorem oL.QD {w : iQ} (h : oL p w) (Am : w.top.pc + 1 ≤ 64) : oL p (w.cH w.top.next) :=
 h.cH ⟨h.top.1, h.top.2.1, by have := h.top.2.2.1; show 0 ≤ w.top.pc + 1; omega, Am, h.top.2.2.2.2⟩
theorem WV.next (h : WV p x) (hg : At x g 1) (Am : (ay x g).top.pc + 1 ≤ 64) : WV p (x.next g) ∧ At (x.next g) g 1 ∧ (x.next g).gs.length = x.gs.length ∧ (∀ q, 0 ≤ q → q ≠ g → ay (x.next g) q = ay x q) ∧ (ay (x.next g) g).fs.length = (ay x g).fs.length := by
 have hz := (h.jL hg.1 hg.2.1).QD Am
 have e : ay (x.next g) g = (ay x g).cH (ay x g).top.next := gE hg.1 hg.2.1
 refine ⟨h.bD hg.1 hg.2.1 hz rfl rfl, ⟨hg.1, by simpa [Wd.next, Wd.bD] using hg.2.1, by rw [e]; exact hg.2.2⟩, by simp [Wd.next, Wd.bD], fun q q0 hne => qE hg.1 hg.2.1 q0 hne, by rw [e]; simp [iQ.cH]⟩
theorem BG {c : nZ} (h : c ∈ aG p i) : c ∈ p.cases := List.mem_of_mem_drop (List.mem_of_mem_take h)
theorem ET {cases : List nZ} {cs : List aX} (h : k ∈ enabled cases cs) : ∃ (j : Nat) (c : nZ), k = (j : Int) ∧ j < cases.length ∧ cases[j]? = some c ∧ can cs c = true := by
 unfold enabled Cp at h
 obtain ⟨j, hj, rfl⟩ := List.mem_map.1 h
 obtain ⟨h1, h2⟩ := List.mem_filter.1 hj
 rw [List.mem_range] at h1
 obtain ⟨c, hc⟩ := aQ (l := cases) (i := j) (by omega)
 unfold Mn at h2
 rw [hc] at h2
 exact ⟨j, c, rfl, h1, hc, h2⟩
theorem Kw (h : WV p x) (hp : fN p) (hg : At x g 1) (hf : f ∈ p.funcs) (hi : jR p f i) (ur : i.op = 16) (hr : x.ready = []) (Am : (ay x g).top.pc + 1 ≤ 64)
  (hd : ∀ v, d = .num v → enabled (aG p i) x.aE ≠ [] → 0 ≤ v ∧ v < (enabled (aG p i) x.aE).length) :
  mL p x g i d = true ∧ (gU p g x (x.choose p g i d) ∨ ∃ l, d = .dG l ∧ x.choose p g i d = .dG l x) := by
 have hi' := hi
 obtain ⟨_, _, _, _, _, _, _, _, _, i14, i16, _⟩ := hi'
 have hc := i14 (.inr ur)
 obtain ⟨a0, b1, ab⟩ := i16 ur
 have hcs := hp.cs
 have N2 := h.bp hg.1 hg.2.1
 have hs := h.sm hp (by rw [hr]; decide)
 obtain ⟨n1, n2, n3, n4, n5⟩ := h.next hg Am
 have Qn := (h.jL hg.1 hg.2.1).top.2.2.1
 have OQ : (aG p i).length = i.b.toNat := by
  unfold aG
  rw [List.length_take, List.length_drop]; omega
 have Vp : ∀ c ∈ aG p i, c.Ok x.aE.length := fun c hc => by rw [h.ch]; exact (hp.cas c (BG hc)).1
 have hne1 : (x.next g).aE = x.aE := rfl
 have RX : ∀ k, k ∈ enabled (aG p i) x.aE → y6 p x g i k ∧ gU p g x (x.pY p g i k) := by
  intro k hk
  obtain ⟨j, c, rfl, hj, Da, hcan⟩ := ET hk
  have hm : c ∈ aG p i := List.mem_of_getElem? Da
  have ZJ := (hp.cas c (BG hm)).2
  have hok := Vp c hm
  have ec : (aG p i).getD (j : Int).toNat ⟨0, 0, 0⟩ = c := by rw [Int.toNat_natCast, List.getD_eq_getElem?_getD, Da]; rfl
  have Vo : c.way = 0 ∨ c.way = 1 := by
   unfold can at hcan
   split at hcan
   ·rename_i e; exact .inl e
   ·split at hcan
    ·rename_i e; exact .inr e
    ·cases hcan
  obtain ⟨k0, k1, _⟩ := hok.2.2 (by rcases Vo with e | e <;> rw [e] <;> decide)
  have hk1 : uw (x.next g) c.ch := ⟨k0, k1⟩
  unfold y6 Wd.pY
  rw [ec]
  dsimp only
  by_cases hw : c.way = 1
  ·rw [if_pos hw, if_pos hw]
   obtain ⟨p1, p2⟩ := n1.put (n := bB (x.next g) g c.bS) hp hk1
   generalize (x.next g).put p c.ch (bB (x.next g) g c.bS) = r at p2
   match r, p2 with
   | .eJ n y, p2 => exact ⟨⟨by omega, by omega, ZJ, p1, trivial⟩, p2.1, (ia.of (Wk.same p2.2.1 p2.2.2) hr n2).pre n3 n4⟩
   | .on (y, true), p2 =>
    have ek := p2.2.keep hg.1 n2.2.2
    have el : g < y.gs.length := by rw [p2.2.1, n3]; exact hg.2.1
    exact ⟨⟨by omega, by omega, ZJ, p1, p2.1.bp hg.1 el, by rw [ek, n5]⟩, p2.1.bz hg.1 el, ((ia.of p2.2 hr n2).pre n3 n4).bS hg.1 el⟩
   | .on (y, false), p2 =>
    have p3 : y = x.next g := p2
    subst p3
    have el : g < (x.next g).gs.length := by rw [n3]; exact hg.2.1
    exact ⟨⟨by omega, by omega, ZJ, p1, n1.bp hg.1 el, n5⟩, n1.bz hg.1 el, ((ia.refl (x := x.next g) hr).pre n3 n4).bS hg.1 el⟩
   | .dG l y, p2 => exact p2.elim
  ·rw [if_neg hw, if_neg hw]
   obtain ⟨p1, p2, p3, _⟩ := n1.get hp hk1
   have ek := p3.keep hg.1 n2.2.2
   have el : g < ((x.next g).get c.ch).1.gs.length := by rw [p3.1, n3]; exact hg.2.1
   have r1 := p2.bz (g := g) (q := c.bS) (n := ((x.next g).get c.ch).2.1) hg.1 el
   exact ⟨⟨by omega, by omega, ZJ, p1, p2.bp hg.1 el, by rw [ek, n5]⟩, r1.bz hg.1 (by rw [bP]; exact el), (((ia.of p3 hr n2).pre n3 n4).bS hg.1 el).bS hg.1 (by rw [bP]; exact el)⟩
 refine ⟨?_, ?_⟩
 ·unfold mL
  rw [Bool.and_eq_true]
  refine ⟨decide_eq_true ⟨N2, ⟨a0, by omega, ab, by omega⟩, hc, hs, by omega, Qn, Vp⟩, ?_⟩
  cases d with
  | dG l => rfl
  | num v =>
   dsimp only
   cases he : enabled (aG p i) x.aE with
   | nil => rfl
   | cons q t =>
    rw [List.isEmpty_cons, Bool.false_or]
    obtain ⟨v0, v1⟩ := hd v rfl (by rw [he]; simp)
    rw [he] at v1
    refine decide_eq_true ⟨v0, v1, (RX _ ?_).1⟩
    rw [he, List.getD_eq_getElem?_getD, List.getElem?_eq_getElem (by omega), Option.getD_some]
    exact List.getElem_mem _
 ·unfold Wd.choose
  split
  ·refine .inl ?_
   unfold Wd.sY
   dsimp only
   split
   ·exact ⟨n1.bz hg.1 (by rw [n3]; exact hg.2.1), ((ia.refl (x := x.next g) hr).pre n3 n4).bS hg.1 (by rw [n3]; exact hg.2.1)⟩
   ·have hb := n1.block n2 hf hi
    have eg : ay ((x.next g).block g i) g = { ay (x.next g) g with st := 2, wt := i } := gE hg.1 (by rw [n3]; exact hg.2.1)
    have hfr := n2.free n1
    have hw := (IK (x := (x.next g).block g i) hb ⟨hg.1, by simpa [Wd.block, Wd.bD, n3] using hg.2.1, by rw [eg]⟩ (by rw [eg]; exact ur) hfr (fE := uA (ay (x.next g) g).top) (cases := aG p i) Vp (by rw [eg, OQ]; show ((i.b.toNat : Nat) : Int) ≤ i.b; omega) (by omega) (aG p i).length (Nat.le_refl _)).1
    refine ⟨hw, ((ia.refl (x := x.next g) hr).pre n3 n4).Ku rfl (by simp [Wd.block, Wd.bD]) fun m m0 hne => ?_⟩
    show ay ((x.next g).bD g _) m = _
    exact qE hg.1 (by rw [n3]; exact hg.2.1) m0 hne
  ·rename_i hne
   cases d with
   | num v =>
    refine .inl (RX _ ?_).2
    obtain ⟨v0, v1⟩ := hd v rfl hne
    rw [List.getD_eq_getElem?_getD, List.getElem?_eq_getElem (by omega), Option.getD_some]
    exact List.getElem_mem _
   | dG l => exact .inr ⟨l, rfl, rfl⟩
theorem Oc (h : WV p x) (hp : fN p) (h0 : 0 ≤ g) (hd : ∀ v kd n, d = .num v → asks p { x with ready := [] } g = some (kd, n) → 0 ≤ v ∧ v < n) :
  ∃ r rest, uD p x g d = some (r, rest) ∧ (gU p g { x with ready := [] } r ∧ (wJ { x with ready := [] } g ∨ r = .on { x with ready := [] } ∧ rest = true) ∨ ∃ l, d = .dG l ∧ r = .dG l { x with ready := [] } ∧ rest = false ∧ wJ { x with ready := [] } g ∧ asks p { x with ready := [] } g ≠ none) := by
 have h := h.ready (r := [])
 generalize hx : ({ x with ready := [] } : Wd) = x' at h hd
 have hr : x'.ready = [] := by rw [← hx]
 unfold uD
 rw [hx]
 dsimp only
 split
 ·rename_i Od
  have hg : At x' g 1 := ⟨Od.1, Od.2.1, Od.2.2.2⟩
  have hz := h.jL hg.1 hg.2.1
  obtain ⟨t1, t2, t3, t4, t5⟩ := hz.top
  rw [if_pos ⟨h.bp hg.1 hg.2.1, t1, t3, by omega⟩]
  obtain ⟨code, mJ⟩ := aQ (l := p.funcs) (i := (ay x' g).top.fn.toNat) (by omega)
  rw [mJ]
  dsimp only
  have hf : code ∈ p.funcs := List.mem_of_getElem? mJ
  obtain ⟨c1, c2, c3⟩ := hp.code code hf
  cases Vq : code[(ay x' g).top.pc.toNat]? with
  | none => exact ⟨_, _, rfl, .inl ⟨⟨h, ia.refl hr⟩, .inl Od⟩⟩
  | some i =>
   dsimp only
   have hi : jR p code i := c3 i (List.mem_of_getElem? Vq)
   have hi' := hi
   obtain ⟨o0, o1, o2, o7, o8, o9, o10, o13, o13b, o14, o16, o18, o21⟩ := hi'
   have Y9 := (List.getElem?_eq_some_iff.1 Vq).1
   have Am : (ay x' g).top.pc + 1 ≤ 64 := by omega
   obtain ⟨n1, n2, n3, n4, n5⟩ := h.next hg Am
   have xI : (x'.next g).ready = [] := hr
   have xj : asks p x' g = if i.op = 21 then some (4, i.b) else if i.op = 16 then (if enabled (aG p i) x'.aE = [] then none else some (3, (enabled (aG p i) x'.aE).length)) else none := by
    unfold asks EN
    rw [if_pos Od, mJ]
    dsimp only
    rw [Vq]
   have fin : ∀ {r : Out Wd}, gU p g (x'.next g) r → gU p g x' r := by
    intro r hres
    cases r with
    | on y => exact ⟨hres.1, hres.2.pre n3 n4⟩
    | eJ n y => exact ⟨hres.1, hres.2.pre n3 n4⟩
    | dG l y => exact hres.elim
   split
   ·rename_i h8
    try rw [if_pos o2]
    refine ⟨_, _, rfl, .inl ⟨⟨h.bD hg.1 hg.2.1 (hz.cH ?_) rfl rfl, (ia.refl hr).bD hg.1 hg.2.1⟩, .inl Od⟩⟩
    unfold gD.pure
    have base : EO p (ay x' g).top.next := ⟨t1, t2, by show 0 ≤ (ay x' g).top.pc + 1; omega, Am, t5⟩
    split; exact base
    split; exact base.set _ _
    split; exact base.set _ _
    split; exact base.set _ _
    split; exact base.set _ _
    split; exact base.set _ _
    split; exact base.set _ _
    split
    ·rename_i e
     exact ⟨t1, t2, (o7 e).1, by have := (o7 e).2; show i.a ≤ 64; omega, t5⟩
    ·split
     ·have := o8 (by omega)
      exact ⟨t1, t2, this.1, by show i.b ≤ 64; omega, t5⟩
     ·exact base
   ·rename_i h8
    split
    ·rename_i ur
     have hw := Kw (d := d) h hp hg hf hi ur hr Am (fun v hv hne => by
      refine hd v 3 _ hv ?_
      rw [xj, if_neg (by omega), if_pos ur, if_neg hne])
     rw [if_pos hw.1]
     rcases hw.2 with F8 | ⟨l, Cg, F8⟩
     ·rw [if_pos (F8.lt hg)]
      exact ⟨_, _, rfl, .inl ⟨F8, .inl Od⟩⟩
     ·rw [F8, if_pos (show g < (Out.fin (.dG l x')).gs.length from hg.2.1)]
      refine ⟨_, _, rfl, .inr ⟨l, Cg, rfl, rfl, Od, ?_⟩⟩
      rw [xj, if_neg (by omega), if_pos ur]
      split
      ·rename_i e
       unfold Wd.choose at F8
       rw [if_pos e] at F8
       cases F8
      ·simp
    ·rename_i ur
     split
     ·rename_i Yj
      rw [if_pos (o10 (.inr (.inr (.inr Yj))))]
      cases d with
      | num v =>
       have hl : g < (x'.next g).gs.length := by rw [n3]; exact hg.2.1
       have hres : gU p g x' (x'.rand g i (.num v)) := ⟨n1.bz hg.1 hl, ((ia.refl (x := x'.next g) hr).pre n3 n4).bS hg.1 hl⟩
       rw [if_pos (hres.lt hg)]
       exact ⟨_, _, rfl, .inl ⟨hres, .inl Od⟩⟩
      | dG l =>
       rw [if_pos (show g < (Out.fin (x'.rand g i (.dG l))).gs.length from hg.2.1)]
       exact ⟨_, _, rfl, .inr ⟨l, rfl, rfl, rfl, Od, by rw [xj, if_pos Yj]; simp⟩⟩
     ·rename_i Yj
      have go : ∀ r, nO p (x'.next g) g i = some r → gU p g (x'.next g) r → ∃ r rest, (match nO p (x'.next g) g i with
        | none => none
        | some r => if g < r.fin.gs.length then some (r, GY i.op r) else none) = some (r, rest) ∧ (gU p g x' r ∧ (wJ x' g ∨ r = .on x' ∧ rest = true) ∨ ∃ l, d = .dG l ∧ r = .dG l x' ∧ rest = false ∧ wJ x' g ∧ asks p x' g ≠ none) := by
       intro r Qj hres
       rw [Qj]
       dsimp only
       rw [if_pos (hres.lt n2)]
       exact ⟨_, _, rfl, .inl ⟨fin hres, .inl Od⟩⟩
      have hop : i.op = 9 ∨ i.op = 10 ∨ i.op = 11 ∨ i.op = 12 ∨ i.op = 13 ∨ i.op = 14 ∨ i.op = 15 ∨ i.op = 17 ∨ i.op = 18 ∨ i.op = 19 ∨ i.op = 20 ∨ i.op = 22 := by omega
      rcases hop with e | e | e | e | e | e | e | e | e | e | e | e
      ·have w := Qw n1 n2 hi e xI
       refine go _ ?_ w.2
       unfold nO
       rw [e]; simp only [Int.reduceEq, if_false, if_true]
       rw [if_pos w.1]
      ·have w := Qy n1 n2 hi e xI
       refine go _ ?_ w.2
       unfold nO
       rw [e]; simp only [if_true]
       rw [if_pos w.1]
      ·have w := Ob n1 hp n2 hi e xI
       refine go _ ?_ w.2
       unfold nO
       rw [e]; simp only [Int.reduceEq, if_false, if_true]
       rw [if_pos w.1]
      ·refine go (.on (x'.next g)) ?_ ⟨n1, ia.refl xI⟩
       unfold nO
       rw [e]; simp only [Int.reduceEq, if_false, if_true]
      ·have w := Qz n1 hp n2 hf hi e xI
       refine go _ ?_ w.2
       unfold nO
       rw [e]; simp only [Int.reduceEq, if_false, if_true]
       rw [if_pos w.1]
      ·have w := QA n1 hp n2 hf hi e xI
       refine go _ ?_ w.2
       unfold nO
       rw [e]; simp only [Int.reduceEq, if_false, if_true]
       rw [if_pos w.1]
      ·have w := QB n1 hp n2 hi e xI
       refine go _ ?_ w.2
       unfold nO
       rw [e]; simp only [Int.reduceEq, if_false, if_true]
       rw [if_pos w.1]
      ·have w := N9 n1 hp n2 hi e xI
       refine go _ ?_ w.2
       unfold nO
       rw [e]; simp only [Int.reduceEq, if_false, if_true]
       rw [if_pos w.1]
      ·have w := QC n1 hp n2 hf hi e xI
       refine go _ ?_ w.2
       unfold nO
       rw [e]; simp only [Int.reduceEq, if_false, if_true]
       rw [if_pos w.1]
      ·have w := Kv n1 hp n2 hi e xI
       refine go _ ?_ w.2
       unfold nO
       rw [e]; simp only [Int.reduceEq, if_false, if_true]
       rw [if_pos w.1]
      ·have w := Qx n1 hp n2 hi e xI
       refine go _ ?_ w.2
       unfold nO
       rw [e]; simp only [Int.reduceEq, if_false, if_true]
       rw [if_pos w.1]
      ·refine go (.eJ i.a (x'.next g)) ?_ ⟨n1, ia.refl xI⟩
       unfold nO
       rw [e]; simp only [Int.reduceEq, if_false, if_true]
 ·exact ⟨_, _, rfl, .inl ⟨⟨h, ia.refl hr⟩, .inr ⟨rfl, rfl⟩⟩⟩
end
end Go.Proofs
namespace Go.Proofs
open Go.AF
set_option maxRecDepth 100000
set_option maxHeartbeats 1000000
attribute [local irreducible] aK cD fH bL aD fx aI aO bj aS bI aV
section
variable {p : bZ} {x y z : Wd} {g q k n : Int}
theorem BH : ∀ (l : List Int) (x : Wd), WV p x → l.Nodup → (∀ q ∈ l, 0 ≤ q ∧ q < x.gs.length ∧ (ay x q).st ≠ 1 ∧ mN x q) → WV p (l.foldl Wd.eY x) ∧ Wk x (l.foldl Wd.eY x) ∧ (l.foldl Wd.eY x).ready = x.ready ++ l
 | [], x, h, _, _ => ⟨h, Wk.refl x, by simp⟩
 | q :: l, x, h, hn, ha => by
  obtain ⟨q0, q1, q2, q3⟩ := ha q (by simp)
  obtain ⟨Qa, xX⟩ := List.nodup_cons.1 hn
  obtain ⟨r1, r2, r3⟩ := BH l (x.eY q) (h.eY q0 q1 q3) xX (fun m hm => by
   obtain ⟨m0, m1, m2, m3⟩ := ha m (List.mem_cons_of_mem _ hm)
   have hne : m ≠ q := fun e => Qa (e ▸ hm)
   exact ⟨m0, by rw [mP]; exact m1, by rw [qD q0 q1 m0 hne]; exact m2, m3⟩)
  refine ⟨r1, (Wk.eY q0 q1 q2).trans r2, ?_⟩
  rw [List.foldl_cons, r3]
  show (x.ready ++ [q]) ++ l = _
  simp
def Is (x : Wd) : List Int := (dO x.hl.length x.hl (IntKind.wrap .u64 (x.clock + 1))).2.map bC.id
theorem QE (he : x.end_ = 0) : x.tick = (Is x).foldl Wd.eY { x with clock := IntKind.wrap .u64 (x.clock + 1), hl := (dO x.hl.length x.hl (IntKind.wrap .u64 (x.clock + 1))).1, ready := [] } := by
 unfold Wd.tick
 rw [if_neg (by rw [he]; decide)]
 rfl
theorem QF (h : WV p x) : (∀ y ∈ (dO x.hl.length x.hl (IntKind.wrap .u64 (x.clock + 1))).2, 0 ≤ y.id ∧ y.id < x.gs.length) ∧ WV p x.tick ∧ Wk { x with ready := [] } x.tick ∧ x.tick.ready.length ≤ 100 := by
 generalize hr : dO x.hl.length x.hl (IntKind.wrap .u64 (x.clock + 1)) = r
 have hp : x.hl.Perm (r.2 ++ r.1) := by rw [← hr]; exact zf _ _ _
 have m2 : ∀ y ∈ r.2, y ∈ x.hl := fun y hy => hp.mem_iff.2 (List.mem_append_left _ hy)
 have m1 : ∀ y ∈ r.1, y ∈ x.hl := fun y hy => hp.mem_iff.2 (List.mem_append_right _ hy)
 have hc : ∀ q, (r.2.map bC.id).count q + (r.1.map bC.id).count q ≤ 1 := fun q => by
  have a := h.h1 q
  unfold CU at a
  rw [(hp.map bC.id).count_eq, List.map_append, List.count_append] at a
  exact a
 refine ⟨fun y hy => ⟨(h.hl y (m2 y hy)).1, (h.hl y (m2 y hy)).2.1⟩, ?_⟩
 by_cases he : x.end_ = 0
 ·rw [QE he]
  unfold Is
  rw [hr]
  have h1 : WV p { x with clock := IntKind.wrap .u64 (x.clock + 1), hl := r.1, ready := [] } :=
   ⟨h.n1, h.n2, h.EP, h.ch, h.lk, h.buf, h.en, h.snd, h.lw, fun y hy => h.hl y (m1 y hy), h.one, h.CN, fun q => by have := hc q; unfold CU; dsimp only; omega, h.out⟩
  have hnd : (r.2.map bC.id).Nodup := List.nodup_iff_count.2 fun q => by have := hc q; omega
  obtain ⟨r1, r2, r3⟩ := BH (r.2.map bC.id) { x with clock := IntKind.wrap .u64 (x.clock + 1), hl := r.1, ready := [] } h1 hnd (fun q hq => by
   obtain ⟨y, hy, rfl⟩ := List.mem_map.1 hq
   have a := h.hl y (m2 y hy)
   refine ⟨a.1, a.2.1, by show (ay x y.id).st ≠ 1; rw [a.2.2]; decide, fun c Wh hg => ?_, fun l hl hg => ?_, fun w hw e => ?_⟩
   ·have := (h.Qu Wh hg).1.2.2
    rw [a.2.2] at this; cases this
   ·have := (h.lw l hl _ hg).1.2.2
    rw [a.2.2] at this; cases this
   ·have b := hc y.id
    have c1 : 0 < (r.2.map bC.id).count y.id := List.count_pos_iff.2 hq
    have c2 : 0 < (r.1.map bC.id).count y.id := List.count_pos_iff.2 (List.mem_map.2 ⟨w, hw, e⟩)
    omega)
  refine ⟨r1, Wk.trans (Wk.same rfl rfl) r2, ?_⟩
  rw [r3]
  have a := h.IF
  have b := hp.length_eq
  simp only [List.length_append, List.length_map, List.nil_append] at *
  omega
 ·have e : x.tick = { x with ready := [] } := by unfold Wd.tick; rw [if_pos he]
  rw [e]
  exact ⟨h.ready, Wk.refl _, by simp⟩
theorem Vr (hp : fN p) : WV p (Wd.new p) := by
 have e : ∀ q, ay (Wd.new p) q = if q.toNat = 0 then ⟨1, [gD.begin 0 0], .zero⟩ else ⟨0, [], .zero⟩ := by
  intro q
  unfold ay Wd.new
  dsimp only
  split
  ·rename_i e; rw [e]; rfl
  ·rename_i e
   rw [List.getD_eq_getElem?_getD, List.getElem?_eq_none (by simp; omega)]; rfl
 have xE : ∀ c ∈ (Wd.new p).aE, ∃ n, c = aX.new n := fun c hc => by
  obtain ⟨n, _, rfl⟩ := List.mem_map.1 hc
  exact ⟨n, rfl⟩
 have hlk : ∀ l ∈ (Wd.new p).aM, l.waits = [] := fun l hl => by
  have := List.eq_of_mem_replicate hl
  rw [this]
 have z1 : ∀ q, bY (Wd.new p).aE q = 0 := fun q => qb _ _ fun c hc => by
  obtain ⟨n, rfl⟩ := xE c hc
  rfl
 have z2 : ∀ q, gI (Wd.new p).aM q = 0 := fun q => qb _ _ fun l hl => by rw [hlk l hl]; rfl
 refine ⟨by simp [Wd.new], by simp [Wd.new], fun y hy => ?_, by simp [Wd.new], by (simp [Wd.new]; have := hp.lk.1; omega), fun c hc => ?_, fun c hc v hv => ?_, fun c hc v hv => ?_, fun l hl q hq => ?_, fun y hy => by simp [Wd.new] at hy, fun q _ _ => by rw [z1, z2]; omega, fun q => by rw [z1]; omega, fun q => by simp [CU, Wd.new], by simp [Wd.new]⟩
 ·simp only [Wd.new, List.mem_singleton] at hy
  subst hy
  refine ⟨by simp, by simp, fun r hr => ?_, (fun e => by cases e), by show (1 : Int) ≤ 1 ∧ (1 : Int) ≤ 4; decide⟩
  simp only [List.mem_singleton] at hr; subst hr
  exact ⟨Int.le_refl 0, by have := hp.f1; show (0 : Int) < _; omega, Int.le_refl 0, (by show (0 : Int) ≤ 64; decide), by show bg 0; decide⟩
 ·obtain ⟨n, rfl⟩ := xE c hc
  exact ⟨Nat.zero_le _, LS n⟩
 ·obtain ⟨n, rfl⟩ := xE c hc
  cases hv
 ·obtain ⟨n, rfl⟩ := xE c hc
  cases hv
 ·rw [hlk l hl] at hq; cases hq
end
end Go.Proofs
namespace Go.Proofs
open Go.AF
set_option maxRecDepth 100000
set_option maxHeartbeats 1000000
attribute [local irreducible] aK cD fH bL aD fx aI aO bj aS bI aV
def G9 (y : iQ) : Bool := y.st == 1 || y.st == 3
def Wd.stuck (x : Wd) : Bool := x.end_ == 0 && !(x.gs.any G9)
section
variable {R : Mem} {L L' L2 : List HP} {M : Mem} {K : Value → Mem → Prop} {Kp : List PanicEntry → Mem → Prop} {pa : PA} {p : bZ} {b : Nat} {x : Wd} {g : Int}
theorem EU (h : Hp R L M) [o : Iz b L pa p x L'] (hs : x.gs.length ≤ 1000000) (k : K (.bool x.stuck) M) : ae Tryz.prog 44 #[.pointer (some ⟨b, 0, none⟩)] M K Kp := by
 refine pI ?_
 unfold Wd.stuck at k
 have h' := eF h (b := b)
 clear h
 obtain ⟨a, gg, dr, n, hl, h⟩ := h'
 have hl' := hl
 obtain ⟨l1, l2, l3, l4⟩ := hl'
 refine aJ h ?_
 refine de.2 ⟨fun he => ?_, fun he => ?_⟩
 ·rw [show (x.end_ == 0) = false from by simpa using he, Bool.false_and] at k
  exact k
 rw [show (x.end_ == 0) = true from by simpa using he, Bool.true_and] at k
 refine aR h ?_
 refine ⟨fun d vs M' => ∃ j : Nat, vs = [.int .i64 (j : Int)] ∧ d = x.gs.length - j ∧ j ≤ x.gs.length ∧ (x.gs.take j).any G9 = false ∧ M' = M, ⟨_, 0, rfl, rfl, by omega, rfl, rfl⟩, ?_⟩
 rintro d _ nn M' ⟨j, wH, hd, hj, ha, rfl⟩
 simp only [List.cons.injEq, Value.int.injEq, and_true, true_and] at wH
 subst wH
 refine aP.2 ⟨fun hlt => ?_, fun hge => ?_⟩
 ·obtain ⟨gb, fM⟩ := aQ (l := a.gb) (i := j) (by omega)
  obtain ⟨ga, Vi⟩ := aQ (l := gg) (i := j) (by omega)
  obtain ⟨y, hy⟩ := aQ (l := x.gs) (i := j) (by omega)
  have NW : M'.ld ⟨gb, 0, none⟩ = some (.int .i64 y.st) := by
   have h9 := mH (b := gb) (h.cY fQ fM (nJ hy Vi))
   exact aj h9
  refine ⟨by omega, by omega, ?_⟩
  refine uO h fM fun q hq => ?_
  refine br ?_
  rw [NW]
  refine cE ?_
  have hym := List.mem_of_getElem? hy
  refine aZ.2 ⟨fun e1 => ?_, fun e1 => ?_⟩
  ·have : x.gs.any G9 = true := List.any_eq_true.2 ⟨y, hym, by simp [G9, e1]⟩
   rw [this] at k
   exact k
  refine br ?_
  rw [NW]
  refine cE ?_
  refine aZ.2 ⟨fun e3 => ?_, fun e3 => ?_⟩
  ·have : x.gs.any G9 = true := List.any_eq_true.2 ⟨y, hym, by simp [G9, e3]⟩
   rw [this] at k
   exact k
  refine ⟨x.gs.length - (j + 1), by omega, j + 1, by rw [aT (by omega)], rfl, by omega, ?_, rfl⟩
  rw [cq hy, List.any_append, ha]
  simp [G9, e1, e3]
 ·have xu : j = x.gs.length := by omega
  subst xu
  rw [List.take_length] at ha
  rw [ha] at k
  exact k
end
end Go.Proofs
