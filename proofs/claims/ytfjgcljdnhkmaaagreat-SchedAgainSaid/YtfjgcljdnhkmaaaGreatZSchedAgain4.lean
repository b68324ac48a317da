/- A part of proofs about one program. -/
import Derived.ChangeArms
import Derived.Deep.Slices
import Derived.OpenShut
import Derived.Recover
import Derived.Scope
import Derived.Test.YtfjgcljdnhkmaaaGreatProg
import Derived.WalkKit
import Derived.Test.YtfjgcljdnhkmaaaGreatZSchedAgainBase
import Derived.Test.YtfjgcljdnhkmaaaGreatZSchedAgainOps
import Derived.Test.YtfjgcljdnhkmaaaGreatZSchedAgainOpsB
import Derived.Test.YtfjgcljdnhkmaaaGreatZSchedAgainOpC
import Derived.Test.YtfjgcljdnhkmaaaGreatZSchedAgainFrame
import Derived.Test.YtfjgcljdnhkmaaaGreatZSchedAgainReg
import Derived.Test.YtfjgcljdnhkmaaaGreatZSchedAgainRegB
import Derived.Test.YtfjgcljdnhkmaaaGreatZSchedAgainRegL
import Derived.Test.YtfjgcljdnhkmaaaGreatZSchedAgainRegC
import Derived.Test.YtfjgcljdnhkmaaaGreatZSchedAgainExec
import Derived.Test.YtfjgcljdnhkmaaaGreatZSchedAgainSound
import Derived.Test.YtfjgcljdnhkmaaaGreatZSchedAgainSoundB
import Derived.Test.YtfjgcljdnhkmaaaGreatZSchedAgainLib
import Derived.Test.YtfjgcljdnhkmaaaGreatZSchedAgainHp
import Derived.Test.YtfjgcljdnhkmaaaGreatZSchedAgainRow
import Derived.Test.YtfjgcljdnhkmaaaGreatZSchedAgainBig
import Derived.Test.YtfjgcljdnhkmaaaGreatZSchedAgainStC
import Derived.Test.YtfjgcljdnhkmaaaGreatZSchedAgainMod
import Derived.Test.YtfjgcljdnhkmaaaGreatZSchedAgainOpen
import Derived.Test.YtfjgcljdnhkmaaaGreatZSchedAgainArgs
import Derived.Test.YtfjgcljdnhkmaaaGreatZSchedAgainDefer
import Derived.Test.YtfjgcljdnhkmaaaGreatZSchedAgainDefer2
import Derived.Test.YtfjgcljdnhkmaaaGreatZSchedAgainAgg
import Derived.Test.YtfjgcljdnhkmaaaGreatZSchedAgain0
import Derived.Test.YtfjgcljdnhkmaaaGreatZSchedAgain1
import Derived.Test.YtfjgcljdnhkmaaaGreatZSchedAgain2
import Derived.Test.YtfjgcljdnhkmaaaGreatZSchedAgain3
set_option linter.unusedVariables false
namespace Go.Proofs
open Go.AF
set_option maxRecDepth 100000
set_option maxHeartbeats 1000000
attribute [local irreducible] aK cJ fJ bO aD fz aG aO be aS bJ aV
def yz : gp (Option Addr × Nat × Nat) := ⟨1, fun t => [.slice t.1 t.2.1 t.2.2], fun _ => rfl, fun w v hv => by simp only [List.mem_singleton] at hv; subst hv; rfl⟩
structure kF (R : Mem) (pa : PA) (p : b6) : Prop where
 funcs : ∃ ts : List (Option Addr × Nat × Nat), RS yz R pa.f pa.fc ts ∧ ts.length = p.funcs.length ∧ ∀ (i : Nat) t f, ts[i]? = some t → p.funcs[i]? = some f → RS jm R t.1 t.2.2 f ∧ t.2.1 = f.length
 cases : RS iB R pa.k pa.kc p.cases
theorem kF.le {R R' : Mem} {pa : PA} {p : b6} (h : kF R pa p) (hle : R.le R') : kF R' pa p := by
 obtain ⟨⟨ts, h1, h2, h3⟩, h4⟩ := h
 exact ⟨⟨ts, h1.le hle, h2, fun i t f a b => ⟨(h3 i t f a b).1.le hle, (h3 i t f a b).2⟩⟩, h4.le hle⟩
def Wd.next (x : Wd) (g : Int) : Wd := x.bF g ((au x g).cN (au x g).top.next)
def Ti (n : Int) : List PanicEntry := [{ v := .iface 256 (.int .i64 n), recovered := false }]
def gf (R : Mem) (pa : PA) (p : b6) (dr : Value) (fnum : Nat) (x : Wd) (g : Int) (i : cI) (r : Out Wd) (L L2 : List HP) : Prop :=
 ∀ (gg : List GA) (b bs c : Nat) (M : Mem) (K : Value → Mem → Prop) (Kp : List PanicEntry → Mem → Prop) (Q : HP), Hp R (aB (bB pa p gg dr) b x :: Q :: L) M → gg[g.toNat]? = some (some ⟨bs, 0, none⟩, c) →
  Out.Ok r (fun y => ∀ l9 M', Hp R (aB (bB pa p l9 dr) b y :: Q :: L2) M' → K (.tuple #[]) M') (fun n y => ∀ l9 M', Hp R (aB (bB pa p l9 dr) b y :: Q :: L2) M' → Kp (Ti n) M') (fun l y => ∀ l9 M', Hp R (aB (bB pa p l9 dr) b y :: Q :: L2) M' → Kp l M') →
  aa Tryz.prog fnum #[.pointer (some ⟨b, 0, none⟩), .int .i64 g, .pointer (some ⟨bs, ((au x g).fs.length - 1) * 11, none⟩), .agg #[.int .i64 i.op, .int .i64 i.a, .int .i64 i.b, .int .i64 i.c]] M K Kp
theorem Out.Ok.mono {α : Type} {r : Out α} {k1 k1' : α → Prop} {k2 k2' : Int → Wd → Prop} {k3 : List PanicEntry → Wd → Prop} (h : r.Ok k1 k2 k3) (h1 : ∀ y, k1 y → k1' y) (h2 : ∀ n y, k2 n y → k2' n y) : r.Ok k1' k2' := by
 cases r with
 | on y => exact h1 y h
 | eR n y => exact h2 n y h
 | cO l y => trivial
section
variable {R : Mem} {L L' L2 : List HP} {M : Mem} {K : Value → Mem → Prop} {Kp : List PanicEntry → Mem → Prop} {pa : PA} {p : b6} {gg : List GA} {dr : Value} {b : Nat} {x : Wd} {g : Int} {i : cI}
theorem Rw (hp : kF R pa p) (hk : H6 p x g i) (hs : x.Sm) : gf R pa p dr 165 x g i (x.send p g i) L L := fun gg b bs c M K Kp Q h eY k =>
 H7 h hp.cases eY hk hs (k.mono (fun y hy M' h' => hy gg M' h') (fun n y hy M' h' => hy gg M' h'))
theorem Rx (hk : wE x g i) (hs : x.Sm) : gf R pa p dr 166 x g i (.on (x.recv g i)) L L := fun gg b bs c M K Kp Q h eY k =>
 H8 h eY hk hs fun M' h' => k gg M' h'
theorem Ry (hg : bp x g) (ha : bh i.a) (hs : x.Sm) : gf R pa p dr 171 x g i (x.emit g i) L L := fun gg b bs c M K Kp Q h eY k =>
 H9 h eY hg ha hs (k.mono (fun y hy M' h' => hy gg M' h') (fun n y hy M' h' => hy gg M' h'))
theorem Pa (hg : bp x g) (hb : bh i.b) (hc : bh i.c) (hs : x.Sm) : gf R pa p dr 163 x g i (x.spawn g i) L L := fun gg b bs c M K Kp Q h eY k =>
 Fw h eY hg hb hc hs (k.mono (fun y hy => hy) (fun n y hy M' h' => hy gg M' h'))
theorem Rz (hp : kF R pa p) (hk : oq p x i) (hs : x.Sm) : gf R pa p dr 167 x g i (x.shut p i) L L := fun gg b bs c M K Kp Q h eY k =>
 Ib (f := .nilFunc) h hp.cases hk hs (k.mono (fun y hy M' h' => hy gg M' h') (fun n y hy M' h' => hy gg M' h'))
def WL : AL := [(9, .func (.func 161) #[] #[]), (10, .func (.func 162) #[] #[]), (11, .func (.func 163) #[] #[]), (12, .func (.func 164) #[] #[]), (13, .func (.func 165) #[] #[]), (14, .func (.func 166) #[] #[]), (15, .func (.func 167) #[] #[]), (17, .func (.func 168) #[] #[]), (18, .func (.func 169) #[] #[]), (19, .func (.func 170) #[] #[]), (20, .func (.func 171) #[] #[]), (22, .func (.func 172) #[] #[])]
theorem FF (h : Hp R L M) (k : ∀ m M', Hp R (ob m (dY WL) :: L) M' → K (.map (some m)) M') : aa Tryz.prog 124 #[] M K Kp := by
 refine zh ?_
 refine Jb h ?_
 clear h
 intro m M h
 replace h : Hp R (ob m (dY []) :: L) M := h
 have hu : Tryz.prog.underlying 261 = some (.map 32 260) := by kernel_rfl
 have hk : Tryz.prog.underlying 32 = some (.int .i64) := by kernel_rfl
 iterate 12
  refine lY h hu hk ?_
  clear h
  intro M h
 exact k _ _ h
end
theorem zW {α β : Type} : ∀ {l : List α} {m : List β} {i : Nat} {u : α} {v : β}, (l.zip m).set i (u, v) = (l.set i u).zip (m.set i v)
 | [], _, _, _, _ => by simp
 | a :: l, [], i, u, v => by simp
 | a :: l, w :: m, 0, u, v => rfl
 | a :: l, w :: m, i + 1, u, v => by
  have := zW (l := l) (m := m) (i := i) (u := u) (v := v)
  simp [this]
theorem sx {x : Wd} {g : Int} (h0 : 0 ≤ g) (h1 : g < x.gs.length) : x.bF g (au x g) = x := by
 obtain ⟨y, hy⟩ := aR (l := x.gs) (i := g.toNat) (by omega)
 have e : au x g = y := by simp [au, hy]
 rw [e]
 obtain ⟨hi, rfl⟩ := List.getElem?_eq_some_iff.1 hy
 simp [Wd.bF]
section
variable {R : Mem} {L L' L2 : List HP} {M : Mem} {K : Value → Mem → Prop} {Kp : List PanicEntry → Mem → Prop} {pa : PA} {p : b6} {gg : List GA} {dr : Value} {b : Nat} {x : Wd} {g : Int} {i : cI}
theorem RA (hg : bp x g) (ha : bh i.a) (hin : bh (au x g).top.rm) : gf R pa p dr 162 x g i (.on (x.back g i)) L L := by
 intro gg b bs c M K Kp Q h eY k
 refine rF ?_
 replace k : ∀ l9 M', Hp R (aB (bB pa p l9 dr) b (x.back g i) :: Q :: L) M' → K (.tuple #[]) M' := k
 have yy := hg
 obtain ⟨h0, h1, h2, h3⟩ := yy
 unfold Wd.back at k
 refine aq h ?_
 clear h
 intro kb M h
 have h' := gP h (b := b) h0 h1 eY
 clear h
 obtain ⟨a, gb, hl, fX, h⟩ := h'
 have hl' := hl
 obtain ⟨l1, l2, l3, l4⟩ := hl'
 repeat (first | (refine aq h ?_; clear h; intro kb M h) | (refine av h ?_; clear h; intro M h) | refine St.to h ?_ | (apply Exists.intro; (repeat apply Exists.intro); refine And.intro rfl ?_) | (refine And.intro ?_ ?_; first | exact rfl | ((repeat (refine ay (aA h) ?_)); exact ae) | omega) | refine ai ?_ | refine aj ?_)
 refine vz h fX fun q hq => ?_
 repeat (first | (refine aq h ?_; clear h; intro kb M h) | (refine av h ?_; clear h; intro M h) | refine St.to h ?_ | (apply Exists.intro; (repeat apply Exists.intro); refine And.intro rfl ?_) | (refine And.intro ?_ ?_; first | exact rfl | ((repeat (refine ay (aA h) ?_)); exact ae) | omega) | refine ai ?_ | refine aj ?_)
 refine ⟨ha.1, ha.2, uV h (eJ h2) ha rfl ?_⟩
 refine DH h h2 (by omega) (eJ h2) hin ?_ ?_
 ·intro hlt
  rw [if_neg (by omega)] at k
  refine ⟨_, _, _, _, rfl, aj ?_⟩
  repeat (first | (refine aq h ?_; clear h; intro kb M h) | (refine av h ?_; clear h; intro M h) | refine St.to h ?_ | (apply Exists.intro; (repeat apply Exists.intro); refine And.intro rfl ?_) | (refine And.intro ?_ ?_; first | exact rfl | ((repeat (refine ay (aA h) ?_)); exact ae) | omega) | refine ai ?_ | refine aj ?_)
  refine vz h fX fun q2 ny => ?_
  repeat (first | (refine aq h ?_; clear h; intro kb M h) | (refine av h ?_; clear h; intro M h) | refine St.to h ?_ | (apply Exists.intro; (repeat apply Exists.intro); refine And.intro rfl ?_) | (refine And.intro ?_ ?_; first | exact rfl | ((repeat (refine ay (aA h) ?_)); exact ae) | omega) | refine ai ?_ | refine aj ?_)
  refine aY.2 ⟨fun e0 => ?_, fun e0 => ?_⟩
  ·rw [if_pos e0] at k
   repeat (first | (refine aq h ?_; clear h; intro kb M h) | (refine av h ?_; clear h; intro M h) | refine St.to h ?_ | (apply Exists.intro; (repeat apply Exists.intro); refine And.intro rfl ?_) | (refine And.intro ?_ ?_; first | exact rfl | ((repeat (refine ay (aA h) ?_)); exact ae) | omega) | refine ai ?_ | refine aj ?_)
   replace h := cU h gb hl fX eY
   have jD := dy (y := { au x g with st := 4 }) (g := g) hl
   replace h := bj (a := a) (p := p) (pa := pa) (dr := dr) (gg := gg) (x := { x.bF g { au x g with st := 4 } with end_ := 1 }) jD h b
   exact k _ _ h.b7
  ·rw [if_neg e0] at k
   replace h := cU h gb hl fX eY
   have jD := dy (y := { au x g with st := 4 }) (g := g) hl
   replace h := bj (a := a) (p := p) (pa := pa) (dr := dr) (gg := gg) (x := x.bF g { au x g with st := 4 }) jD h b
   exact k _ _ h.b7
 ·intro hge b' c' M' fr hfr h'
  clear h
  have h := h'
  clear h'
  rw [if_pos hge] at k
  refine ⟨_, _, _, _, rfl, ai ?_⟩
  repeat (first | (refine aq h ?_; clear h; intro kb M h) | (refine av h ?_; clear h; intro M h) | refine St.to h ?_ | (apply Exists.intro; (repeat apply Exists.intro); refine And.intro rfl ?_) | (refine And.intro ?_ ?_; first | exact rfl | ((repeat (refine ay (aA h) ?_)); exact ae) | omega) | refine ai ?_ | refine aj ?_)
  refine vz h fX fun q2 ny => ?_
  repeat (first | (refine aq h ?_; clear h; intro kb M h) | (refine av h ?_; clear h; intro M h) | refine St.to h ?_ | (apply Exists.intro; (repeat apply Exists.intro); refine And.intro rfl ?_) | (refine And.intro ?_ ?_; first | exact rfl | ((repeat (refine ay (aA h) ?_)); exact ae) | omega) | refine ai ?_ | refine aj ?_)
  have hlen : (au x g).fs.length - 1 = (((au x g).fs.take ((au x g).fs.length - 1)).set ((au x g).fs.length - 2) (fr.set (au x g).top.rm (bC x g i.a))).length := by simp
  have hfr2 : (au x g).fs.getD ((au x g).fs.length - 2) ⟨0, 0, [], 0⟩ = fr := by rw [List.getD_eq_getElem?_getD, hfr]; rfl
  have h5 := ng (A := some ⟨b', 0, none⟩) (fs := ((au x g).fs.take ((au x g).fs.length - 1)).set ((au x g).fs.length - 2) (fr.set (au x g).top.rm (bC x g i.a))) h gb hlen
  have hi := (List.getElem?_eq_some_iff.1 fX).1
  have h6 := h5.eu fZ gb fX (by rw [List.length_zip]; omega)
  rw [zW] at h6
  have jD : fj (gg.set g.toNat (some ⟨b', 0, none⟩, c')) a (x.bF g ((au x g).back (bC x g i.a))) := ⟨by simpa [Wd.bF] using l1, by simpa [Wd.bF] using l2, l3, l4⟩
  have e : (au x g).back (bC x g i.a) = ⟨(au x g).st, ((au x g).fs.take ((au x g).fs.length - 1)).set ((au x g).fs.length - 2) (fr.set (au x g).top.rm (bC x g i.a)), (au x g).wt⟩ := by
   unfold jh.back; rw [hfr2]
  rw [e] at jD k
  have h7 := bj (a := a) (p := p) (pa := pa) (dr := dr) (gg := gg.set g.toNat (some ⟨b', 0, none⟩, c')) (x := x.bF g ⟨(au x g).st, ((au x g).fs.take ((au x g).fs.length - 1)).set ((au x g).fs.length - 2) (fr.set (au x g).top.rm (bC x g i.a)), (au x g).wt⟩) jD h6 b
  exact k _ _ (h7.sub bz)
end
def Out.fin : Out Wd → Wd
 | .on y => y
 | .eR n y => { y with end_ := 2, code := n }
 | .cO _ y => y
def Ij (op : Int) : Out Wd → Bool
 | .on _ => op == 12 || op == 17
 | .eR _ _ => false
 | .cO _ _ => false
inductive Step (R : Mem) (pa : PA) (p : b6) (dr : Value) (x : Wd) (g : Int) (code : List cI) : Out Wd → Bool → List HP → List HP → Prop where
 | out {L : List HP} (h : (code.length : Int) ≤ (au x g).top.pc) : Step R pa p dr x g code (.eR (-7) x) false L L
 | pure {L : List HP} (i : cI) (h : code[(au x g).top.pc.toNat]? = some i) (h0 : 0 ≤ i.op) (h8 : i.op ≤ 8) (hk : i.cG) : Step R pa p dr x g code (.on (x.bF g ((au x g).cN ((au x g).top.next.pure i)))) false L L
 | DK {L L2 : List HP} {r : Out Wd} (i : cI) (h : code[(au x g).top.pc.toNat]? = some i) (tI : i.op = 16) (hs : gf R pa p dr 122 x g i r L L2) : Step R pa p dr x g code r false L L2
 | WM {L L2 : List HP} {r : Out Wd} (i : cI) (h : code[(au x g).top.pc.toNat]? = some i) (WN : i.op = 21) (hs : gf R pa p dr 123 x g i r L L2) : Step R pa p dr x g code r false L L2
 | dflt {L L2 : List HP} {r : Out Wd} (i : cI) (fn : Nat) (h : code[(au x g).top.pc.toNat]? = some i) (h8 : 8 < i.op) (tI : i.op ≠ 16) (WN : i.op ≠ 21) (hf : zL WL i.op = some (.func (.func fn) #[] #[])) (hn : 1 < fn ∧ fn < 228)
   (hs : gf R pa p dr fn (x.next g) g i r L L2) : Step R pa p dr x g code r (Ij i.op r) L L2
section
variable {R : Mem} {L L' L2 : List HP} {M : Mem} {K : Value → Mem → Prop} {Kp : List PanicEntry → Mem → Prop} {pa : PA} {p : b6} {gg : List GA} {dr : Value} {b : Nat} {x : Wd} {g : Int} {i : cI}
theorem WO {c bs j : Nat} {l : List gM} {f : gM} {G : Int → Prop} (h : Hp R L M) [q : cL (some ⟨bs, 0, none⟩) L gM jn 234 c l L'] (hi : l[j]? = some f) (g : G f.fn) : aK (M.ld ⟨bs, j * 11, none⟩) .i64 G := by
 refine aZ (Src.at (h.src (A := some ⟨bs, 0, none⟩)) h (i := j) (j := 0) hi rfl ?_) g
 show _ = 0 + (j * 11 + 0); omega
theorem DL {n : Int} {v : Value} {Q : HP} (h : Hp R (aB (bB pa p gg dr) b x :: Q :: L) M) (k : ∀ M', Hp R (aB (bB pa p gg dr) b { x with end_ := 2, code := n } :: L) M' → K v M') :
  cE Tryz.prog 119 (.pointer (some ⟨b, 0, none⟩)) K Kp v (.panicking (Ti n)) M := by
 refine HO ?_
 have h' := cy h (b := b)
 clear h
 obtain ⟨a, hl, h⟩ := h'
 repeat (first | (refine aq h ?_; clear h; intro kb M h) | (refine av h ?_; clear h; intro M h) | refine St.to h ?_ | (apply Exists.intro; (repeat apply Exists.intro); refine And.intro rfl ?_) | (refine And.intro ?_ ?_; first | exact rfl | ((repeat (refine ay (aA h) ?_)); exact ae) | omega) | refine ai ?_ | refine aj ?_)
 exact k _ (jO (a := a) (x := { x with end_ := 2, code := n }) hl (h.sub bz))
theorem yA {k : Nat} {bw : Nat} (h : Hp R L M) [o : jU k L [.int .i64 i.op, .int .i64 i.a, .int .i64 i.b, .int .i64 i.c] 34 L'] (g : K (.bool (i.op == 12 || i.op == 17)) M) :
  aK (M.ld ⟨k, 0, none⟩) .i64 fun n => aV (n == 12) (cE Tryz.prog 119 (.pointer (some ⟨bw, 0, none⟩)) K Kp (.bool true) .returning M)
   (aK (M.ld ⟨k, 0, none⟩) .i64 fun n => cE Tryz.prog 119 (.pointer (some ⟨bw, 0, none⟩)) K Kp (.bool (n == 17)) .returning M) := by
 have hp := h.pick o.pick
 refine aH hp ?_
 refine aY.2 ⟨fun e => ?_, fun e => ?_⟩
 ·rw [e] at g; exact Fj g
 ·refine aH hp ?_
  have : (i.op == 12) = false := by simpa using e
  rw [this, Bool.false_or] at g
  exact Fj g
def Pb (R : Mem) (pa : PA) (p : b6) (dr : Value) (b : Nat) (L2 : List HP) (K : Value → Mem → Prop) (Kp : List PanicEntry → Mem → Prop) (r : Out Wd) (rest : Bool) : Prop := match r with
 | .cO l y => ∀ l9 M', Hp R (aB (bB pa p l9 dr) b y :: L2) M' → cE Tryz.prog 119 (.pointer (some ⟨b, 0, none⟩)) K Kp (.bool false) (.panicking l) M'
 | .on y => ∀ l9 M', Hp R (aB (bB pa p l9 dr) b y :: L2) M' → K (.bool rest) M'
 | .eR n y => ∀ l9 M', Hp R (aB (bB pa p l9 dr) b { y with end_ := 2, code := n } :: L2) M' → K (.bool rest) M'
theorem FG {code : List cI} {r : Out Wd} {rest : Bool} (h : Hp R L M) [o : wC b L pa p gg dr x L'] (hp : kF R pa p) (hg : bp x g) (hfn : 0 ≤ (au x g).top.fn) (nh : p.funcs[(au x g).top.fn.toNat]? = some code)
  (Bt : 0 ≤ (au x g).top.pc ∧ (au x g).top.pc < 1000000000) (hs : Step R pa p dr x g code r rest L' L2)
  (k : Pb R pa p dr b L2 K Kp r rest) : aa Tryz.prog 88 #[.pointer (some ⟨b, 0, none⟩), .int .i64 g] M K Kp := by
 refine uR ?_
 have yy := hg
 obtain ⟨h0, h1, h2, h3⟩ := yy
 have h' := jP h (b := b) h0 h1
 clear h
 obtain ⟨a, gb, A, c, hl, fX, eY, h⟩ := h'
 have hl' := hl
 obtain ⟨l1, l2, l3, l4⟩ := hl'
 obtain ⟨bs, rfl⟩ := h.bx (A := A) h2 (by decide)
 have Qc : ∀ {M : Mem}, Hp R (pt gb (qp (au x g) (some ⟨bs, 0, none⟩) c) 182 :: uU (some ⟨bs, 0, none⟩) c (au x g).fs :: pt b (mE pa p dr a x) 164 :: lV fZ a.gb (x.gs.zip gg) g.toNat :: sI a x L') M → Hp R (aB (bB pa p gg dr) b x :: L') M := by
  intro M h
  replace h := cU h gb hl fX eY
  have jD := dy (y := au x g) (g := g) hl
  replace h := bj (a := a) (p := p) (pa := pa) (dr := dr) (gg := gg) (x := x.bF g (au x g)) jD h b
  rwa [sx h0 h1] at h
 repeat (first | (refine aq h ?_; clear h; intro kb M h) | (refine av h ?_; clear h; intro M h) | refine St.to h ?_ | (apply Exists.intro; (repeat apply Exists.intro); refine And.intro rfl ?_) | (refine And.intro ?_ ?_; first | exact rfl | ((repeat (refine ay (aA h) ?_)); exact ae) | omega) | refine ai ?_ | refine aj ?_)
 refine vz h fX fun q hq => ?_
 repeat (first | (refine aq h ?_; clear h; intro kb M h) | (refine av h ?_; clear h; intro M h) | refine St.to h ?_ | (apply Exists.intro; (repeat apply Exists.intro); refine And.intro rfl ?_) | (refine And.intro ?_ ?_; first | exact rfl | ((repeat (refine ay (aA h) ?_)); exact ae) | omega) | refine ai ?_ | refine aj ?_)
 refine m8 h2 (by omega) ?_
 repeat (first | (refine aq h ?_; clear h; intro kb M h) | (refine av h ?_; clear h; intro M h) | refine St.to h ?_ | (apply Exists.intro; (repeat apply Exists.intro); refine And.intro rfl ?_) | (refine And.intro ?_ ?_; first | exact rfl | ((repeat (refine ay (aA h) ?_)); exact ae) | omega) | refine ai ?_ | refine aj ?_)
 refine WO h (eJ h2) ?_
 obtain ⟨ts, hts, htl, hrow⟩ := hp.funcs
 have hfl := (List.getElem?_eq_some_iff.1 nh).1
 obtain ⟨t, ht⟩ := aR (l := ts) (i := (au x g).top.fn.toNat) (by omega)
 obtain ⟨yB, RB⟩ := hrow _ t code ht nh
 obtain ⟨tA, tn, tc⟩ := t
 dsimp only at yB RB
 subst RB
 refine ⟨hfn, by omega, ?_⟩
 obtain ⟨fb, fo, hfb⟩ := hts.some (by omega) (by decide)
 rw [hfb] at hts ⊢
 refine br ?_
 refine y3 (Src.at (hts.src (L := _)) h (i := (au x g).top.fn.toNat) (j := 0) ht rfl (by simp [yz])) ?_
 dsimp only
 refine br ?_
 refine zP h (eJ h2) rfl ?_
 refine aP.2 ⟨fun hge => ?_, fun hlt => ?_⟩
 ·cases hs with
  | out _ =>
   have h5 : Hp R (aB (bB pa p gg dr) b x :: fact True :: L') M := (Hp.fT.2 ⟨trivial, Qc h⟩).swap
   exact DL h5 fun M' h' => k gg M' h'
  | pure i hi => have := (List.getElem?_eq_some_iff.1 hi).1; omega
  | DK i hi => have := (List.getElem?_eq_some_iff.1 hi).1; omega
  | WM i hi => have := (List.getElem?_eq_some_iff.1 hi).1; omega
  | dflt i fn hi => have := (List.getElem?_eq_some_iff.1 hi).1; omega
 refine br ?_
 refine zP h (eJ h2) rfl ?_
 refine ⟨Bt.1, by omega, ?_⟩
 obtain ⟨i, hi⟩ := aR (l := code) (i := (au x g).top.pc.toNat) (by omega)
 obtain ⟨ib, io, rfl⟩ := yB.some (by omega) (by decide)
 refine br ?_
 refine aZ (Src.at (yB.src (L := _)) h (i := (au x g).top.pc.toNat) (j := 0) hi rfl (by simp [jm])) ?_
 refine aZ (Src.at (yB.src (L := _)) h (i := (au x g).top.pc.toNat) (j := 1) hi rfl (by show _ = io + (_ * 4 + 1); omega)) ?_
 refine aZ (Src.at (yB.src (L := _)) h (i := (au x g).top.pc.toNat) (j := 2) hi rfl (by show _ = io + (_ * 4 + 2); omega)) ?_
 refine aZ (Src.at (yB.src (L := _)) h (i := (au x g).top.pc.toNat) (j := 3) hi rfl (by show _ = io + (_ * 4 + 3); omega)) ?_
 have hpure : i.cG ∧ 0 ≤ i.op ∨ 8 < i.op := by
  cases hs with
  | out h => omega
  | pure j hj a1 a2 a3 => rw [hi] at hj; cases hj; exact .inl ⟨a3, a1⟩
  | DK j hj a1 => rw [hi] at hj; cases hj; exact .inr (by omega)
  | WM j hj a1 => rw [hi] at hj; cases hj; exact .inr (by omega)
  | dflt j fn hj a1 => rw [hi] at hj; cases hj; exact .inr a1
 have hok : i.cG ∧ 0 ≤ i.op := by
  rcases hpure with h | h
  ·exact h
  ·exact ⟨⟨fun h => by simp at h; omega, fun h => by omega, fun h => by simp at h; omega⟩, by omega⟩
 refine aq h ?_
 clear h; intro ki M h
 refine av h ?_
 clear h; intro M h
 refine av h ?_
 clear h; intro M h
 refine av h ?_
 clear h; intro M h
 refine av h ?_
 clear h; intro M h
 refine aH h (aH h (aH h (aH h ?_)))
 refine HU h (eJ h2) hok.1 hok.2 Bt ?_ ?_
 ·intro h8 M' h'
  clear h
  have h := h'
  clear h'
  refine mU (ai ?_)
  cases hs with
  | out h => omega
  | DK j hj a1 => rw [hi] at hj; cases hj; omega
  | WM j hj a1 => rw [hi] at hj; cases hj; omega
  | dflt j fn hj a1 => rw [hi] at hj; cases hj; omega
  | pure j hj a1 a2 a3 =>
   rw [hi] at hj; cases hj
   replace h := cU h gb hl fX eY (by simp)
   have jD := dy (y := (au x g).cN ((au x g).top.next.pure i)) (g := g) hl
   have h5 := bj (a := a) (p := p) (pa := pa) (dr := dr) (gg := gg) (x := x.bF g ((au x g).cN ((au x g).top.next.pure i))) jD h b
   refine yA h5 ?_
   have e1 : (i.op == 12) = false := by simp; omega
   have e2 : (i.op == 17) = false := by simp; omega
   rw [e1, e2]
   exact k gg _ h5.b7
 ·intro h8 M' h'
  clear h
  have h := h'
  clear h'
  refine mU (aj ?_)
  refine aH h ?_
  refine aY.2 ⟨fun JE => ?_, fun JE => ?_⟩
  ·refine aH h (aH h (aH h (aH h ?_)))
   cases hs with
   | out h => omega
   | pure j hj a1 a2 a3 => rw [hi] at hj; cases hj; omega
   | dflt j fn hj a1 a2 => rw [hi] at hj; cases hj; omega
   | WM j hj a1 => rw [hi] at hj; cases hj; omega
   | DK j hj a1 hop =>
    rw [hi] at hj; cases hj
    replace h := cU h gb hl fX eY
    have jD := dy (y := au x g) (g := g) hl
    replace h := bj (a := a) (p := p) (pa := pa) (dr := dr) (gg := gg) (x := x.bF g (au x g)) jD h b
    rw [sx h0 h1] at h
    refine hop gg b bs c M' _ _ _ h eY ?_
    cases r with
    | on y =>
     intro l9 M2 h
     refine ⟨rfl, yA h ?_⟩
     have e1 : (i.op == 12) = false := by simp; omega
     have e2 : (i.op == 17) = false := by simp; omega
     rw [e1, e2]
     exact k l9 _ h.b7
    | eR n y =>
     intro l9 M2 h
     exact DL h fun M3 h3 => k l9 M3 h3
    | cO l y =>
     intro l9 M2 h
     exact k l9 M2 h.b7
  ·refine aH h ?_
   refine aY.2 ⟨fun XS => ?_, fun XS => ?_⟩
   ·refine aH h (aH h (aH h (aH h ?_)))
    cases hs with
    | out h => omega
    | pure j hj a1 a2 a3 => rw [hi] at hj; cases hj; omega
    | DK j hj a1 => rw [hi] at hj; cases hj; omega
    | dflt j fn hj a1 a2 a3 => rw [hi] at hj; cases hj; omega
    | WM j hj a1 hop =>
     rw [hi] at hj; cases hj
     replace h := cU h gb hl fX eY
     have jD := dy (y := au x g) (g := g) hl
     replace h := bj (a := a) (p := p) (pa := pa) (dr := dr) (gg := gg) (x := x.bF g (au x g)) jD h b
     rw [sx h0 h1] at h
     refine hop gg b bs c M' _ _ _ h eY ?_
     cases r with
     | on y =>
      intro l9 M2 h
      refine ⟨rfl, yA h ?_⟩
      have e1 : (i.op == 12) = false := by simp; omega
      have e2 : (i.op == 17) = false := by simp; omega
      rw [e1, e2]
      exact k l9 _ h.b7
     | eR n y =>
      intro l9 M2 h
      exact DL h fun M3 h3 => k l9 M3 h3
     | cO l y =>
      intro l9 M2 h
      exact k l9 M2 h.b7
   cases hs with
   | out h => omega
   | pure j hj a1 a2 a3 => rw [hi] at hj; cases hj; omega
   | DK j hj a1 => rw [hi] at hj; cases hj; omega
   | WM j hj a1 => rw [hi] at hj; cases hj; omega
   | dflt j fn hj a1 a2 a3 hf hn hop =>
    rw [hi] at hj; cases hj
    refine br ?_
    refine zP h (eJ h2) rfl ?_
    refine br ?_
    rw [jq Bt.1 (by omega)]
    refine zQ h (eJ h2) rfl ?_
    clear h; intro M h
    refine aH h (aH h (aH h (aH h (aH h ?_))))
    refine FF h ?_
    clear h; intro mp M h
    refine ⟨ay (aA h) (ay (aA h) (ay (aA h) (ay (aA h) ae))), aA h, ?_⟩
    have hu : Tryz.prog.underlying 261 = some (.map 32 260) := by kernel_rfl
    have hkk : Tryz.prog.underlying 32 = some (.int .i64) := by kernel_rfl
    obtain ⟨ti, OY, Qd⟩ : ∃ ti, Tryz.prog.info? 260 = some ti ∧ ti.zero = some .nilFunc := ⟨_, rfl, rfl⟩
    refine uT h hu hkk OY Qd ?_
    rw [hf]
    refine ⟨ay (aA h) (ay (aA h) (ay (aA h) (ay (aA h) ae))), aA h, ?_⟩
    refine Fp hn ?_
    replace h := cU h gb hl fX eY (by simp)
    have jD := dy (y := (au x g).cN (au x g).top.next) (g := g) hl
    have h5 := bj (a := a) (p := p) (pa := pa) (dr := dr) (gg := gg) (x := x.next g) jD h b
    have h6 : Hp R (aB (bB pa p gg dr) b (x.next g) :: pt ki [.int .i64 i.op, .int .i64 i.a, .int .i64 i.b, .int .i64 i.c] 34 :: L') M := h5.sub bz
    clear h h5
    have hfl : (au (x.next g) g).fs.length = (au x g).fs.length := by
     unfold Wd.next; rw [gN h0 h1]; simp [jh.cN]
    have hc := hop gg b bs c M (fun NS j0 => (NS = (.tuple #[])) ∧ ((Mem.fm j0 ⟨ki, 0, none⟩ 0 4) = some [(.int .i64 i.op), (.int .i64 i.a), (.int .i64 i.b), (.int .i64 i.c)]) ∧ ((Mem.ld j0 ⟨ki, 0, none⟩) = (some (.int .i64 i.op))) ∧
     aK (j0.ld ⟨ki, 0, none⟩) .i64 fun n => aV (n == 12) (cE Tryz.prog 119 (.pointer (some ⟨b, 0, none⟩)) K Kp (.bool true) .returning j0)
      (aK (j0.ld ⟨ki, 0, none⟩) .i64 fun n => cE Tryz.prog 119 (.pointer (some ⟨b, 0, none⟩)) K Kp (.bool (n == 17)) .returning j0))
     (fun l M => cE Tryz.prog 119 (.pointer (some ⟨b, 0, none⟩)) K Kp (.bool false) (.panicking l) M) _ h6 eY ?_
    ·rw [hfl] at hc
     exact hc
    cases r with
    | on y =>
     intro l9 M2 h
     exact ⟨rfl, ay (aA h) (ay (aA h) (ay (aA h) (ay (aA h) ae))), aA h, yA h (k l9 _ h.b7)⟩
    | eR n y =>
     intro l9 M2 h
     exact DL h fun M3 h3 => k l9 M3 h3
    | cO l y =>
     intro l9 M2 h
     exact k l9 M2 h.b7
end
abbrev qV (pa : PA) (p : b6) (dr : Value) (a : WA) (x : Wd) (n : Nat) : List Value :=
 [.slice pa.f p.funcs.length pa.fc, .slice pa.c p.dI.length pa.cc, .int .i64 p.aL, .slice pa.k p.cases.length pa.kc, .slice a.ag a.gb.length a.cg, .int .u64 x.clock,
  .slice a.ac a.cb.length a.cc, .slice a.al a.lb.length a.cl, .slice a.ah x.hl.length a.ch, .int .u64 x.lp, .slice a.ao x.out.length a.co, .int .i64 x.end_, .int .i64 x.code, .slice a.ar n a.cr, dr]
abbrev wH (a : WA) (x : Wd) (L : List HP) : List HP :=
 zR a.ag a.cg a.gb :: zS a.ac a.cc a.cb :: bn bM a.cb x.aE :: zT a.al a.cl a.lb :: bn fW a.lb x.aL :: gn a.ah a.ch x.hl :: uB a.ao a.co x.out :: L
def bG (pa : PA) (p : b6) : tU Wd := ⟨fun b x => exs fun q : WA × List GA × Value × Nat =>
 sep (pt b (qV pa p q.2.2.1 q.1 x q.2.2.2) 164 :: bn fZ q.1.gb (x.gs.zip q.2.1) :: fact (fj q.2.1 q.1 x) :: wH q.1 x [])⟩
section
variable {R : Mem} {L L' L2 : List HP} {M : Mem} {K : Value → Mem → Prop} {Kp : List PanicEntry → Mem → Prop} {pa : PA} {p : b6} {gg : List GA} {dr : Value} {b : Nat} {x : Wd} {g : Int}
class Ik (b : Nat) (L : List HP) (pa : outParam PA) (p : outParam b6) (x : outParam Wd) (L' : outParam (List HP)) : Prop where
 pick : de L (aB (bG pa p) b x) L'
instance Ik.here : Ik b (aB (bG pa p) b x :: L) pa p x L := ⟨.here⟩
instance (priority := low) Ik.there {Q : HP} [h : Ik b L pa p x L'] : Ik b (Q :: L) pa p x (Q :: L') := ⟨.there h.pick⟩
theorem eD (h : Hp R L M) [o : Ik b L pa p x L'] : ∃ (a : WA) (gg : List GA) (dr : Value) (n : Nat), fj gg a x ∧ Hp R (pt b (qV pa p dr a x n) 164 :: bn fZ a.gb (x.gs.zip gg) :: wH a x L') M := by
 have := h.pick o.pick
 unfold aB at this
 simp only [bG, wH, Hp.dS, Hp.bk, List.cons_append, List.nil_append] at this
 obtain ⟨⟨a, gg, dr, n⟩, h⟩ := this
 have h2 := h.pick (P := fact (fj gg a x)) (.there (.there .here))
 exact ⟨a, gg, dr, n, (Hp.fT.1 h2).1, (Hp.fT.1 h2).2⟩
theorem me {a : WA} {n : Nat} (hl : fj gg a x) (h : Hp R (pt b (qV pa p dr a x n) 164 :: bn fZ a.gb (x.gs.zip gg) :: wH a x L) M) : Hp R (aB (bG pa p) b x :: L) M := by
 refine Hp.vR ?_
 simp only [bG, wH, Hp.dS, Hp.bk, List.cons_append, List.nil_append]
 refine ⟨(a, gg, dr, n), ?_⟩
 have h2 : Hp R (fact (fj gg a x) :: pt b (qV pa p dr a x n) 164 :: bn fZ a.gb (x.gs.zip gg) :: wH a x L) M := Hp.fT.2 ⟨hl, h⟩
 exact h2.nK (.there (.there .here))
def gX (x : Wd) (g : Int) (rest : Bool) : Bool := !rest && x.end_ == 0 && (au x g).st == 1
def Cv (l l' : List PanicEntry) : Prop := ∀ (b : Nat) (v : Value) (M : Mem) (K : Value → Mem → Prop) (Kp : List PanicEntry → Mem → Prop), Kp l' M → cE Tryz.prog 119 (.pointer (some ⟨b, 0, none⟩)) K Kp v (.panicking l) M
def qW (R : Mem) (pa : PA) (p : b6) (b : Nat) (g : Int) (L2 : List HP) (K : Value → Mem → Prop) (Kp : List PanicEntry → Mem → Prop) (r : Out Wd) (rest : Bool) : Prop := match r with
 | .cO l y => ∃ l', Cv l l' ∧ ∀ M', Hp R (aB (bG pa p) b y :: L2) M' → Kp l' M'
 | .on y => ∀ R' A c M', R.le R' → RS bl R' A c y.ready → Hp R' (aB (bG pa p) b y :: L2) M' → K (.agg #[.bool (gX y g rest), .slice A y.ready.length c]) M'
 | .eR n y => ∀ R' A c M', R.le R' → RS bl R' A c y.ready → Hp R' (aB (bG pa p) b { y with end_ := 2, code := n } :: L2) M' → K (.agg #[.bool (gX { y with end_ := 2, code := n } g rest), .slice A y.ready.length c]) M'
theorem Pb.of {r : Out Wd} {rest : Bool} (hd : ¬ ∃ l y, r = .cO l y) (k : ∀ l9 M', Hp R (aB (bB pa p l9 dr) b r.fin :: L2) M' → K (.bool rest) M') : Pb R pa p dr b L2 K Kp r rest := by
 cases r with
 | on y => exact k
 | eR n y => exact k
 | cO l y => exact absurd ⟨l, y, rfl⟩ hd
theorem qW.get {r : Out Wd} {rest : Bool} (hd : ¬ ∃ l y, r = .cO l y) (k : qW R pa p b g L2 K Kp r rest) :
  ∀ R' A c M', R.le R' → RS bl R' A c r.fin.ready → Hp R' (aB (bG pa p) b r.fin :: L2) M' → K (.agg #[.bool (gX r.fin g rest), .slice A r.fin.ready.length c]) M' := by
 cases r with
 | on y => exact k
 | eR n y => exact k
 | cO l y => exact absurd ⟨l, y, rfl⟩ hd
theorem Il {code : List cI} {r : Out Wd} {rest : Bool} (h : Hp R L M) [o : Ik b L pa p x L'] (hp : kF R pa p) (hg : bp x g) (he : x.end_ = 0) (hst : (au x g).st = 1)
  (hfn : 0 ≤ (au x g).top.fn) (nh : p.funcs[(au x g).top.fn.toNat]? = some code)
  (Bt : 0 ≤ (au x g).top.pc ∧ (au x g).top.pc < 1000000000) (vA : ∃ f c d, dr = .func f c d) (hs : ∀ Q, Step R pa p dr { x with ready := [] } g code r rest (Q :: L') (Q :: L2)) (hlen : g < r.fin.gs.length)
  (k : qW R pa p b g L2 K Kp r rest) :
  aa Tryz.prog 41 #[.pointer (some ⟨b, 0, none⟩), .int .i64 g, dr] M K Kp := by
 refine ke ?_
 have yy := hg
 obtain ⟨h0, h1, h2, h3⟩ := yy
 refine aq h ?_
 clear h
 intro kb M h
 have h' := eD h (b := b)
 clear h
 obtain ⟨a, gg, dr0, n0, hl, h⟩ := h'
 have hl' := hl
 obtain ⟨l1, l2, l3, l4⟩ := hl'
 refine aP.2 ⟨fun hn => by omega, fun _ => ?_⟩
 refine aQ h ?_
 refine aP.2 ⟨fun hn => by omega, fun _ => ?_⟩
 refine aH h ?_
 refine cK.2 ⟨fun hn => absurd he hn, fun _ => ?_⟩
 refine aQ h ?_
 refine ⟨h0, by omega, ?_⟩
 obtain ⟨gb, fX⟩ := aR (l := a.gb) (i := g.toNat) (by omega)
 refine vz h fX fun q hq => ?_
 obtain ⟨ga, WQ⟩ := aR (l := gg) (i := g.toNat) (by omega)
 obtain ⟨y, hy⟩ := aR (l := x.gs) (i := g.toNat) (by omega)
 have ey : au x g = y := by simp [au, hy]
 rw [ey] at hst
 refine br ?_
 have Pc : M.ld ⟨gb, 0, none⟩ = some (.int .i64 y.st) := by
  have h9 := m9 (b := gb) (h.dn fZ fX (om hy WQ))
  exact aA h9
 rw [Pc]
 refine ck ?_
 refine cK.2 ⟨fun hn => absurd hst hn, fun _ => ?_⟩
 refine av h ?_
 clear h Pc; intro M h
 have hpc2 : ∀ X : Prop, X → BC dr X := by
  obtain ⟨f, c, d, rfl⟩ := vA
  intro X hX; exact hX
 refine hpc2 _ ?_
 refine av h ?_
 clear h; intro M h
 have h4 := h.bX bl 3
 have h5 : Hp R (aB (bB pa p gg dr) b { x with ready := [] } :: pt kb [.bool false, .slice none 0 0] 120 :: L') M := jO (a := { a with ar := none, cr := 0 }) (x := { x with ready := [] }) hl (h4.sub bz)
 clear h h4
 by_cases Im : ∃ l y, r = .cO l y
 ·obtain ⟨l, y, rfl⟩ := Im
  refine FG (b := b) (x := { x with ready := [] }) h5 hp hg hfn nh Bt (hs _) ?_
  clear h5
  intro l9 M h
  obtain ⟨l', hdr2, k⟩ := k
  refine hdr2 _ _ _ _ _ (k _ ?_)
  have h' := cy h (b := b)
  clear h
  obtain ⟨a2, jD, h⟩ := h'
  exact me (a := a2) (n := y.ready.length) (gg := l9) (dr := dr) jD (h.sub bz)
 refine FG (b := b) (x := { x with ready := [] }) h5 hp hg hfn nh Bt (hs _) (.of Im ?_)
 clear h5
 intro l9 M h
 replace k := qW.get Im k
 generalize r.fin = z at h k hlen
 have h' := cy h (b := b)
 clear h
 obtain ⟨a2, jD, h⟩ := h'
 have WE := jD
 obtain ⟨m1, m2, m3, m4⟩ := WE
 have fin : ∀ t : Bool, t = gX z g rest → aO M ⟨kb, 0, none⟩ (.bool t) fun Hi =>
    aO Hi ⟨kb, (0 + 1), none⟩ (.slice a2.ar z.ready.length a2.cr) fun xA =>
    cJ (Mem.ld xA ⟨kb, 0, none⟩) fun t60 =>
    aD (Mem.ld xA ⟨kb, (0 + 1), none⟩) fun YW QV P9 =>
    K (.agg #[(.bool t60), (.slice YW QV P9)]) xA := by
  intro t ht
  refine av h ?_
  clear h; intro M h
  refine av h ?_
  clear h; intro M h
  refine Jd h (aQ h ?_)
  obtain ⟨R', hle, kN, h6⟩ := h.dg a2.ar
  subst ht
  exact k R' _ _ _ hle kN (me (a := a2) (n := z.ready.length) (gg := l9) (dr := dr) jD (h6.sub bz))
 refine mU ?_
 cases rest with
 | true =>
  refine aj ?_
  refine aQ h ?_
  exact fin false (by simp [gX])
 | false =>
  refine ai ?_
  refine aH h ?_
  refine aY.2 ⟨fun e0 => ?_, fun e0 => ?_⟩
  ·refine aQ h ?_
   refine ⟨h0, by omega, ?_⟩
   obtain ⟨gb2, ZX⟩ := aR (l := a2.gb) (i := g.toNat) (by omega)
   refine vz h ZX fun q2 ny => ?_
   obtain ⟨ga2, hga2⟩ := aR (l := l9) (i := g.toNat) (by omega)
   obtain ⟨y2, hy2⟩ := aR (l := z.gs) (i := g.toNat) (by omega)
   have ey2 : au z g = y2 := by simp [au, hy2]
   refine br ?_
   have Pc : M.ld ⟨gb2, 0, none⟩ = some (.int .i64 y2.st) := by
    have h9 := m9 (b := gb2) (h.dn fZ ZX (om hy2 hga2))
    exact aA h9
   rw [Pc]
   refine ck ?_
   refine aQ h ?_
   exact fin (y2.st == 1) (by simp [gX, e0, ey2])
  ·refine aQ h ?_
   have : (z.end_ == 0) = false := by simpa using e0
   exact fin false (by simp [gX, this])
end
section
variable {R : Mem} {L L' L2 : List HP} {M : Mem} {K : Value → Mem → Prop} {Kp : List PanicEntry → Mem → Prop} {pa : PA} {p : b6} {gg : List GA} {dr : Value} {b : Nat} {x : Wd} {g : Int}
theorem Lt (h : Hp R L M) [o : Ik b L pa p x L'] (k : K (.int .i64 (x.gs.length : Int)) M) : aa Tryz.prog 64 #[.pointer (some ⟨b, 0, none⟩)] M K Kp := by
 refine s9 ?_
 have h' := eD h (b := b)
 clear h
 obtain ⟨a, gg, dr, n, hl, h⟩ := h'
 refine aQ h ?_
 rw [hl.1]
 exact k
theorem Cw (h : Hp R L M) [o : Ik b L pa p x L'] (k : K (.tuple #[.int .i64 x.end_, .int .i64 x.code]) M) : aa Tryz.prog 60 #[.pointer (some ⟨b, 0, none⟩)] M K Kp := by
 refine ta ?_
 have h' := eD h (b := b)
 clear h
 obtain ⟨a, gg, dr, n, hl, h⟩ := h'
 refine aH h (aH h ?_)
 exact k
theorem u6 (h : Hp R L M) [o : Ik b L pa p x L'] (h0 : 0 ≤ g) (h1 : g < x.gs.length) (k : K (.int .i64 (au x g).st) M) : aa Tryz.prog 65 #[.pointer (some ⟨b, 0, none⟩), .int .i64 g] M K Kp := by
 refine oQ ?_
 have h' := eD h (b := b)
 clear h
 obtain ⟨a, gg, dr, n, hl, h⟩ := h'
 have hl' := hl
 obtain ⟨l1, l2, l3, l4⟩ := hl'
 refine aP.2 ⟨fun hn => by omega, fun _ => ?_⟩
 refine aQ h ?_
 refine aP.2 ⟨fun hn => by omega, fun _ => ?_⟩
 refine aQ h ?_
 refine ⟨h0, by omega, ?_⟩
 obtain ⟨gb, fX⟩ := aR (l := a.gb) (i := g.toNat) (by omega)
 refine vz h fX fun q hq => ?_
 obtain ⟨ga, WQ⟩ := aR (l := gg) (i := g.toNat) (by omega)
 obtain ⟨y, hy⟩ := aR (l := x.gs) (i := g.toNat) (by omega)
 have ey : au x g = y := by simp [au, hy]
 rw [ey] at k
 refine br ?_
 have Pc : M.ld ⟨gb, 0, none⟩ = some (.int .i64 y.st) := by
  have h9 := m9 (b := gb) (h.dn fZ fX (om hy WQ))
  exact aA h9
 rw [Pc]
 exact ck k
theorem Lu (h : Hp R L M) [o : Ik b L pa p x L'] (hs : x.out.length ≤ 1000000) (k : ∀ A c M', Hp R (uB A c x.out :: L) M' → K (.slice A x.out.length c) M') : aa Tryz.prog 22 #[.pointer (some ⟨b, 0, none⟩)] M K Kp := by
 refine td ?_
 refine aq h ?_
 clear h; intro kb M h
 have hC := h
 have h' := eD h (b := b)
 clear h
 obtain ⟨a, gg, dr, n, hl, h⟩ := h'
 refine aQ h ?_
 have hsrc : Sl M a.ao (bl.cells x.out) := (h.src (A := a.ao)) M h
 clear h
 have h10 : Hp R (bD bl 2 (some ⟨kb, 0, none⟩) ([] : List Int).length [] :: L) M := hC.gU rfl
 refine Hp.HT h10 (l := []) zc hsrc rfl (by simp; omega) ?_
 clear hC h10 hsrc
 intro A' c' M h
 exact aT (k _ _ _ h)
end
def Wd.new (p : b6) : Wd := ⟨[⟨1, [gM.begin 0 0], .zero⟩], 0, p.dI.map aX.new, List.replicate p.aL.toNat ⟨-1, []⟩, [], 0, [], 0, 0, []⟩
theorem Tj : bg Tryz.prog 159 183 1 8 [.pointer none] := bg.mk' (zv := .pointer none) (by kernel_rfl) (by kernel_rfl) rfl (by omega)
theorem Tk : bg Tryz.prog 160 185 1 8 [.pointer none] := bg.mk' (zv := .pointer none) (by kernel_rfl) (by kernel_rfl) rfl (by omega)
section
variable {R : Mem} {L L' L2 : List HP} {M : Mem} {K : Value → Mem → Prop} {Kp : List PanicEntry → Mem → Prop} {pa : PA} {p : b6} {gg : List GA} {dr : Value} {b : Nat} {x : Wd} {g : Int}
theorem Pd {j : Nat} {q A' : Nat} {c' : Nat} {v : Int} {a : WA} {n k : Nat} {Ac : Option Addr} {Q : List HP} (hl : fj gg a x)
  (h : Hp R (pt b (qV pa p dr { a with ac := Ac, cc := c', cb := a.cb ++ [k] } x n) 164 :: zS Ac c' (a.cb ++ [k]) :: aB bM k (aX.new v) :: bn bM a.cb x.aE :: bn fZ a.gb (x.gs.zip gg) :: zR a.ag a.cg a.gb :: zT a.al a.cl a.lb :: bn fW a.lb x.aL :: gn a.ah a.ch x.hl :: uB a.ao a.co x.out :: Q) M) :
  Hp R (aB (bG pa p) b { x with aE := x.aE ++ [aX.new v] } :: Q) M := by
 obtain ⟨l1, l2, l3, l4⟩ := hl
 have h2 := h.kM bM k l3
 exact me (a := { a with ac := Ac, cc := c', cb := a.cb ++ [k] }) (gg := gg) (dr := dr) (n := n) (x := { x with aE := x.aE ++ [aX.new v] }) ⟨l1, l2, by simp [l3], l4⟩ (h2.sub bz)
theorem Pe {c' : Nat} {a : WA} {n k : Nat} {Ac : Option Addr} {Q : List HP} (hl : fj gg a x)
  (h : Hp R (pt b (qV pa p dr { a with al := Ac, cl := c', lb := a.lb ++ [k] } x n) 164 :: zT Ac c' (a.lb ++ [k]) :: aB fW k ⟨-1, []⟩ :: bn fW a.lb x.aL :: bn fZ a.gb (x.gs.zip gg) :: zR a.ag a.cg a.gb :: zS a.ac a.cc a.cb :: bn bM a.cb x.aE :: gn a.ah a.ch x.hl :: uB a.ao a.co x.out :: Q) M) :
  Hp R (aB (bG pa p) b { x with aL := x.aL ++ [⟨-1, []⟩] } :: Q) M := by
 obtain ⟨l1, l2, l3, l4⟩ := hl
 have h2 := h.kM fW k l4
 exact me (a := { a with al := Ac, cl := c', lb := a.lb ++ [k] }) (gg := gg) (dr := dr) (n := n) (x := { x with aL := x.aL ++ [⟨-1, []⟩] }) ⟨l1, l2, l3, by simp [l4]⟩ (h2.sub bz)
theorem Lv (h : Hp R L M) (yx : RS bl R pa.c pa.cc p.dI) (hc : p.dI.length ≤ 1000000) (hk : 0 ≤ p.aL ∧ p.aL ≤ 1000000)
  (k : ∀ b M', Hp R (aB (bG pa p) b (Wd.new p) :: L) M' → K (.pointer (some ⟨b, 0, none⟩)) M') :
  aa Tryz.prog 36 #[.agg #[.slice pa.f p.funcs.length pa.fc, .slice pa.c p.dI.length pa.cc, .int .i64 p.aL, .slice pa.k p.cases.length pa.kc]] M K Kp := by
 refine Dm ?_
 repeat (first | (refine aq h ?_; clear h; intro kb M h) | (refine av h ?_; clear h; intro M h) | refine St.to h ?_ | (apply Exists.intro; (repeat apply Exists.intro); refine And.intro rfl ?_) | (refine And.intro ?_ ?_; first | exact rfl | ((repeat (refine ay (aA h) ?_)); exact ae) | omega) | refine ai ?_ | refine aj ?_)
 refine qo h ?_
 clear h
 intro bs M h
 repeat (first | (refine aq h ?_; clear h; intro kb M h) | (refine av h ?_; clear h; intro M h) | refine St.to h ?_ | (apply Exists.intro; (repeat apply Exists.intro); refine And.intro rfl ?_) | (refine And.intro ?_ ?_; first | exact rfl | ((repeat (refine ay (aA h) ?_)); exact ae) | omega) | refine ai ?_ | refine aj ?_)
 rename_i kp _ _ kr _ kw _
 replace h := ng h kr
 replace h := (h.uD fZ).kM fZ kr rfl
 replace h := (h.pt kw).gU (E := mz) (l := [kr]) rfl
 replace h := (h.bX mz 183).uD bM
 replace h := (h.bX mz 185).uD fW
 replace h := (h.bX sF 205).bX bl 2
 have base : Hp R (aB (bG pa p) kb { Wd.new p with aE := (p.dI.take 0).map aX.new, aL := [] } :: pt kp [.slice pa.f p.funcs.length pa.fc, .slice pa.c p.dI.length pa.cc, .int .i64 p.aL, .slice pa.k p.cases.length pa.kc] 41 :: L) _ :=
  me (a := ⟨some ⟨kw, 0, none⟩, 1, [kr], none, 0, [], none, 0, [], none, 0, none, 0, none, 0⟩) (gg := [(some ⟨bs, 0, none⟩, 1)]) (dr := .nilFunc) (n := 0) (x := { Wd.new p with aE := [], aL := [] }) ⟨rfl, rfl, rfl, rfl⟩ (h.sub bz)
 clear h
 refine ⟨fun d vs M => ∃ j : Nat, vs = [.int .i64 (j : Int)] ∧ d = p.dI.length - j ∧ j ≤ p.dI.length ∧ Hp R (aB (bG pa p) kb { Wd.new p with aE := (p.dI.take j).map aX.new, aL := [] } :: pt kp [.slice pa.f p.funcs.length pa.fc, .slice pa.c p.dI.length pa.cc, .int .i64 p.aL, .slice pa.k p.cases.length pa.kc] 41 :: L) M,
  ⟨_, 0, rfl, rfl, by omega, base⟩, ?_⟩
 clear base
 rintro d _ nn M ⟨j, he, hd, hj, h⟩
 simp only [List.cons.injEq, Value.int.injEq, and_true, true_and] at he
 subst he
 refine aP.2 ⟨fun hlt => ?_, fun hge => ?_⟩
 ·obtain ⟨v, hv⟩ := aR (l := p.dI) (i := j) (by omega)
  have ZT : (p.dI.take (j + 1)).map aX.new = (p.dI.take j).map aX.new ++ [aX.new v] := by rw [cC hv, List.map_append]; rfl
  have yj : ((p.dI.take j).map aX.new).length ≤ 1000000 := by simp; omega
  rw [aU (by omega)]
  refine ⟨by omega, hlt, ?_⟩
  obtain ⟨cb, co, hcb⟩ := yx.some (by omega) (by decide)
  have ZY := yx
  rw [hcb] at ZY ⊢
  refine br ?_
  simp only [Int.toNat_natCast]
  refine aZ (Src.at (ZY.src (L := _)) h (i := j) (j := 0) hv rfl (by simp [bl])) ?_
  refine ⟨fun _ M => Hp R (aB (bG pa p) kb { Wd.new p with aE := (p.dI.take j).map aX.new ++ [aX.new v], aL := [] } :: pt kp [.slice pa.f p.funcs.length pa.fc, .slice pa.c p.dI.length pa.cc, .int .i64 p.aL, .slice pa.k p.cases.length pa.kc] 41 :: L) M, ⟨?_, ?_, trivial⟩, ?_⟩
  ·have h' := eD h (b := kb)
   clear h
   obtain ⟨a, gg, dr, n, hl, h⟩ := h'
   have RD : a.cb.length = ((p.dI.take j).map aX.new).length := hl.2.2.1
   refine aQ h ?_
   refine B8 h ?_
   clear h
   intro kc M h
   repeat (first | (refine aq h ?_; clear h; intro kb M h) | (refine av h ?_; clear h; intro M h) | refine St.to h ?_ | (apply Exists.intro; (repeat apply Exists.intro); refine And.intro rfl ?_) | (refine And.intro ?_ ?_; first | exact rfl | ((repeat (refine ay (aA h) ?_)); exact ae) | omega) | refine ai ?_ | refine aj ?_)
   refine h.bS Tj [kc] rfl rfl (by simp only [List.length_singleton]; omega) ?_
   clear h
   intro A' c' M h
   repeat (first | (refine aq h ?_; clear h; intro kb M h) | (refine av h ?_; clear h; intro M h) | refine St.to h ?_ | (apply Exists.intro; (repeat apply Exists.intro); refine And.intro rfl ?_) | (refine And.intro ?_ ?_; first | exact rfl | ((repeat (refine ay (aA h) ?_)); exact ae) | omega) | refine ai ?_ | refine aj ?_)
   exact Pd (j := j) (q := j) (A' := j) (a := a) (x := { Wd.new p with aE := (p.dI.take j).map aX.new, aL := [] }) hl (h.sub bz)
  ·have h' := eD h (b := kb)
   clear h
   obtain ⟨a, gg, dr, n, hl, h⟩ := h'
   have RD : a.cb.length = ((p.dI.take j).map aX.new).length := hl.2.2.1
   refine B8 h ?_
   clear h
   intro kc M h
   repeat (first | (refine aq h ?_; clear h; intro kb M h) | (refine av h ?_; clear h; intro M h) | refine St.to h ?_ | (apply Exists.intro; (repeat apply Exists.intro); refine And.intro rfl ?_) | (refine And.intro ?_ ?_; first | exact rfl | ((repeat (refine ay (aA h) ?_)); exact ae) | omega) | refine ai ?_ | refine aj ?_)
   refine h.bS Tj [kc] rfl rfl (by simp only [List.length_singleton]; omega) ?_
   clear h
   intro A' c' M h
   repeat (first | (refine aq h ?_; clear h; intro kb M h) | (refine av h ?_; clear h; intro M h) | refine St.to h ?_ | (apply Exists.intro; (repeat apply Exists.intro); refine And.intro rfl ?_) | (refine And.intro ?_ ?_; first | exact rfl | ((repeat (refine ay (aA h) ?_)); exact ae) | omega) | refine ai ?_ | refine aj ?_)
   exact Pd (j := j) (q := j) (A' := j) (a := a) (x := { Wd.new p with aE := (p.dI.take j).map aX.new, aL := [] }) hl (h.sub bz)
  ·clear h
   intro _ M h
   refine ⟨p.dI.length - (j + 1), by omega, j + 1, rfl, rfl, by omega, ?_⟩
   rw [ZT, ← hcb]; exact h
 ·obtain rfl : j = p.dI.length := by omega
  rw [List.take_length] at h
  refine aH h ?_
  obtain ⟨nl, hnl⟩ := Int.eq_ofNat_of_zero_le hk.1
  refine ⟨fun d vs M => ∃ j : Nat, vs = [.int .i64 (j : Int)] ∧ d = nl - j ∧ j ≤ nl ∧ Hp R (aB (bG pa p) kb { Wd.new p with aL := List.replicate j ⟨-1, []⟩ } :: pt kp [.slice pa.f p.funcs.length pa.fc, .slice pa.c p.dI.length pa.cc, .int .i64 p.aL, .slice pa.k p.cases.length pa.kc] 41 :: L) M,
   ⟨_, 0, rfl, rfl, by omega, h⟩, ?_⟩
  clear h
  rintro d _ nn M ⟨j, he, hd, hj, h⟩
  simp only [List.cons.injEq, Value.int.injEq, and_true, true_and] at he
  subst he
  refine aP.2 ⟨fun hlt => ?_, fun hge => ?_⟩
  ·have ZT : List.replicate (j + 1) (⟨-1, []⟩ : Lk) = List.replicate j ⟨-1, []⟩ ++ [⟨-1, []⟩] := List.replicate_succ'
   rw [aU (by omega)]
   refine ⟨fun _ M => Hp R (aB (bG pa p) kb { Wd.new p with aL := List.replicate j ⟨-1, []⟩ ++ [⟨-1, []⟩] } :: pt kp [.slice pa.f p.funcs.length pa.fc, .slice pa.c p.dI.length pa.cc, .int .i64 p.aL, .slice pa.k p.cases.length pa.kc] 41 :: L) M, ⟨?_, ?_, trivial⟩, ?_⟩
   ·have h' := eD h (b := kb)
    clear h
    obtain ⟨a, gg, dr, n, hl, h⟩ := h'
    have RD : a.lb.length = (List.replicate j (⟨-1, []⟩ : Lk)).length := hl.2.2.2
    rw [List.length_replicate] at RD
    refine aQ h ?_
    refine Ck h ?_
    clear h
    intro kc M h
    repeat (first | (refine aq h ?_; clear h; intro kb M h) | (refine av h ?_; clear h; intro M h) | refine St.to h ?_ | (apply Exists.intro; (repeat apply Exists.intro); refine And.intro rfl ?_) | (refine And.intro ?_ ?_; first | exact rfl | ((repeat (refine ay (aA h) ?_)); exact ae) | omega) | refine ai ?_ | refine aj ?_)
    refine h.bS Tk [kc] rfl rfl (by simp only [List.length_singleton]; omega) ?_
    clear h
    intro A' c' M h
    repeat (first | (refine aq h ?_; clear h; intro kb M h) | (refine av h ?_; clear h; intro M h) | refine St.to h ?_ | (apply Exists.intro; (repeat apply Exists.intro); refine And.intro rfl ?_) | (refine And.intro ?_ ?_; first | exact rfl | ((repeat (refine ay (aA h) ?_)); exact ae) | omega) | refine ai ?_ | refine aj ?_)
    exact Pe (a := a) (x := { Wd.new p with aL := List.replicate j ⟨-1, []⟩ }) hl (h.sub bz)
   ·have h' := eD h (b := kb)
    clear h
    obtain ⟨a, gg, dr, n, hl, h⟩ := h'
    have RD : a.lb.length = (List.replicate j (⟨-1, []⟩ : Lk)).length := hl.2.2.2
    rw [List.length_replicate] at RD
    refine Ck h ?_
    clear h
    intro kc M h
    repeat (first | (refine aq h ?_; clear h; intro kb M h) | (refine av h ?_; clear h; intro M h) | refine St.to h ?_ | (apply Exists.intro; (repeat apply Exists.intro); refine And.intro rfl ?_) | (refine And.intro ?_ ?_; first | exact rfl | ((repeat (refine ay (aA h) ?_)); exact ae) | omega) | refine ai ?_ | refine aj ?_)
    refine h.bS Tk [kc] rfl rfl (by simp only [List.length_singleton]; omega) ?_
    clear h
    intro A' c' M h
    repeat (first | (refine aq h ?_; clear h; intro kb M h) | (refine av h ?_; clear h; intro M h) | refine St.to h ?_ | (apply Exists.intro; (repeat apply Exists.intro); refine And.intro rfl ?_) | (refine And.intro ?_ ?_; first | exact rfl | ((repeat (refine ay (aA h) ?_)); exact ae) | omega) | refine ai ?_ | refine aj ?_)
    exact Pe (a := a) (x := { Wd.new p with aL := List.replicate j ⟨-1, []⟩ }) hl (h.sub bz)
   ·clear h
    intro _ M h
    refine ⟨nl - (j + 1), by omega, j + 1, rfl, rfl, by omega, ?_⟩
    rw [ZT]; exact h
  ·obtain rfl : j = nl := by omega
   have e : Wd.new p = { Wd.new p with aL := List.replicate j ⟨-1, []⟩ } := by unfold Wd.new; rw [hnl]; rfl
   rw [← e] at h
   exact k _ _ h.b7
end
def aF (p : b6) (i : cI) : List oG := (p.cases.drop i.a.toNat).take i.b.toNat
def u7 (f : gM) : List Int := [f.r.getD 0 0, f.r.getD 1 0, f.r.getD 2 0, f.r.getD 3 0, f.r.getD 4 0, f.r.getD 5 0, f.r.getD 6 0, f.r.getD 7 0]
inductive jQ where
 | num (d : Int)
 | cO (l : List PanicEntry)
def iU (R : Mem) (dr : Value) (kind n : Int) (d : jQ) (L L2 : List HP) : Prop := ∀ (Q : HP) (M : Mem) (K : Value → Mem → Prop) (Kp : List PanicEntry → Mem → Prop), Hp R (Q :: L) M →
 (match d with
  | .num v => ∀ M', Hp R (Q :: L2) M' → K (.int .i64 v) M'
  | .cO l => ∀ M', Hp R (Q :: L2) M' → Kp l M') → iF Cx dr [.int .i64 kind, .int .i64 n] M K Kp
def Wd.qu (p : b6) (x : Wd) (g : Int) (i : cI) (k : Int) : Out Wd :=
 let c := (aF p i).getD k.toNat ⟨0, 0, 0⟩
 let x1 := x.next g
 if c.way = 1 then match x1.put p c.ch (bC x1 g c.bT) with
  | .eR n y => .eR n y
  | .cO l y => .cO l y
  | .on (y, _) => .on (y.bA g i.c k)
 else .on (((x1.get c.ch).1.bA g c.bT (x1.get c.ch).2.1).bA g i.c k)
def Wd.tJ (p : b6) (x : Wd) (g : Int) (i : cI) : Wd :=
 let x1 := x.next g
 match els (aF p i) with
  | some k => x1.bA g i.c (k : Int)
  | none => Wd.block { x1 with aE := eF g (u7 (au x1 g).top) (aF p i) x1.aE (aF p i).length } g i
def Wd.choose (p : b6) (x : Wd) (g : Int) (i : cI) (d : jQ) : Out Wd :=
 if enabled (aF p i) x.aE = [] then .on (x.tJ p g i)
 else match d with
  | .num v => x.qu p g i ((enabled (aF p i) x.aE).getD v.toNat 0)
  | .cO l => .cO l x
section
variable {R : Mem} {L L' L2 : List HP} {M : Mem} {K : Value → Mem → Prop} {Kp : List PanicEntry → Mem → Prop} {pa : PA} {p : b6} {gg : List GA} {dr : Value} {b : Nat} {x : Wd} {g : Int} {i : cI}
def u9 (p : b6) (i : cI) : Prop := 0 ≤ i.a ∧ 0 ≤ i.b ∧ i.a + i.b ≤ p.cases.length ∧ p.cases.length ≤ 1000
instance (p : b6) (i : cI) : Decidable (u9 p i) := by unfold u9; infer_instance
theorem FH (h : Hp R L M) [o : wC b L pa p gg dr x L'] (hp : kF R pa p) (hk : u9 p i)
  (k : ∀ A c M', RS iB R A c (aF p i) → Hp R (aB (bB pa p gg dr) b x :: L') M' → K (.slice A (aF p i).length c) M') :
  aa Tryz.prog 154 #[.pointer (some ⟨b, 0, none⟩), .agg #[.int .i64 i.op, .int .i64 i.a, .int .i64 i.b, .int .i64 i.c]] M K Kp := by
 refine pV ?_
 obtain ⟨a0, b0, hab, hl⟩ := hk
 have hcap := hp.cases.2
 refine aq h ?_
 clear h; intro kb M h
 have hC := h.drop.pick o.pick
 have h' := cy h (b := b)
 clear h
 obtain ⟨a, jD, h⟩ := h'
 refine aQ h (aH h (aH h (aH h ?_)))
 rw [cY (by omega) (by omega)]
 refine ⟨by omega, by omega, by omega, by omega, by omega, by omega, ?_⟩
 have e : (aF p i).length = (i.a + i.b).toNat - i.a.toNat := by
  unfold aF
  rw [List.length_take, List.length_drop]; omega
 rw [← e]
 simp only [Int.toNat_natCast]
 exact k _ _ _ ((hp.cases.drop i.a.toNat (by omega)).take i.b.toNat) hC
theorem Pf {bs j : Nat} {l : List gM} {f : gM} (hs : Src R L (some ⟨bs, 0, none⟩) (jn.cells l)) (hi : l[j]? = some f) : Src R L (lM (some ⟨bs, j * 11 + 2, none⟩) 0 8 1) (bl.cells (u7 f)) := by
 intro M h
 have e : lM (some ⟨bs, j * 11 + 2, none⟩) 0 8 1 = some ⟨bs, j * 11 + 2, none⟩ := by
  unfold lM; rw [if_neg (by omega)]; rfl
 rw [e]
 intro q hq
 have hq8 : q < 8 := by simpa [bl, gp.cells, u7] using hq
 have e2 : j * 11 + 2 + q = 0 + (j * jn.z + (2 + q)) := by show _ = 0 + (j * 11 + (2 + q)); omega
 obtain rfl | rfl | rfl | rfl | rfl | rfl | rfl | rfl : q = 0 ∨ q = 1 ∨ q = 2 ∨ q = 3 ∨ q = 4 ∨ q = 5 ∨ q = 6 ∨ q = 7 := by omega
 all_goals exact Src.at hs h (i := j) hi rfl e2
theorem Io {bs c oo : Nat} {v : Int} {G : Mem → Prop} (h : Hp R L M) [o : wC b L pa p gg dr x L'] (hg : bp x g) (eY : gg[g.toNat]? = some (some ⟨bs, 0, none⟩, c)) (e : oo = ((au x g).fs.length - 1) * 11 + 1) (hv : v = (au x g).top.pc + 1)
  (k : ∀ M', Hp R (aB (bB pa p gg dr) b (x.next g) :: L') M' → G M') : aO M ⟨bs, oo, none⟩ (.int .i64 v) G := by
 subst hv
 obtain ⟨h0, h1, h2, h3⟩ := hg
 obtain ⟨a, gb, hl, fX, h4⟩ := gP h (b := b) h0 h1 eY
 refine zQ h4 (eJ h2) e fun M' h5 => ?_
 replace h5 := cU h5 gb hl fX eY (by simp)
 exact k M' (bj (a := a) (p := p) (pa := pa) (dr := dr) (gg := gg) (x := x.next g) (dy hl) h5 b)
theorem Ip {bs c oo : Nat} {G : Int → Prop} (h : Hp R L M) [o : wC b L pa p gg dr x L'] (hg : bp x g) (eY : gg[g.toNat]? = some (some ⟨bs, 0, none⟩, c)) (e : oo = ((au x g).fs.length - 1) * 11 + 1)
  (k : G (au x g).top.pc) : aK (M.ld ⟨bs, oo, none⟩) .i64 G := by
 obtain ⟨h0, h1, h2, h3⟩ := hg
 obtain ⟨a, gb, hl, fX, h4⟩ := gP h (b := b) h0 h1 eY
 exact zP h4 (eJ h2) e k
theorem zX (hg : bp x g) : au (x.next g) g = (au x g).cN (au x g).top.next := gN hg.1 hg.2.1
theorem tK (hg : bp x g) : bp (x.next g) g := by
 have e := zX hg
 obtain ⟨h0, h1, h2, h3⟩ := hg
 refine ⟨h0, by simpa [Wd.next, Wd.bF] using h1, ?_, ?_⟩ <;> rw [e] <;> simpa [jh.cN]
theorem DM (hg : bp x g) : (au (x.next g) g).fs.length = (au x g).fs.length := by rw [zX hg]; simp [jh.cN]
theorem Lw {q v : Int} (hg : bp x g) : (au (x.bA g q v) g).fs.length = (au x g).fs.length := by rw [iQ hg]; simp [jh.cN]
theorem RE (hs : x.Sm) : (x.next g).Sm := JD hs
def FI (p : b6) (x : Wd) (g : Int) (i : cI) (d : jQ) : Prop := bp x g ∧ u9 p i ∧ bh i.c ∧ x.Sm ∧ (au x g).top.pc < 1000000000 ∧ 0 ≤ (au x g).top.pc ∧ (∀ c ∈ aF p i, c.Ok x.aE.length) ∧
 match enabled (aF p i) x.aE, d with
 | [], _ => True
 | _, .cO _ => True
 | can, .num v => 0 ≤ v ∧ v < can.length ∧
  let k := can.getD v.toNat 0
  let c := (aF p i).getD k.toNat ⟨0, 0, 0⟩
  let x1 := x.next g
  0 ≤ k ∧ k < (aF p i).length ∧ bh c.bT ∧
  if c.way = 1 then oH p x1 c.ch (bC x1 g c.bT) ∧ (match x1.put p c.ch (bC x1 g c.bT) with
   | .on (y, _) => bp y g ∧ (au y g).fs.length = (au x g).fs.length
   | _ => True)
  else uZ x1 c.ch ∧ bp (x1.get c.ch).1 g ∧ (au (x1.get c.ch).1 g).fs.length = (au x g).fs.length
theorem Lx {d : jQ} (hp : kF R pa p) (hk : FI p x g i d) (hd : if enabled (aF p i) x.aE = [] then L2 = L else iU R dr 3 ((enabled (aF p i) x.aE).length : Int) d L L2) :
  gf R pa p dr 122 x g i (x.choose p g i d) L L2 := by
 intro gg b bs c M K Kp Q h eY k
 obtain ⟨hg, hcs, RF, hs, Bt, RH, hok, hk⟩ := hk
 have yy := hg
 obtain ⟨h0, h1, h2, h3⟩ := yy
 have hs' := hs
 obtain ⟨s1, s2, s3, s4, s5, s6, s7, s8⟩ := hs'
 have Qc : (aF p i).length ≤ 1000 := by
  obtain ⟨_, _, _, hl⟩ := hcs
  unfold aF
  rw [List.length_take, List.length_drop]; omega
 refine oR ?_
 refine aq h ?_
 clear h; intro k1 M h
 refine aH h (aH h (aH h (aH h ?_)))
 refine FH (b := b) h hp hcs ?_
 clear h; intro A ca M hA h
 refine aT ?_
 unfold Wd.choose at k
 have hen : ∀ {X : HP} {M : Mem} {L3 : List HP}, Hp R (aB (bB pa p gg dr) b x :: L3) M → ∀ (K1 : Value → Mem → Prop), (∀ A' c' M', Hp R (kD A' c' (enabled (aF p i) x.aE) :: aB (bB pa p gg dr) b x :: L3) M' → K1 (.slice A' (enabled (aF p i) x.aE).length c') M') →
   aD (M.ld ⟨b, 0 + 6, none⟩) fun sE dm gq => aa Tryz.prog 155 #[.slice A (aF p i).length ca, .slice sE dm gq] M K1 Kp := by
  intro X M L3 h K1 k1
  have h' := cy h (b := b)
  clear h
  obtain ⟨a, hl, h⟩ := h'
  have hl' := hl
  obtain ⟨l1, l2, l3, l4⟩ := hl'
  refine aQ h ?_
  refine Be h (hA.src) (Src.row (A := a.ac)) rfl rfl (by omega) l3 hok ?_
  clear h; intro A' c' M h
  exact k1 _ _ _ ((bj (a := a) (p := p) (pa := pa) (dr := dr) (gg := gg) (x := x) hl h b).swap)
 refine hen (X := Q) h _ ?_
 clear h hen; intro A2 c2 M h
 refine aT ?_
 by_cases hcan : enabled (aF p i) x.aE = []
 ·rw [if_pos hcan] at k hd
  subst hd
  rw [hcan] at h ⊢
  refine ai ?_
  unfold Wd.tJ at k
  dsimp only at k
  refine Ip (b := b) h hg eY rfl ?_
  rw [jq RH (by omega)]
  refine Io (b := b) h hg eY rfl rfl ?_
  clear h; intro M h
  have Ly := tK hg
  have Kx := DM hg
  refine G9 h hA.src rfl (by omega) ?_
  clear h; intro M h
  refine ⟨_, _, rfl, ?_⟩
  cases he : els (aF p i) with
  | some q =>
   rw [he] at k
   dsimp only at k ⊢
   refine ai ?_
   refine aH h ?_
   refine ⟨RF.1, RF.2, ?_⟩
   refine l8 (b := b) h Ly eY RF (by rw [Kx]) ?_
   clear h; intro M h
   exact k _ _ (h.sub bz)
  | none =>
   rw [he] at k
   dsimp only at k ⊢
   refine aj ⟨by decide, by decide, by decide, by decide, by decide, by decide, ?_⟩
   have AG := Ly
   obtain ⟨g0, g1, g2, g3⟩ := AG
   have h' := gP h (b := b) g0 g1 eY
   clear h
   obtain ⟨a, gb, hl, fX, h⟩ := h'
   have hl' := hl
   obtain ⟨l1, l2, l3, l4⟩ := hl'
   refine aQ h ?_
   refine Hf (fQ := u7 (au (x.next g) g).top) h hA.src (Src.row (A := a.ac)) ?_ rfl rfl rfl rfl (by omega) l3 hok (fun c hc => s1 c hc) ?_
   ·have e9 : ∀ {L9 : List HP}, Src R L9 (some ⟨bs, 0, none⟩) (jn.cells (au (x.next g) g).fs) → Src R L9 (lM (some ⟨bs, ((au x g).fs.length - 1) * 11 + 2, none⟩) 0 8 1) (bl.cells (u7 (au (x.next g) g).top)) := fun hs => by
     have := Pf hs (eJ g2)
     rwa [Kx] at this
    exact e9 Src.row
   clear h; intro M h
   refine ⟨rfl, ?_⟩
   refine aH h (aH h (aH h (aH h ?_)))
   replace h := cU h gb hl fX eY
   have jD := dy (y := au (x.next g) g) (g := g) hl
   have hcl2 : ∀ x' : Wd, x' = { (x.next g).bF g (au (x.next g) g) with aE := eF g (u7 (au (x.next g) g).top) (aF p i) x.aE (aF p i).length } → fj gg a x' := by
    rintro _ rfl
    obtain ⟨m1, m2, m3, m4⟩ := jD
    exact ⟨m1, m2, by show _ = List.length _; rw [lj]; exact l3, m4⟩
   replace h := bj (a := a) (p := p) (pa := pa) (dr := dr) (gg := gg) (x := { (x.next g).bF g (au (x.next g) g) with aE := eF g (u7 (au (x.next g) g).top) (aF p i) x.aE (aF p i).length }) (hcl2 _ rfl) h b
   rw [sx g0 g1] at h
   refine lZ (b := b) (i := i) (x := { x.next g with aE := eF g (u7 (au (x.next g) g).top) (aF p i) x.aE (aF p i).length }) h g0 g1 ?_
   clear h; intro M h
   exact ⟨rfl, k _ _ (h.sub bz)⟩
 rw [if_neg hcan] at k hd
 have ZZ : 0 < (enabled (aF p i) x.aE).length := by
  cases hh : enabled (aF p i) x.aE with
  | nil => exact absurd hh hcan
  | cons _ _ => simp
 refine C8 (by simp; omega) ?_
 have vA : M.ld ⟨b, 0 + 14, none⟩ = some dr := by
  obtain ⟨a, hl, h9⟩ := cy h (b := b)
  exact aA h9
 rw [vA]
 refine Nm ?_
 have h5 : Hp R (sep [kD A2 c2 (enabled (aF p i) x.aE), aB (bB pa p gg dr) b x, pt k1 [.int .i64 i.op, .int .i64 i.a, .int .i64 i.b, .int .i64 i.c] 34, Q] :: L) M := Hp.bk.2 (h.sub bz)
 refine hd _ _ _ _ h5 ?_
 clear h h5 vA
 cases d with
 | cO l =>
  dsimp only at k ⊢
  intro M h5
  have h : Hp R (kD A2 c2 (enabled (aF p i) x.aE) :: aB (bB pa p gg dr) b x :: pt k1 [.int .i64 i.op, .int .i64 i.a, .int .i64 i.b, .int .i64 i.c] 34 :: Q :: L2) M := Hp.bk.1 h5
  exact k _ _ (h.sub bz)
 | num v =>
  dsimp only at k ⊢
  intro M h5
  have h : Hp R (kD A2 c2 (enabled (aF p i) x.aE) :: aB (bB pa p gg dr) b x :: pt k1 [.int .i64 i.op, .int .i64 i.a, .int .i64 i.b, .int .i64 i.c] 34 :: Q :: L2) M := Hp.bk.1 h5
  clear h5
  have hk2 : 0 ≤ v ∧ v < (enabled (aF p i) x.aE).length ∧
    0 ≤ (enabled (aF p i) x.aE).getD v.toNat 0 ∧ (enabled (aF p i) x.aE).getD v.toNat 0 < (aF p i).length ∧ bh ((aF p i).getD ((enabled (aF p i) x.aE).getD v.toNat 0).toNat ⟨0, 0, 0⟩).bT ∧
    if ((aF p i).getD ((enabled (aF p i) x.aE).getD v.toNat 0).toNat ⟨0, 0, 0⟩).way = 1 then oH p (x.next g) ((aF p i).getD ((enabled (aF p i) x.aE).getD v.toNat 0).toNat ⟨0, 0, 0⟩).ch (bC (x.next g) g ((aF p i).getD ((enabled (aF p i) x.aE).getD v.toNat 0).toNat ⟨0, 0, 0⟩).bT) ∧
     (match (x.next g).put p ((aF p i).getD ((enabled (aF p i) x.aE).getD v.toNat 0).toNat ⟨0, 0, 0⟩).ch (bC (x.next g) g ((aF p i).getD ((enabled (aF p i) x.aE).getD v.toNat 0).toNat ⟨0, 0, 0⟩).bT) with
      | .on (y, _) => bp y g ∧ (au y g).fs.length = (au x g).fs.length
      | _ => True)
    else uZ (x.next g) ((aF p i).getD ((enabled (aF p i) x.aE).getD v.toNat 0).toNat ⟨0, 0, 0⟩).ch ∧ bp ((x.next g).get ((aF p i).getD ((enabled (aF p i) x.aE).getD v.toNat 0).toNat ⟨0, 0, 0⟩).ch).1 g ∧ (au ((x.next g).get ((aF p i).getD ((enabled (aF p i) x.aE).getD v.toNat 0).toNat ⟨0, 0, 0⟩).ch).1 g).fs.length = (au x g).fs.length := by
   revert hk
   cases hh : enabled (aF p i) x.aE with
   | nil => exact absurd hh hcan
   | cons a l => exact fun hk => hk
  clear hk hcan hd
  generalize hcane : enabled (aF p i) x.aE = can at h k hk2 ZZ ⊢
  obtain ⟨v0, v1, q0, q1, Tl, WR⟩ := hk2
  refine ck ⟨v0, v1, ?_⟩
  obtain ⟨ab, rfl⟩ := h.bx (A := A2) ZZ (by decide)
  refine br ?_
  obtain ⟨q, hq⟩ := aR (l := can) (i := v.toNat) (by omega)
  have hqe : can.getD v.toNat 0 = q := by simp [hq]
  rw [hqe] at k q0 q1 Tl WR
  refine aZ (Src.at (h.src (A := some ⟨ab, 0, none⟩)) h (i := v.toNat) (j := 0) hq rfl (by simp [bl])) ?_
  unfold Wd.qu at k
  dsimp only at k
  obtain ⟨cc, XT⟩ := aR (l := aF p i) (i := q.toNat) (by omega)
  have hce : (aF p i).getD q.toNat ⟨0, 0, 0⟩ = cc := by simp [XT]
  rw [hce] at k Tl WR
  refine Ip (b := b) h hg eY rfl ?_
  rw [jq RH (by omega)]
  refine Io (b := b) h hg eY rfl rfl ?_
  clear h; intro M h
  have Ly := tK hg
  have Kx := DM hg
  have vH : (x.next g).Sm := RE hs
  generalize DN : x.next g = x1 at h k WR Ly Kx vH
  refine ⟨q0, q1, ?_⟩
  obtain ⟨cb, co, rfl⟩ := hA.some (by omega) (by decide)
  refine br ?_
  refine aZ (Src.at (hA.src (L := _)) h (i := q.toNat) (j := 0) XT rfl (by simp [iB])) ?_
  refine aZ (Src.at (hA.src (L := _)) h (i := q.toNat) (j := 1) XT rfl (by show _ = co + (_ * 3 + 1); omega)) ?_
  refine aZ (Src.at (hA.src (L := _)) h (i := q.toNat) (j := 2) XT rfl (by show _ = co + (_ * 3 + 2); omega)) ?_
  refine aq h ?_
  clear h; intro kc M h
  refine av h ?_
  clear h; intro M h
  refine av h ?_
  clear h; intro M h
  refine av h ?_
  clear h; intro M h
  refine aH h ?_
  refine aY.2 ⟨fun e1 => ?_, fun e1 => ?_⟩
  ·rw [if_pos e1] at k WR
   obtain ⟨hput, hy⟩ := WR
   refine aH h (aH h ⟨Tl.1, Tl.2, ?_⟩)
   refine Fu (b := b) h Ly eY Tl (by rw [Kx]) ?_
   refine Cl (b := b) h hp.cases hput vH ?_ ?_
   ·clear h
    intro y ok M e h
    rw [e] at k hy
    dsimp only at k hy
    refine mU ?_
    refine aH h ⟨RF.1, RF.2, ?_⟩
    refine l8 (b := b) h hy.1 eY RF (by rw [hy.2]) ?_
    clear h; intro M h
    exact k _ _ (h.sub bz)
   ·clear h
    intro y n M e h
    rw [e] at k
    exact k _ _ (h.sub bz)
  ·rw [if_neg e1] at k WR
   obtain ⟨WD, Fv, hfl⟩ := WR
   refine aH h (aH h ?_)
   refine Cm (b := b) h WD vH ?_
   clear h; intro M h
   generalize x1.get cc.ch = r at h k Fv hfl
   obtain ⟨y, w, sm, ok⟩ := r
   dsimp only at h k Fv hfl ⊢
   refine ⟨_, _, _, rfl, aA h, Tl.1, Tl.2, ?_⟩
   refine l8 (b := b) h Fv eY Tl (by rw [hfl]) ?_
   clear h; intro M h
   refine ⟨aA h, aH h ⟨RF.1, RF.2, ?_⟩⟩
   refine l8 (b := b) h (iR Fv) eY RF (by rw [Lw Fv, hfl]) ?_
   clear h; intro M h
   exact k _ _ (h.sub bz)
end
def bE.before (a b : bE) : Bool := decide (a.t < b.t) || (a.t == b.t && decide (a.seq < b.seq))
def nA (l : List bE) (i : Nat) : bE := l.getD i ⟨0, 0, 0⟩
def fa (l : List bE) (i j : Nat) : List bE := (l.set i (nA l j)).set j (nA l i)
def Lz : Nat → Nat → List bE → List bE
 | 0, _, l => l
 | f + 1, i, l => if 0 < i ∧ (nA l i).before (nA l ((i - 1) / 4)) = true then Lz f ((i - 1) / 4) (fa l i ((i - 1) / 4)) else l
def gE (l : List bE) : Nat → Nat → Nat → Nat
 | 0, _, out => out
 | n + 1, k, out => if k < l.length then gE l n (k + 1) (if (nA l k).before (nA l out) then k else out) else out
def gY (l : List bE) (i : Nat) : Nat := gE l 4 (4 * i + 1) i
def oI : Nat → Nat → List bE → List bE
 | 0, _, l => l
 | f + 1, i, l => if gY l i = i then l else oI f (gY l i) (fa l i (gY l i))
def sJ (l : List bE) (x : bE) : List bE := Lz l.length l.length (l ++ [x])
def eA (l : List bE) (i : Nat) : List bE :=
 if i < l.length - 1 then Lz i i (oI l.length i ((fa l i (l.length - 1)).take (l.length - 1))) else (fa l i (l.length - 1)).take (l.length - 1)
def ee : Nat → List bE → Int → List bE × List bE
 | 0, l, _ => (l, [])
 | f + 1, l, now => if 0 < l.length ∧ (nA l 0).t ≤ now then ((ee f (eA l 0) now).1, nA l 0 :: (ee f (eA l 0) now).2) else (l, [])
def RI : Nat → List bE → List bE
 | 0, _ => []
 | f + 1, l => if 0 < l.length then nA l 0 :: RI f (eA l 0) else []
theorem FJ {f i : Nat} {l : List bE} : Lz (f + 1) i l = if 0 < i ∧ (nA l i).before (nA l ((i - 1) / 4)) = true then Lz f ((i - 1) / 4) (fa l i ((i - 1) / 4)) else l := rfl
theorem yb {l : List bE} {n k out : Nat} : gE l (n + 1) k out = if k < l.length then gE l n (k + 1) (if (nA l k).before (nA l out) then k else out) else out := rfl
theorem Iq {f i : Nat} {l : List bE} : oI (f + 1) i l = if gY l i = i then l else oI f (gY l i) (fa l i (gY l i)) := rfl
theorem zY {f : Nat} {l : List bE} {now : Int} : ee (f + 1) l now = if 0 < l.length ∧ (nA l 0).t ≤ now then ((ee f (eA l 0) now).1, nA l 0 :: (ee f (eA l 0) now).2) else (l, []) := rfl
theorem fH {l : List bE} {i j : Nat} : (fa l i j).length = l.length := by simp [fa]
theorem DO : ∀ {f i : Nat} {l : List bE}, (Lz f i l).length = l.length
 | 0, _, _ => rfl
 | f + 1, i, l => by unfold Lz; split; rw [DO, fH]; rfl
theorem js : ∀ {f i : Nat} {l : List bE}, (oI f i l).length = l.length
 | 0, _, _ => rfl
 | f + 1, i, l => by unfold oI; split; rfl; rw [js, fH]
theorem FK {l : List bE} {i : Nat} : (eA l i).length = l.length - 1 := by
 unfold eA; split
 ·rw [DO, js, List.length_take, fH]; omega
 ·rw [List.length_take, fH]; omega
theorem LA {l : List bE} {x : bE} : (sJ l x).length = l.length + 1 := by unfold sJ; rw [DO]; simp
theorem mF {l : List bE} {i : Nat} (h : i < l.length) : l[i]? = some (nA l i) := by
 unfold nA; rw [List.getD_eq_getElem?_getD, List.getElem?_eq_getElem h]; rfl
theorem mG {l : List bE} : ∀ (n k out : Nat), out < l.length → out < k → gE l n k out < l.length ∧ (out ≤ gE l n k out)
 | 0, _, _, h, _ => ⟨h, Nat.le_refl _⟩
 | n + 1, k, out, h, hk => by
  unfold gE; split
  ·rename_i hl
   split
   ·have := mG n (k + 1) k hl (by omega); omega
   ·exact mG n (k + 1) out h (by omega)
  ·exact ⟨h, Nat.le_refl _⟩
theorem Cy {l : List bE} {i : Nat} (h : i < l.length) : gY l i < l.length ∧ i ≤ gY l i := mG 4 _ i h (by omega)
structure Tm (b o : Nat) (P : Option Addr → Nat → Nat → Int → HP) : Prop where
 Gn : ∀ (R : Mem) (L : List HP) (M : Mem) (A : Option Addr) (n c : Nat) (s : Int), Hp R (P A n c s :: L) M → M.ld ⟨b, o, none⟩ = some (.slice A n c)
 ldI : ∀ (R : Mem) (L : List HP) (M : Mem) (A : Option Addr) (n c : Nat) (s : Int), Hp R (P A n c s :: L) M → M.ld ⟨b, o + 1, none⟩ = some (.int .u64 s)
 ZV : ∀ (R : Mem) (L : List HP) (M : Mem) (A A' : Option Addr) (n c n' c' : Nat) (s : Int) (G : Mem → Prop), Hp R (P A n c s :: L) M → (∀ M', Hp R (P A' n' c' s :: L) M' → G M') → aO M ⟨b, o, none⟩ (.slice A' n' c') G
 stI : ∀ (R : Mem) (L : List HP) (M : Mem) (A : Option Addr) (n c : Nat) (s s' : Int) (G : Mem → Prop), Hp R (P A n c s :: L) M → (∀ M', Hp R (P A n c s' :: L) M' → G M') → aO M ⟨b, o + 1, none⟩ (.int .u64 s') G
theorem JM : bg Tryz.prog 65 205 3 24 [.int .u64 0, .int .u64 0, .int .i64 0] := bg.mk' (zv := .agg #[.int .u64 0, .int .u64 0, .int .i64 0]) (by kernel_rfl) (by kernel_rfl) rfl (by omega)
section
variable {R : Mem} {L L' : List HP} {M : Mem} {K : Value → Mem → Prop} {Kp : List PanicEntry → Mem → Prop} {b o : Nat} {P : Option Addr → Nat → Nat → Int → HP} {A : Option Addr} {c : Nat} {s : Int} {l : List bE} {i j : Nat}
theorem mh {q o0 o1 o2 o3 : Nat} {x : bE} {G : Int → Int → Int → Prop} (h : Hp R L M) (hs : Src R L (some ⟨q, o0, none⟩) (sF.cells l)) (hi : l[i]? = some x) (e1 : o1 = o0 + i * 3) (e2 : o2 = o0 + i * 3 + 1) (e3 : o3 = o0 + i * 3 + 2) (g : G x.t x.seq x.id) :
  aK (M.ld ⟨q, o1, none⟩) .u64 fun a => aK (M.ld ⟨q, o2, none⟩) .u64 fun b => aK (M.ld ⟨q, o3, none⟩) .i64 fun d => G a b d := by
 refine aZ (Src.at hs h (i := i) (j := 0) hi rfl (by rw [e1]; rfl)) ?_
 refine aZ (Src.at hs h (i := i) (j := 1) hi rfl (by rw [e2]; show _ = o0 + (i * 3 + 1); omega)) ?_
 exact aZ (Src.at hs h (i := i) (j := 2) hi rfl (by rw [e3]; show _ = o0 + (i * 3 + 2); omega)) g
theorem JN {q o1 o2 o3 : Nat} {x y : bE} {G : Mem → Prop} (h : Hp R L M) [r : cL (some ⟨q, 0, none⟩) L bE sF 205 c l L'] (hi : l[i]? = some x) (e1 : o1 = i * 3) (e2 : o2 = i * 3 + 1) (e3 : o3 = i * 3 + 2)
  (k : ∀ M', Hp R (gn (some ⟨q, 0, none⟩) c (l.set i y) :: L') M' → G M') :
  aO M ⟨q, o1, none⟩ (.int .u64 y.t) fun M1 => aO M1 ⟨q, o2, none⟩ (.int .u64 y.seq) fun M2 => aO M2 ⟨q, o3, none⟩ (.int .i64 y.id) G := by
 have hl := (List.getElem?_eq_some_iff.1 hi).1
 refine iK (E := sF) (a := x) (a' := ⟨y.t, x.seq, x.id⟩) i 0 h hi (by decide) rfl e1 ?_
 clear h; intro M h
 refine iK (E := sF) (a := ⟨y.t, x.seq, x.id⟩) (a' := ⟨y.t, y.seq, x.id⟩) i 1 h (by simp [hl]) (by decide) rfl e2 ?_
 clear h; intro M h
 refine iK (E := sF) (a := ⟨y.t, y.seq, x.id⟩) (a' := y) i 2 h (by simp [hl]) (by decide) rfl e3 ?_
 clear h; intro M h
 rw [iP, iP] at h
 exact k _ h
theorem xD {x y : bE} (h : Hp R L M) (k : ∀ M', Hp R L M' → K (.bool (x.before y)) M') : aa Tryz.prog 186 #[.agg #[.int .u64 x.t, .int .u64 x.seq, .int .i64 x.id], .agg #[.int .u64 y.t, .int .u64 y.seq, .int .i64 y.id]] M K Kp := by
 refine zj ?_
 repeat (first | (refine aq h ?_; clear h; intro kb M h) | (refine av h ?_; clear h; intro M h) | refine St.to h ?_ | (apply Exists.intro; (repeat apply Exists.intro); refine And.intro rfl ?_) | (refine And.intro ?_ ?_; first | exact rfl | ((repeat (refine ay (aA h) ?_)); exact ae) | omega) | refine ai ?_ | refine aj ?_)
 unfold bE.before at k
 refine aP.2 ⟨fun h1 => ?_, fun h1 => ?_⟩
 ·have := k _ h.vS
  rwa [decide_eq_true h1, Bool.true_or] at this
 ·repeat (first | (refine aq h ?_; clear h; intro kb M h) | (refine av h ?_; clear h; intro M h) | refine St.to h ?_ | (apply Exists.intro; (repeat apply Exists.intro); refine And.intro rfl ?_) | (refine And.intro ?_ ?_; first | exact rfl | ((repeat (refine ay (aA h) ?_)); exact ae) | omega) | refine ai ?_ | refine aj ?_)
  refine aY.2 ⟨fun h2 => ?_, fun h2 => ?_⟩
  ·repeat (first | (refine aq h ?_; clear h; intro kb M h) | (refine av h ?_; clear h; intro M h) | refine St.to h ?_ | (apply Exists.intro; (repeat apply Exists.intro); refine And.intro rfl ?_) | (refine And.intro ?_ ?_; first | exact rfl | ((repeat (refine ay (aA h) ?_)); exact ae) | omega) | refine ai ?_ | refine aj ?_)
   have := k _ h.vS
   rwa [decide_eq_false h1, Bool.false_or, beq_iff_eq.2 h2, Bool.true_and] at this
  ·have := k _ h.vS
   rwa [decide_eq_false h1, Bool.false_or, show (x.t == y.t) = false from by simpa using h2, Bool.false_and] at this
theorem wI (D : Tm b o P) (h : Hp R (P A l.length c s :: gn A c l :: L) M) (hi : i < l.length) (hj : j < l.length)
  (k : ∀ M', Hp R (P A l.length c s :: gn A c (fa l i j) :: L) M' → K (.tuple #[]) M') : aa Tryz.prog 136 #[.pointer (some ⟨b, o, none⟩), .int .i64 (i : Int), .int .i64 (j : Int)] M K Kp := by
 refine uH ?_
 obtain ⟨q, rfl⟩ := h.bx (A := A) (by omega) (by decide)
 have hs := h.src (A := some ⟨q, 0, none⟩)
 rw [D.Gn _ _ _ _ _ _ _ h]
 refine aT (aT (aT ⟨by omega, by omega, br ?_⟩))
 refine mh h hs (mF hj) (by simp) (by simp) (by simp) ?_
 refine aT ⟨by omega, by omega, br ?_⟩
 refine mh h hs (mF hi) (by simp) (by simp) (by simp) ?_
 clear hs
 refine ⟨by omega, by omega, br ?_⟩
 refine JN (y := nA l j) h (mF hi) (by simp) (by simp) (by simp) ?_
 clear h; intro M h
 refine ⟨by omega, by omega, br ?_⟩
 have Mg : (l.set i (nA l j))[j]? = some (nA l j) := by
  rw [List.getElem?_set]
  split
  ·rfl
  ·exact mF hj
 refine JN (y := nA l i) h Mg (by simp) (by simp) (by simp) ?_
 clear h; intro M h
 exact k _ (h.sub bz)
theorem zZ (D : Tm b o P) (h : Hp R (P A l.length c s :: gn A c l :: L) M) (hi : i < l.length) (hl : l.length ≤ 1000000)
  (k : ∀ M', Hp R (P A l.length c s :: gn A c l :: L) M' → K (.int .i64 (gY l i : Int)) M') : aa Tryz.prog 185 #[.pointer (some ⟨b, o, none⟩), .int .i64 (i : Int)] M K Kp := by
 refine tw ?_
 have e1 : IntKind.wrap .i64 (IntKind.wrap .i64 (4 * (i : Int)) + 1) = ((4 * i + 1 : Nat) : Int) := by
  rw [cY (z := 4 * (i : Int)) (by omega) (by omega), cY (by omega) (by omega)]; omega
 have e4 : IntKind.wrap .i64 (IntKind.wrap .i64 (4 * (i : Int)) + 4) = ((4 * i + 4 : Nat) : Int) := by
  rw [cY (z := 4 * (i : Int)) (by omega) (by omega), cY (by omega) (by omega)]; omega
 rw [e1, e4]
 refine ⟨fun d vs M => ∃ kk out : Nat, vs = [.int .i64 (out : Int), .int .i64 (kk : Int)] ∧ d = 4 * i + 5 - kk ∧ kk ≤ 4 * i + 5 ∧ out < l.length ∧ out < kk ∧ gE l (4 * i + 5 - kk) kk out = gY l i ∧ Hp R (P A l.length c s :: gn A c l :: L) M,
  ⟨_, 4 * i + 1, i, rfl, rfl, by omega, hi, by omega, by rw [show 4 * i + 5 - (4 * i + 1) = 4 from by omega]; rfl, h⟩, ?_⟩
 clear h
 rintro d _ n5 n6 M ⟨kk, out, he, hd, hkk, ho, hok, hf, h⟩
 simp only [List.cons.injEq, Value.int.injEq, and_true, true_and] at he
 obtain ⟨rfl, rfl⟩ := he
 refine aP.2 ⟨fun hle => ?_, fun hgt => ?_⟩
 ·rw [D.Gn _ _ _ _ _ _ _ h]
  obtain ⟨n, hn⟩ : ∃ n, 4 * i + 5 - kk = n + 1 := ⟨4 * i + 4 - kk, by omega⟩
  rw [hn] at hf
  rw [yb] at hf
  refine aT ?_
  refine aP.2 ⟨fun hlt => ?_, fun hge => ?_⟩
  ·rw [if_pos (by omega)] at hf
   obtain ⟨q, rfl⟩ := h.bx (A := A) (by omega) (by decide)
   have hs := h.src (A := some ⟨q, 0, none⟩)
   refine aT ⟨by omega, by omega, br ?_⟩
   refine mh h hs (mF (i := kk) (by omega)) (by simp) (by simp) (by simp) ?_
   refine aT ⟨by omega, by omega, br ?_⟩
   refine mh h hs (mF (i := out) (by omega)) (by simp) (by simp) (by simp) ?_
   refine xD h ?_
   clear h hs; intro M h
   refine mU ?_
   have e : IntKind.wrap .i64 ((kk : Int) + 1) = ((kk + 1 : Nat) : Int) := by rw [cY (by omega) (by omega)]; omega
   rw [e]
   cases hb : (nA l kk).before (nA l out) with
   | true =>
    rw [hb] at hf
    exact ai ⟨n, by omega, kk + 1, kk, rfl, by omega, by omega, by omega, by omega, by rw [show 4 * i + 5 - (kk + 1) = n from by omega]; exact hf, h⟩
   | false =>
    rw [hb] at hf
    exact aj ⟨n, by omega, kk + 1, out, rfl, by omega, by omega, by omega, by omega, by rw [show 4 * i + 5 - (kk + 1) = n from by omega]; exact hf, h⟩
  ·rw [if_neg (by omega)] at hf
   subst hf
   exact k _ h
 ·have : 4 * i + 5 - kk = 0 := by omega
  rw [this] at hf
  have EF : out = gY l i := hf
  subst EF
  exact k _ h
theorem LB (D : Tm b o P) {f : Nat} (h : Hp R (P A l.length c s :: gn A c l :: L) M) (hi : i < l.length) (hl : l.length ≤ 1000000) (hf : l.length ≤ f + i)
  (k : ∀ M', Hp R (P A l.length c s :: gn A c (oI f i l) :: L) M' → K (.tuple #[]) M') : aa Tryz.prog 137 #[.pointer (some ⟨b, o, none⟩), .int .i64 (i : Int)] M K Kp := by
 refine uI ?_
 refine zZ D h hi hl ?_
 clear h; intro M h
 refine ck ?_
 refine ⟨fun d vs M => ∃ (f' i' : Nat) (l' : List bE), vs = [.int .i64 (i' : Int), .int .i64 (gY l' i' : Int)] ∧ d = l.length - i' ∧ i' < l.length ∧ l'.length = l.length ∧ l.length ≤ f' + i' ∧ oI f' i' l' = oI f i l ∧ Hp R (P A l.length c s :: gn A c l' :: L) M,
  ⟨_, f, i, l, rfl, rfl, hi, rfl, hf, rfl, h⟩, ?_⟩
 clear h
 rintro d _ n5 n6 M ⟨f', i', l', he, hd, hi', hl', Gy, Cz, h⟩
 simp only [List.cons.injEq, Value.int.injEq, and_true, true_and] at he
 obtain ⟨rfl, rfl⟩ := he
 obtain ⟨g, rfl⟩ : ∃ g, f' = g + 1 := ⟨f' - 1, by omega⟩
 rw [Iq] at Cz
 obtain ⟨m1, m2⟩ := Cy (l := l') (i := i') (by omega)
 rw [← hl'] at h
 refine cK.2 ⟨fun hne => ?_, fun heq => ?_⟩
 ·rw [if_neg (by intro e; apply hne; rw [e])] at Cz
  refine wI D h (i := i') (j := gY l' i') (by omega) (by omega) ?_
  clear h; intro M h
  refine ⟨rfl, ?_⟩
  have XU : (fa l' i' (gY l' i')).length = l'.length := fH
  rw [← XU] at h
  refine zZ D h (by omega) (by omega) ?_
  clear h; intro M h
  rw [XU] at h
  refine ck ?_
  exact ⟨l.length - gY l' i', by omega, g, gY l' i', _, rfl, rfl, by omega, by omega, by omega, Cz, by rw [← hl']; exact h⟩
 ·rw [if_pos (by omega)] at Cz
  subst Cz
  rw [hl'] at h
  exact k _ h
theorem JO (D : Tm b o P) {f : Nat} (h : Hp R (P A l.length c s :: gn A c l :: L) M) (hi : i < l.length) (hl : l.length ≤ 1000000) (hf : i ≤ f)
  (k : ∀ M', Hp R (P A l.length c s :: gn A c (Lz f i l) :: L) M' → K (.tuple #[]) M') : aa Tryz.prog 138 #[.pointer (some ⟨b, o, none⟩), .int .i64 (i : Int)] M K Kp := by
 refine xW ?_
 refine ⟨fun d vs M => ∃ (f' i' : Nat) (l' : List bE), vs = [.int .i64 (i' : Int)] ∧ d = i' ∧ i' < l.length ∧ l'.length = l.length ∧ i' ≤ f' ∧ Lz f' i' l' = Lz f i l ∧ Hp R (P A l.length c s :: gn A c l' :: L) M,
  ⟨_, f, i, l, rfl, rfl, hi, rfl, hf, rfl, h⟩, ?_⟩
 clear h
 rintro d _ n5 M ⟨f', i', l', he, hd, hi', hl', Gy, Cz, h⟩
 simp only [List.cons.injEq, Value.int.injEq, and_true, true_and] at he
 subst he
 refine aP.2 ⟨fun hgt => ?_, fun hle => ?_⟩
 ·obtain ⟨g, rfl⟩ : ∃ g, f' = g + 1 := ⟨f' - 1, by omega⟩
  rw [FJ] at Cz
  have ep : IntKind.wrap .i64 (Int.tdiv (IntKind.wrap .i64 ((i' : Int) - 1)) 4) = (((i' - 1) / 4 : Nat) : Int) := by
   rw [cY (z := (i' : Int) - 1) (by omega) (by omega), show ((i' : Int) - 1) = ((i' - 1 : Nat) : Int) from by omega, show (4 : Int) = ((4 : Nat) : Int) from rfl, ← Int.ofNat_tdiv, cY (by omega) (by omega)]
  have hp : (i' - 1) / 4 < i' := by omega
  generalize hpe : (i' - 1) / 4 = p at ep Cz hp
  rw [ep, D.Gn _ _ _ _ _ _ _ h]
  obtain ⟨q, rfl⟩ := h.bx (A := A) (by omega) (by decide)
  have hs := h.src (A := some ⟨q, 0, none⟩)
  refine ⟨by omega, aT ⟨by omega, by omega, br ?_⟩⟩
  refine mh h hs (mF (i := i') (by omega)) (by simp) (by simp) (by simp) ?_
  refine aT ⟨by omega, by omega, br ?_⟩
  refine mh h hs (mF (i := p) (by omega)) (by simp) (by simp) (by simp) ?_
  refine xD h ?_
  clear h hs; intro M h
  refine mU ?_
  cases hb : (nA l' i').before (nA l' p) with
  | true =>
   rw [if_pos ⟨by omega, hb⟩] at Cz
   refine ai ⟨by omega, ?_⟩
   rw [← hl'] at h
   refine wI D h (i := i') (j := p) (by omega) (by omega) ?_
   clear h; intro M h
   rw [hl'] at h
   exact ⟨rfl, by omega, p, by omega, g, p, _, rfl, rfl, by omega, by rw [fH]; exact hl', by omega, Cz, h⟩
  | false =>
   rw [if_neg (by rintro ⟨_, h2⟩; rw [hb] at h2; cases h2)] at Cz
   refine aj ?_
   subst Cz
   exact k _ h
 ·have : Lz f' i' l' = l' := by
   have h0 : i' = 0 := by omega
   subst h0
   cases f' with
   | zero => rfl
   | succ g => rw [FJ]; rw [if_neg (by omega)]
  rw [this] at Cz
  subst Cz
  exact k _ h
theorem LC (D : Tm b o P) {t id : Int} (h : Hp R (P A l.length c s :: gn A c l :: L) M) (hl : l.length < 1000000)
  (k : ∀ v A' c' M', Hp R (P A' (l.length + 1) c' (IntKind.wrap .u64 (s + 1)) :: gn A' c' (sJ l ⟨t, s, id⟩) :: L) M' → K (.int .u64 v) M') : aa Tryz.prog 214 #[.pointer (some ⟨b, o, none⟩), .int .u64 t, .int .i64 id] M K Kp := by
 refine uJ ?_
 rw [D.Gn _ _ _ _ _ _ _ h, D.ldI _ _ _ _ _ _ _ h]
 refine aT (ck ?_)
 refine aq h ?_
 clear h; intro kb M h
 replace h : Hp R (P A l.length c s :: gn A c l :: pt kb [.int .u64 t, .int .u64 s, .int .i64 id] 205 :: L) M := h.sub bz
 refine h.bS (A := A) JM [(⟨t, s, id⟩ : bE)] rfl rfl (by simp only [List.length_singleton]; omega) ?_
 clear h; intro A' c' M h
 refine aT ?_
 have hlen : (l ++ [(⟨t, s, id⟩ : bE)]).length = l.length + 1 := by simp
 refine D.ZV _ _ _ _ _ _ _ _ _ _ _ h.swap ?_
 clear h; intro M h
 rw [D.ldI _ _ _ _ _ _ _ h]
 refine ck ?_
 refine D.stI _ _ _ _ _ _ _ _ _ h ?_
 clear h; intro M h
 rw [D.Gn _ _ _ _ _ _ _ h]
 refine aT ?_
 have e : IntKind.wrap .i64 (((l ++ [(⟨t, s, id⟩ : bE)]).length : Int) - 1) = ((l.length : Nat) : Int) := by
  rw [cY (by omega) (by omega)]; omega
 rw [e]
 refine JO D (f := l.length) h (by omega) (by omega) (Nat.le_refl _) ?_
 clear h; intro M h
 refine ⟨rfl, ?_⟩
 rw [D.ldI _ _ _ _ _ _ _ h]
 refine ck ?_
 rw [hlen] at h
 exact k _ _ _ _ h
theorem FL (D : Tm b o P) (h : Hp R (P A l.length c s :: gn A c l :: L) M) (hi : i < l.length) (hl : l.length ≤ 1000000)
  (k : ∀ M', Hp R (P A (l.length - 1) c s :: gn A c (eA l i) :: L) M' → K (.agg #[.int .u64 (nA l i).t, .int .u64 (nA l i).seq, .int .i64 (nA l i).id]) M') : aa Tryz.prog 106 #[.pointer (some ⟨b, o, none⟩), .int .i64 (i : Int)] M K Kp := by
 refine rD ?_
 have hcap := h.jV A
 obtain ⟨q, rfl⟩ := h.bx (A := A) (by omega) (by decide)
 refine aq h ?_
 clear h; intro k1 M h
 have hs := h.src (A := some ⟨q, 0, none⟩)
 replace h : Hp R (P (some ⟨q, 0, none⟩) l.length c s :: gn (some ⟨q, 0, none⟩) c l :: pt k1 [.int .u64 0, .int .u64 0, .int .i64 0] 205 :: L) M := h.sub bz
 replace hs := h.src (A := some ⟨q, 0, none⟩)
 rw [D.Gn _ _ _ _ _ _ _ h]
 refine aT ⟨by omega, by omega, br ?_⟩
 refine mh h hs (mF hi) (by simp) (by simp) (by simp) ?_
 clear hs
 generalize hx : nA l i = x at k
 refine aq h ?_
 clear h; intro k2 M h
 refine av h ?_
 clear h; intro M h
 refine av h ?_
 clear h; intro M h
 refine av h ?_
 clear h; intro M h
 replace h : Hp R (P (some ⟨q, 0, none⟩) l.length c s :: gn (some ⟨q, 0, none⟩) c l :: pt k2 [.int .u64 x.t, .int .u64 x.seq, .int .i64 x.id] 205 :: pt k1 [.int .u64 0, .int .u64 0, .int .i64 0] 205 :: L) M := h.sub bz
 rw [D.Gn _ _ _ _ _ _ _ h]
 have e : IntKind.wrap .i64 ((l.length : Int) - 1) = ((l.length - 1 : Nat) : Int) := by
  rw [cY (by omega) (by omega)]; omega
 refine aT ?_
 rw [e]
 refine wI D h hi (j := l.length - 1) (by omega) ?_
 clear h; intro M h
 refine ⟨rfl, ?_⟩
 rw [D.Gn _ _ _ _ _ _ _ h]
 refine aT ⟨by omega, by omega, by omega, by omega, by omega, by omega, ?_⟩
 have e2 : lM (some ⟨q, 0, none⟩) 0 (Int.toNat (c : Int)) 3 = some ⟨q, 0, none⟩ := by
  unfold lM; rw [if_neg (by simp; omega)]; rfl
 rw [e2]
 simp only [Int.toNat_natCast, Nat.sub_zero]
 refine D.ZV _ _ _ _ _ _ _ _ _ _ _ h ?_
 clear h; intro M h
 have XU : ((fa l i (l.length - 1)).take (l.length - 1)).length = l.length - 1 := by rw [List.length_take, fH]; omega
 have fin : ∀ (M : Mem) (Q : List HP), Hp R (P (some ⟨q, 0, none⟩) (l.length - 1) c s :: gn (some ⟨q, 0, none⟩) c (eA l i) :: pt k2 [.int .u64 x.t, .int .u64 x.seq, .int .i64 x.id] 205 :: pt k1 [.int .u64 0, .int .u64 0, .int .i64 0] 205 :: L) M →
   aK (Mem.ld M ⟨k2, 0, none⟩) .u64 fun xu => aK (Mem.ld M ⟨k2, (0 + 1), none⟩) .u64 fun Hg => aK (Mem.ld M ⟨k2, (0 + 2), none⟩) .i64 fun tV =>
   aO M ⟨k1, 0, none⟩ (.int .u64 xu) fun mX => aO mX ⟨k1, (0 + 1), none⟩ (.int .u64 Hg) fun uz => aO uz ⟨k1, (0 + 2), none⟩ (.int .i64 tV) fun mI =>
   aK (Mem.ld mI ⟨k1, 0, none⟩) .u64 fun Mm => aK (Mem.ld mI ⟨k1, (0 + 1), none⟩) .u64 fun yq => aK (Mem.ld mI ⟨k1, (0 + 2), none⟩) .i64 fun NB =>
   K (.agg #[(.int .u64 Mm), (.int .u64 yq), (.int .i64 NB)]) mI := by
  intro M _ h
  refine aH h (aH h (aH h ?_))
  refine av h ?_
  clear h; intro M h
  refine av h ?_
  clear h; intro M h
  refine av h ?_
  clear h; intro M h
  refine aH h (aH h (aH h ?_))
  exact k _ (h.sub bz)
 replace h : Hp R (P (some ⟨q, 0, none⟩) (l.length - 1) c s :: gn (some ⟨q, 0, none⟩) c ((fa l i (l.length - 1)).take (l.length - 1)) :: pt k2 [.int .u64 x.t, .int .u64 x.seq, .int .i64 x.id] 205 :: pt k1 [.int .u64 0, .int .u64 0, .int .i64 0] 205 :: L) M := (h.swap.No (l.length - 1)).swap
 unfold eA at fin
 refine aP.2 ⟨fun hlt => ?_, fun hge => ?_⟩
 ·rw [if_pos (by omega)] at fin
  have h' : Hp R (P (some ⟨q, 0, none⟩) ((fa l i (l.length - 1)).take (l.length - 1)).length c s :: gn (some ⟨q, 0, none⟩) c ((fa l i (l.length - 1)).take (l.length - 1)) :: pt k2 [.int .u64 x.t, .int .u64 x.seq, .int .i64 x.id] 205 :: pt k1 [.int .u64 0, .int .u64 0, .int .i64 0] 205 :: L) M := by rw [XU]; exact h
  clear h
  have h := h'
  clear h'
  refine LB D (f := l.length) h (by omega) (by omega) (by omega) ?_
  clear h; intro M h
  refine ⟨rfl, ?_⟩
  rw [show ((fa l i (l.length - 1)).take (l.length - 1)).length = (oI l.length i ((fa l i (l.length - 1)).take (l.length - 1))).length from js.symm] at h
  refine JO D (f := i) h (by rw [js]; omega) (by rw [js]; omega) (Nat.le_refl _) ?_
  clear h; intro M h
  refine ⟨rfl, ?_⟩
  rw [js, XU] at h
  exact fin M [] h
 ·rw [if_neg (by omega)] at fin
  exact fin M [] h
theorem LD (D : Tm b o P) {now : Int} (h : Hp R (P A l.length c s :: gn A c l :: L) M) (hl : l.length ≤ 1000000)
  (k : ∀ A' c' M', Hp R (P A (ee l.length l now).1.length c s :: gn A c (ee l.length l now).1 :: gn A' c' (ee l.length l now).2 :: L) M' → K (.slice A' (ee l.length l now).2.length c') M') :
  aa Tryz.prog 89 #[.pointer (some ⟨b, o, none⟩), .int .u64 now] M K Kp := by
 refine uG ?_
 have h0 := h.bX sF 205
 refine ⟨fun d vs M => ∃ (A' : Option Addr) (c' : Nat) (out l' : List bE), vs = [.slice A' out.length c'] ∧ d = l'.length ∧ l'.length + out.length = l.length ∧ (ee l'.length l' now).1 = (ee l.length l now).1 ∧ out ++ (ee l'.length l' now).2 = (ee l.length l now).2 ∧
   Hp R (P A l'.length c s :: gn A c l' :: gn A' c' out :: L) M, ⟨_, none, 0, [], l, rfl, rfl, rfl, rfl, rfl, h0.sub bz⟩, ?_⟩
 clear h h0
 rintro d _ A' n' c' M ⟨A2, c2, out, l', he, hd, XU, e1, e2, h⟩
 simp only [List.cons.injEq, Value.slice.injEq, and_true, true_and] at he
 obtain ⟨rfl, rfl, rfl⟩ := he
 rw [D.Gn _ _ _ _ _ _ _ h]
 have stop : ¬ (0 < l'.length ∧ (nA l' 0).t ≤ now) → K (.slice A' out.length c') M := by
  intro hn
  have e : ee l'.length l' now = (l', []) := by
   cases hl' : l'.length with
   | zero => rfl
   | succ m => rw [zY]; rw [if_neg hn]
  rw [e] at e1 e2
  dsimp only at e1 e2
  rw [List.append_nil] at e2
  subst e1; subst e2
  exact k _ _ _ h
 refine aT ?_
 refine aP.2 ⟨fun hgt => ?_, fun hle => stop (by omega)⟩
 have hcap := h.jV A
 obtain ⟨q, rfl⟩ := h.bx (A := A) (by omega) (by decide)
 have hs := h.src (A := some ⟨q, 0, none⟩)
 refine aT ⟨by omega, by omega, br ?_⟩
 refine aZ (Src.at hs h (i := 0) (j := 0) (mF (by omega)) rfl rfl) ?_
 clear hs
 refine aP.2 ⟨fun hle => ?_, fun hgt2 => stop (fun hn => hgt2 hn.2)⟩
 refine FL D h (i := 0) (by omega) (by omega) ?_
 clear h stop; intro M h
 refine ⟨_, _, _, rfl, ?_⟩
 refine aq h ?_
 clear h; intro kb M h
 refine h.bS (A := A') JM [nA l' 0] rfl rfl (by simp only [List.length_singleton]; omega) ?_
 clear h; intro A3 c3 M h
 refine aT ?_
 have kK : (eA l' 0).length = l'.length - 1 := FK
 have hw : ee l'.length l' now = ((ee (eA l' 0).length (eA l' 0) now).1, nA l' 0 :: (ee (eA l' 0).length (eA l' 0) now).2) := by
  obtain ⟨m, hm⟩ : ∃ m, l'.length = m + 1 := ⟨l'.length - 1, by omega⟩
  rw [kK, hm]
  show ee (m + 1) l' now = _
  rw [zY]
  rw [if_pos ⟨by omega, hle⟩]; rfl
 rw [hw] at e1 e2
 rw [← kK] at h
 exact ⟨_, by omega, A3, c3, out ++ [nA l' 0], eA l' 0, rfl, rfl, by simp; omega, e1, by rw [List.append_assoc]; exact e2, h.sub bz⟩
end
def pn (x : Wd) (k : Int) : Lk := x.aL.getD k.toNat ⟨-1, []⟩
def Wd.gF (x : Wd) (k : Int) (c : Lk) : Wd := { x with aL := x.aL.set k.toNat c }
def Wd.lock (x : Wd) (g : Int) (i : cI) : Wd := if ((pn x i.a).take g).2 then x.gF i.a ((pn x i.a).take g).1 else (x.gF i.a ((pn x i.a).take g).1).block g i
def Wd.unlock (x : Wd) (g : Int) (i : cI) : Out Wd :=
 if ((pn x i.a).sv g).2.2 ≠ 0 then .eR (-3) (x.gF i.a ((pn x i.a).sv g).1)
 else if ((pn x i.a).sv g).2.1 ≠ -1 then .on ((x.gF i.a ((pn x i.a).sv g).1).fx ((pn x i.a).sv g).2.1) else .on (x.gF i.a ((pn x i.a).sv g).1)
def DP (x : Wd) (k : Int) : Prop := 0 ≤ k ∧ k < x.aL.length
instance (x : Wd) (k : Int) : Decidable (DP x k) := by unfold DP; infer_instance
def ni (x : Wd) (g : Int) (i : cI) : Prop := DP x i.a ∧ (((pn x i.a).sv g).2.1 ≠ -1 → 0 ≤ ((pn x i.a).sv g).2.1 ∧ ((pn x i.a).sv g).2.1 < x.gs.length)
instance (x : Wd) (g : Int) (i : cI) : Decidable (ni x g i) := by unfold ni; infer_instance
def Wd.rand (x : Wd) (g : Int) (i : cI) : jQ → Out Wd
 | .num d => .on ((x.next g).bA g i.a d)
 | .cO l => .cO l x
def qv (x : Wd) (g : Int) (i : cI) : Int := if 1048576 < bC x g i.a then 1048576 else bC x g i.a
def Wd.sleep (x : Wd) (g : Int) (i : cI) : Wd :=
 if 0 < qv x g i then { x.bF g { au x g with st := 3 } with hl := sJ x.hl ⟨IntKind.wrap .u64 (x.clock + IntKind.wrap .u64 (qv x g i)), x.lp, g⟩, lp := IntKind.wrap .u64 (x.lp + 1) } else x
def Wd.tick (x : Wd) : Wd := if x.end_ ≠ 0 then { x with ready := [] } else
 let r := ee x.hl.length x.hl (IntKind.wrap .u64 (x.clock + 1))
 (r.2.map (·.id)).foldl Wd.fx { x with clock := IntKind.wrap .u64 (x.clock + 1), hl := r.1, ready := [] }
section
variable {R : Mem} {L L' L2 : List HP} {M : Mem} {K : Value → Mem → Prop} {Kp : List PanicEntry → Mem → Prop} {pa : PA} {p : b6} {gg : List GA} {dr : Value} {b : Nat} {x : Wd} {g : Int} {i : cI}
theorem RJ (hg : bp x g) (hb : bh i.b) : gf R pa p dr 161 x g i (x.call g i) L L := by
 intro gg b bs c M K Kp Q h eY k
 refine rE ?_
 have yy := hg
 obtain ⟨h0, h1, h2, h3⟩ := yy
 unfold Wd.call at k
 refine aq h ?_
 clear h
 intro kb M h
 have hC := h
 have h' := gP h (b := b) h0 h1 eY
 clear h
 obtain ⟨a, gb, hl, fX, h⟩ := h'
 have hl' := hl
 obtain ⟨l1, l2, l3, l4⟩ := hl'
 repeat (first | (refine aq h ?_; clear h; intro kb M h) | (refine av h ?_; clear h; intro M h) | refine St.to h ?_ | (apply Exists.intro; (repeat apply Exists.intro); refine And.intro rfl ?_) | (refine And.intro ?_ ?_; first | exact rfl | ((repeat (refine ay (aA h) ?_)); exact ae) | omega) | refine ai ?_ | refine aj ?_)
 refine vz h fX fun q hq => ?_
 repeat (first | (refine aq h ?_; clear h; intro kb M h) | (refine av h ?_; clear h; intro M h) | refine St.to h ?_ | (apply Exists.intro; (repeat apply Exists.intro); refine And.intro rfl ?_) | (refine And.intro ?_ ?_; first | exact rfl | ((repeat (refine ay (aA h) ?_)); exact ae) | omega) | refine ai ?_ | refine aj ?_)
 refine ⟨hb.1, hb.2, uV h (eJ h2) hb rfl ?_⟩
 repeat (first | (refine aq h ?_; clear h; intro kb M h) | (refine av h ?_; clear h; intro M h) | refine St.to h ?_ | (apply Exists.intro; (repeat apply Exists.intro); refine And.intro rfl ?_) | (refine And.intro ?_ ?_; first | exact rfl | ((repeat (refine ay (aA h) ?_)); exact ae) | omega) | refine ai ?_ | refine aj ?_)
 refine HV h h2 ?_ ?_
 ·intro tI
  rw [if_pos (by omega)] at k
  refine ⟨_, _, _, _, rfl, ai ?_⟩
  exact k _ _ (hC.sub bz)
 ·intro hlt b' c' M' h'
  clear h hC
  have h := h'
  clear h'
  rw [if_neg (by omega)] at k
  refine ⟨_, _, _, _, rfl, aj ?_⟩
  repeat (first | (refine aq h ?_; clear h; intro kb M h) | (refine av h ?_; clear h; intro M h) | refine St.to h ?_ | (apply Exists.intro; (repeat apply Exists.intro); refine And.intro rfl ?_) | (refine And.intro ?_ ?_; first | exact rfl | ((repeat (refine ay (aA h) ?_)); exact ae) | omega) | refine ai ?_ | refine aj ?_)
  refine vz h fX fun q2 ny => ?_
  repeat (first | (refine aq h ?_; clear h; intro kb M h) | (refine av h ?_; clear h; intro M h) | refine St.to h ?_ | (apply Exists.intro; (repeat apply Exists.intro); refine And.intro rfl ?_) | (refine And.intro ?_ ?_; first | exact rfl | ((repeat (refine ay (aA h) ?_)); exact ae) | omega) | refine ai ?_ | refine aj ?_)
  have hlen : (au x g).fs.length + 1 = ((au x g).fs ++ [(⟨i.a, 0, [bC x g i.b, 0, 0, 0, 0, 0, 0, 0], i.c⟩ : gM)]).length := by simp
  have h5 := ng (A := some ⟨b', 0, none⟩) (fs := (au x g).fs ++ [⟨i.a, 0, [bC x g i.b, 0, 0, 0, 0, 0, 0, 0], i.c⟩]) h gb hlen
  have hi := (List.getElem?_eq_some_iff.1 fX).1
  have h6 := h5.eu fZ gb fX (by rw [List.length_zip]; omega)
  rw [zW] at h6
  have jD : fj (gg.set g.toNat (some ⟨b', 0, none⟩, c')) a (x.bF g ⟨(au x g).st, (au x g).fs ++ [⟨i.a, 0, [bC x g i.b, 0, 0, 0, 0, 0, 0, 0], i.c⟩], (au x g).wt⟩) := ⟨by simpa [Wd.bF] using l1, by simpa [Wd.bF] using l2, l3, l4⟩
  have h7 := bj (a := a) (p := p) (pa := pa) (dr := dr) (gg := gg.set g.toNat (some ⟨b', 0, none⟩, c')) (x := x.bF g ⟨(au x g).st, (au x g).fs ++ [⟨i.a, 0, [bC x g i.b, 0, 0, 0, 0, 0, 0, 0], i.c⟩], (au x g).wt⟩) jD h6 b
  exact k _ _ (h7.sub bz)
theorem JP {a : WA} {k : Int} {c : Lk} (hl : fj gg a x) : fj gg a (x.gF k c) := by
 obtain ⟨l1, l2, l3, l4⟩ := hl
 exact ⟨l1, l2, l3, by simpa [Wd.gF] using l4⟩
theorem RK (hg : bp x g) (hk : DP x i.a) (hs : x.Sm) : gf R pa p dr 169 x g i (.on (x.lock g i)) L L := by
 intro gg b bs c M K Kp Q h eY k
 refine rK ?_
 replace k : ∀ l9 M', Hp R (aB (bB pa p l9 dr) b (x.lock g i) :: Q :: L) M' → K (.tuple #[]) M' := k
 unfold Wd.lock at k
 obtain ⟨s1, s2, s3, s4, s5, s6, s7, s8⟩ := hs
 obtain ⟨k0, k1⟩ := hk
 refine aq h ?_
 clear h
 intro kb M h
 have h' := cy h (b := b)
 clear h
 obtain ⟨a, hl, h⟩ := h'
 have hl' := hl
 obtain ⟨l1, l2, l3, l4⟩ := hl'
 refine aQ h (aH h ⟨k0, by omega, ?_⟩)
 obtain ⟨lb, hlb⟩ := aR (l := a.lb) (i := i.a.toNat) (by omega)
 refine vz h hlb fun q hq => ?_
 obtain ⟨y, hy⟩ := aR (l := x.aL) (i := i.a.toNat) (by omega)
 have e : pn x i.a = y := by simp [pn, hy]
 rw [e] at k
 replace h := h.dn fW hlb hy
 refine HW h (Nat.le_trans (s6 y (List.mem_of_getElem? hy)) (by decide)) ?_
 clear h; intro M h
 replace h := h.eu fW lb hlb (by omega)
 replace h := bj (a := a) (p := p) (pa := pa) (dr := dr) (gg := gg) (x := x.gF i.a (y.take g).1) (JP hl) h b
 refine mU ?_
 cases ht : (y.take g).2 with
 | true =>
  rw [ht] at k
  simp only [if_true] at k
  refine aj ?_
  exact k _ _ (h.sub bz)
 | false =>
  rw [ht] at k
  simp only [Bool.false_eq_true, if_false] at k
  refine ai ?_
  refine aH h (aH h (aH h (aH h ?_)))
  refine lZ (b := b) (i := i) h hg.1 (show g < (x.gF i.a (y.take g).1).gs.length from hg.2.1) ?_
  clear h; intro M h
  exact ⟨rfl, k _ _ (h.sub bz)⟩
theorem LF (hk : ni x g i) (hs : x.Sm) : gf R pa p dr 170 x g i (x.unlock g i) L L := by
 intro gg b bs c M K Kp Q h eY k
 refine oT ?_
 unfold Wd.unlock at k
 obtain ⟨s1, s2, s3, s4, s5, s6, s7, s8⟩ := hs
 obtain ⟨⟨k0, k1⟩, hw⟩ := hk
 refine aq h ?_
 clear h
 intro kb M h
 have h' := cy h (b := b)
 clear h
 obtain ⟨a, hl, h⟩ := h'
 have hl' := hl
 obtain ⟨l1, l2, l3, l4⟩ := hl'
 refine aQ h (aH h ⟨k0, by omega, ?_⟩)
 obtain ⟨lb, hlb⟩ := aR (l := a.lb) (i := i.a.toNat) (by omega)
 refine vz h hlb fun q hq => ?_
 obtain ⟨y, hy⟩ := aR (l := x.aL) (i := i.a.toNat) (by omega)
 have e : pn x i.a = y := by simp [pn, hy]
 rw [e] at k hw
 replace h := h.dn fW hlb hy
 refine HX h (Nat.le_trans (s6 y (List.mem_of_getElem? hy)) (by decide)) ?_
 clear h; intro M h
 replace h := h.eu fW lb hlb (by omega)
 replace h := bj (a := a) (p := p) (pa := pa) (dr := dr) (gg := gg) (x := x.gF i.a (y.sv g).1) (JP hl) h b
 refine ⟨_, _, rfl, ?_⟩
 refine cK.2 ⟨fun hn => ?_, fun hn => ?_⟩
 ·rw [if_pos hn] at k
  exact k _ _ (h.sub bz)
 rw [if_neg (by simpa using hn)] at k
 refine cK.2 ⟨fun yf => ?_, fun yf => ?_⟩
 ·rw [if_pos yf] at k
  obtain ⟨w0, w1⟩ := hw yf
  refine hU (b := b) h w0 (show _ < ((x.gF i.a (y.sv g).1).gs.length : Int) from w1) (by show x.ready.length ≤ _; omega) ?_
  clear h; intro M h
  exact ⟨rfl, k _ _ (h.sub bz)⟩
 ·rw [if_neg (by simpa using yf)] at k
  exact k _ _ (h.sub bz)
theorem RL : gf R pa p dr 172 x g i (.eR i.a x) L L := by
 intro gg b bs c M K Kp Q h eY k
 refine rM ?_
 refine aq h ?_
 clear h
 intro kb M h
 refine aH h ?_
 exact k _ _ (h.sub bz)
theorem Pg : gf R pa p dr 164 x g i (.on x) L L := by
 intro gg b bs c M K Kp Q h eY k
 refine pY ?_
 refine aq h ?_
 clear h
 intro kb M h
 exact k _ _ (h.sub bz)
theorem RM {d : jQ} (hg : bp x g) (ha : bh i.a) (Bt : 0 ≤ (au x g).top.pc ∧ (au x g).top.pc < 1000000000) (hd : iU R dr 4 i.b d L L2) : gf R pa p dr 123 x g i (x.rand g i d) L L2 := by
 intro gg b bs c M K Kp Q h eY k
 refine rz ?_
 refine aq h ?_
 clear h
 intro kb M h
 have vA : M.ld ⟨b, 0 + 14, none⟩ = some dr := by
  obtain ⟨a, hl, h9⟩ := cy h (b := b)
  exact aA h9
 rw [vA]
 refine Nm (aH h ?_)
 have h5 : Hp R (sep [aB (bB pa p gg dr) b x, pt kb [.int .i64 i.op, .int .i64 i.a, .int .i64 i.b, .int .i64 i.c] 34, Q] :: L) M := Hp.bk.2 (h.sub bz)
 refine hd _ _ _ _ h5 ?_
 clear h h5 vA
 cases d with
 | cO l =>
  dsimp only at k ⊢
  intro M h5
  have h : Hp R (aB (bB pa p gg dr) b x :: pt kb [.int .i64 i.op, .int .i64 i.a, .int .i64 i.b, .int .i64 i.c] 34 :: Q :: L2) M := Hp.bk.1 h5
  exact k _ _ (h.sub bz)
 | num v =>
  dsimp only at k ⊢
  intro M h5
  have h : Hp R (aB (bB pa p gg dr) b x :: pt kb [.int .i64 i.op, .int .i64 i.a, .int .i64 i.b, .int .i64 i.c] 34 :: Q :: L2) M := Hp.bk.1 h5
  clear h5
  refine ck ?_
  refine Ip (b := b) h hg eY rfl ?_
  rw [jq Bt.1 (by omega)]
  refine Io (b := b) h hg eY rfl rfl ?_
  clear h; intro M h
  refine aH h ⟨ha.1, ha.2, ?_⟩
  refine l8 (b := b) h (tK hg) eY ha (by rw [DM hg]) ?_
  clear h; intro M h
  exact k _ _ (h.sub bz)
abbrev wPre (pa : PA) (p : b6) (a : WA) (x : Wd) : List Value :=
 [.slice pa.f p.funcs.length pa.fc, .slice pa.c p.dI.length pa.cc, .int .i64 p.aL, .slice pa.k p.cases.length pa.kc, .slice a.ag a.gb.length a.cg, .int .u64 x.clock, .slice a.ac a.cb.length a.cc, .slice a.al a.lb.length a.cl]
abbrev DQ (pa : PA) (p : b6) (dr : Value) (a : WA) (x : Wd) (nr : Nat) (A : Option Addr) (n c : Nat) (s : Int) : List Value :=
 [.slice pa.f p.funcs.length pa.fc, .slice pa.c p.dI.length pa.cc, .int .i64 p.aL, .slice pa.k p.cases.length pa.kc, .slice a.ag a.gb.length a.cg, .int .u64 x.clock,
  .slice a.ac a.cb.length a.cc, .slice a.al a.lb.length a.cl, .slice A n c, .int .u64 s, .slice a.ao x.out.length a.co, .int .i64 x.end_, .int .i64 x.code, .slice a.ar nr a.cr, dr]
theorem Tn {a : WA} {nr T : Nat} : Tm b (0 + 8) (fun A n c s => pt b (DQ pa p dr a x nr A n c s) T) :=
 ⟨fun R L M A n c s h => aA h, fun R L M A n c s h => aA h, fun R L M A A' n c n' c' s G h k => av h k, fun R L M A n c s s' G h k => av h k⟩
theorem Ph (hg : bp x g) (ha : bh i.a) (hs : x.hl.length < 1000000) : gf R pa p dr 168 x g i (.on (x.sleep g i)) L L := by
 intro gg b bs c M K Kp Q h eY k
 refine pZ ?_
 replace k : ∀ l9 M', Hp R (aB (bB pa p l9 dr) b (x.sleep g i) :: Q :: L) M' → K (.tuple #[]) M' := k
 have yy := hg
 obtain ⟨h0, h1, h2, h3⟩ := yy
 unfold Wd.sleep at k
 refine aq h ?_
 clear h
 intro kb M h
 refine aH h ⟨ha.1, ha.2, ?_⟩
 refine Fu (b := b) h hg eY ha rfl ?_
 have hC := h
 have h' := cy h (b := b)
 clear h
 obtain ⟨a, hl, h⟩ := h'
 have hl' := hl
 obtain ⟨l1, l2, l3, l4⟩ := hl'
 have e : (if (1048576 : Int) < bC x g i.a then 1048576 else bC x g i.a) = qv x g i := rfl
 rw [e]
 refine aP.2 ⟨fun hn => ?_, fun hn => ?_⟩
 ·rw [if_pos (by omega)] at k
  refine aH h ?_
  clear hC
  replace h : Hp R (pt b (DQ pa p dr a x x.ready.length a.ah x.hl.length a.ch x.lp) 164 :: gn a.ah a.ch x.hl :: bn fZ a.gb (x.gs.zip gg) :: zR a.ag a.cg a.gb :: zS a.ac a.cc a.cb :: bn bM a.cb x.aE :: zT a.al a.cl a.lb :: bn fW a.lb x.aL :: uB a.ao a.co x.out :: kD a.ar a.cr x.ready :: Q :: L) M := h.sub bz
  refine LC (Tn (a := a) (x := x)) h hs ?_
  clear h; intro v A' c' M h
  refine ck ?_
  have h9 : Hp R (aB (bB pa p gg dr) b { x with hl := sJ x.hl ⟨IntKind.wrap .u64 (x.clock + IntKind.wrap .u64 (qv x g i)), x.lp, g⟩, lp := IntKind.wrap .u64 (x.lp + 1) } :: Q :: L) M := by
   have := LA (l := x.hl) (x := ⟨IntKind.wrap .u64 (x.clock + IntKind.wrap .u64 (qv x g i)), x.lp, g⟩)
   rw [← this] at h
   exact jO (a := { a with ah := A', ch := c' }) (x := { x with hl := sJ x.hl ⟨IntKind.wrap .u64 (x.clock + IntKind.wrap .u64 (qv x g i)), x.lp, g⟩, lp := IntKind.wrap .u64 (x.lp + 1) }) ⟨l1, l2, l3, l4⟩ (h.sub bz)
  clear h hl l1 l2 l3 l4
  have h := h9
  clear h9
  have h' := gP (x := { x with hl := sJ x.hl ⟨IntKind.wrap .u64 (x.clock + IntKind.wrap .u64 (qv x g i)), x.lp, g⟩, lp := IntKind.wrap .u64 (x.lp + 1) }) h (b := b) h0 h1 eY
  clear h
  obtain ⟨a2, gb, hl, fX, h⟩ := h'
  have hl' := hl
  obtain ⟨l1, l2, l3, l4⟩ := hl'
  refine aQ h ⟨h0, by dsimp only at l1; omega, ?_⟩
  refine vz h fX fun q hq => ?_
  refine br ?_
  refine av h ?_
  clear h; intro M h
  replace h := cU h gb hl fX eY
  have jD := dy (y := { au x g with st := 3 }) (g := g) hl
  replace h := bj (a := a2) (p := p) (pa := pa) (dr := dr) (gg := gg) (x := { x.bF g { au x g with st := 3 } with hl := sJ x.hl ⟨IntKind.wrap .u64 (x.clock + IntKind.wrap .u64 (qv x g i)), x.lp, g⟩, lp := IntKind.wrap .u64 (x.lp + 1) }) jD h b
  exact k _ _ (h.sub bz)
 ·rw [if_neg (by omega)] at k
  exact k _ _ (hC.sub bz)
theorem RN {l : List Int} : ∀ {x : Wd}, (l.foldl Wd.fx x).gs.length = x.gs.length := by
 induction l with
 | nil => intro x; rfl
 | cons a l ih => intro x; rw [List.foldl_cons, ih]; simp [Wd.fx, Wd.bF]
theorem Ir {l : List Int} : ∀ {x : Wd}, (l.foldl Wd.fx x).ready = x.ready ++ l := by
 induction l with
 | nil => intro x; simp
 | cons a l ih => intro x; rw [List.foldl_cons, ih]; simp [Wd.fx]
theorem Is (h : Hp R L M) [o : Ik b L pa p x L'] (hs : x.hl.length ≤ 1000000) (hw : ∀ y ∈ (ee x.hl.length x.hl (IntKind.wrap .u64 (x.clock + 1))).2, 0 ≤ y.id ∧ y.id < x.gs.length)
  (k : ∀ R' A c M', R.le R' → RS bl R' A c x.tick.ready → Hp R' (aB (bG pa p) b x.tick :: L') M' → K (.slice A x.tick.ready.length c) M') :
  aa Tryz.prog 43 #[.pointer (some ⟨b, 0, none⟩)] M K Kp := by
 refine rq ?_
 have h' := eD h (b := b)
 clear h
 obtain ⟨a, gg, dr, n, hl, h⟩ := h'
 have hl' := hl
 obtain ⟨l1, l2, l3, l4⟩ := hl'
 unfold Wd.tick at k
 dsimp only at k
 refine aH h ?_
 refine cK.2 ⟨fun he => ?_, fun he => ?_⟩
 ·rw [if_pos he] at k
  exact k R none 0 M (Mem.le_refl _) (RS.nil _ _) (me (a := a) (gg := gg) (dr := dr) (n := n) (x := { x with ready := [] }) hl h)
 rw [if_neg (by simpa using he)] at k
 refine aH h ?_
 refine av h ?_
 clear h; intro M h
 refine av h ?_
 clear h; intro M h
 refine aH h ?_
 replace h : Hp R (pt b (DQ pa p dr { a with ar := none, cr := 0 } { x with clock := IntKind.wrap .u64 (x.clock + 1) } 0 a.ah x.hl.length a.ch x.lp) 164 :: gn a.ah a.ch x.hl :: bn fZ a.gb (x.gs.zip gg) :: zR a.ag a.cg a.gb :: zS a.ac a.cc a.cb :: bn bM a.cb x.aE :: zT a.al a.cl a.lb :: bn fW a.lb x.aL :: uB a.ao a.co x.out :: L') M := h.sub (by repeat (first | exact .refl | refine .cons (by repeat (first | exact .here | apply de.there)) ?_ | apply Sub.drop))
 refine LD (Tn (a := { a with ar := none, cr := 0 }) (x := { x with clock := IntKind.wrap .u64 (x.clock + 1) })) h hs ?_
 clear h; intro A' c' M h
 have hlen : (ee x.hl.length x.hl (IntKind.wrap .u64 (x.clock + 1))).2.length ≤ x.hl.length := by
  have : ∀ (f : Nat) (l : List bE) (now : Int), (ee f l now).2.length ≤ f := by
   intro f
   induction f with
   | zero => intro l now; exact Nat.le_refl _
   | succ f ih =>
    intro l now; unfold ee; split
    ·have := ih (eA l 0) now; simp; exact this
    ·exact Nat.zero_le _
  exact this _ _ _
 generalize ee x.hl.length x.hl (IntKind.wrap .u64 (x.clock + 1)) = r at h k hw hlen
 refine aT ?_
 have h0 := h.bX bl 3
 have hW : Hp R (aB (bB pa p gg dr) b { x with clock := IntKind.wrap .u64 (x.clock + 1), hl := r.1, ready := [] } :: gn A' c' r.2 :: L') M :=
  jO (a := { a with ar := none, cr := 0 }) (x := { x with clock := IntKind.wrap .u64 (x.clock + 1), hl := r.1, ready := [] }) ⟨l1, l2, l3, l4⟩ (h0.sub (by repeat (first | exact .refl | refine .cons (by repeat (first | exact .here | apply de.there)) ?_ | apply Sub.drop)))
 clear h h0
 generalize DN : ({ x with clock := IntKind.wrap .u64 (x.clock + 1), hl := r.1, ready := [] } : Wd) = x1 at hW k
 have hgs : x1.gs.length = x.gs.length := by rw [← DN]
 have hrd : x1.ready = [] := by rw [← DN]
 refine ⟨fun d vs M => ∃ j : Nat, vs = [.int .i64 (j : Int)] ∧ d = r.2.length - j ∧ j ≤ r.2.length ∧ Hp R (aB (bB pa p gg dr) b (((r.2.take j).map (·.id)).foldl Wd.fx x1) :: gn A' c' r.2 :: L') M, ⟨_, 0, rfl, rfl, by omega, hW⟩, ?_⟩
 clear hW
 rintro d _ nn M ⟨j, xC, hd, hj, h⟩
 simp only [List.cons.injEq, Value.int.injEq, and_true, true_and] at xC
 subst xC
 refine aP.2 ⟨fun hlt => ?_, fun hge => ?_⟩
 ·obtain ⟨w, hww⟩ := aR (l := r.2) (i := j) (by omega)
  have hwm := hw w (List.mem_of_getElem? hww)
  obtain ⟨q, rfl⟩ := h.bx (A := A') (by omega) (by decide)
  have XV := h.src (A := some ⟨q, 0, none⟩)
  refine ⟨by omega, hlt, br ?_⟩
  refine mh h XV hww (by simp) (by simp) (by simp) ?_
  clear XV
  refine aq h ?_
  clear h; intro kw M h
  refine av h ?_
  clear h; intro M h
  refine av h ?_
  clear h; intro M h
  refine av h ?_
  clear h; intro M h
  refine aH h ?_
  refine hU (b := b) h hwm.1 (by rw [RN, hgs]; exact hwm.2) (by rw [Ir, hrd]; simp; omega) ?_
  clear h; intro M h
  refine ⟨rfl, r.2.length - (j + 1), by omega, j + 1, by rw [aU (by omega)], rfl, by omega, ?_⟩
  rw [cC hww, List.map_append, List.foldl_append]
  exact h.sub (by repeat (first | exact .refl | refine .cons (by repeat (first | exact .here | apply de.there)) ?_ | apply Sub.drop))
 ·have yj : j = r.2.length := by omega
  subst yj
  rw [List.take_length] at h
  generalize hz : (r.2.map (·.id)).foldl Wd.fx x1 = z at h k
  have h' := cy h (b := b)
  clear h
  obtain ⟨a2, jD, h⟩ := h'
  refine aQ h ?_
  obtain ⟨R', hle, kN, h6⟩ := h.dg a2.ar
  exact k R' _ _ _ hle kN (me (a := a2) (n := z.ready.length) (gg := gg) (dr := dr) jD (h6.sub (by repeat (first | exact .refl | refine .cons (by repeat (first | exact .here | apply de.there)) ?_ | apply Sub.drop))))
end
def va (x : Wd) (g : Int) (i : cI) : Out (Wd × Bool) → Prop
 | .on (y, false) => bp y g ∧ (au y g).fs.length = (au x g).fs.length ∧ zU y i.a
 | .on (_, true) => True
 | .eR _ _ => True
 | .cO _ _ => True
instance (x : Wd) (g : Int) (i : cI) (r : Out (Wd × Bool)) : Decidable (va x g i r) := match r with
 | .on (y, false) => by unfold va; infer_instance
 | .on (_, true) => isTrue trivial
 | .eR _ _ => isTrue trivial
 | .cO _ _ => isTrue trivial
theorem LG {p : b6} {x : Wd} {g : Int} {i : cI} (h : bp x g ∧ bh i.b ∧ oH p x i.a (bC x g i.b) ∧ va x g i (x.put p i.a (bC x g i.b))) : H6 p x g i := by
 obtain ⟨h1, h2, h3, h4⟩ := h
 refine ⟨h1, h2, h3, ?_⟩
 generalize x.put p i.a (bC x g i.b) = r at h4
 match r, h4 with
 | .on (y, false), h4 => exact h4
 | .on (y, true), _ => trivial
 | .eR _ _, _ => trivial
 | .cO _ _, _ => trivial
instance (x : Wd) (g : Int) (i : cI) : Decidable (wE x g i) := by unfold wE; infer_instance
instance (p : b6) (x : Wd) (i : cI) : Decidable (oq p x i) := by unfold oq; infer_instance
def z0 (p : b6) (x : Wd) (g : Int) (i : cI) (k : Int) : Prop :=
 let c := (aF p i).getD k.toNat ⟨0, 0, 0⟩
 let x1 := x.next g
 0 ≤ k ∧ k < (aF p i).length ∧ bh c.bT ∧
  if c.way = 1 then oH p x1 c.ch (bC x1 g c.bT) ∧ (match x1.put p c.ch (bC x1 g c.bT) with
   | .on (y, _) => bp y g ∧ (au y g).fs.length = (au x g).fs.length
   | _ => True)
  else uZ x1 c.ch ∧ bp (x1.get c.ch).1 g ∧ (au (x1.get c.ch).1 g).fs.length = (au x g).fs.length
instance (g : Int) (n : Nat) (r : Out (Wd × Bool)) : Decidable (match r with
   | .on (y, _) => bp y g ∧ (au y g).fs.length = n
   | _ => True) := match r with
 | .on (y, _) => by dsimp only; infer_instance
 | .eR _ _ => isTrue trivial
 | .cO _ _ => isTrue trivial
instance (p : b6) (x : Wd) (g : Int) (i : cI) (k : Int) : Decidable (z0 p x g i k) := by unfold z0; infer_instance
def nj (p : b6) (x : Wd) (g : Int) (i : cI) (d : jQ) : Bool :=
 decide (bp x g ∧ u9 p i ∧ bh i.c ∧ x.Sm ∧ (au x g).top.pc < 1000000000 ∧ 0 ≤ (au x g).top.pc ∧ (∀ c ∈ aF p i, c.Ok x.aE.length)) &&
 (match d with
  | .cO _ => true
  | .num v => (enabled (aF p i) x.aE).isEmpty || decide (0 ≤ v ∧ v < (enabled (aF p i) x.aE).length ∧ z0 p x g i ((enabled (aF p i) x.aE).getD v.toNat 0)))
theorem FM {p : b6} {x : Wd} {g : Int} {i : cI} {d : jQ} (h : nj p x g i d = true) : FI p x g i d := by
 unfold nj at h
 rw [Bool.and_eq_true] at h
 obtain ⟨h1, h2⟩ := h
 obtain ⟨a1, a2, a3, a4, a5, a6, a7⟩ := of_decide_eq_true h1
 refine ⟨a1, a2, a3, a4, a5, a6, a7, ?_⟩
 cases d with
 | cO l => split <;> trivial
 | num v =>
  dsimp only at h2
  cases he : enabled (aF p i) x.aE with
  | nil => trivial
  | cons q l =>
   rw [he] at h2
   rw [List.isEmpty_cons, Bool.false_or] at h2
   have h3 := of_decide_eq_true h2
   exact h3
def ov (p : b6) (x : Wd) (g : Int) (i : cI) : Option (Out Wd) :=
 if i.op = 10 then (if bp x g ∧ bh i.a ∧ bh (au x g).top.rm then some (.on (x.back g i)) else none)
 else if i.op = 11 then (if bp x g ∧ bh i.b ∧ bh i.c ∧ x.Sm then some (x.spawn g i) else none)
 else if i.op = 13 then (if (bp x g ∧ bh i.b ∧ oH p x i.a (bC x g i.b) ∧ va x g i (x.put p i.a (bC x g i.b))) ∧ x.Sm then some (x.send p g i) else none)
 else if i.op = 14 then (if wE x g i ∧ x.Sm then some (.on (x.recv g i)) else none)
 else if i.op = 15 then (if oq p x i ∧ x.Sm then some (x.shut p i) else none)
 else if i.op = 20 then (if bp x g ∧ bh i.a ∧ x.Sm then some (x.emit g i) else none)
 else if i.op = 9 then (if bp x g ∧ bh i.b then some (x.call g i) else none)
 else if i.op = 12 then some (.on x)
 else if i.op = 17 then (if bp x g ∧ bh i.a ∧ x.hl.length < 1000000 then some (.on (x.sleep g i)) else none)
 else if i.op = 18 then (if bp x g ∧ DP x i.a ∧ x.Sm then some (.on (x.lock g i)) else none)
 else if i.op = 19 then (if ni x g i ∧ x.Sm then some (x.unlock g i) else none)
 else if i.op = 22 then some (.eR i.a x)
 else none
def CA (p : b6) (x : Wd) (g : Int) : Option cI := match p.funcs[(au x g).top.fn.toNat]? with
 | none => none
 | some code => code[(au x g).top.pc.toNat]?
def xE (x : Wd) (g : Int) : Prop := 0 ≤ g ∧ g < x.gs.length ∧ x.end_ = 0 ∧ (au x g).st = 1
instance (x : Wd) (g : Int) : Decidable (xE x g) := by unfold xE; infer_instance
def asks (p : b6) (x : Wd) (g : Int) : Option (Int × Int) :=
 if xE x g then match CA p x g with
  | none => none
  | some i => if i.op = 21 then some (4, i.b) else if i.op = 16 then (if enabled (aF p i) x.aE = [] then none else some (3, (enabled (aF p i) x.aE).length)) else none
 else none
def oJ (p : b6) (x0 : Wd) (g : Int) (d : jQ) : Option (Out Wd × Bool) :=
 let x := { x0 with ready := [] }
 if xE x g then
  if bp x g ∧ 0 ≤ (au x g).top.fn ∧ 0 ≤ (au x g).top.pc ∧ (au x g).top.pc < 1000000000 then
   match p.funcs[(au x g).top.fn.toNat]? with
   | none => none
   | some code => match code[(au x g).top.pc.toNat]? with
    | none => some (.eR (-7) x, false)
    | some i =>
     if 0 ≤ i.op ∧ i.op ≤ 8 then (if i.cG then some (.on (x.bF g ((au x g).cN ((au x g).top.next.pure i))), false) else none)
     else if i.op = 16 then (if nj p x g i d = true then (if g < (x.choose p g i d).fin.gs.length then some (x.choose p g i d, false) else none) else none)
     else if i.op = 21 then (if bh i.a then (if g < (x.rand g i d).fin.gs.length then some (x.rand g i d, false) else none) else none)
     else match ov p (x.next g) g i with
      | none => none
      | some r => if g < r.fin.gs.length then some (r, Ij i.op r) else none
  else none
 else some (.on x, true)
def exec (p : b6) (x : Wd) (g : Int) (d : jQ) : Option (Wd × Bool) := match oJ p x g d with
 | some (.on y, rest) => some (y, gX y g rest)
 | some (.eR n y, rest) => some ({ y with end_ := 2, code := n }, gX { y with end_ := 2, code := n } g rest)
 | _ => none
section
variable {R : Mem} {L L' L2 : List HP} {M : Mem} {K : Value → Mem → Prop} {Kp : List PanicEntry → Mem → Prop} {pa : PA} {p : b6} {gg : List GA} {dr : Value} {b : Nat} {x : Wd} {g : Int}
theorem cV {α : Type} {c : Prop} [Decidable c] {a b : α} (h : (if c then some a else none) = some b) : c ∧ b = a := by
 split at h
 ·rename_i hc; cases h; exact ⟨hc, rfl⟩
 ·cases h
theorem LH {i : cI} {r : Out Wd} (hp : kF R pa p) (h : ov p x g i = some r) : ∃ fn, zL WL i.op = some (.func (.func fn) #[] #[]) ∧ (1 < fn ∧ fn < 228) ∧ i.op ≠ 16 ∧ i.op ≠ 21 ∧ 8 < i.op ∧ ∀ L, gf R pa p dr fn x g i r L L := by
 unfold ov at h
 by_cases e : i.op = 10
 ·rw [if_pos e] at h
  obtain ⟨hc, rfl⟩ := cV h
  exact ⟨162, by rw [e]; rfl, by decide, by omega, by omega, by omega, fun L => RA hc.1 hc.2.1 hc.2.2⟩
 rw [if_neg e] at h
 clear e
 by_cases e : i.op = 11
 ·rw [if_pos e] at h
  obtain ⟨hc, rfl⟩ := cV h
  exact ⟨163, by rw [e]; rfl, by decide, by omega, by omega, by omega, fun L => Pa hc.1 hc.2.1 hc.2.2.1 hc.2.2.2⟩
 rw [if_neg e] at h
 clear e
 by_cases e : i.op = 13
 ·rw [if_pos e] at h
  obtain ⟨hc, rfl⟩ := cV h
  exact ⟨165, by rw [e]; rfl, by decide, by omega, by omega, by omega, fun L => Rw hp (LG hc.1) hc.2⟩
 rw [if_neg e] at h
 clear e
 by_cases e : i.op = 14
 ·rw [if_pos e] at h
  obtain ⟨hc, rfl⟩ := cV h
  exact ⟨166, by rw [e]; rfl, by decide, by omega, by omega, by omega, fun L => Rx hc.1 hc.2⟩
 rw [if_neg e] at h
 clear e
 by_cases e : i.op = 15
 ·rw [if_pos e] at h
  obtain ⟨hc, rfl⟩ := cV h
  exact ⟨167, by rw [e]; rfl, by decide, by omega, by omega, by omega, fun L => Rz hp hc.1 hc.2⟩
 rw [if_neg e] at h
 clear e
 by_cases e : i.op = 20
 ·rw [if_pos e] at h
  obtain ⟨hc, rfl⟩ := cV h
  exact ⟨171, by rw [e]; rfl, by decide, by omega, by omega, by omega, fun L => Ry hc.1 hc.2.1 hc.2.2⟩
 rw [if_neg e] at h
 clear e
 by_cases e : i.op = 9
 ·rw [if_pos e] at h
  obtain ⟨hc, rfl⟩ := cV h
  exact ⟨161, by rw [e]; rfl, by decide, by omega, by omega, by omega, fun L => RJ hc.1 hc.2⟩
 rw [if_neg e] at h
 clear e
 by_cases e : i.op = 12
 ·rw [if_pos e] at h
  cases h
  exact ⟨164, by rw [e]; rfl, by decide, by omega, by omega, by omega, fun L => Pg⟩
 rw [if_neg e] at h
 clear e
 by_cases e : i.op = 17
 ·rw [if_pos e] at h
  obtain ⟨hc, rfl⟩ := cV h
  exact ⟨168, by rw [e]; rfl, by decide, by omega, by omega, by omega, fun L => Ph hc.1 hc.2.1 hc.2.2⟩
 rw [if_neg e] at h
 clear e
 by_cases e : i.op = 18
 ·rw [if_pos e] at h
  obtain ⟨hc, rfl⟩ := cV h
  exact ⟨169, by rw [e]; rfl, by decide, by omega, by omega, by omega, fun L => RK hc.1 hc.2.1 hc.2.2⟩
 rw [if_neg e] at h
 clear e
 by_cases e : i.op = 19
 ·rw [if_pos e] at h
  obtain ⟨hc, rfl⟩ := cV h
  exact ⟨170, by rw [e]; rfl, by decide, by omega, by omega, by omega, fun L => LF hc.1 hc.2⟩
 rw [if_neg e] at h
 clear e
 by_cases e : i.op = 22
 ·rw [if_pos e] at h
  cases h
  exact ⟨172, by rw [e]; rfl, by decide, by omega, by omega, by omega, fun L => RL⟩
 rw [if_neg e] at h
 clear e
 cases h
theorem It {l : List Int} (h : Hp R (aB (bG pa p) b x :: L) M) : Hp R (aB (bG pa p) b { x with ready := l } :: L) M := by
 obtain ⟨a, gg, dr, n, hl, h⟩ := eD h (b := b)
 exact me (a := a) (gg := gg) (dr := dr) (n := n) (x := { x with ready := l }) hl h
theorem iU.cons {kind n : Int} {d : jQ} {Q : HP} (h : iU R dr kind n d L L2) : iU R dr kind n d (Q :: L) (Q :: L2) := by
 intro Q' M K Kp hM k
 refine h (sep [Q', Q]) M K Kp (Hp.bk.2 hM) ?_
 cases d with
 | num v => exact fun M' h' => k M' (Hp.bk.1 h')
 | cO l => exact fun M' h' => k M' (Hp.bk.1 h')
theorem LI {d : jQ} {r : Out Wd} {rest : Bool} (h : Hp R L M) [o : Ik b L pa p x L'] (hp : kF R pa p) (vA : ∃ f c d, dr = .func f c d) (he : oJ p x g d = some (r, rest))
  (hd : match asks p { x with ready := [] } g with | none => L2 = L' | some (kd, n) => iU R dr kd n d L' L2) (k : qW R pa p b g L2 K Kp r rest) :
  aa Tryz.prog 41 #[.pointer (some ⟨b, 0, none⟩), .int .i64 g, dr] M K Kp := by
 unfold oJ at he
 dsimp only at he
 split at he
 ·rename_i hg
  have yy := hg
  obtain ⟨h0, h1, hr0, yB⟩ := yy
  split at he
  ·rename_i Bt
   obtain ⟨LJ, hf0, WS, Rt⟩ := Bt
   split at he
   ·cases he
   ·rename_i code nh
    have done : ∀ (r : Out Wd) (rest : Bool), qW R pa p b g L2 K Kp r rest → (∀ Q, Step R pa p dr { x with ready := [] } g code r rest (Q :: L') (Q :: L2)) → g < r.fin.gs.length → aa Tryz.prog 41 #[.pointer (some ⟨b, 0, none⟩), .int .i64 g, dr] M K Kp := by
     intro r rest k hs hl
     exact Il (x := x) h hp (show bp x g from LJ) hr0 yB hf0 nh ⟨WS, Rt⟩ vA hs hl k
    have vb : ∀ i, code[(au x g).top.pc.toNat]? = some i → asks p { x with ready := [] } g = if i.op = 21 then some (4, i.b) else if i.op = 16 then (if enabled (aF p i) x.aE = [] then none else some (3, ((enabled (aF p i) x.aE).length : Int))) else none := by
     intro i hi
     unfold asks
     rw [if_pos hg]
     unfold CA
     rw [show p.funcs[(au { x with ready := [] } g).top.fn.toNat]? = some code from nh]
     dsimp only
     rw [show code[(au { x with ready := [] } g).top.pc.toNat]? = some i from hi]
    split at he
    ·rename_i hnone
     cases he
     have e : asks p { x with ready := [] } g = none := by
      unfold asks
      rw [if_pos hg]
      unfold CA
      rw [show p.funcs[(au { x with ready := [] } g).top.fn.toNat]? = some code from nh]
      dsimp only
      rw [hnone]
     rw [e] at hd
     dsimp only at hd
     subst hd
     refine done (.eR (-7) { x with ready := [] }) false k (fun Q => .out ?_) h1
     have := List.getElem?_eq_none_iff.1 hnone
     omega
    ·rename_i i hi
     have e := vb i hi
     rw [e] at hd
     clear e vb
     split at he
     ·rename_i h8
      split at he
      ·rename_i hok
       cases he
       rw [if_neg (by omega), if_neg (by omega)] at hd
       dsimp only at hd
       subst hd
       exact done (.on _) false k (fun Q => .pure i hi h8.1 h8.2 hok) (by simpa [Out.fin, Wd.bF] using h1)
      ·cases he
     split at he
     ·rename_i JE
      split at he
      ·rename_i hok
       split at he
       ·rename_i hl
        cases he
        rw [if_neg (by omega), if_pos JE] at hd
        refine done _ false k (fun Q => .DK i hi JE (Lx hp (FM hok) ?_)) hl
        split at hd
        ·rename_i hq
         split at hq
         ·rename_i ny
          rw [if_pos (by exact ny), hd]
         ·cases hq
        ·rename_i kd n hq
         split at hq
         ·cases hq
         ·rename_i ny
          cases hq
          rw [if_neg (by exact ny)]
          exact hd.cons
       ·cases he
      ·cases he
     split at he
     ·rename_i XS
      split at he
      ·rename_i hok
       split at he
       ·rename_i hl
        cases he
        rw [if_pos XS] at hd
        exact done _ false k (fun Q => .WM i hi XS (RM LJ hok ⟨WS, Rt⟩ (iU.cons hd))) hl
       ·cases he
      ·cases he
     split at he
     ·cases he
     ·rename_i JE XS _ r' xF
      split at he
      ·rename_i hl
       cases he
       rw [if_neg XS, if_neg JE] at hd
       dsimp only at hd
       subst hd
       obtain ⟨fn, f1, f2, f3, f4, f5, f6⟩ := LH (R := R) (pa := pa) (dr := dr) hp xF
       exact done _ _ k (fun Q => .dflt i fn hi f5 f3 f4 f1 f2 (f6 _)) hl
      ·cases he
  ·cases he
 ·rename_i hr
  cases he
  have e : asks p { x with ready := [] } g = none := by
   unfold asks
   rw [if_neg hr]
  rw [e] at hd
  dsimp only at hd
  subst hd
  refine ke ?_
  refine aq h ?_
  clear h
  intro kb M h
  have hC := h
  have h' := eD h (b := b)
  clear h
  obtain ⟨a, gg, dr0, n0, hl, h⟩ := h'
  have hl' := hl
  obtain ⟨l1, l2, l3, l4⟩ := hl'
  have fin : aO M ⟨kb, 0, none⟩ (.bool false) fun mI => aO mI ⟨kb, (0 + 1), none⟩ (.slice none 0 0) fun qP =>
    cJ (Mem.ld qP ⟨kb, 0, none⟩) fun t36 => aD (Mem.ld qP ⟨kb, (0 + 1), none⟩) fun Mp gZ tX => K (.agg #[(.bool t36), (.slice Mp gZ tX)]) qP := by
   have h := hC
   clear hC
   refine av h ?_
   clear h; intro M h
   refine av h ?_
   clear h; intro M h
   refine Jd h (aQ h ?_)
   have k2 := k R none 0 M (Mem.le_refl _) (RS.nil _ _) (It (h.drop.pick o.pick))
   exact k2
  refine aP.2 ⟨fun hn => fin, fun h0 => ?_⟩
  refine aQ h ?_
  refine aP.2 ⟨fun hn => fin, fun h1 => ?_⟩
  refine aH h ?_
  refine cK.2 ⟨fun hn => fin, fun he0 => ?_⟩
  refine aQ h ?_
  refine ⟨by omega, by omega, ?_⟩
  obtain ⟨gb, fX⟩ := aR (l := a.gb) (i := g.toNat) (by omega)
  refine vz h fX fun q hq => ?_
  obtain ⟨ga, WQ⟩ := aR (l := gg) (i := g.toNat) (by omega)
  obtain ⟨z, hy⟩ := aR (l := x.gs) (i := g.toNat) (by omega)
  have ey : au x g = z := by simp [au, hy]
  refine br ?_
  have Pc : M.ld ⟨gb, 0, none⟩ = some (.int .i64 z.st) := by
   have h9 := m9 (b := gb) (h.dn fZ fX (om hy WQ))
   exact aA h9
  rw [Pc]
  refine ck ?_
  refine cK.2 ⟨fun hn => fin, fun hn => ?_⟩
  exact absurd ⟨by omega, by show g < (x.gs.length : Int); omega, he0, by show (au x g).st = 1; rw [ey]; exact hn⟩ hr
end
theorem qX {b : Nat} : ∀ (n : Nat) (l : List Int), (∀ g ∈ l, 0 ≤ g ∧ g < (n : Int)) → (∀ g, l.count g ≤ b) → l.length ≤ b * n
 | 0, l, h, _ => by
  cases l with
  | nil => simp
  | cons a l => have := h a (by simp); omega
 | n + 1, l, h, hc => by
  have h1 : (l.filter (fun g => g != (n : Int))).length ≤ b * n := by
   refine qX n _ (fun g hg => ?_) (fun g => ?_)
   ·obtain ⟨hm, hne⟩ := List.mem_filter.1 hg
    have := h g hm
    simp at hne
    omega
   ·exact Nat.le_trans (List.Sublist.count_le _ List.filter_sublist) (hc g)
  have h2 : l.length = l.count (n : Int) + (l.filter (fun g => g != (n : Int))).length := by
   have := List.length_eq_countP_add_countP (l := l) (fun g => g == (n : Int))
   rw [this, List.count, List.countP_eq_length_filter (p := fun a => decide ¬(a == (n : Int)) = true)]
   congr 2
   apply List.filter_congr
   intro a _
   cases h : (a == (n : Int)) <;> simp_all
  have := hc (n : Int)
  rw [h2, Nat.mul_succ]; omega
theorem mj {α : Type} (f : α → Nat) : ∀ (l : List α) (k : Nat) (c d : α), l[k]? = some d → ((l.set k c).map f).sum + f d = (l.map f).sum + f c
 | [], k, c, d, h => by simp at h
 | a :: l, 0, c, d, h => by simp at h; subst h; simp; omega
 | a :: l, k + 1, c, d, h => by
  have := mj f l k c d (by simpa using h)
  simp only [List.set_cons_succ, List.map_cons, List.sum_cons]; omega
theorem z8 {α : Type} (f : α → Nat) : ∀ (l : List α), (l.map f).sum = 0 → ∀ a ∈ l, f a = 0
 | [], _, a, h => by cases h
 | b :: l, hs, a, h => by
  simp only [List.map_cons, List.sum_cons] at hs
  rcases List.mem_cons.1 h with rfl | h
  ·omega
  ·exact z8 f l (by omega) a h
theorem z9 {α : Type} (f : α → Nat) : ∀ (l : List α) (a : α), a ∈ l → f a ≤ (l.map f).sum
 | b :: l, a, h => by
  simp only [List.map_cons, List.sum_cons]
  rcases List.mem_cons.1 h with rfl | h
  ·omega
  ·have := z9 f l a h; omega
theorem qw {α : Type} (f : α → Nat) : ∀ (l : List α), (∀ a ∈ l, f a = 0) → (l.map f).sum = 0
 | [], _ => rfl
 | b :: l, h => by
  simp only [List.map_cons, List.sum_cons]
  rw [h b (by simp), qw f l fun a ha => h a (by simp [ha])]
def cW (c : aX) : List Int := c.snd.map Wt.g ++ c.eI.map Wt.g
def b9 (cs : List aX) (g : Int) : Nat := (cs.map fun c => (cW c).count g).sum
def gR (ls : List Lk) (g : Int) : Nat := (ls.map fun l => l.waits.count g).sum
def DR (hl : List bE) (g : Int) : Nat := (hl.map bE.id).count g
def nk (x : Wd) (g : Int) : Prop := (∀ c ∈ x.aE, g ∉ cW c) ∧ (∀ l ∈ x.aL, g ∉ l.waits) ∧ ∀ y ∈ x.hl, y.id ≠ g
theorem ve {cs : List aX} {g : Int} : b9 cs g = 0 ↔ ∀ c ∈ cs, g ∉ cW c := by
 constructor
 ·intro h c hc
  exact List.count_eq_zero.1 (z8 _ cs h c hc)
 ·intro h
  exact qw _ cs fun c hc => List.count_eq_zero.2 (h c hc)
theorem yC {ls : List Lk} {g : Int} : gR ls g = 0 ↔ ∀ l ∈ ls, g ∉ l.waits := by
 constructor
 ·intro h c hc
  exact List.count_eq_zero.1 (z8 _ ls h c hc)
 ·intro h
  exact qw _ ls fun c hc => List.count_eq_zero.2 (h c hc)
def At (x : Wd) (g s : Int) : Prop := 0 ≤ g ∧ g < x.gs.length ∧ (au x g).st = s
def kf (p : b6) (f : List cI) (i : cI) : Prop := 0 ≤ i.op ∧ i.op < 23 ∧ i.cG ∧ (i.op = 7 → 0 ≤ i.a ∧ i.a < f.length) ∧ (i.op = 8 → 0 ≤ i.b ∧ i.b < f.length) ∧
 (i.op = 9 ∨ i.op = 11 → 0 ≤ i.a ∧ i.a < p.funcs.length ∧ bh i.b ∧ bh i.c) ∧ (i.op = 10 ∨ i.op = 17 ∨ i.op = 20 ∨ i.op = 21 → bh i.a) ∧
 (i.op = 13 ∨ i.op = 14 ∨ i.op = 15 → 0 ≤ i.a ∧ i.a < p.dI.length) ∧ (i.op = 13 ∨ i.op = 14 → bh i.b) ∧ (i.op = 14 ∨ i.op = 16 → bh i.c) ∧
 (i.op = 16 → 0 ≤ i.a ∧ 1 ≤ i.b ∧ i.a + i.b ≤ p.cases.length) ∧ (i.op = 18 ∨ i.op = 19 → 0 ≤ i.a ∧ i.a < p.aL) ∧ (i.op = 21 → 1 ≤ i.b ∧ i.b < 1099511627776)
structure fK (p : b6) : Prop where
 f1 : 0 < p.funcs.length
 ch : p.dI.length ≤ 8
 lk : 0 ≤ p.aL ∧ p.aL ≤ 8
 cs : p.cases.length ≤ 32
 cas : ∀ c ∈ p.cases, c.Ok p.dI.length ∧ bh c.bT
 code : ∀ f ∈ p.funcs, 0 < f.length ∧ f.length ≤ 64 ∧ ∀ i ∈ f, kf p f i
def FN (p : b6) (f : gM) : Prop := 0 ≤ f.fn ∧ f.fn < p.funcs.length ∧ 0 ≤ f.pc ∧ f.pc ≤ 64 ∧ bh f.rm
structure po (p : b6) (y : jh) : Prop where
 l1 : 0 < y.fs.length
 l2 : y.fs.length ≤ 16
 fr : ∀ f ∈ y.fs, FN p f
 wt : y.st = 2 → ∃ f ∈ p.funcs, kf p f y.wt
 st : 1 ≤ y.st ∧ y.st ≤ 4
structure WV (p : b6) (x : Wd) : Prop where
 n1 : 0 < x.gs.length
 n2 : x.gs.length ≤ 100
 FO : ∀ y ∈ x.gs, po p y
 ch : x.aE.length = p.dI.length
 lk : (x.aL.length : Int) = p.aL
 buf : ∀ c ∈ x.aE, c.buf.length ≤ c.room ∧ c.room ≤ 16
 eI : ∀ c ∈ x.aE, ∀ v ∈ c.eI, At x v.g 2 ∧ ((au x v.g).wt.op = 14 ∨ (au x v.g).wt.op = 16 ∧ 0 ≤ v.cs ∧ v.cs < (au x v.g).wt.b)
 snd : ∀ c ∈ x.aE, ∀ v ∈ c.snd, At x v.g 2 ∧ ((au x v.g).wt.op = 13 ∨ (au x v.g).wt.op = 16 ∧ 0 ≤ v.cs ∧ v.cs < (au x v.g).wt.b)
 lw : ∀ l ∈ x.aL, ∀ g ∈ l.waits, At x g 2 ∧ (au x g).wt.op = 18
 hl : ∀ y ∈ x.hl, At x y.id 3
 one : ∀ g, 0 ≤ g → (au x g).wt.op ≠ 16 → b9 x.aE g + gR x.aL g ≤ 1
 DK : ∀ g, b9 x.aE g ≤ 32
 h1 : ∀ g, DR x.hl g ≤ 1
 out : x.out.length ≤ 1000
section
variable {p : b6} {x : Wd} {g : Int}
theorem WV.RO (h : WV p x) {c : aX} (hc : c ∈ x.aE) {q : Int} (hq : q ∈ cW c) : At x q 2 ∧ ((au x q).wt.op = 13 ∨ (au x q).wt.op = 14 ∨ (au x q).wt.op = 16) := by
 unfold cW at hq
 rcases List.mem_append.1 hq with hq | hq
 ·obtain ⟨v, hv, rfl⟩ := List.mem_map.1 hq
  obtain ⟨a, b⟩ := h.snd c hc v hv
  exact ⟨a, by rcases b with b | b; exact .inl b; exact .inr (.inr b.1)⟩
 ·obtain ⟨v, hv, rfl⟩ := List.mem_map.1 hq
  obtain ⟨a, b⟩ := h.eI c hc v hv
  exact ⟨a, by rcases b with b | b; exact .inr (.inl b); exact .inr (.inr b.1)⟩
theorem WV.free (h : WV p x) (h2 : (au x g).st ≠ 2) (h3 : (au x g).st ≠ 3) : nk x g :=
 ⟨fun c hc hg => h2 (h.RO hc hg).1.2.2, fun l hl hg => h2 (h.lw l hl g hg).1.2.2, fun y hy e => h3 (by have := (h.hl y hy).2.2; rwa [e] at this)⟩
theorem WV.JQ (h : WV p x) {c : aX} (hc : c ∈ x.aE) : (cW c).length ≤ 3200 := by
 have h1 := qX (b := 32) x.gs.length (cW c) (fun q hq => ⟨(h.RO hc hq).1.1, (h.RO hc hq).1.2.1⟩) (fun q => Nat.le_trans (z9 (fun c => (cW c).count q) x.aE c hc) (h.DK q))
 have := h.n2
 omega
theorem WV.WT (h : WV p x) {l : Lk} (hl : l ∈ x.aL) : l.waits.length ≤ 100 := by
 have h1 := qX (b := 1) x.gs.length l.waits (fun q hq => ⟨(h.lw l hl q hq).1.1, (h.lw l hl q hq).1.2.1⟩) (fun q => by
  by_cases hq : q ∈ l.waits
  ·have := h.one q (h.lw l hl q hq).1.1 (by rw [(h.lw l hl q hq).2]; decide)
   have := z9 (fun l : Lk => l.waits.count q) x.aL l hl
   unfold gR at *
   omega
  ·rw [List.count_eq_zero.2 hq]; omega)
 have := h.n2
 omega
theorem WV.JR (h : WV p x) : x.hl.length ≤ 100 := by
 have h1 := qX (b := 1) x.gs.length (x.hl.map bE.id) (fun q hq => by
  obtain ⟨y, hy, rfl⟩ := List.mem_map.1 hq
  exact ⟨(h.hl y hy).1, (h.hl y hy).2.1⟩) h.h1
 rw [List.length_map] at h1
 have := h.n2
 omega
theorem WV.sm (h : WV p x) (hp : fK p) (hr : x.ready.length ≤ 1000000) : x.Sm := by
 refine ⟨fun c hc => ?_, by have := h.ch; have := hp.ch; omega, by have := h.n2; omega, hr, by have := h.out; omega, fun l hl => by have := h.WT hl; omega, by have := h.lk; have := hp.lk; omega, by have := h.JR; omega⟩
 have h1 := h.JQ hc
 unfold cW at h1
 rw [List.length_append, List.length_map, List.length_map] at h1
 have := h.buf c hc
 exact ⟨by omega, by omega, by omega⟩
end
section
variable {p : b6} {x y : Wd} {g q k v : Int} {f : List cI} {i : cI}
theorem ia {z : jh} (hg : g < x.gs.length) (h0 : 0 ≤ g) : au (x.bF g z) q = if q.toNat = g.toNat then z else au x q := by
 unfold au Wd.bF
 dsimp only
 by_cases e : q.toNat = g.toNat
 ·rw [if_pos e, e]
  simp [List.getD_eq_getElem?_getD, List.getElem?_set_self (show g.toNat < x.gs.length by omega)]
 ·rw [if_neg e, List.getD_eq_getElem?_getD, List.getD_eq_getElem?_getD, List.getElem?_set_ne (Ne.symm e)]
theorem wJ (h0 : 0 ≤ g) (hg : g < x.gs.length) : au x g ∈ x.gs := by
 unfold au
 rw [List.getD_eq_getElem?_getD, List.getElem?_eq_getElem (by omega), Option.getD_some]
 exact List.getElem_mem _
theorem WV.congr (h : WV p x) (hl : y.gs.length = x.gs.length) (hst : ∀ q, (au y q).st = (au x q).st ∧ (au y q).wt = (au x q).wt) (hg : ∀ z ∈ y.gs, po p z) (e1 : y.aE = x.aE) (e2 : y.aL = x.aL) (e3 : y.hl = x.hl) (e4 : y.out.length ≤ 1000) : WV p y := by
 have at_ : ∀ q s, At x q s → At y q s := fun q s ha => ⟨ha.1, by rw [hl]; exact ha.2.1, by rw [(hst q).1]; exact ha.2.2⟩
 refine ⟨by rw [hl]; exact h.n1, by rw [hl]; exact h.n2, hg, by rw [e1]; exact h.ch, by rw [e2]; exact h.lk, by rw [e1]; exact h.buf, ?_, ?_, ?_, ?_, ?_, by rw [e1]; exact h.DK, by rw [e3]; exact h.h1, e4⟩
 ·intro c hc v hv
  rw [e1] at hc
  rw [(hst v.g).2]
  exact ⟨at_ _ _ (h.eI c hc v hv).1, (h.eI c hc v hv).2⟩
 ·intro c hc v hv
  rw [e1] at hc
  rw [(hst v.g).2]
  exact ⟨at_ _ _ (h.snd c hc v hv).1, (h.snd c hc v hv).2⟩
 ·intro l hl q hq
  rw [e2] at hl
  rw [(hst q).2]
  exact ⟨at_ _ _ (h.lw l hl q hq).1, (h.lw l hl q hq).2⟩
 ·intro z hz
  rw [e3] at hz
  exact at_ _ _ (h.hl z hz)
 ·intro q h0 hq
  rw [(hst q).2] at hq
  rw [e1, e2]
  exact h.one q h0 hq
theorem Aa {l : List jh} {n : Nat} {z w : jh} (h : w ∈ l.set n z) : w ∈ l ∨ w = z := List.mem_or_eq_of_mem_set h
theorem WV.bF (h : WV p x) (h0 : 0 ≤ g) (hg : g < x.gs.length) {z : jh} (hz : po p z) (e1 : z.st = (au x g).st) (e2 : z.wt = (au x g).wt) : WV p (x.bF g z) := by
 refine h.congr (by simp [Wd.bF]) (fun q => ?_) (fun w hw => ?_) rfl rfl rfl h.out
 ·rw [ia hg h0]
  split
  ·rename_i e
   have : au x q = au x g := by unfold au; rw [e]
   rw [this]; exact ⟨e1, e2⟩
  ·exact ⟨rfl, rfl⟩
 ·rcases Aa hw with hw | rfl
  ·exact h.FO w hw
  ·exact hz
theorem WV.ready (h : WV p x) {r : List Int} : WV p { x with ready := r } := h.congr rfl (fun _ => ⟨rfl, rfl⟩) h.FO rfl rfl rfl h.out
theorem WV.fin (h : WV p x) {e c : Int} : WV p { x with end_ := e, code := c } := h.congr rfl (fun _ => ⟨rfl, rfl⟩) h.FO rfl rfl rfl h.out
theorem WV.JS (h : WV p x) (h0 : 0 ≤ g) (hg : g < x.gs.length) (hf : nk x g) {z : jh} (hz : po p z) : WV p (x.bF g z) := by
 have ne : ∀ q, 0 ≤ q → q ≠ g → au (x.bF g z) q = au x q := fun q q0 hq => by rw [ia hg h0, if_neg (by omega)]
 have at_ : ∀ q s, q ≠ g → At x q s → At (x.bF g z) q s := fun q s hq ha => ⟨ha.1, by simpa [Wd.bF] using ha.2.1, by rw [ne q ha.1 hq]; exact ha.2.2⟩
 refine ⟨by simpa [Wd.bF] using h.n1, by simpa [Wd.bF] using h.n2, fun w hw => ?_, h.ch, h.lk, h.buf, ?_, ?_, ?_, ?_, ?_, h.DK, h.h1, h.out⟩
 ·rcases Aa hw with hw | rfl
  ·exact h.FO w hw
  ·exact hz
 ·intro c hc v hv
  have hne : v.g ≠ g := fun e => hf.1 c hc (by rw [← e]; exact List.mem_append_right _ (List.mem_map.2 ⟨v, hv, rfl⟩))
  obtain ⟨a, b⟩ := h.eI c hc v hv
  rw [ne _ a.1 hne]
  exact ⟨at_ _ _ hne a, b⟩
 ·intro c hc v hv
  have hne : v.g ≠ g := fun e => hf.1 c hc (by rw [← e]; exact List.mem_append_left _ (List.mem_map.2 ⟨v, hv, rfl⟩))
  obtain ⟨a, b⟩ := h.snd c hc v hv
  rw [ne _ a.1 hne]
  exact ⟨at_ _ _ hne a, b⟩
 ·intro l hl q hq
  have hne : q ≠ g := fun e => hf.2.1 l hl (by rw [← e]; exact hq)
  obtain ⟨a, b⟩ := h.lw l hl q hq
  rw [ne _ a.1 hne]
  exact ⟨at_ _ _ hne a, b⟩
 ·intro w hw
  have hne : w.id ≠ g := hf.2.2 w hw
  exact at_ _ _ hne (h.hl w hw)
 ·intro q q0 hq
  by_cases e : q = g
  ·subst e
   have a := ve.2 hf.1
   have b := yC.2 hf.2.1
   show b9 x.aE q + gR x.aL q ≤ 1
   omega
  ·rw [ne q q0 e] at hq
   exact h.one q q0 hq
theorem po.Pj {z : jh} (h : po p z) {s : Int} (h1 : s ≠ 2) (h2 : 1 ≤ s ∧ s ≤ 4) : po p { z with st := s } := ⟨h.l1, h.l2, h.fr, fun e => absurd e h1, h2⟩
theorem WV.fx (h : WV p x) (h0 : 0 ≤ g) (hg : g < x.gs.length) (hf : nk x g) : WV p (x.fx g) :=
 WV.ready (h.JS h0 hg hf ((h.FO _ (wJ h0 hg)).Pj (by decide) (by decide)))
theorem WV.block (h : WV p x) (ha : At x g 1) (hf : f ∈ p.funcs) (hi : kf p f i) : WV p (x.block g i) := by
 have hz := h.FO _ (wJ ha.1 ha.2.1)
 exact h.JS ha.1 ha.2.1 (h.free (by rw [ha.2.2]; decide) (by rw [ha.2.2]; decide)) ⟨hz.l1, hz.l2, hz.fr, fun _ => ⟨f, hf, hi⟩, by show (1 : Int) ≤ 2 ∧ (2 : Int) ≤ 4; decide⟩
theorem jB {α : Type} {l : List α} {n : Nat} {a b : α} (h : b ∈ l.set n a) : b ∈ l ∨ b = a := List.mem_or_eq_of_mem_set h
theorem WV.less (h : WV p x) {c c' : aX} (hc : x.aE[k.toNat]? = some c) (hb : c'.buf.length ≤ c'.room ∧ c'.room ≤ 16) (hr : ∀ v ∈ c'.eI, v ∈ c.eI) (hs : ∀ v ∈ c'.snd, v ∈ c.snd) (hn : ∀ q, (cW c').count q ≤ (cW c).count q) : WV p (x.cw k c') := by
 have hm : c ∈ x.aE := List.mem_of_getElem? hc
 have Pk : ∀ q, b9 (x.aE.set k.toNat c') q ≤ b9 x.aE q := by
  intro q
  have := mj (fun c : aX => (cW c).count q) x.aE k.toNat c' c hc
  have := hn q
  unfold b9
  omega
 refine ⟨h.n1, h.n2, h.FO, by simpa [Wd.cw] using h.ch, h.lk, ?_, ?_, ?_, h.lw, h.hl, ?_, ?_, h.h1, h.out⟩
 ·intro d hd
  rcases jB hd with hd | rfl
  ·exact h.buf d hd
  ·exact hb
 ·intro d hd v hv
  rcases jB hd with hd | rfl
  ·exact h.eI d hd v hv
  ·exact h.eI c hm v (hr v hv)
 ·intro d hd v hv
  rcases jB hd with hd | rfl
  ·exact h.snd d hd v hv
  ·exact h.snd c hm v (hs v hv)
 ·intro q q0 hq
  have := h.one q q0 hq
  have := Pk q
  show b9 (x.aE.set k.toNat c') q + gR x.aL q ≤ 1
  omega
 ·intro q
  exact Nat.le_trans (Pk q) (h.DK q)
theorem WV.more (h : WV p x) {c c' : aX} {w : Wt} (hc : x.aE[k.toNat]? = some c) (hb : c'.buf.length ≤ c'.room ∧ c'.room ≤ 16)
  (hr : ∀ v ∈ c'.eI, v ∈ c.eI ∨ v = w ∧ At x w.g 2 ∧ ((au x w.g).wt.op = 14 ∨ (au x w.g).wt.op = 16 ∧ 0 ≤ w.cs ∧ w.cs < (au x w.g).wt.b))
  (hs : ∀ v ∈ c'.snd, v ∈ c.snd ∨ v = w ∧ At x w.g 2 ∧ ((au x w.g).wt.op = 13 ∨ (au x w.g).wt.op = 16 ∧ 0 ≤ w.cs ∧ w.cs < (au x w.g).wt.b))
  (hn : ∀ q, (cW c').count q ≤ (cW c).count q + (if q = w.g then 1 else 0)) (hz : (au x w.g).wt.op ≠ 16 → b9 x.aE w.g + gR x.aL w.g = 0) (h32 : b9 x.aE w.g < 32) : WV p (x.cw k c') := by
 have hm : c ∈ x.aE := List.mem_of_getElem? hc
 have Pk : ∀ q, b9 (x.aE.set k.toNat c') q ≤ b9 x.aE q + (if q = w.g then 1 else 0) := by
  intro q
  have := mj (fun c : aX => (cW c).count q) x.aE k.toNat c' c hc
  have := hn q
  unfold b9
  omega
 refine ⟨h.n1, h.n2, h.FO, by simpa [Wd.cw] using h.ch, h.lk, ?_, ?_, ?_, h.lw, h.hl, ?_, ?_, h.h1, h.out⟩
 ·intro d hd
  rcases jB hd with hd | rfl
  ·exact h.buf d hd
  ·exact hb
 ·intro d hd v hv
  rcases jB hd with hd | rfl
  ·exact h.eI d hd v hv
  ·rcases hr v hv with hv | ⟨rfl, hv⟩
   ·exact h.eI c hm v hv
   ·exact hv
 ·intro d hd v hv
  rcases jB hd with hd | rfl
  ·exact h.snd d hd v hv
  ·rcases hs v hv with hv | ⟨rfl, hv⟩
   ·exact h.snd c hm v hv
   ·exact hv
 ·intro q q0 hq
  have a := Pk q
  show b9 (x.aE.set k.toNat c') q + gR x.aL q ≤ 1
  by_cases e : q = w.g
  ·subst e
   have := hz hq
   rw [if_pos rfl] at a
   omega
  ·have := h.one q q0 hq
   rw [if_neg e] at a
   omega
 ·intro q
  have a := Pk q
  show b9 (x.aE.set k.toNat c') q ≤ 32
  by_cases e : q = w.g
  ·subst e
   rw [if_pos rfl] at a
   omega
  ·have := h.DK q
   rw [if_neg e] at a
   omega
end
section
variable {p : b6} {x y : Wd} {g q k n : Int} {f : List cI} {i : cI} {v : Wt}
theorem Pm {α : Type} (f g : α → Nat) : ∀ (l : List α), (∀ a ∈ l, f a ≤ g a) → (l.map f).sum ≤ (l.map g).sum
 | [], _ => Nat.le_refl _
 | b :: l, h => by
  simp only [List.map_cons, List.sum_cons]
  have := h b (by simp)
  have := Pm f g l fun a ha => h a (by simp [ha])
  omega
theorem Ad (c : aX) : cW (c.drop g) = (cW c).filter (fun q => q != g) := by
 unfold cW aX.drop wo
 simp only [List.filter_append, List.filter_map]
 rfl
theorem FP (cs : List aX) (q : Int) : b9 (cs.map fun c => c.drop g) q ≤ b9 cs q := by
 unfold b9
 rw [List.map_map]
 refine Pm _ _ cs fun c _ => ?_
 show (cW (c.drop g)).count q ≤ _
 rw [Ad]
 exact List.Sublist.count_le _ List.filter_sublist
theorem WV.leave (h : WV p x) : WV p (x.leave g) := by
 refine ⟨h.n1, h.n2, h.FO, by simpa [Wd.leave] using h.ch, h.lk, ?_, ?_, ?_, h.lw, h.hl, ?_, ?_, h.h1, h.out⟩
 ·intro d hd
  obtain ⟨c, hc, rfl⟩ := List.mem_map.1 hd
  exact h.buf c hc
 ·intro d hd v hv
  obtain ⟨c, hc, rfl⟩ := List.mem_map.1 hd
  exact h.eI c hc v (List.mem_filter.1 hv).1
 ·intro d hd v hv
  obtain ⟨c, hc, rfl⟩ := List.mem_map.1 hd
  exact h.snd c hc v (List.mem_filter.1 hv).1
 ·intro q q0 hq
  have := FP (g := g) x.aE q
  have := h.one q q0 hq
  show b9 (x.aE.map fun c => c.drop g) q + gR x.aL q ≤ 1
  omega
 ·intro q
  exact Nat.le_trans (FP x.aE q) (h.DK q)
theorem Iu (h : WV p x) (h3 : (au x g).wt.op ≠ 18) (h2 : (au x g).st = 2) : nk (x.leave g) g := by
 refine ⟨fun d hd hg => ?_, fun l hl hg => h3 (h.lw l hl g hg).2, fun w hw e => ?_⟩
 ·obtain ⟨c, hc, rfl⟩ := List.mem_map.1 hd
  rw [Ad] at hg
  have := (List.mem_filter.1 hg).2
  simp at this
 ·have := (h.hl w hw).2.2
  rw [e, h2] at this
  cases this
theorem FN.set {r : gM} (h : FN p r) (q v : Int) : FN p (r.set q v) := h
theorem po.cN {z : jh} (h : po p z) {r : gM} (hr : FN p r) : po p (z.cN r) :=
 ⟨by simpa [jh.cN] using h.l1, by simpa [jh.cN] using h.l2, fun f hf => by
  rcases List.mem_or_eq_of_mem_set hf with hf | rfl
  ·exact h.fr f hf
  ·exact hr, h.wt, h.st⟩
theorem po.top {z : jh} (h : po p z) : FN p z.top := by
 unfold jh.top
 have := h.l1
 rw [List.getD_eq_getElem?_getD, List.getElem?_eq_getElem (by omega), Option.getD_some]
 exact h.fr _ (List.getElem_mem _)
theorem WV.j5 (h : WV p x) (h0 : 0 ≤ g) (hg : g < x.gs.length) : po p (au x g) := h.FO _ (wJ h0 hg)
theorem WV.bA (h : WV p x) (h0 : 0 ≤ g) (hg : g < x.gs.length) : WV p (x.bA g q n) :=
 h.bF h0 hg ((h.j5 h0 hg).cN ((h.j5 h0 hg).top.set q n)) rfl rfl
theorem CB (h0 : 0 ≤ g) (hg : g < x.gs.length) {m : Int} : (au (x.bA g q n) m).st = (au x m).st ∧ (au (x.bA g q n) m).wt = (au x m).wt ∧ (au (x.bA g q n) m).fs.length = (au x m).fs.length := by
 unfold Wd.bA
 rw [ia hg h0]
 split
 ·rename_i e
  have : au x m = au x g := by unfold au; rw [e]
  rw [this]
  exact ⟨rfl, rfl, by simp [jh.cN]⟩
 ·exact ⟨rfl, rfl, rfl⟩
theorem nm (h0 : 0 ≤ g) (hg : g < x.gs.length) {m : Int} (h1 : 0 ≤ m) (hne : m ≠ g) : au (x.bA g q n) m = au x m := by
 unfold Wd.bA
 rw [ia hg h0, if_neg (by omega)]
theorem WV.bp (h : WV p x) (h0 : 0 ≤ g) (hg : g < x.gs.length) : bp x g := ⟨h0, hg, (h.j5 h0 hg).l1, by have := (h.j5 h0 hg).l2; omega⟩
theorem LM (hp : fK p) {a : Int} (h0 : 0 ≤ a) (h1 : a < p.cases.length) : pT p a ∈ p.cases := by
 unfold pT
 rw [List.getD_eq_getElem?_getD, List.getElem?_eq_getElem (by omega), Option.getD_some]
 exact List.getElem_mem _
theorem WV.pU (h : WV p x) (hp : fK p) (ha : At x v.g 2) (hw : (au x v.g).wt.op = 14 ∨ (au x v.g).wt.op = 16 ∧ 0 ≤ v.cs ∧ v.cs < (au x v.g).wt.b) : pU p x v := by
 refine ⟨h.bp ha.1 ha.2.1, ?_⟩
 obtain ⟨f, hf, hi⟩ := (h.j5 ha.1 ha.2.1).wt ha.2.2
 obtain ⟨_, _, _, _, _, _, _, _, i13, i14, i16, _⟩ := hi
 split
 ·rename_i e
  rcases hw with hw | ⟨_, c0, c1⟩
  ·rw [e] at hw; cases hw
  ·obtain ⟨a0, a1, a2⟩ := i16 e
   refine ⟨by omega, by omega, by have := hp.cs; omega, (hp.cas _ (LM hp (by omega) (by omega))).2, i14 (.inr e)⟩
 ·rename_i e
  rcases hw with hw | ⟨hw, _⟩
  ·exact ⟨i13 (.inr hw), i14 (.inl hw)⟩
  ·exact absurd hw e
theorem WV.xw (h : WV p x) (ha : At x v.g 2) : xw x v := by
 refine ⟨h.bp ha.1 ha.2.1, fun e => ?_⟩
 obtain ⟨f, hf, hi⟩ := (h.j5 ha.1 ha.2.1).wt ha.2.2
 obtain ⟨_, _, _, _, _, _, _, _, _, i14, _⟩ := hi
 exact i14 (.inr e)
theorem nk.bT (h : nk x g) : nk (x.bA q k n) g := h
theorem bU {m : Int} : (x.bA g q m).gs.length = x.gs.length := by simp [Wd.bA, Wd.bF]
theorem nq : (x.fx g).gs.length = x.gs.length := by simp [Wd.fx, Wd.bF]
theorem qY (h0 : 0 ≤ g) (hg : g < x.gs.length) {m : Int} (h1 : 0 ≤ m) (hne : m ≠ g) : au (x.fx g) m = au x m := by
 show au (x.bF g _) m = _
 rw [ia hg h0, if_neg (by omega)]
theorem vf (h0 : 0 ≤ g) (hg : g < x.gs.length) : (au (x.fx g) g).st = 1 := by
 show (au (x.bF g _) g).st = _
 rw [ia hg h0, if_pos rfl]
theorem WV.gD (h : WV p x) (ha : At x g 2) (To : (au x g).wt.op ≠ 18) : WV p (x.gD g k) ∧ nk (x.gD g k) g := by
 obtain ⟨h0, hg, h2⟩ := ha
 unfold Wd.gD
 have r2 := h.bA (q := (au x g).wt.c) (n := k) h0 hg
 have e2 := CB (x := x) (q := (au x g).wt.c) (n := k) h0 hg (m := g)
 exact ⟨r2.leave, Iu r2 (by rw [e2.2.1]; exact To) (by rw [e2.1]; exact h2)⟩
theorem gG : (x.gD g k).gs.length = x.gs.length := by simp [Wd.gD, Wd.leave, bU]
theorem CC (h0 : 0 ≤ g) (hg : g < x.gs.length) {m : Int} (h1 : 0 ≤ m) (hne : m ≠ g) : au (x.gD g k) m = au x m := by
 show au (x.bA g _ _) m = _
 exact nm h0 hg h1 hne
theorem WV.received (h : WV p x) (ha : At x v.g 2) (To : (au x v.g).wt.op ≠ 18) (hf : (au x v.g).wt.op ≠ 16 → nk x v.g) {s : Int} : WV p (x.received p v s) := by
 have ha' := ha
 obtain ⟨h0, hg, h2⟩ := ha'
 unfold Wd.received
 dsimp only
 split
 ·have r1 := h.bA (q := (pT p ((au x v.g).wt.a + v.cs)).bT) (n := v.v) h0 hg
  have e1 := CB (x := x) (q := (pT p ((au x v.g).wt.a + v.cs)).bT) (n := v.v) h0 hg (m := v.g)
  have l1 := bU (x := x) (g := v.g) (q := (pT p ((au x v.g).wt.a + v.cs)).bT) (m := v.v)
  obtain ⟨r2, f2⟩ := r1.gD (k := v.cs) ⟨h0, by rw [l1]; exact hg, by rw [e1.1]; exact h2⟩ (by rw [e1.2.1]; exact To)
  exact r2.fx h0 (by rw [gG, l1]; exact hg) f2
 ·rename_i e
  have r1 := h.bA (q := (au x v.g).wt.b) (n := v.v) h0 hg
  have r2 := r1.bA (g := v.g) (q := (au x v.g).wt.c) (n := s) h0 (by rw [bU]; exact hg)
  exact r2.fx h0 (by rw [bU, bU]; exact hg) (hf e)
theorem vg {s : Int} : (x.received p v s).gs.length = x.gs.length := by
 unfold Wd.received
 dsimp only
 split
 ·rw [nq, gG, bU]
 ·rw [nq, bU, bU]
theorem xG (h0 : 0 ≤ v.g) (hg : v.g < x.gs.length) {s m : Int} (h1 : 0 ≤ m) (hne : m ≠ v.g) : au (x.received p v s) m = au x m := by
 unfold Wd.received
 dsimp only
 split
 ·rw [qY h0 (by rw [gG, bU]; exact hg) h1 hne, CC h0 (by rw [bU]; exact hg) h1 hne, nm h0 hg h1 hne]
 ·rw [qY h0 (by rw [bU, bU]; exact hg) h1 hne, nm h0 (by rw [bU]; exact hg) h1 hne, nm h0 hg h1 hne]
theorem mo (h0 : 0 ≤ v.g) (hg : v.g < x.gs.length) {s : Int} : (au (x.received p v s) v.g).st = 1 ∧ (x.received p v s).ready = x.ready ++ [v.g] := by
 unfold Wd.received
 dsimp only
 split
 ·exact ⟨vf h0 (by rw [gG, bU]; exact hg), rfl⟩
 ·exact ⟨vf h0 (by rw [bU, bU]; exact hg), rfl⟩
theorem WV.sent (h : WV p x) (ha : At x v.g 2) (To : (au x v.g).wt.op ≠ 18) (hf : (au x v.g).wt.op ≠ 16 → nk x v.g) : WV p (x.sent v) := by
 have ha' := ha
 obtain ⟨h0, hg, h2⟩ := ha'
 unfold Wd.sent
 split
 ·obtain ⟨r2, f2⟩ := h.gD (k := v.cs) ha To
  exact r2.fx h0 (by rw [gG]; exact hg) f2
 ·rename_i e
  exact h.fx h0 hg (hf e)
theorem Pn : (x.sent v).gs.length = x.gs.length := by
 unfold Wd.sent
 split
 ·rw [nq, gG]
 ·rw [nq]
theorem RP (h0 : 0 ≤ v.g) (hg : v.g < x.gs.length) {m : Int} (h1 : 0 ≤ m) (hne : m ≠ v.g) : au (x.sent v) m = au x m := by
 unfold Wd.sent
 split
 ·rw [qY h0 (by rw [gG]; exact hg) h1 hne, CC h0 hg h1 hne]
 ·rw [qY h0 hg h1 hne]
theorem JT (h0 : 0 ≤ v.g) (hg : v.g < x.gs.length) : (au (x.sent v) v.g).st = 1 ∧ (x.sent v).ready = x.ready ++ [v.g] := by
 unfold Wd.sent
 split
 ·exact ⟨vf h0 (by rw [gG]; exact hg), rfl⟩
 ·exact ⟨vf h0 hg, rfl⟩
theorem FQ (hk : uY x k) : ∃ c, x.aE[k.toNat]? = some c ∧ dX x.aE k = c := by
 obtain ⟨k0, k1⟩ := hk
 obtain ⟨c, hc⟩ := aR (l := x.aE) (i := k.toNat) (by omega)
 exact ⟨c, hc, by simp [dX, hc]⟩
theorem DS (h : WV p x) {c c' : aX} (hc : x.aE[k.toNat]? = some c) (h0 : 0 ≤ g) (h2 : (au x g).st = 2) (tI : (au x g).wt.op ≠ 16) (hn : (cW c').count g + 1 ≤ (cW c).count g) : nk (x.cw k c') g := by
 have a := h.one g h0 tI
 have b := mj (fun c : aX => (cW c).count g) x.aE k.toNat c' c hc
 have e1 : b9 (x.aE.set k.toNat c') g = 0 := by unfold b9 at *; omega
 have e2 : gR x.aL g = 0 := by
  have := z9 (fun c : aX => (cW c).count g) x.aE c (List.mem_of_getElem? hc)
  unfold b9 at a
  omega
 refine ⟨ve.1 e1, yC.1 e2, fun w hw e => ?_⟩
 have := (h.hl w hw).2.2
 rw [e, h2] at this
 cases this
end
def Wk (x y : Wd) : Prop := y.gs.length = x.gs.length ∧ ∃ l : List Int, y.ready = x.ready ++ l ∧ l.Nodup ∧ (∀ q ∈ l, 0 ≤ q ∧ q < x.gs.length ∧ (au x q).st ≠ 1 ∧ (au y q).st = 1) ∧ ∀ q, 0 ≤ q → q ∉ l → au y q = au x q
section
variable {p : b6} {x y z : Wd} {g q k n : Int} {f : List cI} {i : cI} {v : Wt}
theorem Wk.refl (x : Wd) : Wk x x := ⟨rfl, [], by simp, List.nodup_nil, (fun q h => by cases h), fun q _ _ => rfl⟩
theorem Wk.same (h1 : y.gs = x.gs) (h2 : y.ready = x.ready) : Wk x y := ⟨by rw [h1], [], by simp [h2], List.nodup_nil, fun q h => by (cases h), fun q _ _ => by unfold au; rw [h1]⟩
theorem Wk.trans (h : Wk x y) (h' : Wk y z) : Wk x z := by
 obtain ⟨a1, l, a2, a3, a4, a5⟩ := h
 obtain ⟨b1, m, b2, b3, b4, b5⟩ := h'
 refine ⟨by rw [b1, a1], l ++ m, by rw [b2, a2, List.append_assoc], ?_, ?_, ?_⟩
 ·refine List.nodup_append.2 ⟨a3, b3, fun q hq r hr e => ?_⟩
  subst e
  exact (b4 q hr).2.2.1 (a4 q hq).2.2.2
 ·intro q hq
  rcases List.mem_append.1 hq with hq | hq
  ·obtain ⟨c1, c2, c3, c4⟩ := a4 q hq
   refine ⟨c1, c2, c3, ?_⟩
   by_cases hm : q ∈ m
   ·exact (b4 q hm).2.2.2
   ·rw [b5 q c1 hm]; exact c4
  ·obtain ⟨c1, c2, c3, c4⟩ := b4 q hq
   by_cases hl : q ∈ l
   ·exact absurd (a4 q hl).2.2.2 c3
   ·exact ⟨c1, by rw [← a1]; exact c2, by rw [← a5 q c1 hl]; exact c3, c4⟩
 ·intro q q0 hq
  rw [List.mem_append] at hq
  rw [b5 q q0 (fun h => hq (.inr h)), a5 q q0 (fun h => hq (.inl h))]
theorem Wk.keep (h : Wk x y) (h0 : 0 ≤ q) (h1 : (au x q).st = 1) : au y q = au x q := by
 obtain ⟨_, l, _, _, a4, a5⟩ := h
 exact a5 q h0 fun hq => (a4 q hq).2.2.1 h1
theorem Wk.received (h0 : 0 ≤ v.g) (hg : v.g < x.gs.length) (h1 : (au x v.g).st ≠ 1) {s : Int} : Wk x (x.received p v s) :=
 ⟨vg, [v.g], (mo h0 hg).2, by simp, fun q hq => by
  simp only [List.mem_singleton] at hq; subst hq
  exact ⟨h0, hg, h1, (mo h0 hg).1⟩, fun q q0 hq => xG h0 hg q0 (by simpa using hq)⟩
theorem Wk.sent (h0 : 0 ≤ v.g) (hg : v.g < x.gs.length) (h1 : (au x v.g).st ≠ 1) : Wk x (x.sent v) :=
 ⟨Pn, [v.g], (JT h0 hg).2, by simp, fun q hq => by
  simp only [List.mem_singleton] at hq; subst hq
  exact ⟨h0, hg, h1, (JT h0 hg).1⟩, fun q q0 hq => RP h0 hg q0 (by simpa using hq)⟩
theorem Wk.fx (h0 : 0 ≤ g) (hg : g < x.gs.length) (h1 : (au x g).st ≠ 1) : Wk x (x.fx g) :=
 ⟨nq, [g], rfl, by simp, fun q hq => by
  simp only [List.mem_singleton] at hq; subst hq
  exact ⟨h0, hg, h1, vf h0 hg⟩, fun q q0 hq => qY h0 hg q0 (by simpa using hq)⟩
theorem Wk.cw {c : aX} : Wk x (x.cw k c) := Wk.same rfl rfl
theorem qx (h : WV p x) {c : aX} (hc : c ∈ x.aE) : c.buf.length ≤ 16 ∧ c.snd.length ≤ 3200 ∧ c.eI.length ≤ 3200 := by
 have h1 := h.JQ hc
 unfold cW at h1
 rw [List.length_append, List.length_map, List.length_map] at h1
 have := h.buf c hc
 omega
def WU (p : b6) (x : Wd) : Out (Wd × Bool) → Prop
 | .eR _ y => WV p y ∧ y.gs = x.gs ∧ y.ready = x.ready
 | .on (y, true) => WV p y ∧ Wk x y
 | .on (y, false) => y = x
 | .cO _ _ => False
theorem eW {α : Type} : ∀ (l : List α) (n : Nat) (a : α), l[n]? = some a → l.set n a = l
 | [], _, _, _ => rfl
 | b :: l, 0, a, h => by simp at h; subst h; rfl
 | b :: l, n + 1, a, h => by rw [List.set_cons_succ, eW l n a (by simpa using h)]
theorem ox {c : aX} (hc : x.aE[k.toNat]? = some c) : x.cw k c = x := by
 unfold Wd.cw
 rw [eW _ _ _ hc]
theorem WV.put (h : WV p x) (hp : fK p) (hk : uY x k) : oH p x k n ∧ WU p x (x.put p k n) := by
 obtain ⟨c, hc, e⟩ := FQ hk
 have hm := List.mem_of_getElem? hc
 obtain ⟨s1, s2, s3⟩ := qx h hm
 have hb := h.buf c hm
 have hr := h.eI c hm
 unfold oH Wd.put
 rw [e]
 refine ⟨⟨hk, ?_, ?_⟩, ?_⟩
 ·unfold aX.send
  split
  ·intro h; cases h
  ·split
   ·rename_i w r hw
    intro _
    obtain ⟨a, b⟩ := hr w (by rw [hw]; simp)
    exact h.pU (v := ⟨w.g, w.cs, n⟩) hp a b
   ·split <;> (intro h; cases h)
 ·have : c.Small 3200 := ⟨by omega, s2, s3⟩
  exact (this.send n).mono (by omega)
 ·unfold aX.send
  split
  ·dsimp only
   rw [if_pos rfl, ox hc]
   exact ⟨h, rfl, rfl⟩
  ·split
   ·rename_i w r hw
    dsimp only
    obtain ⟨a, b⟩ := hr w (by rw [hw]; simp)
    have hl : WV p (x.cw k { c with eI := r }) := h.less hc hb (fun v hv => by rw [hw]; exact List.mem_cons_of_mem _ hv) (fun v hv => hv) (fun q => by
     unfold cW; rw [hw]; simp only [List.map_cons, List.count_append, List.count_cons]; omega)
    have hne : (au x w.g).wt.op ≠ 18 := by rcases b with b | b; rw [b]; decide; rw [b.1]; decide
    rw [if_neg (by decide), if_pos rfl]
    refine ⟨hl.received (v := ⟨w.g, w.cs, n⟩) a hne (fun tI => ?_), Wk.cw.trans (Wk.received (x := x.cw k { c with eI := r }) (v := ⟨w.g, w.cs, n⟩) a.1 a.2.1 (by show (au x w.g).st ≠ 1; rw [a.2.2]; decide))⟩
    exact DS h hc a.1 a.2.2 tI (by unfold cW; rw [hw]; simp only [List.map_cons, List.count_append, List.count_cons, beq_self_eq_true, if_true]; omega)
   ·rename_i hw
    split
    ·dsimp only
     rw [if_neg (by decide), if_neg (by decide)]
     exact ⟨h.less hc ⟨by simp; omega, hb.2⟩ (fun v hv => hv) (fun v hv => hv) (fun q => Nat.le_refl _), Wk.cw⟩
    ·dsimp only
     rw [if_neg (by decide), if_neg (by decide), ox hc]
     exact rfl
theorem WV.get (h : WV p x) (hp : fK p) (hk : uY x k) : uZ x k ∧ WV p (x.get k).1 ∧ Wk x (x.get k).1 ∧ ((x.get k).2.2.2 = false → (x.get k).1 = x) := by
 obtain ⟨c, hc, e⟩ := FQ hk
 have hm := List.mem_of_getElem? hc
 obtain ⟨s1, s2, s3⟩ := qx h hm
 have hb := h.buf c hm
 have hs := h.snd c hm
 unfold uZ Wd.get
 rw [e]
 obtain ⟨room, buf, snd, eI, closed⟩ := c
 cases snd with
 | cons w r =>
  obtain ⟨a, b⟩ := hs w (by simp)
  obtain ⟨v, l, hv⟩ : ∃ v l, buf ++ [w.v] = v :: l := by
   cases buf with
   | nil => exact ⟨_, _, rfl⟩
   | cons q t => exact ⟨q, t ++ [w.v], rfl⟩
  have hlen : l.length = buf.length := by
   have := congrArg List.length hv
   simp at this; omega
  have er : aX.recv ⟨room, buf, w :: r, eI, closed⟩ = (⟨room, l, r, eI, closed⟩, v, true, w, true, 0) := by
   unfold aX.recv aX.all
   dsimp only
   rw [hv]
   rfl
  rw [er]
  dsimp only
  have hl : WV p (x.cw k ⟨room, l, r, eI, closed⟩) := h.less hc (by rw [hlen]; exact hb) (fun v hv => hv) (fun v hv => List.mem_cons_of_mem _ hv) (fun q => by
   unfold cW; simp only [List.map_cons, List.cons_append, List.count_cons]; omega)
  have hne : (au x w.g).wt.op ≠ 18 := by rcases b with b | b; rw [b]; decide; rw [b.1]; decide
  rw [if_pos rfl, if_pos rfl]
  refine ⟨⟨hk, fun _ => h.xw a, ⟨by dsimp only at *; omega, by simp only [List.length_cons] at s2; dsimp only; omega, by dsimp only at *; omega⟩⟩, hl.sent a hne (fun tI => ?_), Wk.cw.trans (Wk.sent (x := x.cw k ⟨room, l, r, eI, closed⟩) a.1 a.2.1 (by show (au x w.g).st ≠ 1; rw [a.2.2]; decide)), (fun h => by cases h)⟩
  exact DS h hc a.1 a.2.2 tI (by unfold cW; simp only [List.map_cons, List.cons_append, List.count_cons, beq_self_eq_true, if_true]; omega)
 | nil =>
  cases buf with
  | cons q t =>
   have er : aX.recv ⟨room, q :: t, [], eI, closed⟩ = (⟨room, t, [], eI, closed⟩, q, true, .zero, false, 0) := rfl
   rw [er]
   dsimp only
   simp only [Bool.false_eq_true, if_false, if_true]
   simp only [List.length_cons] at s1 hb
   exact ⟨⟨hk, (fun h => by cases h), ⟨by dsimp only; omega, by dsimp only at *; omega, by dsimp only at *; omega⟩⟩, h.less hc ⟨by dsimp only; omega, hb.2⟩ (fun v hv => hv) (fun v hv => hv) (fun q => Nat.le_refl _), Wk.cw, (fun h => by cases h)⟩
  | nil =>
   have er : aX.recv ⟨room, [], [], eI, closed⟩ = (⟨room, [], [], eI, closed⟩, 0, false, .zero, false, if closed then 0 else 5) := rfl
   rw [er]
   dsimp only
   simp only [Bool.false_eq_true, if_false, ox hc]
   exact ⟨⟨hk, (fun h => by cases h), ⟨by dsimp only at *; omega, by dsimp only at *; omega, by dsimp only at *; omega⟩⟩, h, Wk.refl _, fun _ => trivial⟩
end
section
variable {p : b6} {x y z : Wd} {g q k n : Int} {f : List cI} {i : cI} {v : Wt}
def WW (x : Wd) (v : Wt) : Prop := 0 ≤ v.g ∧ v.g < x.gs.length ∧ ((au x v.g).st = 2 → (au x v.g).wt.op = 14 ∧ nk x v.g ∨ (au x v.g).wt.op = 16 ∧ 0 ≤ v.cs ∧ v.cs < (au x v.g).wt.b)
def Ae (x y : Wd) : Prop := (∀ d ∈ y.aE, ∃ c ∈ x.aE, ∀ q ∈ cW d, q ∈ cW c) ∧ y.aL = x.aL ∧ y.hl = x.hl
theorem Ae.refl (x : Wd) : Ae x x := ⟨fun d hd => ⟨d, hd, fun _ h => h⟩, rfl, rfl⟩
theorem Ae.free (h : Ae x y) (hf : nk x g) : nk y g := by
 obtain ⟨a, b, c⟩ := h
 refine ⟨fun d hd hg => ?_, by rw [b]; exact hf.2.1, by rw [c]; exact hf.2.2⟩
 obtain ⟨e, he, hs⟩ := a d hd
 exact hf.1 e he (hs g hg)
theorem Ae.leave : Ae x (x.leave g) := ⟨fun d hd => by
 obtain ⟨c, hc, rfl⟩ := List.mem_map.1 hd
 exact ⟨c, hc, fun q hq => by rw [Ad] at hq; exact (List.mem_filter.1 hq).1⟩, rfl, rfl⟩
theorem Ae.received {s : Int} : Ae x (x.received p v s) := by
 unfold Wd.received
 dsimp only
 split
 ·exact Ae.leave (x := (x.bA v.g (pT p ((au x v.g).wt.a + v.cs)).bT v.v).bA v.g _ _)
 ·exact Ae.refl x
theorem wK (hp : fK p) : ∀ (l : List Wt) (x : Wd), WV p x → x.ready.length + l.length ≤ 1000000 → (∀ v ∈ l, WW x v) → wD p x l ∧ WV p (l.foldl (dZ p) x) ∧ Wk x (l.foldl (dZ p) x)
 | [], x, h, _, _ => ⟨trivial, h, Wk.refl x⟩
 | v :: l, x, h, hr, ha => by
  obtain ⟨h0, hg, h2⟩ := ha v (by simp)
  have kK : x.ready.length ≤ 1000000 := by simp only [List.length_cons] at hr; omega
  by_cases e : (au x v.g).st = 2
  ·have Tp : At x v.g 2 := ⟨h0, hg, e⟩
   have hne : (au x v.g).wt.op ≠ 18 := by rcases h2 e with b | b; rw [b.1]; decide; rw [b.1]; decide
   have hw := h.received (v := { v with v := 0 }) Tp hne (fun tI => by
    rcases h2 e with b | b
    ·exact b.2
    ·exact absurd b.1 tI) (s := 0)
   have hk : Wk x (x.received p { v with v := 0 } 0) := Wk.received (v := { v with v := 0 }) h0 hg (by rw [e]; decide)
   have es : dZ p x v = x.received p { v with v := 0 } 0 := by unfold dZ; rw [if_pos e]
   have hrd : (x.received p { v with v := 0 } 0).ready = x.ready ++ [v.g] := (mo (v := { v with v := 0 }) h0 hg).2
   obtain ⟨r1, r2, r3⟩ := wK hp l (x.received p { v with v := 0 } 0) hw (by rw [hrd]; simp only [List.length_append, List.length_cons, List.length_nil] at *; omega) (fun w X8 => by
    obtain ⟨b0, b1, b2⟩ := ha w (List.mem_cons_of_mem _ X8)
    refine ⟨b0, by rw [vg]; exact b1, fun Tq => ?_⟩
    by_cases ew : w.g = v.g
    ·rw [ew, (mo (v := { v with v := 0 }) h0 hg).1] at Tq; cases Tq
    ·rw [xG (v := { v with v := 0 }) h0 hg b0 ew] at Tq ⊢
     rcases b2 Tq with c | c
     ·exact .inl ⟨c.1, Ae.received.free c.2⟩
     ·exact .inr c)
   refine ⟨⟨h.sm hp kK, h0, hg, fun _ => h.pU (v := { v with v := 0 }) hp Tp ?_, by rw [es]; exact r1⟩, by rw [List.foldl_cons, es]; exact r2, by rw [List.foldl_cons, es]; exact hk.trans r3⟩
   rcases h2 e with b | b
   ·exact .inl b.1
   ·exact .inr b
  ·have es : dZ p x v = x := by unfold dZ; rw [if_neg e]
   obtain ⟨r1, r2, r3⟩ := wK hp l x h (by simp only [List.length_cons] at hr; omega) (fun w X8 => ha w (List.mem_cons_of_mem _ X8))
   exact ⟨⟨h.sm hp kK, h0, hg, fun Tq => absurd Tq e, by rw [es]; exact r1⟩, by rw [List.foldl_cons, es]; exact r2, by rw [List.foldl_cons, es]; exact r3⟩
def OpEnd (p : b6) (x : Wd) : Out Wd → Prop
 | .eR _ y => WV p y ∧ Wk x y
 | .on y => WV p y ∧ Wk x y
 | .cO _ _ => False
end
theorem JU {l : List bE} {i : Nat} (h : i < l.length) : nA l i = l[i] := by
 unfold nA; rw [List.getD_eq_getElem?_getD, List.getElem?_eq_getElem h]; rfl
theorem tL {l : List bE} {i j : Nat} (hi : i < l.length) (hj : j < l.length) : (fa l i j).Perm l := by
 unfold fa
 rw [JU hi, JU hj]
 exact List.set_set_perm hi hj
theorem Af : ∀ (f i : Nat) (l : List bE), i < l.length → (Lz f i l).Perm l
 | 0, _, l, _ => List.Perm.refl l
 | f + 1, i, l, h => by
  unfold Lz
  split
  ·exact (Af f _ _ (by rw [fH]; omega)).trans (tL h (by omega))
  ·exact List.Perm.refl l
theorem Ag : ∀ (f i : Nat) (l : List bE), i < l.length → (oI f i l).Perm l
 | 0, _, l, _ => List.Perm.refl l
 | f + 1, i, l, h => by
  unfold oI
  split
  ·exact List.Perm.refl l
  ·have := (Cy h).1
   exact (Ag f _ _ (by rw [fH]; exact this)).trans (tL h this)
theorem Ah {l : List bE} {x : bE} : (sJ l x).Perm (l ++ [x]) := Af _ _ _ (by simp)
theorem DT {l : List bE} {i : Nat} (h : i < l.length) : l.Perm (nA l i :: eA l i) := by
 have hn : l.length - 1 < l.length := by omega
 have h1 : (fa l i (l.length - 1)).Perm l := tL h hn
 have OZ : (fa l i (l.length - 1))[l.length - 1]? = some (nA l i) := by
  unfold fa
  rw [List.getElem?_set_self (by rw [List.length_set]; exact hn)]
 have h2 : fa l i (l.length - 1) = (fa l i (l.length - 1)).take (l.length - 1) ++ [nA l i] := by
  have e : fa l i (l.length - 1) = (fa l i (l.length - 1)).take (l.length - 1 + 1) := by
   rw [List.take_of_length_le (by rw [fH]; omega)]
  conv => lhs; rw [e]
  rw [List.take_add_one, OZ]
  rfl
 have h3 : l.Perm (nA l i :: (fa l i (l.length - 1)).take (l.length - 1)) := by
  refine h1.symm.trans ?_
  rw [h2]
  have : (List.take (l.length - 1) (fa l i (l.length - 1)) ++ [nA l i]).take (l.length - 1) = (fa l i (l.length - 1)).take (l.length - 1) := by rw [← h2]
  rw [this]
  exact List.perm_append_comm
 unfold eA
 split
 ·rename_i hlt
  have hlen : ((fa l i (l.length - 1)).take (l.length - 1)).length = l.length - 1 := by rw [List.length_take, fH]; omega
  refine h3.trans (List.Perm.cons _ ?_)
  exact ((Af _ _ _ (by rw [js, hlen]; exact hlt)).trans (Ag _ _ _ (by rw [hlen]; exact hlt))).symm
 ·exact h3
theorem Ai : ∀ (f : Nat) (l : List bE) (now : Int), l.Perm ((ee f l now).2 ++ (ee f l now).1)
 | 0, l, _ => by simp [ee]
 | f + 1, l, now => by
  unfold ee
  split
  ·rename_i h
   refine (DT h.1).trans ?_
   dsimp only
   exact List.Perm.cons _ (Ai f _ now)
  ·simp
def iy (g : Int) (x y : Wd) : Prop := y.ready.Nodup ∧ g ∉ y.ready ∧ (∀ q ∈ y.ready, 0 ≤ q ∧ q < y.gs.length ∧ ¬ At x q 1 ∧ (au y q).st = 1) ∧
 (∀ q, 0 ≤ q → q ≠ g → q ∉ y.ready → au y q = au x q) ∧ x.gs.length ≤ y.gs.length ∧ ∀ q : Int, x.gs.length ≤ q → q < y.gs.length → q ∈ y.ready
section
variable {p : b6} {x y z : Wd} {g q k n : Int} {f : List cI} {i : cI} {v : Wt}
theorem iy.refl (hr : x.ready = []) : iy g x x := by
 refine ⟨by rw [hr]; exact List.nodup_nil, by rw [hr]; simp, fun q hq => ?_, fun _ _ _ _ => rfl, Nat.le_refl _, fun q a b => by omega⟩
 rw [hr] at hq; cases hq
theorem iy.of (h : Wk x y) (hr : x.ready = []) (hg : At x g 1) : iy g x y := by
 obtain ⟨a1, l, a2, a3, a4, a5⟩ := h
 rw [hr, List.nil_append] at a2
 rw [iy, a2]
 refine ⟨a3, fun hm => (a4 g hm).2.2.1 hg.2.2, fun q hq => ?_, fun q q0 _ hn => a5 q q0 hn, by omega, fun q b c => by omega⟩
 obtain ⟨b1, b2, b3, b4⟩ := a4 q hq
 exact ⟨b1, by omega, fun ha => b3 ha.2.2, b4⟩
theorem iy.LN (h : iy g x y) (h1 : z.ready = y.ready) (h2 : z.gs.length = y.gs.length) (h3 : ∀ q, 0 ≤ q → q ≠ g → au z q = au y q) : iy g x z := by
 obtain ⟨a1, a2, a3, a4, a5, a6⟩ := h
 rw [iy, h1, h2]
 refine ⟨a1, a2, fun q hq => ?_, fun q q0 hne hn => by rw [h3 q q0 hne]; exact a4 q q0 hne hn, a5, a6⟩
 have hne : q ≠ g := fun e => a2 (e ▸ hq)
 obtain ⟨b1, b2, b3, b4⟩ := a3 q hq
 exact ⟨b1, b2, b3, by rw [h3 q b1 hne]; exact b4⟩
theorem iy.pre (h : iy g y z) (h2 : y.gs.length = x.gs.length) (h3 : ∀ q, 0 ≤ q → q ≠ g → au y q = au x q) : iy g x z := by
 obtain ⟨a1, a2, a3, a4, a5, a6⟩ := h
 refine ⟨a1, a2, fun q hq => ?_, fun q q0 hne hn => by rw [a4 q q0 hne hn, h3 q q0 hne], by omega, fun q a b => a6 q (by omega) b⟩
 have hne : q ≠ g := fun e => a2 (e ▸ hq)
 obtain ⟨b1, b2, b3, b4⟩ := a3 q hq
 exact ⟨b1, b2, fun ha => b3 ⟨ha.1, by rw [h2]; exact ha.2.1, by rw [h3 q b1 hne]; exact ha.2.2⟩, b4⟩
theorem iy.bT (h : iy g x y) (h0 : 0 ≤ g) (hg : g < y.gs.length) : iy g x (y.bA g q n) := h.LN rfl bU fun m m0 hne => nm h0 hg m0 hne
theorem qZ {w : jh} (h0 : 0 ≤ g) (hg : g < x.gs.length) {m : Int} (m0 : 0 ≤ m) (hne : m ≠ g) : au (x.bF g w) m = au x m := by
 rw [ia hg h0, if_neg (by omega)]
theorem iy.bF {w : jh} (h : iy g x y) (h0 : 0 ≤ g) (hg : g < y.gs.length) : iy g x (y.bF g w) := h.LN rfl (by simp [Wd.bF]) fun m m0 hne => qZ h0 hg m0 hne
def hG (p : b6) (g : Int) (x : Wd) : Out Wd → Prop
 | .eR _ y => WV p y ∧ iy g x y
 | .on y => WV p y ∧ iy g x y
 | .cO _ _ => False
theorem hG.lt {r : Out Wd} (h : hG p g x r) (hg : At x g 1) : g < r.fin.gs.length := by
 cases r with
 | on y => have := h.2.2.2.2.2.1; have := hg.2.1; show g < y.gs.length; omega
 | eR n y => have := h.2.2.2.2.2.1; have := hg.2.1; show g < y.gs.length; omega
 | cO l y => exact h.elim
theorem nk.yg (h : nk x g) : b9 x.aE g = 0 ∧ gR x.aL g = 0 ∧ DR x.hl g = 0 :=
 ⟨ve.2 h.1, yC.2 h.2.1, List.count_eq_zero.2 fun hm => by
  obtain ⟨y, hy, e⟩ := List.mem_map.1 hm
  exact h.2.2 y hy e⟩
theorem At.free (hg : At x g 1) (h : WV p x) : nk x g := h.free (by rw [hg.2.2]; decide) (by rw [hg.2.2]; decide)
theorem RQ (h : WV p x) (hg : At x g 1) (hi : kf p f i) (h9 : i.op = 9) (hr : x.ready = []) : (bp x g ∧ bh i.b) ∧ hG p g x (x.call g i) := by
 obtain ⟨_, _, _, _, _, i9, _⟩ := hi
 obtain ⟨a0, a1, b1, c1⟩ := i9 (.inl h9)
 have hz := h.j5 hg.1 hg.2.1
 refine ⟨⟨h.bp hg.1 hg.2.1, b1⟩, ?_⟩
 unfold Wd.call
 split
 ·exact ⟨h, iy.refl hr⟩
 ·rename_i hn
  refine ⟨h.bF hg.1 hg.2.1 ⟨by simp, by simp; omega, fun r hr => ?_, hz.wt, hz.st⟩ rfl rfl, (iy.refl hr).bF hg.1 hg.2.1⟩
  rcases List.mem_append.1 hr with hr | hr
  ·exact hz.fr r hr
  ·simp only [List.mem_singleton] at hr; subst hr
   exact ⟨a0, a1, Int.le_refl 0, (by show (0 : Int) ≤ 64; decide), c1⟩
theorem RR (h : WV p x) (hp : fK p) (hg : At x g 1) (hi : kf p f i) (h20 : i.op = 20) (hr : x.ready = []) : (bp x g ∧ bh i.a ∧ x.Sm) ∧ hG p g x (x.emit g i) := by
 obtain ⟨_, _, _, _, _, _, i10, _⟩ := hi
 refine ⟨⟨h.bp hg.1 hg.2.1, i10 (.inr (.inr (.inl h20))), h.sm hp (by rw [hr]; decide)⟩, ?_⟩
 unfold Wd.emit
 split
 ·exact ⟨h, iy.refl hr⟩
 ·rename_i hn
  exact ⟨h.congr rfl (fun _ => ⟨rfl, rfl⟩) h.FO rfl rfl rfl (by simp; omega), (iy.refl hr).LN rfl rfl fun _ _ _ => rfl⟩
theorem RT (h : WV p x) (hg : At x g 1) (hi : kf p f i) (h10 : i.op = 10) (hr : x.ready = []) : (bp x g ∧ bh i.a ∧ bh (au x g).top.rm) ∧ hG p g x (.on (x.back g i)) := by
 obtain ⟨_, _, _, _, _, _, i10, _⟩ := hi
 have hz := h.j5 hg.1 hg.2.1
 refine ⟨⟨h.bp hg.1 hg.2.1, i10 (.inl h10), hz.top.2.2.2.2⟩, ?_⟩
 have hf := hg.free h
 unfold Wd.back
 split
 ·rename_i h2
  refine ⟨h.bF hg.1 hg.2.1 ⟨by simp [jh.back]; omega, by have := hz.l2; simp [jh.back]; omega, fun r hr => ?_, hz.wt, hz.st⟩ rfl rfl, (iy.refl hr).bF hg.1 hg.2.1⟩
  rcases List.mem_or_eq_of_mem_set hr with hr | rfl
  ·exact hz.fr r (List.mem_of_mem_take hr)
  ·refine FN.set ?_ _ _
   rw [List.getD_eq_getElem?_getD, List.getElem?_eq_getElem (by omega), Option.getD_some]
   exact hz.fr _ (List.getElem_mem _)
 ·have hd : WV p (x.bF g { au x g with st := 4 }) := h.JS hg.1 hg.2.1 hf (hz.Pj (by decide) (by decide))
  have Tr : iy g x (x.bF g { au x g with st := 4 }) := (iy.refl hr).bF hg.1 hg.2.1
  split
  ·exact ⟨hd.congr rfl (fun _ => ⟨rfl, rfl⟩) hd.FO rfl rfl rfl hd.out, Tr.LN rfl rfl fun _ _ _ => rfl⟩
  ·exact ⟨hd, Tr⟩
theorem RU (h : WV p x) (hp : fK p) (hg : At x g 1) (hf : f ∈ p.funcs) (hi : kf p f i) (Z0 : i.op = 13) (hr : x.ready = []) :
  ((bp x g ∧ bh i.b ∧ oH p x i.a (bC x g i.b) ∧ va x g i (x.put p i.a (bC x g i.b))) ∧ x.Sm) ∧ hG p g x (x.send p g i) := by
 have hi' := hi
 obtain ⟨_, _, _, _, _, _, _, i13, Po, _⟩ := hi'
 obtain ⟨a0, a1⟩ := i13 (.inl Z0)
 have hk : uY x i.a := ⟨a0, by rw [h.ch]; exact a1⟩
 obtain ⟨p1, p2⟩ := h.put (n := bC x g i.b) hp hk
 have LJ := h.bp hg.1 hg.2.1
 have hs := h.sm hp (by rw [hr]; decide)
 have hfr := hg.free h
 obtain ⟨c, hc, ec⟩ := FQ hk
 have hm := List.mem_of_getElem? hc
 obtain ⟨s1, s2, s3⟩ := qx h hm
 unfold Wd.send
 generalize jC : x.put p i.a (bC x g i.b) = r at p2
 match r, p2 with
 | .eR n y, p2 =>
  exact ⟨⟨⟨LJ, Po (.inl Z0), p1, trivial⟩, hs⟩, p2.1, iy.of (Wk.same p2.2.1 p2.2.2) hr hg⟩
 | .on (y, true), p2 =>
  exact ⟨⟨⟨LJ, Po (.inl Z0), p1, trivial⟩, hs⟩, p2.1, iy.of p2.2 hr hg⟩
 | .on (y, false), p2 =>
  have p3 : y = x := p2
  subst p3
  refine ⟨⟨⟨LJ, Po (.inl Z0), p1, LJ, rfl, hk, by rw [ec]; exact ⟨by omega, by omega, by omega⟩⟩, hs⟩, ?_, ?_⟩
  ·have hb := h.block hg hf hi
   have eg : au (y.block g i) g = { au y g with st := 2, wt := i } := gN hg.1 hg.2.1
   show WV p ((y.block g i).cw i.a { dX y.aE i.a with snd := (dX y.aE i.a).snd ++ [⟨g, 0, bC y g i.b⟩] })
   rw [ec]
   refine hb.more (c := c) (w := ⟨g, 0, bC y g i.b⟩) hc (h.buf c hm) (fun v hv => .inl hv) (fun v hv => ?_) (fun q => ?_) (fun _ => ?_) ?_
   ·rcases List.mem_append.1 hv with hv | hv
    ·exact .inl hv
    ·refine .inr ⟨by simpa using hv, ⟨hg.1, by simpa [Wd.block, Wd.bF] using hg.2.1, by rw [eg]⟩, .inl (by rw [eg]; exact Z0)⟩
   ·unfold cW
    simp only [List.map_append, List.map_cons, List.map_nil, List.count_append, List.count_cons, List.count_nil]
    by_cases e : q = g
    ·subst e; simp; omega
    ·rw [if_neg e]
     have : (g == q) = false := by simp; exact fun h => e h.symm
     simp [this]
   ·have := hfr.yg
    show b9 y.aE g + gR y.aL g = 0
    omega
   ·have := hfr.yg
    show b9 y.aE g < 32
    omega
  ·exact (iy.refl hr).LN rfl (by simp [Wd.block, Wd.JG, Wd.bF, Wd.cw]) fun m m0 hne => by
    show au (y.bF g _) m = _
    exact qZ hg.1 hg.2.1 m0 hne
 | .cO l y, p2 => exact p2.elim
end
section
variable {p : b6} {x y z : Wd} {g q k n : Int} {f : List cI} {i : cI} {v : Wt}
theorem lC (l : List Int) (q g : Int) : (l ++ [g]).count q ≤ l.count q + (if q = g then 1 else 0) := by
 rw [List.count_append, List.count_cons, List.count_nil]
 by_cases e : q = g
 ·subst e; simp
 ·rw [if_neg e]
  have : (g == q) = false := by simp; exact fun h => e h.symm
  simp [this]
theorem RV (h : WV p x) (hp : fK p) (hg : At x g 1) (hf : f ∈ p.funcs) (hi : kf p f i) (h14 : i.op = 14) (hr : x.ready = []) :
  (wE x g i ∧ x.Sm) ∧ hG p g x (.on (x.recv g i)) := by
 have hi' := hi
 obtain ⟨_, _, _, _, _, _, _, i13, Po, i14, _⟩ := hi'
 obtain ⟨a0, a1⟩ := i13 (.inr (.inl h14))
 have hk : uY x i.a := ⟨a0, by rw [h.ch]; exact a1⟩
 obtain ⟨p1, p2, p3, p4⟩ := h.get hp hk
 have LJ := h.bp hg.1 hg.2.1
 have hs := h.sm hp (by rw [hr]; decide)
 have hfr := hg.free h
 obtain ⟨c, hc, ec⟩ := FQ hk
 have hm := List.mem_of_getElem? hc
 obtain ⟨s1, s2, s3⟩ := qx h hm
 have ek := p3.keep hg.1 hg.2.2
 have el := p3.1
 refine ⟨⟨⟨LJ, Po (.inr h14), i14 (.inl h14), p1, p2.bp hg.1 (by rw [el]; exact hg.2.1), by rw [ek], fun e => ?_⟩, hs⟩, ?_⟩
 ·rw [p4 e]
  exact ⟨hk, by rw [ec]; exact ⟨by omega, by omega, by omega⟩⟩
 ·unfold Wd.recv
  have Tr : iy g x (x.get i.a).1 := iy.of p3 hr hg
  split
  ·have r1 := p2.bA (g := g) (q := i.b) (n := (x.get i.a).2.1) hg.1 (by rw [el]; exact hg.2.1)
   refine ⟨r1.bA hg.1 (by rw [bU, el]; exact hg.2.1), (Tr.bT hg.1 (by rw [el]; exact hg.2.1)).bT hg.1 (by rw [bU, el]; exact hg.2.1)⟩
  ·rename_i e
   rw [p4 (by simpa using e)]
   have hb := h.block hg hf hi
   have eg : au (x.block g i) g = { au x g with st := 2, wt := i } := gN hg.1 hg.2.1
   refine ⟨?_, ?_⟩
   ·show WV p ((x.block g i).cw i.a { dX x.aE i.a with eI := (dX x.aE i.a).eI ++ [⟨g, 0, 0⟩] })
    rw [ec]
    refine hb.more (c := c) (w := ⟨g, 0, 0⟩) hc (h.buf c hm) (fun v hv => ?_) (fun v hv => .inl hv) (fun q => ?_) (fun _ => ?_) ?_
    ·rcases List.mem_append.1 hv with hv | hv
     ·exact .inl hv
     ·exact .inr ⟨by simpa using hv, ⟨hg.1, by simpa [Wd.block, Wd.bF] using hg.2.1, by rw [eg]⟩, .inl (by rw [eg]; exact h14)⟩
    ·unfold cW
     rw [List.map_append, ← List.append_assoc]
     exact lC _ _ _
    ·have := hfr.yg
     show b9 x.aE g + gR x.aL g = 0
     omega
    ·have := hfr.yg
     show b9 x.aE g < 32
     omega
   ·exact (iy.refl hr).LN rfl (by simp [Wd.block, Wd.JH, Wd.bF, Wd.cw]) fun m m0 hne => by
     show au (x.bF g _) m = _
     exact qZ hg.1 hg.2.1 m0 hne
theorem RW (h : WV p x) (hp : fK p) (hg : At x g 1) (hi : kf p f i) (h15 : i.op = 15) (hr : x.ready = []) :
  (oq p x i ∧ x.Sm) ∧ hG p g x (x.shut p i) := by
 have hi' := hi
 obtain ⟨_, _, _, _, _, _, _, i13, _⟩ := hi'
 obtain ⟨a0, a1⟩ := i13 (.inr (.inr h15))
 have hk : uY x i.a := ⟨a0, by rw [h.ch]; exact a1⟩
 have hs := h.sm hp (by rw [hr]; decide)
 obtain ⟨c, hc, ec⟩ := FQ hk
 have hm := List.mem_of_getElem? hc
 obtain ⟨s1, s2, s3⟩ := qx h hm
 have hb := h.buf c hm
 have hrc := h.eI c hm
 unfold oq Wd.shut
 rw [ec]
 obtain ⟨room, buf, snd, eI, closed⟩ := c
 cases closed with
 | true =>
  refine ⟨⟨⟨hk, by dsimp only at *; omega, fun e => by simp [aX.close] at e⟩, hs⟩, ?_⟩
  simp only [aX.close, if_true]
  rw [ox hc]
  exact ⟨h, iy.refl hr⟩
 | false =>
  have Qc : WV p (x.cw i.a ⟨room, buf, [], [], true⟩) := h.less hc hb (fun v hv => by cases hv) (fun v hv => by cases hv) (fun q => by simp [cW])
  have Pp := wK hp eI (x.cw i.a ⟨room, buf, [], [], true⟩) Qc (by show x.ready.length + eI.length ≤ 1000000; rw [hr]; dsimp only [List.length_nil] at *; omega) (fun v hv => by
   obtain ⟨a, b⟩ := hrc v hv
   refine ⟨a.1, a.2.1, fun _ => ?_⟩
   rcases b with b | b
   ·refine .inl ⟨b, DS h hc a.1 a.2.2 (by rw [b]; decide) ?_⟩
    have : 0 < List.count v.g (cW ⟨room, buf, snd, eI, false⟩) := List.count_pos_iff.2 (List.mem_append_right _ (List.mem_map.2 ⟨v, hv, rfl⟩))
    show List.count v.g (cW ⟨room, buf, [], [], true⟩) + 1 ≤ _
    simp only [cW, List.map_nil, List.append_nil, List.count_nil] at *
    omega
   ·exact .inr b)
  refine ⟨⟨⟨hk, by dsimp only at *; omega, fun _ _ => ?_⟩, hs⟩, ?_⟩
  ·simp only [aX.close, Bool.false_eq_true, if_false]
   exact Pp.1
  ·simp only [aX.close, Bool.false_eq_true, if_false]
   rw [if_neg (by decide)]
   split
   ·exact ⟨Qc, (iy.refl hr).LN rfl rfl fun _ _ _ => rfl⟩
   ·exact ⟨Pp.2.1, iy.of (Wk.cw.trans Pp.2.2) hr hg⟩
theorem Pq (h : WV p x) (hp : fK p) (hg : At x g 1) (hi : kf p f i) (h17 : i.op = 17) (hr : x.ready = []) :
  (bp x g ∧ bh i.a ∧ x.hl.length < 1000000) ∧ hG p g x (.on (x.sleep g i)) := by
 obtain ⟨_, _, _, _, _, _, i10, _⟩ := hi
 refine ⟨⟨h.bp hg.1 hg.2.1, i10 (.inr (.inl h17)), by have := h.JR; omega⟩, ?_⟩
 unfold Wd.sleep
 split
 ·have hf := hg.free h
  have hz := h.j5 hg.1 hg.2.1
  have h1 := h.JS hg.1 hg.2.1 hf (hz.Pj (s := 3) (by decide) (by decide))
  have Tr : iy g x (x.bF g { au x g with st := 3 }) := (iy.refl hr).bF hg.1 hg.2.1
  refine ⟨⟨h1.n1, h1.n2, h1.FO, h1.ch, h1.lk, h1.buf, h1.eI, h1.snd, h1.lw, fun w hw => ?_, h1.one, h1.DK, fun q => ?_, h1.out⟩, Tr.LN rfl rfl fun _ _ _ => rfl⟩
  ·have He := Ah.mem_iff.1 hw
   rcases List.mem_append.1 He with He | He
   ·exact h1.hl w He
   ·simp only [List.mem_singleton] at He; subst He
    refine ⟨hg.1, by simpa [Wd.bF] using hg.2.1, ?_⟩
    show (au (x.bF g { au x g with st := 3 }) g).st = 3
    rw [gN hg.1 hg.2.1]
  ·show DR (sJ x.hl _) q ≤ 1
   unfold DR
   rw [(Ah.map bE.id).count_eq, List.map_append, List.map_cons, List.map_nil]
   have a := lC (x.hl.map bE.id) q g
   have b := h.h1 q
   unfold DR at b
   by_cases e : q = g
   ·subst e
    have := hf.yg.2.2
    unfold DR at this
    rw [if_pos rfl] at a
    dsimp only at *
    omega
   ·rw [if_neg e] at a
    dsimp only at *
    omega
 ·exact ⟨h, iy.refl hr⟩
theorem Ts (hk : DP x k) : ∃ c, x.aL[k.toNat]? = some c ∧ pn x k = c := by
 obtain ⟨k0, k1⟩ := hk
 obtain ⟨c, hc⟩ := aR (l := x.aL) (i := k.toNat) (by omega)
 exact ⟨c, hc, by simp [pn, hc]⟩
theorem WV.Iv (h : WV p x) {c c' : Lk} (hc : x.aL[k.toNat]? = some c) (hr : ∀ v ∈ c'.waits, v ∈ c.waits) (hn : ∀ q, c'.waits.count q ≤ c.waits.count q) : WV p (x.gF k c') := by
 have hm : c ∈ x.aL := List.mem_of_getElem? hc
 refine ⟨h.n1, h.n2, h.FO, h.ch, by simpa [Wd.gF] using h.lk, h.buf, h.eI, h.snd, fun d hd v hv => ?_, h.hl, fun q q0 hq => ?_, h.DK, h.h1, h.out⟩
 ·rcases jB hd with hd | rfl
  ·exact h.lw d hd v hv
  ·exact h.lw c hm v (hr v hv)
 ·have a := h.one q q0 hq
  have b := mj (fun l : Lk => l.waits.count q) x.aL k.toNat c' c hc
  have := hn q
  show b9 x.aE q + gR (x.aL.set k.toNat c') q ≤ 1
  unfold gR at *
  omega
theorem RX (h : WV p x) (hp : fK p) (hg : At x g 1) (hf : f ∈ p.funcs) (hi : kf p f i) (To : i.op = 18) (hr : x.ready = []) :
  (bp x g ∧ DP x i.a ∧ x.Sm) ∧ hG p g x (.on (x.lock g i)) := by
 have hi' := hi
 obtain ⟨_, _, _, _, _, _, _, _, _, _, _, i18, _⟩ := hi'
 obtain ⟨a0, a1⟩ := i18 (.inl To)
 have hk : DP x i.a := ⟨a0, by rw [h.lk]; exact a1⟩
 refine ⟨⟨h.bp hg.1 hg.2.1, hk, h.sm hp (by rw [hr]; decide)⟩, ?_⟩
 obtain ⟨c, hc, ec⟩ := Ts hk
 have hm := List.mem_of_getElem? hc
 have hfr := hg.free h
 unfold Wd.lock
 rw [ec]
 unfold Lk.take
 split
 ·dsimp only
  rw [if_pos rfl]
  exact ⟨h.Iv hc (fun v hv => hv) (fun q => Nat.le_refl _), (iy.refl hr).LN rfl rfl fun _ _ _ => rfl⟩
 ·dsimp only
  rw [if_neg (by decide)]
  have hb := h.block hg hf hi
  have eg : au (x.block g i) g = { au x g with st := 2, wt := i } := gN hg.1 hg.2.1
  refine ⟨?_, ?_⟩
  ·show WV p ((x.block g i).gF i.a ⟨c.owner, c.waits ++ [g]⟩)
   refine ⟨hb.n1, hb.n2, hb.FO, hb.ch, by simpa [Wd.gF] using hb.lk, hb.buf, hb.eI, hb.snd, fun d hd v hv => ?_, hb.hl, fun q q0 hq => ?_, hb.DK, hb.h1, hb.out⟩
   ·rcases jB hd with hd | rfl
    ·exact hb.lw d hd v hv
    ·rcases List.mem_append.1 hv with hv | hv
     ·exact hb.lw c hm v hv
     ·simp only [List.mem_singleton] at hv; subst hv
      exact ⟨⟨hg.1, by simpa [Wd.gF, Wd.block, Wd.bF] using hg.2.1, by show (au (x.block v i) v).st = 2; rw [eg]⟩, by show (au (x.block v i) v).wt.op = 18; rw [eg]; exact To⟩
   ·have a := hb.one q q0 hq
    have b := mj (fun l : Lk => l.waits.count q) x.aL i.a.toNat ⟨c.owner, c.waits ++ [g]⟩ c hc
    have d := lC c.waits q g
    show b9 x.aE q + gR (x.aL.set i.a.toNat _) q ≤ 1
    have a' : b9 x.aE q + gR x.aL q ≤ 1 := a
    by_cases e : q = g
    ·subst e
     have := hfr.yg
     rw [if_pos rfl] at d
     unfold gR at *
     dsimp only at *
     omega
    ·rw [if_neg e] at d
     unfold gR at *
     dsimp only at *
     omega
  ·exact (iy.refl hr).LN rfl (by simp [Wd.block, Wd.gF, Wd.bF]) fun m m0 hne => by
    show au (x.bF g _) m = _
    exact qZ hg.1 hg.2.1 m0 hne
theorem LO (h : WV p x) (hp : fK p) (hg : At x g 1) (hi : kf p f i) (h19 : i.op = 19) (hr : x.ready = []) :
  (ni x g i ∧ x.Sm) ∧ hG p g x (x.unlock g i) := by
 have hi' := hi
 obtain ⟨_, _, _, _, _, _, _, _, _, _, _, i18, _⟩ := hi'
 obtain ⟨a0, a1⟩ := i18 (.inr h19)
 have hk : DP x i.a := ⟨a0, by rw [h.lk]; exact a1⟩
 have hs := h.sm hp (by rw [hr]; decide)
 obtain ⟨c, hc, ec⟩ := Ts hk
 have hm := List.mem_of_getElem? hc
 have hw := h.lw c hm
 unfold ni Wd.unlock
 rw [ec]
 unfold Lk.sv
 split
 ·refine ⟨⟨⟨hk, fun e => absurd rfl e⟩, hs⟩, ?_⟩
  dsimp only
  rw [if_pos (by decide)]
  have e : x.gF i.a c = x := by unfold Wd.gF; rw [eW _ _ _ hc]
  rw [e]
  exact ⟨h, iy.refl hr⟩
 ·obtain ⟨o, ws⟩ := c
  cases ws with
  | nil =>
   refine ⟨⟨⟨hk, fun e => absurd rfl e⟩, hs⟩, ?_⟩
   split
   ·rename_i e; exact absurd rfl e
   ·split
    ·rename_i e; exact absurd rfl e
    ·exact ⟨h.Iv (c' := ⟨-1, []⟩) hc (fun v hv => by cases hv) (fun q => by simp), (iy.refl hr).LN rfl rfl fun _ _ _ => rfl⟩
  | cons w ws =>
   obtain ⟨a, b⟩ := hw w (by simp)
   refine ⟨⟨⟨hk, fun _ => ⟨a.1, a.2.1⟩⟩, hs⟩, ?_⟩
   have hne : w ≠ -1 := by have := a.1; omega
   have hl : WV p (x.gF i.a ⟨w, ws⟩) := h.Iv hc (fun v hv => List.mem_cons_of_mem _ hv) (fun q => by simp only [List.count_cons]; omega)
   have hfr : nk (x.gF i.a ⟨w, ws⟩) w := by
    have o1 := h.one w a.1 (by rw [b]; decide)
    have s := mj (fun l : Lk => l.waits.count w) x.aL i.a.toNat ⟨w, ws⟩ ⟨o, w :: ws⟩ hc
    simp only [List.count_cons, beq_self_eq_true, if_true] at s
    have e1 : gR (x.aL.set i.a.toNat ⟨w, ws⟩) w = 0 := by unfold gR at *; omega
    have e2 : b9 x.aE w = 0 := by
     have := z9 (fun l : Lk => l.waits.count w) x.aL ⟨o, w :: ws⟩ hm
     simp only [List.count_cons, beq_self_eq_true, if_true] at this
     unfold gR at *; omega
    refine ⟨ve.1 e2, yC.1 e1, fun y hy e => ?_⟩
    have := (h.hl y hy).2.2
    rw [e, a.2.2] at this
    cases this
   have hres : hG p g x (.on ((x.gF i.a ⟨w, ws⟩).fx w)) := ⟨hl.fx a.1 a.2.1 hfr, iy.of (Wk.trans (Wk.same rfl rfl) (Wk.fx (x := x.gF i.a ⟨w, ws⟩) a.1 a.2.1 (by show (au x w).st ≠ 1; rw [a.2.2]; decide))) hr hg⟩
   split
   ·rename_i e; exact absurd rfl e
   ·split
    ·exact hres
    ·rename_i e; exact absurd hne e
end
section
variable {p : b6} {x y z : Wd} {g q k n : Int} {f : List cI} {i : cI} {v : Wt}
theorem kO {w : jh} (h0 : 0 ≤ q) (hq : q < x.gs.length) : au { x with gs := x.gs ++ [w] } q = au x q := by
 unfold au
 dsimp only
 rw [List.getD_eq_getElem?_getD, List.getD_eq_getElem?_getD, List.getElem?_append_left (by omega)]
theorem CD {w : jh} : au { x with gs := x.gs ++ [w] } (x.gs.length : Int) = w := by
 unfold au
 dsimp only
 rw [Int.toNat_natCast, List.getD_eq_getElem?_getD, List.getElem?_append_right (Nat.le_refl _)]
 simp
theorem WV.spawn (h : WV p x) (hn : x.gs.length < 100) {w : jh} (hw : po p w) : WV p { x with gs := x.gs ++ [w] } := by
 have at_ : ∀ q s, At x q s → At { x with gs := x.gs ++ [w] } q s := fun q s ha => ⟨ha.1, by have := ha.2.1; simp; omega, by rw [kO ha.1 ha.2.1]; exact ha.2.2⟩
 refine ⟨by simp, by simp; omega, fun z hz => ?_, h.ch, h.lk, h.buf, fun c hc v hv => ?_, fun c hc v hv => ?_, fun l hl q hq => ?_, fun z hz => at_ _ _ (h.hl z hz), fun q q0 hq => ?_, h.DK, h.h1, h.out⟩
 ·rcases List.mem_append.1 hz with hz | hz
  ·exact h.FO z hz
  ·simp only [List.mem_singleton] at hz; subst hz; exact hw
 ·obtain ⟨a, b⟩ := h.eI c hc v hv
  rw [kO a.1 a.2.1]
  exact ⟨at_ _ _ a, b⟩
 ·obtain ⟨a, b⟩ := h.snd c hc v hv
  rw [kO a.1 a.2.1]
  exact ⟨at_ _ _ a, b⟩
 ·obtain ⟨a, b⟩ := h.lw l hl q hq
  rw [kO a.1 a.2.1]
  exact ⟨at_ _ _ a, b⟩
 ·by_cases hlt : q < x.gs.length
  ·rw [kO q0 hlt] at hq
   exact h.one q q0 hq
  ·refine h.one q q0 ?_
   unfold au
   rw [List.getD_eq_getElem?_getD, List.getElem?_eq_none (by omega)]
   decide
theorem Pr {w : jh} : Wd.fx { x with gs := x.gs ++ [{ w with st := 0 }] } (x.gs.length : Int) = { x with gs := x.gs ++ [{ w with st := 1 }], ready := x.ready ++ [(x.gs.length : Int)] } := by
 unfold Wd.fx Wd.bF
 rw [CD]
 simp [List.set_append_right]
theorem Ps (h : WV p x) (hp : fK p) (hg : At x g 1) (hi : kf p f i) (h11 : i.op = 11) (hr : x.ready = []) : (bp x g ∧ bh i.b ∧ bh i.c ∧ x.Sm) ∧ hG p g x (x.spawn g i) := by
 obtain ⟨_, _, _, _, _, i9, _⟩ := hi
 obtain ⟨a0, a1, b1, c1⟩ := i9 (.inr h11)
 refine ⟨⟨h.bp hg.1 hg.2.1, b1, c1, h.sm hp (by rw [hr]; decide)⟩, ?_⟩
 unfold Wd.spawn
 split
 ·exact ⟨h, iy.refl hr⟩
 ·rename_i hn
  rw [Pr (w := ⟨0, [gM.begin i.a (bC x g i.b)], .zero⟩)]
  have hw : po p ⟨1, [gM.begin i.a (bC x g i.b)], .zero⟩ := ⟨by simp, by simp, fun r hr => by
   simp only [List.mem_singleton] at hr; subst hr
   exact ⟨a0, a1, Int.le_refl 0, (by show (0 : Int) ≤ 64; decide), by show bh 0; decide⟩, (fun e => by cases e), by show (1 : Int) ≤ 1 ∧ (1 : Int) ≤ 4; decide⟩
  have h1 := (h.spawn (by omega) hw).ready (r := x.ready ++ [(x.gs.length : Int)])
  have hlen : g < (x.gs ++ [(⟨1, [gM.begin i.a (bC x g i.b)], .zero⟩ : jh)]).length := by have := hg.2.1; simp; omega
  refine ⟨h1.bA hg.1 hlen, ?_⟩
  have Tr : iy g x { x with gs := x.gs ++ [⟨1, [gM.begin i.a (bC x g i.b)], .zero⟩], ready := x.ready ++ [(x.gs.length : Int)] } := by
   rw [iy, hr]
   simp only [List.nil_append, List.length_append, List.length_cons, List.length_nil]
   refine ⟨by simp, by have := hg.2.1; simp; omega, fun q hq => ?_, fun q q0 _ hn => ?_, by omega, fun q a b => by simp; omega⟩
   ·simp only [List.mem_singleton] at hq; subst hq
    exact ⟨by omega, by omega, fun ha => by have := ha.2.1; omega, by show (au { x with gs := x.gs ++ [_] } _).st = 1; rw [CD]⟩
   ·show au { x with gs := x.gs ++ [_] } q = au x q
    by_cases hlt : q < x.gs.length
    ·exact kO q0 hlt
    ·simp only [List.mem_singleton] at hn
     unfold au
     dsimp only
     rw [List.getD_eq_getElem?_getD, List.getD_eq_getElem?_getD, List.getElem?_eq_none (by simp; omega), List.getElem?_eq_none (by omega)]
  exact Tr.bT hg.1 hlen
theorem JV (h : WV p x) (hg : At x g 2) (tI : (au x g).wt.op = 16) (hf : nk x g) {fQ : List Int} {cases : List oG} (hc : ∀ c ∈ cases, c.Ok x.aE.length) (hb : (cases.length : Int) ≤ (au x g).wt.b) (h32 : cases.length ≤ 32) :
  ∀ j, j ≤ cases.length → WV p { x with aE := eF g fQ cases x.aE j } ∧ b9 (eF g fQ cases x.aE j) g ≤ j
 | 0, _ => ⟨h, by show b9 x.aE g ≤ 0; have := hf.yg; omega⟩
 | j + 1, hj => by
  obtain ⟨ih, ic⟩ := JV h hg tI hf (fQ := fQ) hc hb h32 j (by omega)
  obtain ⟨c, D8⟩ := aR (l := cases) (i := j) (by omega)
  have ok := hc c (List.mem_of_getElem? D8)
  unfold eF
  rw [D8]
  dsimp only
  unfold kC
  generalize hcs : eF g fQ cases x.aE j = cs at ih ic
  have hlen : cs.length = x.aE.length := by
   have a := ih.ch
   have b := h.ch
   dsimp only at a
   omega
  have key : ∀ d : aX, (c.way = 0 ∨ c.way = 1) → dX cs c.ch = d → ∀ d' : aX, d'.buf = d.buf → d'.room = d.room →
    ((∀ v ∈ d'.eI, v ∈ d.eI ∨ v = ⟨g, j, 0⟩) ∧ d'.snd = d.snd ∨ (∀ v ∈ d'.snd, v ∈ d.snd ∨ v = ⟨g, j, fQ.getD c.bT.toNat 0⟩) ∧ d'.eI = d.eI) →
    (∀ q, (cW d').count q ≤ (cW d).count q + (if q = g then 1 else 0)) →
    WV p { x with aE := cs.set c.ch.toNat d' } ∧ b9 (cs.set c.ch.toNat d') g ≤ j + 1 := by
   intro d WX hd d' e1 e2 e3 hn
   obtain ⟨k0, k1, _⟩ := ok.2.2 (by rcases WX with e | e <;> rw [e] <;> decide)
   obtain ⟨d2, Qe⟩ := aR (l := cs) (i := c.ch.toNat) (by omega)
   have : d2 = d := by rw [← hd]; simp [dX, Qe]
   subst this
   have hm : d2 ∈ cs := List.mem_of_getElem? Qe
   have Z1 := ih.buf d2 hm
   refine ⟨?_, ?_⟩
   ·rcases e3 with ⟨e3, e4⟩ | ⟨e3, e4⟩
    ·exact ih.more (k := c.ch) (w := ⟨g, j, 0⟩) Qe (by rw [e1, e2]; exact Z1) (fun v hv => by
      rcases e3 v hv with e | e
      ·exact .inl e
      ·exact .inr ⟨e, hg, .inr ⟨tI, by dsimp only; omega, by dsimp only; show (j : Int) < (au x g).wt.b; omega⟩⟩) (fun v hv => .inl (by rw [← e4]; exact hv)) hn (fun e => absurd tI e) (by show b9 cs g < 32; omega)
    ·exact ih.more (k := c.ch) (w := ⟨g, j, fQ.getD c.bT.toNat 0⟩) Qe (by rw [e1, e2]; exact Z1) (fun v hv => .inl (by rw [← e4]; exact hv)) (fun v hv => by
      rcases e3 v hv with e | e
      ·exact .inl e
      ·exact .inr ⟨e, hg, .inr ⟨tI, by dsimp only; omega, by dsimp only; show (j : Int) < (au x g).wt.b; omega⟩⟩) hn (fun e => absurd tI e) (by show b9 cs g < 32; omega)
   ·have a := mj (fun c : aX => (cW c).count g) cs c.ch.toNat d' d2 Qe
    have b := hn g
    rw [if_pos rfl] at b
    unfold b9 at *
    omega
  split
  ·rename_i hw
   refine key _ (.inl hw) rfl _ rfl rfl (.inl ⟨fun v hv => ?_, rfl⟩) (fun q => ?_)
   ·rcases List.mem_append.1 hv with hv | hv
    ·exact .inl hv
    ·exact .inr (by simpa using hv)
   ·unfold cW
    rw [List.map_append, ← List.append_assoc]
    exact lC _ _ _
  ·split
   ·rename_i hw
    refine key _ (.inr hw) rfl _ rfl rfl (.inr ⟨fun v hv => ?_, rfl⟩) (fun q => ?_)
    ·rcases List.mem_append.1 hv with hv | hv
     ·exact .inl hv
     ·exact .inr (by simpa using hv)
    ·unfold cW
     have := lC ((dX cs c.ch).snd.map Wt.g) q g
     simp only [List.map_append, List.map_cons, List.map_nil, List.count_append] at *
     omega
   ·exact ⟨ih, by omega⟩
end
section
variable {p : b6} {x y z : Wd} {g q k n : Int} {f : List cI} {i : cI} {v : Wt} {d : jQ}
theorem po.RY {w : jh} (h : po p w) (Bt : w.top.pc + 1 ≤ 64) : po p (w.cN w.top.next) :=
 h.cN ⟨h.top.1, h.top.2.1, by have := h.top.2.2.1; show 0 ≤ w.top.pc + 1; omega, Bt, h.top.2.2.2.2⟩
theorem WV.next (h : WV p x) (hg : At x g 1) (Bt : (au x g).top.pc + 1 ≤ 64) : WV p (x.next g) ∧ At (x.next g) g 1 ∧ (x.next g).gs.length = x.gs.length ∧ (∀ q, 0 ≤ q → q ≠ g → au (x.next g) q = au x q) ∧ (au (x.next g) g).fs.length = (au x g).fs.length := by
 have hz := (h.j5 hg.1 hg.2.1).RY Bt
 have e : au (x.next g) g = (au x g).cN (au x g).top.next := gN hg.1 hg.2.1
 refine ⟨h.bF hg.1 hg.2.1 hz rfl rfl, ⟨hg.1, by simpa [Wd.next, Wd.bF] using hg.2.1, by rw [e]; exact hg.2.2⟩, by simp [Wd.next, Wd.bF], fun q q0 hne => qZ hg.1 hg.2.1 q0 hne, by rw [e]; simp [jh.cN]⟩
theorem CE {c : oG} (h : c ∈ aF p i) : c ∈ p.cases := List.mem_of_mem_drop (List.mem_of_mem_take h)
theorem FR {cases : List oG} {cs : List aX} (h : k ∈ enabled cases cs) : ∃ (j : Nat) (c : oG), k = (j : Int) ∧ j < cases.length ∧ cases[j]? = some c ∧ can cs c = true := by
 unfold enabled Di at h
 obtain ⟨j, hj, rfl⟩ := List.mem_map.1 h
 obtain ⟨h1, h2⟩ := List.mem_filter.1 hj
 rw [List.mem_range] at h1
 obtain ⟨c, hc⟩ := aR (l := cases) (i := j) (by omega)
 unfold NL at h2
 rw [hc] at h2
 exact ⟨j, c, rfl, h1, hc, h2⟩
theorem LP (h : WV p x) (hp : fK p) (hg : At x g 1) (hf : f ∈ p.funcs) (hi : kf p f i) (tI : i.op = 16) (hr : x.ready = []) (Bt : (au x g).top.pc + 1 ≤ 64)
  (hd : ∀ v, d = .num v → enabled (aF p i) x.aE ≠ [] → 0 ≤ v ∧ v < (enabled (aF p i) x.aE).length) :
  nj p x g i d = true ∧ (hG p g x (x.choose p g i d) ∨ ∃ l, d = .cO l ∧ x.choose p g i d = .cO l x) := by
 have hi' := hi
 obtain ⟨_, _, _, _, _, _, _, _, _, i14, i16, _⟩ := hi'
 have hc := i14 (.inr tI)
 obtain ⟨a0, b1, ab⟩ := i16 tI
 have hcs := hp.cs
 have LJ := h.bp hg.1 hg.2.1
 have hs := h.sm hp (by rw [hr]; decide)
 obtain ⟨n1, n2, n3, n4, n5⟩ := h.next hg Bt
 have RH := (h.j5 hg.1 hg.2.1).top.2.2.1
 have Qc : (aF p i).length = i.b.toNat := by
  unfold aF
  rw [List.length_take, List.length_drop]; omega
 have WY : ∀ c ∈ aF p i, c.Ok x.aE.length := fun c hc => by rw [h.ch]; exact (hp.cas c (CE hc)).1
 have hne1 : (x.next g).aE = x.aE := rfl
 have Tt : ∀ k, k ∈ enabled (aF p i) x.aE → z0 p x g i k ∧ hG p g x (x.qu p g i k) := by
  intro k hk
  obtain ⟨j, c, rfl, hj, D8, hcan⟩ := FR hk
  have hm : c ∈ aF p i := List.mem_of_getElem? D8
  have hrg := (hp.cas c (CE hm)).2
  have hok := WY c hm
  have ec : (aF p i).getD (j : Int).toNat ⟨0, 0, 0⟩ = c := by rw [Int.toNat_natCast, List.getD_eq_getElem?_getD, D8]; rfl
  have WX : c.way = 0 ∨ c.way = 1 := by
   unfold can at hcan
   split at hcan
   ·rename_i e; exact .inl e
   ·split at hcan
    ·rename_i e; exact .inr e
    ·cases hcan
  obtain ⟨k0, k1, _⟩ := hok.2.2 (by rcases WX with e | e <;> rw [e] <;> decide)
  have hk1 : uY (x.next g) c.ch := ⟨k0, k1⟩
  unfold z0 Wd.qu
  rw [ec]
  dsimp only
  by_cases hw : c.way = 1
  ·rw [if_pos hw, if_pos hw]
   obtain ⟨p1, p2⟩ := n1.put (n := bC (x.next g) g c.bT) hp hk1
   generalize (x.next g).put p c.ch (bC (x.next g) g c.bT) = r at p2
   match r, p2 with
   | .eR n y, p2 => exact ⟨⟨by omega, by omega, hrg, p1, trivial⟩, p2.1, (iy.of (Wk.same p2.2.1 p2.2.2) hr n2).pre n3 n4⟩
   | .on (y, true), p2 =>
    have ek := p2.2.keep hg.1 n2.2.2
    have el : g < y.gs.length := by rw [p2.2.1, n3]; exact hg.2.1
    exact ⟨⟨by omega, by omega, hrg, p1, p2.1.bp hg.1 el, by rw [ek, n5]⟩, p2.1.bA hg.1 el, ((iy.of p2.2 hr n2).pre n3 n4).bT hg.1 el⟩
   | .on (y, false), p2 =>
    have p3 : y = x.next g := p2
    subst p3
    have el : g < (x.next g).gs.length := by rw [n3]; exact hg.2.1
    exact ⟨⟨by omega, by omega, hrg, p1, n1.bp hg.1 el, n5⟩, n1.bA hg.1 el, ((iy.refl (x := x.next g) hr).pre n3 n4).bT hg.1 el⟩
   | .cO l y, p2 => exact p2.elim
  ·rw [if_neg hw, if_neg hw]
   obtain ⟨p1, p2, p3, _⟩ := n1.get hp hk1
   have ek := p3.keep hg.1 n2.2.2
   have el : g < ((x.next g).get c.ch).1.gs.length := by rw [p3.1, n3]; exact hg.2.1
   have r1 := p2.bA (g := g) (q := c.bT) (n := ((x.next g).get c.ch).2.1) hg.1 el
   exact ⟨⟨by omega, by omega, hrg, p1, p2.bp hg.1 el, by rw [ek, n5]⟩, r1.bA hg.1 (by rw [bU]; exact el), (((iy.of p3 hr n2).pre n3 n4).bT hg.1 el).bT hg.1 (by rw [bU]; exact el)⟩
 refine ⟨?_, ?_⟩
 ·unfold nj
  rw [Bool.and_eq_true]
  refine ⟨decide_eq_true ⟨LJ, ⟨a0, by omega, ab, by omega⟩, hc, hs, by omega, RH, WY⟩, ?_⟩
  cases d with
  | cO l => rfl
  | num v =>
   dsimp only
   cases he : enabled (aF p i) x.aE with
   | nil => rfl
   | cons q t =>
    rw [List.isEmpty_cons, Bool.false_or]
    obtain ⟨v0, v1⟩ := hd v rfl (by rw [he]; simp)
    rw [he] at v1
    refine decide_eq_true ⟨v0, v1, (Tt _ ?_).1⟩
    rw [he, List.getD_eq_getElem?_getD, List.getElem?_eq_getElem (by omega), Option.getD_some]
    exact List.getElem_mem _
 ·unfold Wd.choose
  split
  ·refine .inl ?_
   unfold Wd.tJ
   dsimp only
   split
   ·exact ⟨n1.bA hg.1 (by rw [n3]; exact hg.2.1), ((iy.refl (x := x.next g) hr).pre n3 n4).bT hg.1 (by rw [n3]; exact hg.2.1)⟩
   ·have hb := n1.block n2 hf hi
    have eg : au ((x.next g).block g i) g = { au (x.next g) g with st := 2, wt := i } := gN hg.1 (by rw [n3]; exact hg.2.1)
    have hfr := n2.free n1
    have hw := (JV (x := (x.next g).block g i) hb ⟨hg.1, by simpa [Wd.block, Wd.bF, n3] using hg.2.1, by rw [eg]⟩ (by rw [eg]; exact tI) hfr (fQ := u7 (au (x.next g) g).top) (cases := aF p i) WY (by rw [eg, Qc]; show ((i.b.toNat : Nat) : Int) ≤ i.b; omega) (by omega) (aF p i).length (Nat.le_refl _)).1
    refine ⟨hw, ((iy.refl (x := x.next g) hr).pre n3 n4).LN rfl (by simp [Wd.block, Wd.bF]) fun m m0 hne => ?_⟩
    show au ((x.next g).bF g _) m = _
    exact qZ hg.1 (by rw [n3]; exact hg.2.1) m0 hne
  ·rename_i hne
   cases d with
   | num v =>
    refine .inl (Tt _ ?_).2
    obtain ⟨v0, v1⟩ := hd v rfl hne
    rw [List.getD_eq_getElem?_getD, List.getElem?_eq_getElem (by omega), Option.getD_some]
    exact List.getElem_mem _
   | cO l => exact .inr ⟨l, rfl, rfl⟩
theorem Pt (h : WV p x) (hp : fK p) (h0 : 0 ≤ g) (hd : ∀ v kd n, d = .num v → asks p { x with ready := [] } g = some (kd, n) → 0 ≤ v ∧ v < n) :
  ∃ r rest, oJ p x g d = some (r, rest) ∧ (hG p g { x with ready := [] } r ∧ (xE { x with ready := [] } g ∨ r = .on { x with ready := [] } ∧ rest = true) ∨ ∃ l, d = .cO l ∧ r = .cO l { x with ready := [] } ∧ rest = false ∧ xE { x with ready := [] } g ∧ asks p { x with ready := [] } g ≠ none) := by
 have h := h.ready (r := [])
 generalize hx : ({ x with ready := [] } : Wd) = x' at h hd
 have hr : x'.ready = [] := by rw [← hx]
 unfold oJ
 rw [hx]
 dsimp only
 split
 ·rename_i Pu
  have hg : At x' g 1 := ⟨Pu.1, Pu.2.1, Pu.2.2.2⟩
  have hz := h.j5 hg.1 hg.2.1
  obtain ⟨t1, t2, t3, t4, t5⟩ := hz.top
  rw [if_pos ⟨h.bp hg.1 hg.2.1, t1, t3, by omega⟩]
  obtain ⟨code, nh⟩ := aR (l := p.funcs) (i := (au x' g).top.fn.toNat) (by omega)
  rw [nh]
  dsimp only
  have hf : code ∈ p.funcs := List.mem_of_getElem? nh
  obtain ⟨c1, c2, c3⟩ := hp.code code hf
  cases Aj : code[(au x' g).top.pc.toNat]? with
  | none => exact ⟨_, _, rfl, .inl ⟨⟨h, iy.refl hr⟩, .inl Pu⟩⟩
  | some i =>
   dsimp only
   have hi : kf p code i := c3 i (List.mem_of_getElem? Aj)
   have hi' := hi
   obtain ⟨o0, o1, o2, o7, o8, o9, o10, o13, o13b, o14, o16, o18, o21⟩ := hi'
   have hpl := (List.getElem?_eq_some_iff.1 Aj).1
   have Bt : (au x' g).top.pc + 1 ≤ 64 := by omega
   obtain ⟨n1, n2, n3, n4, n5⟩ := h.next hg Bt
   have yB : (x'.next g).ready = [] := hr
   have vb : asks p x' g = if i.op = 21 then some (4, i.b) else if i.op = 16 then (if enabled (aF p i) x'.aE = [] then none else some (3, (enabled (aF p i) x'.aE).length)) else none := by
    unfold asks CA
    rw [if_pos Pu, nh]
    dsimp only
    rw [Aj]
   have fin : ∀ {r : Out Wd}, hG p g (x'.next g) r → hG p g x' r := by
    intro r hres
    cases r with
    | on y => exact ⟨hres.1, hres.2.pre n3 n4⟩
    | eR n y => exact ⟨hres.1, hres.2.pre n3 n4⟩
    | cO l y => exact hres.elim
   split
   ·rename_i h8
    try rw [if_pos o2]
    refine ⟨_, _, rfl, .inl ⟨⟨h.bF hg.1 hg.2.1 (hz.cN ?_) rfl rfl, (iy.refl hr).bF hg.1 hg.2.1⟩, .inl Pu⟩⟩
    unfold gM.pure
    have base : FN p (au x' g).top.next := ⟨t1, t2, by show 0 ≤ (au x' g).top.pc + 1; omega, Bt, t5⟩
    split; exact base
    split; exact base.set _ _
    split; exact base.set _ _
    split; exact base.set _ _
    split; exact base.set _ _
    split; exact base.set _ _
    split; exact base.set _ _
    split
    ·rename_i e
     exact ⟨t1, t2, (o7 e).1, by have := (o7 e).2; show i.a ≤ 64; omega, t5⟩
    ·split
     ·have := o8 (by omega)
      exact ⟨t1, t2, this.1, by show i.b ≤ 64; omega, t5⟩
     ·exact base
   ·rename_i h8
    split
    ·rename_i tI
     have hw := LP (d := d) h hp hg hf hi tI hr Bt (fun v hv hne => by
      refine hd v 3 _ hv ?_
      rw [vb, if_neg (by omega), if_pos tI, if_neg hne])
     rw [if_pos hw.1]
     rcases hw.2 with He | ⟨l, Db, He⟩
     ·rw [if_pos (He.lt hg)]
      exact ⟨_, _, rfl, .inl ⟨He, .inl Pu⟩⟩
     ·rw [He, if_pos (show g < (Out.fin (.cO l x')).gs.length from hg.2.1)]
      refine ⟨_, _, rfl, .inr ⟨l, Db, rfl, rfl, Pu, ?_⟩⟩
      rw [vb, if_neg (by omega), if_pos tI]
      split
      ·rename_i e
       unfold Wd.choose at He
       rw [if_pos e] at He
       cases He
      ·simp
    ·rename_i tI
     split
     ·rename_i WN
      rw [if_pos (o10 (.inr (.inr (.inr WN))))]
      cases d with
      | num v =>
       have hl : g < (x'.next g).gs.length := by rw [n3]; exact hg.2.1
       have hres : hG p g x' (x'.rand g i (.num v)) := ⟨n1.bA hg.1 hl, ((iy.refl (x := x'.next g) hr).pre n3 n4).bT hg.1 hl⟩
       rw [if_pos (hres.lt hg)]
       exact ⟨_, _, rfl, .inl ⟨hres, .inl Pu⟩⟩
      | cO l =>
       rw [if_pos (show g < (Out.fin (x'.rand g i (.cO l))).gs.length from hg.2.1)]
       exact ⟨_, _, rfl, .inr ⟨l, rfl, rfl, rfl, Pu, by rw [vb, if_pos WN]; simp⟩⟩
     ·rename_i WN
      have go : ∀ r, ov p (x'.next g) g i = some r → hG p g (x'.next g) r → ∃ r rest, (match ov p (x'.next g) g i with
        | none => none
        | some r => if g < r.fin.gs.length then some (r, Ij i.op r) else none) = some (r, rest) ∧ (hG p g x' r ∧ (xE x' g ∨ r = .on x' ∧ rest = true) ∨ ∃ l, d = .cO l ∧ r = .cO l x' ∧ rest = false ∧ xE x' g ∧ asks p x' g ≠ none) := by
       intro r RB hres
       rw [RB]
       dsimp only
       rw [if_pos (hres.lt n2)]
       exact ⟨_, _, rfl, .inl ⟨fin hres, .inl Pu⟩⟩
      have hop : i.op = 9 ∨ i.op = 10 ∨ i.op = 11 ∨ i.op = 12 ∨ i.op = 13 ∨ i.op = 14 ∨ i.op = 15 ∨ i.op = 17 ∨ i.op = 18 ∨ i.op = 19 ∨ i.op = 20 ∨ i.op = 22 := by omega
      rcases hop with e | e | e | e | e | e | e | e | e | e | e | e
      ·have w := RQ n1 n2 hi e yB
       refine go _ ?_ w.2
       unfold ov
       rw [e]; simp only [Int.reduceEq, if_false, if_true]
       rw [if_pos w.1]
      ·have w := RT n1 n2 hi e yB
       refine go _ ?_ w.2
       unfold ov
       rw [e]; simp only [if_true]
       rw [if_pos w.1]
      ·have w := Ps n1 hp n2 hi e yB
       refine go _ ?_ w.2
       unfold ov
       rw [e]; simp only [Int.reduceEq, if_false, if_true]
       rw [if_pos w.1]
      ·refine go (.on (x'.next g)) ?_ ⟨n1, iy.refl yB⟩
       unfold ov
       rw [e]; simp only [Int.reduceEq, if_false, if_true]
      ·have w := RU n1 hp n2 hf hi e yB
       refine go _ ?_ w.2
       unfold ov
       rw [e]; simp only [Int.reduceEq, if_false, if_true]
       rw [if_pos w.1]
      ·have w := RV n1 hp n2 hf hi e yB
       refine go _ ?_ w.2
       unfold ov
       rw [e]; simp only [Int.reduceEq, if_false, if_true]
       rw [if_pos w.1]
      ·have w := RW n1 hp n2 hi e yB
       refine go _ ?_ w.2
       unfold ov
       rw [e]; simp only [Int.reduceEq, if_false, if_true]
       rw [if_pos w.1]
      ·have w := Pq n1 hp n2 hi e yB
       refine go _ ?_ w.2
       unfold ov
       rw [e]; simp only [Int.reduceEq, if_false, if_true]
       rw [if_pos w.1]
      ·have w := RX n1 hp n2 hf hi e yB
       refine go _ ?_ w.2
       unfold ov
       rw [e]; simp only [Int.reduceEq, if_false, if_true]
       rw [if_pos w.1]
      ·have w := LO n1 hp n2 hi e yB
       refine go _ ?_ w.2
       unfold ov
       rw [e]; simp only [Int.reduceEq, if_false, if_true]
       rw [if_pos w.1]
      ·have w := RR n1 hp n2 hi e yB
       refine go _ ?_ w.2
       unfold ov
       rw [e]; simp only [Int.reduceEq, if_false, if_true]
       rw [if_pos w.1]
      ·refine go (.eR i.a (x'.next g)) ?_ ⟨n1, iy.refl yB⟩
       unfold ov
       rw [e]; simp only [Int.reduceEq, if_false, if_true]
 ·exact ⟨_, _, rfl, .inl ⟨⟨h, iy.refl hr⟩, .inr ⟨rfl, rfl⟩⟩⟩
end
section
variable {p : b6} {x y z : Wd} {g q k n : Int}
theorem CF : ∀ (l : List Int) (x : Wd), WV p x → l.Nodup → (∀ q ∈ l, 0 ≤ q ∧ q < x.gs.length ∧ (au x q).st ≠ 1 ∧ nk x q) → WV p (l.foldl Wd.fx x) ∧ Wk x (l.foldl Wd.fx x) ∧ (l.foldl Wd.fx x).ready = x.ready ++ l
 | [], x, h, _, _ => ⟨h, Wk.refl x, by simp⟩
 | q :: l, x, h, hn, ha => by
  obtain ⟨q0, q1, q2, q3⟩ := ha q (by simp)
  obtain ⟨Rs, yf⟩ := List.nodup_cons.1 hn
  obtain ⟨r1, r2, r3⟩ := CF l (x.fx q) (h.fx q0 q1 q3) yf (fun m hm => by
   obtain ⟨m0, m1, m2, m3⟩ := ha m (List.mem_cons_of_mem _ hm)
   have hne : m ≠ q := fun e => Rs (e ▸ hm)
   exact ⟨m0, by rw [nq]; exact m1, by rw [qY q0 q1 m0 hne]; exact m2, m3⟩)
  refine ⟨r1, (Wk.fx q0 q1 q2).trans r2, ?_⟩
  rw [List.foldl_cons, r3]
  show (x.ready ++ [q]) ++ l = _
  simp
def JF (x : Wd) : List Int := (ee x.hl.length x.hl (IntKind.wrap .u64 (x.clock + 1))).2.map bE.id
theorem RZ (he : x.end_ = 0) : x.tick = (JF x).foldl Wd.fx { x with clock := IntKind.wrap .u64 (x.clock + 1), hl := (ee x.hl.length x.hl (IntKind.wrap .u64 (x.clock + 1))).1, ready := [] } := by
 unfold Wd.tick
 rw [if_neg (by rw [he]; decide)]
 rfl
theorem R0 (h : WV p x) : (∀ y ∈ (ee x.hl.length x.hl (IntKind.wrap .u64 (x.clock + 1))).2, 0 ≤ y.id ∧ y.id < x.gs.length) ∧ WV p x.tick ∧ Wk { x with ready := [] } x.tick ∧ x.tick.ready.length ≤ 100 := by
 generalize hr : ee x.hl.length x.hl (IntKind.wrap .u64 (x.clock + 1)) = r
 have hp : x.hl.Perm (r.2 ++ r.1) := by rw [← hr]; exact Ai _ _ _
 have m2 : ∀ y ∈ r.2, y ∈ x.hl := fun y hy => hp.mem_iff.2 (List.mem_append_left _ hy)
 have m1 : ∀ y ∈ r.1, y ∈ x.hl := fun y hy => hp.mem_iff.2 (List.mem_append_right _ hy)
 have hc : ∀ q, (r.2.map bE.id).count q + (r.1.map bE.id).count q ≤ 1 := fun q => by
  have a := h.h1 q
  unfold DR at a
  rw [(hp.map bE.id).count_eq, List.map_append, List.count_append] at a
  exact a
 refine ⟨fun y hy => ⟨(h.hl y (m2 y hy)).1, (h.hl y (m2 y hy)).2.1⟩, ?_⟩
 by_cases he : x.end_ = 0
 ·rw [RZ he]
  unfold JF
  rw [hr]
  have h1 : WV p { x with clock := IntKind.wrap .u64 (x.clock + 1), hl := r.1, ready := [] } :=
   ⟨h.n1, h.n2, h.FO, h.ch, h.lk, h.buf, h.eI, h.snd, h.lw, fun y hy => h.hl y (m1 y hy), h.one, h.DK, fun q => by have := hc q; unfold DR; dsimp only; omega, h.out⟩
  have XW : (r.2.map bE.id).Nodup := List.nodup_iff_count.2 fun q => by have := hc q; omega
  obtain ⟨r1, r2, r3⟩ := CF (r.2.map bE.id) { x with clock := IntKind.wrap .u64 (x.clock + 1), hl := r.1, ready := [] } h1 XW (fun q hq => by
   obtain ⟨y, hy, rfl⟩ := List.mem_map.1 hq
   have a := h.hl y (m2 y hy)
   refine ⟨a.1, a.2.1, by show (au x y.id).st ≠ 1; rw [a.2.2]; decide, fun c XT hg => ?_, fun l hl hg => ?_, fun w hw e => ?_⟩
   ·have := (h.RO XT hg).1.2.2
    rw [a.2.2] at this; cases this
   ·have := (h.lw l hl _ hg).1.2.2
    rw [a.2.2] at this; cases this
   ·have b := hc y.id
    have c1 : 0 < (r.2.map bE.id).count y.id := List.count_pos_iff.2 hq
    have c2 : 0 < (r.1.map bE.id).count y.id := List.count_pos_iff.2 (List.mem_map.2 ⟨w, hw, e⟩)
    omega)
  refine ⟨r1, Wk.trans (Wk.same rfl rfl) r2, ?_⟩
  rw [r3]
  have a := h.JR
  have b := hp.length_eq
  simp only [List.length_append, List.length_map, List.nil_append] at *
  omega
 ·have e : x.tick = { x with ready := [] } := by unfold Wd.tick; rw [if_pos he]
  rw [e]
  exact ⟨h.ready, Wk.refl _, by simp⟩
theorem WZ (hp : fK p) : WV p (Wd.new p) := by
 have e : ∀ q, au (Wd.new p) q = if q.toNat = 0 then ⟨1, [gM.begin 0 0], .zero⟩ else ⟨0, [], .zero⟩ := by
  intro q
  unfold au Wd.new
  dsimp only
  split
  ·rename_i e; rw [e]; rfl
  ·rename_i e
   rw [List.getD_eq_getElem?_getD, List.getElem?_eq_none (by simp; omega)]; rfl
 have yx : ∀ c ∈ (Wd.new p).aE, ∃ n, c = aX.new n := fun c hc => by
  obtain ⟨n, _, rfl⟩ := List.mem_map.1 hc
  exact ⟨n, rfl⟩
 have hlk : ∀ l ∈ (Wd.new p).aL, l.waits = [] := fun l hl => by
  have := List.eq_of_mem_replicate hl
  rw [this]
 have z1 : ∀ q, b9 (Wd.new p).aE q = 0 := fun q => qw _ _ fun c hc => by
  obtain ⟨n, rfl⟩ := yx c hc
  rfl
 have z2 : ∀ q, gR (Wd.new p).aL q = 0 := fun q => qw _ _ fun l hl => by rw [hlk l hl]; rfl
 refine ⟨by simp [Wd.new], by simp [Wd.new], fun y hy => ?_, by simp [Wd.new], by (simp [Wd.new]; have := hp.lk.1; omega), fun c hc => ?_, fun c hc v hv => ?_, fun c hc v hv => ?_, fun l hl q hq => ?_, fun y hy => by simp [Wd.new] at hy, fun q _ _ => by rw [z1, z2]; omega, fun q => by rw [z1]; omega, fun q => by simp [DR, Wd.new], by simp [Wd.new]⟩
 ·simp only [Wd.new, List.mem_singleton] at hy
  subst hy
  refine ⟨by simp, by simp, fun r hr => ?_, (fun e => by cases e), by show (1 : Int) ≤ 1 ∧ (1 : Int) ≤ 4; decide⟩
  simp only [List.mem_singleton] at hr; subst hr
  exact ⟨Int.le_refl 0, by have := hp.f1; show (0 : Int) < _; omega, Int.le_refl 0, (by show (0 : Int) ≤ 64; decide), by show bh 0; decide⟩
 ·obtain ⟨n, rfl⟩ := yx c hc
  exact ⟨Nat.zero_le _, Nr n⟩
 ·obtain ⟨n, rfl⟩ := yx c hc
  cases hv
 ·obtain ⟨n, rfl⟩ := yx c hc
  cases hv
 ·rw [hlk l hl] at hq; cases hq
end
def Iw (y : jh) : Bool := y.st == 1 || y.st == 3
def Wd.stuck (x : Wd) : Bool := x.end_ == 0 && !(x.gs.any Iw)
section
variable {R : Mem} {L L' L2 : List HP} {M : Mem} {K : Value → Mem → Prop} {Kp : List PanicEntry → Mem → Prop} {pa : PA} {p : b6} {b : Nat} {x : Wd} {g : Int}
theorem FT (h : Hp R L M) [o : Ik b L pa p x L'] (hs : x.gs.length ≤ 1000000) (k : K (.bool x.stuck) M) : aa Tryz.prog 44 #[.pointer (some ⟨b, 0, none⟩)] M K Kp := by
 refine qb ?_
 unfold Wd.stuck at k
 have h' := eD h (b := b)
 clear h
 obtain ⟨a, gg, dr, n, hl, h⟩ := h'
 have hl' := hl
 obtain ⟨l1, l2, l3, l4⟩ := hl'
 refine aH h ?_
 refine cK.2 ⟨fun he => ?_, fun he => ?_⟩
 ·rw [show (x.end_ == 0) = false from by simpa using he, Bool.false_and] at k
  exact k
 rw [show (x.end_ == 0) = true from by simpa using he, Bool.true_and] at k
 refine aQ h ?_
 refine ⟨fun d vs M' => ∃ j : Nat, vs = [.int .i64 (j : Int)] ∧ d = x.gs.length - j ∧ j ≤ x.gs.length ∧ (x.gs.take j).any Iw = false ∧ M' = M, ⟨_, 0, rfl, rfl, by omega, rfl, rfl⟩, ?_⟩
 rintro d _ nn M' ⟨j, xC, hd, hj, ha, rfl⟩
 simp only [List.cons.injEq, Value.int.injEq, and_true, true_and] at xC
 subst xC
 refine aP.2 ⟨fun hlt => ?_, fun hge => ?_⟩
 ·obtain ⟨gb, fX⟩ := aR (l := a.gb) (i := j) (by omega)
  obtain ⟨ga, WQ⟩ := aR (l := gg) (i := j) (by omega)
  obtain ⟨y, hy⟩ := aR (l := x.gs) (i := j) (by omega)
  have Pc : M'.ld ⟨gb, 0, none⟩ = some (.int .i64 y.st) := by
   have h9 := m9 (b := gb) (h.dn fZ fX (om hy WQ))
   exact aA h9
  refine ⟨by omega, by omega, ?_⟩
  refine vz h fX fun q hq => ?_
  refine br ?_
  rw [Pc]
  refine ck ?_
  have hym := List.mem_of_getElem? hy
  refine aY.2 ⟨fun e1 => ?_, fun e1 => ?_⟩
  ·have : x.gs.any Iw = true := List.any_eq_true.2 ⟨y, hym, by simp [Iw, e1]⟩
   rw [this] at k
   exact k
  refine br ?_
  rw [Pc]
  refine ck ?_
  refine aY.2 ⟨fun e3 => ?_, fun e3 => ?_⟩
  ·have : x.gs.any Iw = true := List.any_eq_true.2 ⟨y, hym, by simp [Iw, e3]⟩
   rw [this] at k
   exact k
  refine ⟨x.gs.length - (j + 1), by omega, j + 1, by rw [aU (by omega)], rfl, by omega, ?_, rfl⟩
  rw [cC hy, List.any_append, ha]
  simp [Iw, e1, e3]
 ·have yj : j = x.gs.length := by omega
  subst yj
  rw [List.take_length] at ha
  rw [ha] at k
  exact k
end
end Go.Proofs
