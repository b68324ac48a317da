/- A part of proofs about one program. -/
import Derived.Test.YtfjgcljdnhkmaaaZWorldSleeps1
import Derived.Test.YtfjgcljdnhkmaaaZWorldSleeps2
set_option linter.unusedVariables false
namespace Go.Proofs
open Go.AF
set_option maxRecDepth 100000
set_option maxHeartbeats 1000000
attribute [local irreducible] bG dz fN dU aE fL aB bW bq aW bD aX
def Jn : gY (Option Addr × Nat × Nat) := ⟨1, fun t => [.slice t.1 t.2.1 t.2.2], fun _ => rfl, fun w v hv => by simp only [List.mem_singleton] at hv; subst hv; rfl⟩
structure lX (R : Mem) (pa : PA) (p : cR) : Prop where
 funcs : ∃ ts : List (Option Addr × Nat × Nat), RS Jn R pa.f pa.fc ts ∧ ts.length = p.funcs.length ∧ ∀ (i : Nat) t f, ts[i]? = some t → p.funcs[i]? = some f → RS zF R t.1 t.2.2 f ∧ t.2.1 = f.length
 cases : RS qW R pa.k pa.kc p.cases
theorem lX.le {R R' : Mem} {pa : PA} {p : cR} (h : lX R pa p) (hle : R.le R') : lX R' pa p := by
 obtain ⟨⟨ts, h1, h2, h3⟩, h4⟩ := h
 exact ⟨⟨ts, h1.le hle, h2, fun i t f a b => ⟨(h3 i t f a b).1.le hle, (h3 i t f a b).2⟩⟩, h4.le hle⟩
def Wd.next (x : Wd) (g : Int) : Wd := x.aJ g ((aa x g).bj (aa x g).top.next)
def Ei (n : Int) : List PanicEntry := [{ v := .iface 92 (.int .i64 n), recovered := false }]
def dn (R : Mem) (pa : PA) (p : cR) (dr : Value) (LX : Nat) (x : Wd) (g : Int) (i : cn) (r : Out Wd) (L L2 : List HP) : Prop :=
 ∀ (gg : List GA) (b bs c : Nat) (M : Mem) (K : Value → Mem → Prop) (Kp : List PanicEntry → Mem → Prop) (Q : HP), Hp R (aM (aO pa p gg dr) b x :: Q :: L) M → gg[g.toNat]? = some (some ⟨bs, 0, none⟩, c) →
  Out.Ok r (fun y => ∀ gQ M', Hp R (aM (aO pa p gQ dr) b y :: Q :: L2) M' → K (.tuple #[]) M') (fun n y => ∀ gQ M', Hp R (aM (aO pa p gQ dr) b y :: Q :: L2) M' → Kp (Ei n) M') (fun l y => ∀ gQ M', Hp R (aM (aO pa p gQ dr) b y :: Q :: L2) M' → Kp l M') →
  ae Try.prog LX #[.pointer (some ⟨b, 0, none⟩), .int .i64 g, .pointer (some ⟨bs, ((aa x g).fs.length - 1) * 11, none⟩), .agg #[.int .i64 i.op, .int .i64 i.a, .int .i64 i.b, .int .i64 i.c]] M K Kp
theorem Out.Ok.mono {α : Type} {r : Out α} {k1 Nj : α → Prop} {k2 Nk : Int → Wd → Prop} {k3 : List PanicEntry → Wd → Prop} (h : r.Ok k1 k2 k3) (h1 : ∀ y, k1 y → Nj y) (h2 : ∀ n y, k2 n y → Nk n y) : r.Ok Nj Nk := by
 cases r with
 | on y => exact h1 y h
 | cT n y => exact h2 n y h
 | e7 l y => trivial
section
variable {R : Mem} {L L' L2 : List HP} {M : Mem} {K : Value → Mem → Prop} {Kp : List PanicEntry → Mem → Prop} {pa : PA} {p : cR} {gg : List GA} {dr : Value} {b : Nat} {x : Wd} {g : Int} {i : cn}
theorem Dk (hp : lX R pa p) (hk : xN p x g i) (hs : x.Sm) : dn R pa p dr 49 x g i (x.send p g i) L L := fun gg b bs c M K Kp Q h cS k =>
 xO h hp.cases cS hk hs (k.mono (fun y hy M' h' => hy gg M' h') (fun n y hy M' h' => hy gg M' h'))
theorem Dl (hk : oR x g i) (hs : x.Sm) : dn R pa p dr 50 x g i (.on (x.recv g i)) L L := fun gg b bs c M K Kp Q h cS k =>
 xP h cS hk hs fun M' h' => k gg M' h'
theorem Dm (hg : aI x g) (ha : aQ i.a) (hs : x.Sm) : dn R pa p dr 55 x g i (x.emit g i) L L := fun gg b bs c M K Kp Q h cS k =>
 xQ h cS hg ha hs (k.mono (fun y hy M' h' => hy gg M' h') (fun n y hy M' h' => hy gg M' h'))
theorem BR (hg : aI x g) (hb : aQ i.b) (hc : aQ i.c) (hs : x.Sm) : dn R pa p dr 47 x g i (x.spawn g i) L L := fun gg b bs c M K Kp Q h cS k =>
 vY h cS hg hb hc hs (k.mono (fun y hy => hy) (fun n y hy M' h' => hy gg M' h'))
theorem Dp (hp : lX R pa p) (hk : jf p x i) (hs : x.Sm) : dn R pa p dr 51 x g i (x.shut p i) L L := fun gg b bs c M K Kp Q h cS k =>
 xS (f := .nilFunc) h hp.cases hk hs (k.mono (fun y hy M' h' => hy gg M' h') (fun n y hy M' h' => hy gg M' h'))
def FG : AL := [(9, .func (.func 45) #[] #[]), (10, .func (.func 46) #[] #[]), (11, .func (.func 47) #[] #[]), (12, .func (.func 48) #[] #[]), (13, .func (.func 49) #[] #[]), (14, .func (.func 50) #[] #[]), (15, .func (.func 51) #[] #[]), (17, .func (.func 52) #[] #[]), (18, .func (.func 53) #[] #[]), (19, .func (.func 54) #[] #[]), (20, .func (.func 55) #[] #[]), (22, .func (.func 56) #[] #[])]
theorem vZ (h : Hp R L M) (k : ∀ m M', Hp R (ob m (gK FG) :: L) M' → K (.map (some m)) M') : ae Try.prog 35 #[] M K Kp := by
 refine qY ?_
 refine D1 h ?_
 clear h
 intro m M h
 replace h : Hp R (ob m (gK []) :: L) M := h
 have hu : Try.prog.underlying 97 = some (.map 29 96) := by kernel_rfl
 have hk : Try.prog.underlying 29 = some (.int .i64) := by kernel_rfl
 iterate 12
  refine pE h hu hk ?_
  clear h
  intro M h
 exact k _ _ h
end
theorem rj {α β : Type} : ∀ {l : List α} {m : List β} {i : Nat} {u : α} {v : β}, (l.zip m).set i (u, v) = (l.set i u).zip (m.set i v)
 | [], _, _, _, _ => by simp
 | a :: l, [], i, u, v => by simp
 | a :: l, w :: m, 0, u, v => rfl
 | a :: l, w :: m, i + 1, u, v => by
  have := rj (l := l) (m := m) (i := i) (u := u) (v := v)
  simp [this]
theorem sx {x : Wd} {g : Int} (h0 : 0 ≤ g) (h1 : g < x.gs.length) : x.aJ g (aa x g) = x := by
 obtain ⟨y, hy⟩ := aP (l := x.gs) (i := g.toNat) (by omega)
 have e : aa x g = y := by simp [aa, hy]
 rw [e]
 obtain ⟨hi, rfl⟩ := List.getElem?_eq_some_iff.1 hy
 simp [Wd.aJ]
section
variable {R : Mem} {L L' L2 : List HP} {M : Mem} {K : Value → Mem → Prop} {Kp : List PanicEntry → Mem → Prop} {pa : PA} {p : cR} {gg : List GA} {dr : Value} {b : Nat} {x : Wd} {g : Int} {i : cn}
theorem Dq (hg : aI x g) (ha : aQ i.a) (hin : aQ (aa x g).top.lC) : dn R pa p dr 46 x g i (.on (x.back g i)) L L := by
 intro gg b bs c M K Kp Q h cS k
 refine lJ ?_
 replace k : ∀ gQ M', Hp R (aM (aO pa p gQ dr) b (x.back g i) :: Q :: L) M' → K (.tuple #[]) M' := k
 have uu := hg
 obtain ⟨h0, h1, h2, h3⟩ := uu
 unfold Wd.back at k
 refine aj h ?_
 clear h
 intro kb M h
 have h' := dP h (b := b) h0 h1 cS
 clear h
 obtain ⟨a, gb, hl, dx, h⟩ := h'
 have hl' := hl
 obtain ⟨l1, l2, l3, l4⟩ := hl'
 repeat (first|(refine aj h ?_;clear h;intro kb M h)|(refine ak h ?_;clear h;intro M h)|refine St.to h ?_|(apply Exists.intro;(repeat apply Exists.intro);refine And.intro rfl ?_)|refine aq ?_|refine af ?_|refine ai ?_)
 refine oP h dx fun q hq => ?_
 repeat (first|(refine aj h ?_;clear h;intro kb M h)|(refine ak h ?_;clear h;intro M h)|refine St.to h ?_|(apply Exists.intro;(repeat apply Exists.intro);refine And.intro rfl ?_)|refine aq ?_|refine af ?_|refine ai ?_)
 refine ⟨ha.1, ha.2, nN h (cF h2) ha rfl ?_⟩
 refine uq h h2 (by omega) (cF h2) hin ?_ ?_
 ·intro hlt
  rw [if_neg (by omega)] at k
  refine ⟨_, _, _, _, rfl, ai ?_⟩
  repeat (first|(refine aj h ?_;clear h;intro kb M h)|(refine ak h ?_;clear h;intro M h)|refine St.to h ?_|(apply Exists.intro;(repeat apply Exists.intro);refine And.intro rfl ?_)|refine aq ?_|refine af ?_|refine ai ?_)
  refine oP h dx fun q2 yH => ?_
  repeat (first|(refine aj h ?_;clear h;intro kb M h)|(refine ak h ?_;clear h;intro M h)|refine St.to h ?_|(apply Exists.intro;(repeat apply Exists.intro);refine And.intro rfl ?_)|refine aq ?_|refine af ?_|refine ai ?_)
  refine cL.2 ⟨fun e0 => ?_, fun e0 => ?_⟩
  ·rw [if_pos e0] at k
   repeat (first|(refine aj h ?_;clear h;intro kb M h)|(refine ak h ?_;clear h;intro M h)|refine St.to h ?_|(apply Exists.intro;(repeat apply Exists.intro);refine And.intro rfl ?_)|refine aq ?_|refine af ?_|refine ai ?_)
   replace h := bI h gb hl dx cS
   have jA := bP (y := { aa x g with st := 4 }) (g := g) hl
   replace h := aD (a := a) (p := p) (pa := pa) (dr := dr) (gg := gg) (x := { x.aJ g { aa x g with st := 4 } with end_ := 1 }) jA h b
   exact k _ _ h.bB
  ·rw [if_neg e0] at k
   replace h := bI h gb hl dx cS
   have jA := bP (y := { aa x g with st := 4 }) (g := g) hl
   replace h := aD (a := a) (p := p) (pa := pa) (dr := dr) (gg := gg) (x := x.aJ g { aa x g with st := 4 }) jA h b
   exact k _ _ h.bB
 ·intro hge b' c' M' fr hfr h'
  clear h
  have h := h'
  clear h'
  rw [if_pos hge] at k
  refine ⟨_, _, _, _, rfl, af ?_⟩
  repeat (first|(refine aj h ?_;clear h;intro kb M h)|(refine ak h ?_;clear h;intro M h)|refine St.to h ?_|(apply Exists.intro;(repeat apply Exists.intro);refine And.intro rfl ?_)|refine aq ?_|refine af ?_|refine ai ?_)
  refine oP h dx fun q2 yH => ?_
  repeat (first|(refine aj h ?_;clear h;intro kb M h)|(refine ak h ?_;clear h;intro M h)|refine St.to h ?_|(apply Exists.intro;(repeat apply Exists.intro);refine And.intro rfl ?_)|refine aq ?_|refine af ?_|refine ai ?_)
  have hlen : (aa x g).fs.length - 1 = (((aa x g).fs.take ((aa x g).fs.length - 1)).set ((aa x g).fs.length - 2) (fr.set (aa x g).top.lC (aF x g i.a))).length := by simp
  have LY : (aa x g).fs.getD ((aa x g).fs.length - 2) ⟨0, 0, [], 0⟩ = fr := by rw [List.getD_eq_getElem?_getD, hfr]; rfl
  have h5 := iC (A := some ⟨b', 0, none⟩) (fs := ((aa x g).fs.take ((aa x g).fs.length - 1)).set ((aa x g).fs.length - 2) (fr.set (aa x g).top.lC (aF x g i.a))) h gb hlen
  have hi := (List.getElem?_eq_some_iff.1 dx).1
  have h6 := h5.dw dk gb dx (by rw [List.length_zip]; omega)
  rw [rj] at h6
  have jA : cU (gg.set g.toNat (some ⟨b', 0, none⟩, c')) a (x.aJ g ((aa x g).back (aF x g i.a))) := ⟨by simpa [Wd.aJ] using l1, by simpa [Wd.aJ] using l2, l3, l4⟩
  have e : (aa x g).back (aF x g i.a) = ⟨(aa x g).st, ((aa x g).fs.take ((aa x g).fs.length - 1)).set ((aa x g).fs.length - 2) (fr.set (aa x g).top.lC (aF x g i.a)), (aa x g).wt⟩ := by
   unfold eB.back; rw [LY]
  rw [e] at jA k
  have h7 := aD (a := a) (p := p) (pa := pa) (dr := dr) (gg := gg.set g.toNat (some ⟨b', 0, none⟩, c')) (x := x.aJ g ⟨(aa x g).st, ((aa x g).fs.take ((aa x g).fs.length - 1)).set ((aa x g).fs.length - 2) (fr.set (aa x g).top.lC (aF x g i.a)), (aa x g).wt⟩) jA h6 b
  exact k _ _ (h7.sub eX)
end
def Out.fin : Out Wd → Wd
 | .on y => y
 | .cT n y => { y with end_ := 2, code := n }
 | .e7 _ y => y
def xT (op : Int) : Out Wd → Bool
 | .on _ => op == 12 || op == 17
 | .cT _ _ => false
 | .e7 _ _ => false
inductive Step (R : Mem) (pa : PA) (p : cR) (dr : Value) (x : Wd) (g : Int) (code : List cn) : Out Wd → Bool → List HP → List HP → Prop where
 | out {L : List HP} (h : (code.length : Int) ≤ (aa x g).top.pc) : Step R pa p dr x g code (.cT (-7) x) false L L
 | pure {L : List HP} (i : cn) (h : code[(aa x g).top.pc.toNat]? = some i) (h0 : 0 ≤ i.op) (h8 : i.op ≤ 8) (hk : i.eZ) : Step R pa p dr x g code (.on (x.aJ g ((aa x g).bj ((aa x g).top.next.pure i)))) false L L
 | uv {L L2 : List HP} {r : Out Wd} (i : cn) (h : code[(aa x g).top.pc.toNat]? = some i) (nO : i.op = 16) (hs : dn R pa p dr 33 x g i r L L2) : Step R pa p dr x g code r false L L2
 | FH {L L2 : List HP} {r : Out Wd} (i : cn) (h : code[(aa x g).top.pc.toNat]? = some i) (Iz : i.op = 21) (hs : dn R pa p dr 34 x g i r L L2) : Step R pa p dr x g code r false L L2
 | dflt {L L2 : List HP} {r : Out Wd} (i : cn) (fn : Nat) (h : code[(aa x g).top.pc.toNat]? = some i) (h8 : 8 < i.op) (nO : i.op ≠ 16) (Iz : i.op ≠ 21) (hf : sr FG i.op = some (.func (.func fn) #[] #[])) (hn : 1 < fn ∧ fn < 91)
   (hs : dn R pa p dr fn (x.next g) g i r L L2) : Step R pa p dr x g code r (xT i.op r) L L2
section
variable {R : Mem} {L L' L2 : List HP} {M : Mem} {K : Value → Mem → Prop} {Kp : List PanicEntry → Mem → Prop} {pa : PA} {p : cR} {gg : List GA} {dr : Value} {b : Nat} {x : Wd} {g : Int} {i : cn}
theorem FI {c bs j : Nat} {l : List cB} {f : cB} {G : Int → Prop} (h : Hp R L M) [q : bN (some ⟨bs, 0, none⟩) L cB gd 53 c l L'] (hi : l[j]? = some f) (g : G f.fn) : bG (M.ld ⟨bs, j * 11, none⟩) .i64 G := by
 refine bl (Src.at (h.src (A := some ⟨bs, 0, none⟩)) h (i := j) (j := 0) hi rfl ?_) g
 show _ = 0 + (j * 11 + 0); omega
theorem uw {n : Int} {v : Value} {Q : HP} (h : Hp R (aM (aO pa p gg dr) b x :: Q :: L) M) (k : ∀ M', Hp R (aM (aO pa p gg dr) b { x with end_ := 2, code := n } :: L) M' → K v M') :
  bH Try.prog 31 (.pointer (some ⟨b, 0, none⟩)) K Kp v (.panicking (Ei n)) M := by
 refine xF ?_
 have h' := bz h (b := b)
 clear h
 obtain ⟨a, hl, h⟩ := h'
 repeat (first|(refine aj h ?_;clear h;intro kb M h)|(refine ak h ?_;clear h;intro M h)|refine St.to h ?_|(apply Exists.intro;(repeat apply Exists.intro);refine And.intro rfl ?_)|refine aq ?_|refine af ?_|refine ai ?_)
 exact k _ (fG (a := a) (x := { x with end_ := 2, code := n }) hl (h.sub eX))
theorem qh {k : Nat} {bw : Nat} (h : Hp R L M) [o : lA k L [.int .i64 i.op, .int .i64 i.a, .int .i64 i.b, .int .i64 i.c] 31 L'] (g : K (.bool (i.op == 12 || i.op == 17)) M) :
  bG (M.ld ⟨k, 0, none⟩) .i64 fun n => aX (n == 12) (bH Try.prog 31 (.pointer (some ⟨bw, 0, none⟩)) K Kp (.bool true) .returning M)
   (bG (M.ld ⟨k, 0, none⟩) .i64 fun n => bH Try.prog 31 (.pointer (some ⟨bw, 0, none⟩)) K Kp (.bool (n == 17)) .returning M) := by
 have hp := h.pick o.pick
 refine aR hp ?_
 refine cL.2 ⟨fun e => ?_, fun e => ?_⟩
 ·rw [e] at g; exact vL g
 ·refine aR hp ?_
  have : (i.op == 12) = false := by simpa using e
  rw [this, Bool.false_or] at g
  exact vL g
def BS (R : Mem) (pa : PA) (p : cR) (dr : Value) (b : Nat) (L2 : List HP) (K : Value → Mem → Prop) (Kp : List PanicEntry → Mem → Prop) (r : Out Wd) (rest : Bool) : Prop := match r with
 | .e7 l y => ∀ gQ M', Hp R (aM (aO pa p gQ dr) b y :: L2) M' → bH Try.prog 31 (.pointer (some ⟨b, 0, none⟩)) K Kp (.bool false) (.panicking l) M'
 | .on y => ∀ gQ M', Hp R (aM (aO pa p gQ dr) b y :: L2) M' → K (.bool rest) M'
 | .cT n y => ∀ gQ M', Hp R (aM (aO pa p gQ dr) b { y with end_ := 2, code := n } :: L2) M' → K (.bool rest) M'
theorem wc {code : List cn} {r : Out Wd} {rest : Bool} (h : Hp R L M) [o : oO b L pa p gg dr x L'] (hp : lX R pa p) (hg : aI x g) (hfn : 0 ≤ (aa x g).top.fn) (fT : p.funcs[(aa x g).top.fn.toNat]? = some code)
  (su : 0 ≤ (aa x g).top.pc ∧ (aa x g).top.pc < 1000000000) (hs : Step R pa p dr x g code r rest L' L2)
  (k : BS R pa p dr b L2 K Kp r rest) : ae Try.prog 25 #[.pointer (some ⟨b, 0, none⟩), .int .i64 g] M K Kp := by
 refine nJ ?_
 have uu := hg
 obtain ⟨h0, h1, h2, h3⟩ := uu
 have h' := fH h (b := b) h0 h1
 clear h
 obtain ⟨a, gb, A, c, hl, dx, cS, h⟩ := h'
 have hl' := hl
 obtain ⟨l1, l2, l3, l4⟩ := hl'
 obtain ⟨bs, rfl⟩ := h.bO (A := A) h2 (by decide)
 have Ej : ∀ {M : Mem}, Hp R (pt gb (kI (aa x g) (some ⟨bs, 0, none⟩) c) 68 :: nM (some ⟨bs, 0, none⟩) c (aa x g).fs :: pt b (g7 pa p dr a x) 76 :: pB dk a.gb (x.gs.zip gg) g.toNat :: l8 a x L') M → Hp R (aM (aO pa p gg dr) b x :: L') M := by
  intro M h
  replace h := bI h gb hl dx cS
  have jA := bP (y := aa x g) (g := g) hl
  replace h := aD (a := a) (p := p) (pa := pa) (dr := dr) (gg := gg) (x := x.aJ g (aa x g)) jA h b
  rwa [sx h0 h1] at h
 repeat (first|(refine aj h ?_;clear h;intro kb M h)|(refine ak h ?_;clear h;intro M h)|refine St.to h ?_|(apply Exists.intro;(repeat apply Exists.intro);refine And.intro rfl ?_)|refine aq ?_|refine af ?_|refine ai ?_)
 refine oP h dx fun q hq => ?_
 repeat (first|(refine aj h ?_;clear h;intro kb M h)|(refine ak h ?_;clear h;intro M h)|refine St.to h ?_|(apply Exists.intro;(repeat apply Exists.intro);refine And.intro rfl ?_)|refine aq ?_|refine af ?_|refine ai ?_)
 refine iB h2 (by omega) ?_
 repeat (first|(refine aj h ?_;clear h;intro kb M h)|(refine ak h ?_;clear h;intro M h)|refine St.to h ?_|(apply Exists.intro;(repeat apply Exists.intro);refine And.intro rfl ?_)|refine aq ?_|refine af ?_|refine ai ?_)
 refine FI h (cF h2) ?_
 obtain ⟨ts, hts, Qs, hrow⟩ := hp.funcs
 have hfl := (List.getElem?_eq_some_iff.1 fT).1
 obtain ⟨t, ht⟩ := aP (l := ts) (i := (aa x g).top.fn.toNat) (by omega)
 obtain ⟨pI, Ek⟩ := hrow _ t code ht fT
 obtain ⟨tA, tn, tc⟩ := t
 dsimp only at pI Ek
 subst Ek
 refine ⟨hfn, by omega, ?_⟩
 obtain ⟨fb, fo, PK⟩ := hts.some (by omega) (by decide)
 rw [PK] at hts ⊢
 refine bh ?_
 refine E1 (Src.at (hts.src (L := _)) h (i := (aa x g).top.fn.toNat) (j := 0) ht rfl (by simp [Jn])) ?_
 dsimp only
 refine bh ?_
 refine rf h (cF h2) rfl ?_
 refine aG.2 ⟨fun hge => ?_, fun hlt => ?_⟩
 ·cases hs with
  | out _ =>
   have h5 : Hp R (aM (aO pa p gg dr) b x :: fact True :: L') M := (Hp.fF.2 ⟨trivial, Ej h⟩).swap
   exact uw h5 fun M' h' => k gg M' h'
  | pure i hi => have := (List.getElem?_eq_some_iff.1 hi).1; omega
  | uv i hi => have := (List.getElem?_eq_some_iff.1 hi).1; omega
  | FH i hi => have := (List.getElem?_eq_some_iff.1 hi).1; omega
  | dflt i fn hi => have := (List.getElem?_eq_some_iff.1 hi).1; omega
 refine bh ?_
 refine rf h (cF h2) rfl ?_
 refine ⟨su.1, by omega, ?_⟩
 obtain ⟨i, hi⟩ := aP (l := code) (i := (aa x g).top.pc.toNat) (by omega)
 obtain ⟨ib, io, rfl⟩ := pI.some (by omega) (by decide)
 refine bh ?_
 refine bl (Src.at (pI.src (L := _)) h (i := (aa x g).top.pc.toNat) (j := 0) hi rfl (by simp [zF])) ?_
 refine bl (Src.at (pI.src (L := _)) h (i := (aa x g).top.pc.toNat) (j := 1) hi rfl (by show _ = io + (_ * 4 + 1); omega)) ?_
 refine bl (Src.at (pI.src (L := _)) h (i := (aa x g).top.pc.toNat) (j := 2) hi rfl (by show _ = io + (_ * 4 + 2); omega)) ?_
 refine bl (Src.at (pI.src (L := _)) h (i := (aa x g).top.pc.toNat) (j := 3) hi rfl (by show _ = io + (_ * 4 + 3); omega)) ?_
 have hpure : i.eZ ∧ 0 ≤ i.op ∨ 8 < i.op := by
  cases hs with
  | out h => omega
  | pure j hj a1 a2 a3 => rw [hi] at hj; cases hj; exact .inl ⟨a3, a1⟩
  | uv j hj a1 => rw [hi] at hj; cases hj; exact .inr (by omega)
  | FH j hj a1 => rw [hi] at hj; cases hj; exact .inr (by omega)
  | dflt j fn hj a1 => rw [hi] at hj; cases hj; exact .inr a1
 have hok : i.eZ ∧ 0 ≤ i.op := by
  rcases hpure with h | h
  ·exact h
  ·exact ⟨⟨fun h => by simp at h; omega, fun h => by omega, fun h => by simp at h; omega⟩, by omega⟩
 refine aj h ?_
 clear h; intro ki M h
 refine ak h ?_
 clear h; intro M h
 refine ak h ?_
 clear h; intro M h
 refine ak h ?_
 clear h; intro M h
 refine ak h ?_
 clear h; intro M h
 refine aR h (aR h (aR h (aR h ?_)))
 refine xH h (cF h2) hok.1 hok.2 su ?_ ?_
 ·intro h8 M' h'
  clear h
  have h := h'
  clear h'
  refine j4 (af ?_)
  cases hs with
  | out h => omega
  | uv j hj a1 => rw [hi] at hj; cases hj; omega
  | FH j hj a1 => rw [hi] at hj; cases hj; omega
  | dflt j fn hj a1 => rw [hi] at hj; cases hj; omega
  | pure j hj a1 a2 a3 =>
   rw [hi] at hj; cases hj
   replace h := bI h gb hl dx cS (by simp)
   have jA := bP (y := (aa x g).bj ((aa x g).top.next.pure i)) (g := g) hl
   have h5 := aD (a := a) (p := p) (pa := pa) (dr := dr) (gg := gg) (x := x.aJ g ((aa x g).bj ((aa x g).top.next.pure i))) jA h b
   refine qh h5 ?_
   have e1 : (i.op == 12) = false := by simp; omega
   have e2 : (i.op == 17) = false := by simp; omega
   rw [e1, e2]
   exact k gg _ h5.bB
 ·intro h8 M' h'
  clear h
  have h := h'
  clear h'
  refine j4 (ai ?_)
  refine aR h ?_
  refine cL.2 ⟨fun yJ => ?_, fun yJ => ?_⟩
  ·refine aR h (aR h (aR h (aR h ?_)))
   cases hs with
   | out h => omega
   | pure j hj a1 a2 a3 => rw [hi] at hj; cases hj; omega
   | dflt j fn hj a1 a2 => rw [hi] at hj; cases hj; omega
   | FH j hj a1 => rw [hi] at hj; cases hj; omega
   | uv j hj a1 hop =>
    rw [hi] at hj; cases hj
    replace h := bI h gb hl dx cS
    have jA := bP (y := aa x g) (g := g) hl
    replace h := aD (a := a) (p := p) (pa := pa) (dr := dr) (gg := gg) (x := x.aJ g (aa x g)) jA h b
    rw [sx h0 h1] at h
    refine hop gg b bs c M' _ _ _ h cS ?_
    cases r with
    | on y =>
     intro gQ M2 h
     refine ⟨rfl, qh h ?_⟩
     have e1 : (i.op == 12) = false := by simp; omega
     have e2 : (i.op == 17) = false := by simp; omega
     rw [e1, e2]
     exact k gQ _ h.bB
    | cT n y =>
     intro gQ M2 h
     exact uw h fun M3 h3 => k gQ M3 h3
    | e7 l y =>
     intro gQ M2 h
     exact k gQ M2 h.bB
  ·refine aR h ?_
   refine cL.2 ⟨fun Gy => ?_, fun Gy => ?_⟩
   ·refine aR h (aR h (aR h (aR h ?_)))
    cases hs with
    | out h => omega
    | pure j hj a1 a2 a3 => rw [hi] at hj; cases hj; omega
    | uv j hj a1 => rw [hi] at hj; cases hj; omega
    | dflt j fn hj a1 a2 a3 => rw [hi] at hj; cases hj; omega
    | FH j hj a1 hop =>
     rw [hi] at hj; cases hj
     replace h := bI h gb hl dx cS
     have jA := bP (y := aa x g) (g := g) hl
     replace h := aD (a := a) (p := p) (pa := pa) (dr := dr) (gg := gg) (x := x.aJ g (aa x g)) jA h b
     rw [sx h0 h1] at h
     refine hop gg b bs c M' _ _ _ h cS ?_
     cases r with
     | on y =>
      intro gQ M2 h
      refine ⟨rfl, qh h ?_⟩
      have e1 : (i.op == 12) = false := by simp; omega
      have e2 : (i.op == 17) = false := by simp; omega
      rw [e1, e2]
      exact k gQ _ h.bB
     | cT n y =>
      intro gQ M2 h
      exact uw h fun M3 h3 => k gQ M3 h3
     | e7 l y =>
      intro gQ M2 h
      exact k gQ M2 h.bB
   cases hs with
   | out h => omega
   | pure j hj a1 a2 a3 => rw [hi] at hj; cases hj; omega
   | uv j hj a1 => rw [hi] at hj; cases hj; omega
   | FH j hj a1 => rw [hi] at hj; cases hj; omega
   | dflt j fn hj a1 a2 a3 hf hn hop =>
    rw [hi] at hj; cases hj
    refine bh ?_
    refine rf h (cF h2) rfl ?_
    refine bh ?_
    rw [gF su.1 (by omega)]
    refine rh h (cF h2) rfl ?_
    clear h; intro M h
    refine aR h (aR h (aR h (aR h (aR h ?_))))
    refine vZ h ?_
    clear h; intro mp M h
    refine ⟨iu (eO h) (iu (eO h) (iu (eO h) (iu (eO h) qc))), eO h, ?_⟩
    have hu : Try.prog.underlying 97 = some (.map 29 96) := by kernel_rfl
    have hkk : Try.prog.underlying 29 = some (.int .i64) := by kernel_rfl
    obtain ⟨ti, LU, LV⟩ : ∃ ti, Try.prog.info? 96 = some ti ∧ ti.zero = some .nilFunc := ⟨_, rfl, rfl⟩
    refine BM h hu hkk LU LV ?_
    rw [hf]
    refine ⟨iu (eO h) (iu (eO h) (iu (eO h) (iu (eO h) qc))), eO h, ?_⟩
    refine vQ hn ?_
    replace h := bI h gb hl dx cS (by simp)
    have jA := bP (y := (aa x g).bj (aa x g).top.next) (g := g) hl
    have h5 := aD (a := a) (p := p) (pa := pa) (dr := dr) (gg := gg) (x := x.next g) jA h b
    have h6 : Hp R (aM (aO pa p gg dr) b (x.next g) :: pt ki [.int .i64 i.op, .int .i64 i.a, .int .i64 i.b, .int .i64 i.c] 31 :: L') M := h5.sub eX
    clear h h5
    have hfl : (aa (x.next g) g).fs.length = (aa x g).fs.length := by
     unfold Wd.next; rw [cq h0 h1]; simp [eB.bj]
    have hc := hop gg b bs c M (fun Ik ue => (Ik = (.tuple #[])) ∧ ((Mem.gr ue ⟨ki, 0, none⟩ 0 4) = some [(.int .i64 i.op), (.int .i64 i.a), (.int .i64 i.b), (.int .i64 i.c)]) ∧ ((Mem.ld ue ⟨ki, 0, none⟩) = (some (.int .i64 i.op))) ∧
     bG (ue.ld ⟨ki, 0, none⟩) .i64 fun n => aX (n == 12) (bH Try.prog 31 (.pointer (some ⟨b, 0, none⟩)) K Kp (.bool true) .returning ue)
      (bG (ue.ld ⟨ki, 0, none⟩) .i64 fun n => bH Try.prog 31 (.pointer (some ⟨b, 0, none⟩)) K Kp (.bool (n == 17)) .returning ue))
     (fun l M => bH Try.prog 31 (.pointer (some ⟨b, 0, none⟩)) K Kp (.bool false) (.panicking l) M) _ h6 cS ?_
    ·rw [hfl] at hc
     exact hc
    cases r with
    | on y =>
     intro gQ M2 h
     exact ⟨rfl, iu (eO h) (iu (eO h) (iu (eO h) (iu (eO h) qc))), eO h, qh h (k gQ _ h.bB)⟩
    | cT n y =>
     intro gQ M2 h
     exact uw h fun M3 h3 => k gQ M3 h3
    | e7 l y =>
     intro gQ M2 h
     exact k gQ M2 h.bB
end
abbrev jg (pa : PA) (p : cR) (dr : Value) (a : WA) (x : Wd) (n : Nat) : List Value :=
 [.slice pa.f p.funcs.length pa.fc, .slice pa.c p.mA.length pa.cc, .int .i64 p.aH, .slice pa.k p.cases.length pa.kc, .slice a.ag a.gb.length a.cg, .int .u64 x.clock,
  .slice a.ac a.cb.length a.cc, .slice a.al a.lb.length a.cl, .slice a.ah x.hl.length a.ch, .int .u64 x.fO, .slice a.ao x.out.length a.co, .int .i64 x.end_, .int .i64 x.code, .slice a.ar n a.cr, dr]
abbrev mP (a : WA) (x : Wd) (L : List HP) : List HP :=
 pF a.ag a.cg a.gb :: pG a.ac a.cc a.cb :: bn aS a.cb x.au :: pH a.al a.cl a.lb :: bn c9 a.lb x.aH :: cJ a.ah a.ch x.hl :: oK a.ao a.co x.out :: L
def b9 (pa : PA) (p : cR) : qI Wd := ⟨fun b x => exs fun q : WA × List GA × Value × Nat =>
 sep (pt b (jg pa p q.2.2.1 q.1 x q.2.2.2) 76 :: bn dk q.1.gb (x.gs.zip q.2.1) :: fact (cU q.2.1 q.1 x) :: mP q.1 x [])⟩
section
variable {R : Mem} {L L' L2 : List HP} {M : Mem} {K : Value → Mem → Prop} {Kp : List PanicEntry → Mem → Prop} {pa : PA} {p : cR} {gg : List GA} {dr : Value} {b : Nat} {x : Wd} {g : Int}
class xU (b : Nat) (L : List HP) (pa : outParam PA) (p : outParam cR) (x : outParam Wd) (L' : outParam (List HP)) : Prop where
 pick : cu L (aM (b9 pa p) b x) L'
instance xU.here : xU b (aM (b9 pa p) b x :: L) pa p x L := ⟨.here⟩
instance (priority := low) xU.there {Q : HP} [h : xU b L pa p x L'] : xU b (Q :: L) pa p x (Q :: L') := ⟨.there h.pick⟩
theorem cM (h : Hp R L M) [o : xU b L pa p x L'] : ∃ (a : WA) (gg : List GA) (dr : Value) (n : Nat), cU gg a x ∧ Hp R (pt b (jg pa p dr a x n) 76 :: bn dk a.gb (x.gs.zip gg) :: mP a x L') M := by
 have := h.pick o.pick
 unfold aM at this
 simp only [b9, mP, Hp.iT, Hp.bC, List.cons_append, List.nil_append] at this
 obtain ⟨⟨a, gg, dr, n⟩, h⟩ := this
 have h2 := h.pick (P := fact (cU gg a x)) (.there (.there .here))
 exact ⟨a, gg, dr, n, (Hp.fF.1 h2).1, (Hp.fF.1 h2).2⟩
theorem gh {a : WA} {n : Nat} (hl : cU gg a x) (h : Hp R (pt b (jg pa p dr a x n) 76 :: bn dk a.gb (x.gs.zip gg) :: mP a x L) M) : Hp R (aM (b9 pa p) b x :: L) M := by
 refine Hp.Bg ?_
 simp only [b9, mP, Hp.iT, Hp.bC, List.cons_append, List.nil_append]
 refine ⟨(a, gg, dr, n), ?_⟩
 have h2 : Hp R (fact (cU gg a x) :: pt b (jg pa p dr a x n) 76 :: bn dk a.gb (x.gs.zip gg) :: mP a x L) M := Hp.fF.2 ⟨hl, h⟩
 exact h2.oD (.there (.there .here))
def jh (x : Wd) (g : Int) (rest : Bool) : Bool := !rest && x.end_ == 0 && (aa x g).st == 1
def IA (l l' : List PanicEntry) : Prop := ∀ (b : Nat) (v : Value) (M : Mem) (K : Value → Mem → Prop) (Kp : List PanicEntry → Mem → Prop), Kp l' M → bH Try.prog 31 (.pointer (some ⟨b, 0, none⟩)) K Kp v (.panicking l) M
def lj (R : Mem) (pa : PA) (p : cR) (b : Nat) (g : Int) (L2 : List HP) (K : Value → Mem → Prop) (Kp : List PanicEntry → Mem → Prop) (r : Out Wd) (rest : Bool) : Prop := match r with
 | .e7 l y => ∃ l', IA l l' ∧ ∀ M', Hp R (aM (b9 pa p) b y :: L2) M' → Kp l' M'
 | .on y => ∀ R' A c M', R.le R' → RS cI R' A c y.ready → Hp R' (aM (b9 pa p) b y :: L2) M' → K (.agg #[.bool (jh y g rest), .slice A y.ready.length c]) M'
 | .cT n y => ∀ R' A c M', R.le R' → RS cI R' A c y.ready → Hp R' (aM (b9 pa p) b { y with end_ := 2, code := n } :: L2) M' → K (.agg #[.bool (jh { y with end_ := 2, code := n } g rest), .slice A y.ready.length c]) M'
theorem BS.of {r : Out Wd} {rest : Bool} (hd : ¬ ∃ l y, r = .e7 l y) (k : ∀ gQ M', Hp R (aM (aO pa p gQ dr) b r.fin :: L2) M' → K (.bool rest) M') : BS R pa p dr b L2 K Kp r rest := by
 cases r with
 | on y => exact k
 | cT n y => exact k
 | e7 l y => exact absurd ⟨l, y, rfl⟩ hd
theorem lj.get {r : Out Wd} {rest : Bool} (hd : ¬ ∃ l y, r = .e7 l y) (k : lj R pa p b g L2 K Kp r rest) :
  ∀ R' A c M', R.le R' → RS cI R' A c r.fin.ready → Hp R' (aM (b9 pa p) b r.fin :: L2) M' → K (.agg #[.bool (jh r.fin g rest), .slice A r.fin.ready.length c]) M' := by
 cases r with
 | on y => exact k
 | cT n y => exact k
 | e7 l y => exact absurd ⟨l, y, rfl⟩ hd
theorem xV {code : List cn} {r : Out Wd} {rest : Bool} (h : Hp R L M) [o : xU b L pa p x L'] (hp : lX R pa p) (hg : aI x g) (he : x.end_ = 0) (hst : (aa x g).st = 1)
  (hfn : 0 ≤ (aa x g).top.fn) (fT : p.funcs[(aa x g).top.fn.toNat]? = some code)
  (su : 0 ≤ (aa x g).top.pc ∧ (aa x g).top.pc < 1000000000) (uO : ∃ f c d, dr = .func f c d) (hs : ∀ Q, Step R pa p dr { x with ready := [] } g code r rest (Q :: L') (Q :: L2)) (hlen : g < r.fin.gs.length)
  (k : lj R pa p b g L2 K Kp r rest) :
  ae Try.prog 9 #[.pointer (some ⟨b, 0, none⟩), .int .i64 g, dr] M K Kp := by
 refine fS ?_
 have uu := hg
 obtain ⟨h0, h1, h2, h3⟩ := uu
 refine aj h ?_
 clear h
 intro kb M h
 have h' := cM h (b := b)
 clear h
 obtain ⟨a, gg, PL, n0, hl, h⟩ := h'
 have hl' := hl
 obtain ⟨l1, l2, l3, l4⟩ := hl'
 refine aG.2 ⟨fun hn => by omega, fun _ => ?_⟩
 refine bQ h ?_
 refine aG.2 ⟨fun hn => by omega, fun _ => ?_⟩
 refine aR h ?_
 refine fA.2 ⟨fun hn => absurd he hn, fun _ => ?_⟩
 refine bQ h ?_
 refine ⟨h0, by omega, ?_⟩
 obtain ⟨gb, dx⟩ := aP (l := a.gb) (i := g.toNat) (by omega)
 refine oP h dx fun q hq => ?_
 obtain ⟨ga, FJ⟩ := aP (l := gg) (i := g.toNat) (by omega)
 obtain ⟨y, hy⟩ := aP (l := x.gs) (i := g.toNat) (by omega)
 have ey : aa x g = y := by simp [aa, hy]
 rw [ey] at hst
 refine bh ?_
 have Em : M.ld ⟨gb, 0, none⟩ = some (.int .i64 y.st) := by
  have h9 := kJ (b := gb) (h.cZ dk dx (lf hy FJ))
  exact eO h9
 rw [Em]
 refine gN ?_
 refine fA.2 ⟨fun hn => absurd hst hn, fun _ => ?_⟩
 refine ak h ?_
 clear h Em; intro M h
 have LZ : ∀ X : Prop, X → sB dr X := by
  obtain ⟨f, c, d, rfl⟩ := uO
  intro X hX; exact hX
 refine LZ _ ?_
 refine ak h ?_
 clear h; intro M h
 have h4 := h.cE cI 3
 have h5 : Hp R (aM (aO pa p gg dr) b { x with ready := [] } :: pt kb [.bool false, .slice none 0 0] 39 :: L') M := fG (a := { a with ar := none, cr := 0 }) (x := { x with ready := [] }) hl (h4.sub eX)
 clear h h4
 by_cases FK : ∃ l y, r = .e7 l y
 ·obtain ⟨l, y, rfl⟩ := FK
  refine wc (b := b) (x := { x with ready := [] }) h5 hp hg hfn fT su (hs _) ?_
  clear h5
  intro gQ M h
  obtain ⟨l', Ma, k⟩ := k
  refine Ma _ _ _ _ _ (k _ ?_)
  have h' := bz h (b := b)
  clear h
  obtain ⟨a2, jA, h⟩ := h'
  exact gh (a := a2) (n := y.ready.length) (gg := gQ) (dr := dr) jA (h.sub eX)
 refine wc (b := b) (x := { x with ready := [] }) h5 hp hg hfn fT su (hs _) (.of FK ?_)
 clear h5
 intro gQ M h
 replace k := lj.get FK k
 generalize r.fin = z at h k hlen
 have h' := bz h (b := b)
 clear h
 obtain ⟨a2, jA, h⟩ := h'
 have FF := jA
 obtain ⟨m1, m2, m3, m4⟩ := FF
 have fin : ∀ t : Bool, t = jh z g rest → bW M ⟨kb, 0, none⟩ (.bool t) fun Db =>
    bW Db ⟨kb, (0 + 1), none⟩ (.slice a2.ar z.ready.length a2.cr) fun Af =>
    dz (Mem.ld Af ⟨kb, 0, none⟩) fun t60 =>
    aE (Mem.ld Af ⟨kb, (0 + 1), none⟩) fun Ih Ii Ij =>
    K (.agg #[(.bool t60), (.slice Ih Ii Ij)]) Af := by
  intro t ht
  refine ak h ?_
  clear h; intro M h
  refine ak h ?_
  clear h; intro M h
  refine vv h (bQ h ?_)
  obtain ⟨R', hle, Mb, h6⟩ := h.iX a2.ar
  subst ht
  exact k R' _ _ _ hle Mb (gh (a := a2) (n := z.ready.length) (gg := gQ) (dr := dr) jA (h6.sub eX))
 refine j4 ?_
 cases rest with
 | true =>
  refine ai ?_
  refine bQ h ?_
  exact fin false (by simp [jh])
 | false =>
  refine af ?_
  refine aR h ?_
  refine cL.2 ⟨fun e0 => ?_, fun e0 => ?_⟩
  ·refine bQ h ?_
   refine ⟨h0, by omega, ?_⟩
   obtain ⟨Nl, IB⟩ := aP (l := a2.gb) (i := g.toNat) (by omega)
   refine oP h IB fun q2 yH => ?_
   obtain ⟨Qt, Mc⟩ := aP (l := gQ) (i := g.toNat) (by omega)
   obtain ⟨y2, Nm⟩ := aP (l := z.gs) (i := g.toNat) (by omega)
   have PM : aa z g = y2 := by simp [aa, Nm]
   refine bh ?_
   have Em : M.ld ⟨Nl, 0, none⟩ = some (.int .i64 y2.st) := by
    have h9 := kJ (b := Nl) (h.cZ dk IB (lf Nm Mc))
    exact eO h9
   rw [Em]
   refine gN ?_
   refine bQ h ?_
   exact fin (y2.st == 1) (by simp [jh, e0, PM])
  ·refine bQ h ?_
   have : (z.end_ == 0) = false := by simpa using e0
   exact fin false (by simp [jh, this])
end
section
variable {R : Mem} {L L' L2 : List HP} {M : Mem} {K : Value → Mem → Prop} {Kp : List PanicEntry → Mem → Prop} {pa : PA} {p : cR} {gg : List GA} {dr : Value} {b : Nat} {x : Wd} {g : Int}
theorem zL (h : Hp R L M) [o : xU b L pa p x L'] (k : K (.tuple #[.int .i64 x.end_, .int .i64 x.code]) M) : ae Try.prog 16 #[.pointer (some ⟨b, 0, none⟩)] M K Kp := by
 refine mC ?_
 have h' := cM h (b := b)
 clear h
 obtain ⟨a, gg, dr, n, hl, h⟩ := h'
 refine aR h (aR h ?_)
 exact k
theorem ux (h : Hp R L M) [o : xU b L pa p x L'] (h0 : 0 ≤ g) (h1 : g < x.gs.length) (k : K (.int .i64 (aa x g).st) M) : ae Try.prog 13 #[.pointer (some ⟨b, 0, none⟩), .int .i64 g] M K Kp := by
 refine jB ?_
 have h' := cM h (b := b)
 clear h
 obtain ⟨a, gg, dr, n, hl, h⟩ := h'
 have hl' := hl
 obtain ⟨l1, l2, l3, l4⟩ := hl'
 refine aG.2 ⟨fun hn => by omega, fun _ => ?_⟩
 refine bQ h ?_
 refine aG.2 ⟨fun hn => by omega, fun _ => ?_⟩
 refine bQ h ?_
 refine ⟨h0, by omega, ?_⟩
 obtain ⟨gb, dx⟩ := aP (l := a.gb) (i := g.toNat) (by omega)
 refine oP h dx fun q hq => ?_
 obtain ⟨ga, FJ⟩ := aP (l := gg) (i := g.toNat) (by omega)
 obtain ⟨y, hy⟩ := aP (l := x.gs) (i := g.toNat) (by omega)
 have ey : aa x g = y := by simp [aa, hy]
 rw [ey] at k
 refine bh ?_
 have Em : M.ld ⟨gb, 0, none⟩ = some (.int .i64 y.st) := by
  have h9 := kJ (b := gb) (h.cZ dk dx (lf hy FJ))
  exact eO h9
 rw [Em]
 exact gN k
theorem tC (h : Hp R L M) [o : xU b L pa p x L'] (hs : x.out.length ≤ 1000000) (k : ∀ A c M', Hp R (oK A c x.out :: L) M' → K (.slice A x.out.length c) M') : ae Try.prog 19 #[.pointer (some ⟨b, 0, none⟩)] M K Kp := by
 refine mD ?_
 refine aj h ?_
 clear h; intro kb M h
 have hC := h
 have h' := cM h (b := b)
 clear h
 obtain ⟨a, gg, dr, n, hl, h⟩ := h'
 refine bQ h ?_
 have hsrc : Sl M a.ao (cI.cells x.out) := (h.src (A := a.ao)) M h
 clear h
 have Jo : Hp R (dm cI 2 (some ⟨kb, 0, none⟩) ([] : List Int).length [] :: L) M := hC.j6 rfl
 refine Hp.xG Jo (l := []) qR hsrc rfl (by simp; omega) ?_
 clear hC Jo hsrc
 intro A' c' M h
 exact bu (k _ _ _ h)
end
def Wd.new (p : cR) : Wd := ⟨[⟨1, [cB.begin 0 0], .zero⟩], 0, p.mA.map aC.new, List.replicate p.aH.toNat ⟨-1, []⟩, [], 0, [], 0, 0, []⟩
theorem En : bt Try.prog 71 77 1 8 [.pointer none] := bt.mk' (zv := .pointer none) (by kernel_rfl) (by kernel_rfl) rfl (by omega)
theorem Eo : bt Try.prog 72 79 1 8 [.pointer none] := bt.mk' (zv := .pointer none) (by kernel_rfl) (by kernel_rfl) rfl (by omega)
section
variable {R : Mem} {L L' L2 : List HP} {M : Mem} {K : Value → Mem → Prop} {Kp : List PanicEntry → Mem → Prop} {pa : PA} {p : cR} {gg : List GA} {dr : Value} {b : Nat} {x : Wd} {g : Int}
theorem BT {j : Nat} {q A' : Nat} {c' : Nat} {v : Int} {a : WA} {n k : Nat} {Ac : Option Addr} {Q : List HP} (hl : cU gg a x)
  (h : Hp R (pt b (jg pa p dr { a with ac := Ac, cc := c', cb := a.cb ++ [k] } x n) 76 :: pG Ac c' (a.cb ++ [k]) :: aM aS k (aC.new v) :: bn aS a.cb x.au :: bn dk a.gb (x.gs.zip gg) :: pF a.ag a.cg a.gb :: pH a.al a.cl a.lb :: bn c9 a.lb x.aH :: cJ a.ah a.ch x.hl :: oK a.ao a.co x.out :: Q) M) :
  Hp R (aM (b9 pa p) b { x with au := x.au ++ [aC.new v] } :: Q) M := by
 obtain ⟨l1, l2, l3, l4⟩ := hl
 have h2 := h.kY aS k l3
 exact gh (a := { a with ac := Ac, cc := c', cb := a.cb ++ [k] }) (gg := gg) (dr := dr) (n := n) (x := { x with au := x.au ++ [aC.new v] }) ⟨l1, l2, by simp [l3], l4⟩ (h2.sub eX)
theorem BU {c' : Nat} {a : WA} {n k : Nat} {Ac : Option Addr} {Q : List HP} (hl : cU gg a x)
  (h : Hp R (pt b (jg pa p dr { a with al := Ac, cl := c', lb := a.lb ++ [k] } x n) 76 :: pH Ac c' (a.lb ++ [k]) :: aM c9 k ⟨-1, []⟩ :: bn c9 a.lb x.aH :: bn dk a.gb (x.gs.zip gg) :: pF a.ag a.cg a.gb :: pG a.ac a.cc a.cb :: bn aS a.cb x.au :: cJ a.ah a.ch x.hl :: oK a.ao a.co x.out :: Q) M) :
  Hp R (aM (b9 pa p) b { x with aH := x.aH ++ [⟨-1, []⟩] } :: Q) M := by
 obtain ⟨l1, l2, l3, l4⟩ := hl
 have h2 := h.kY c9 k l4
 exact gh (a := { a with al := Ac, cl := c', lb := a.lb ++ [k] }) (gg := gg) (dr := dr) (n := n) (x := { x with aH := x.aH ++ [⟨-1, []⟩] }) ⟨l1, l2, l3, by simp [l4]⟩ (h2.sub eX)
theorem tD (h : Hp R L M) (tr : RS cI R pa.c pa.cc p.mA) (hc : p.mA.length ≤ 1000000) (hk : 0 ≤ p.aH ∧ p.aH ≤ 1000000)
  (k : ∀ b M', Hp R (aM (b9 pa p) b (Wd.new p) :: L) M' → K (.pointer (some ⟨b, 0, none⟩)) M') :
  ae Try.prog 7 #[.agg #[.slice pa.f p.funcs.length pa.fc, .slice pa.c p.mA.length pa.cc, .int .i64 p.aH, .slice pa.k p.cases.length pa.kc]] M K Kp := by
 refine um ?_
 repeat (first|(refine aj h ?_;clear h;intro kb M h)|(refine ak h ?_;clear h;intro M h)|refine St.to h ?_|(apply Exists.intro;(repeat apply Exists.intro);refine And.intro rfl ?_)|refine aq ?_|refine af ?_|refine ai ?_)
 refine kH h ?_
 clear h
 intro bs M h
 repeat (first|(refine aj h ?_;clear h;intro kb M h)|(refine ak h ?_;clear h;intro M h)|refine St.to h ?_|(apply Exists.intro;(repeat apply Exists.intro);refine And.intro rfl ?_)|refine aq ?_|refine af ?_|refine ai ?_)
 rename_i kp _ _ kr _ kw _
 replace h := iC h kr
 replace h := (h.qS dk).kY dk kr rfl
 replace h := (h.pt kw).j6 (E := gZ) (l := [kr]) rfl
 replace h := (h.cE gZ 77).qS aS
 replace h := (h.cE gZ 79).qS c9
 replace h := (h.cE kq 86).cE cI 2
 have base : Hp R (aM (b9 pa p) kb { Wd.new p with au := (p.mA.take 0).map aC.new, aH := [] } :: pt kp [.slice pa.f p.funcs.length pa.fc, .slice pa.c p.mA.length pa.cc, .int .i64 p.aH, .slice pa.k p.cases.length pa.kc] 28 :: L) _ :=
  gh (a := ⟨some ⟨kw, 0, none⟩, 1, [kr], none, 0, [], none, 0, [], none, 0, none, 0, none, 0⟩) (gg := [(some ⟨bs, 0, none⟩, 1)]) (dr := .nilFunc) (n := 0) (x := { Wd.new p with au := [], aH := [] }) ⟨rfl, rfl, rfl, rfl⟩ (h.sub eX)
 clear h
 refine ⟨fun d vs M => ∃ j : Nat, vs = [.int .i64 (j : Int)] ∧ d = p.mA.length - j ∧ j ≤ p.mA.length ∧ Hp R (aM (b9 pa p) kb { Wd.new p with au := (p.mA.take j).map aC.new, aH := [] } :: pt kp [.slice pa.f p.funcs.length pa.fc, .slice pa.c p.mA.length pa.cc, .int .i64 p.aH, .slice pa.k p.cases.length pa.kc] 28 :: L) M,
  ⟨_, 0, rfl, rfl, by omega, base⟩, ?_⟩
 clear base
 rintro d _ nn M ⟨j, he, hd, hj, h⟩
 simp only [List.cons.injEq, Value.int.injEq, and_true, true_and] at he
 subst he
 refine aG.2 ⟨fun hlt => ?_, fun hge => ?_⟩
 ·obtain ⟨v, hv⟩ := aP (l := p.mA) (i := j) (by omega)
  have Ix : (p.mA.take (j + 1)).map aC.new = (p.mA.take j).map aC.new ++ [aC.new v] := by rw [gm hv, List.map_append]; rfl
  have Gl : ((p.mA.take j).map aC.new).length ≤ 1000000 := by simp; omega
  rw [bk (by omega)]
  refine ⟨by omega, hlt, ?_⟩
  obtain ⟨cb, co, hcb⟩ := tr.some (by omega) (by decide)
  have IC := tr
  rw [hcb] at IC ⊢
  refine bh ?_
  simp only [Int.toNat_natCast]
  refine bl (Src.at (IC.src (L := _)) h (i := j) (j := 0) hv rfl (by simp [cI])) ?_
  refine ⟨fun _ M => Hp R (aM (b9 pa p) kb { Wd.new p with au := (p.mA.take j).map aC.new ++ [aC.new v], aH := [] } :: pt kp [.slice pa.f p.funcs.length pa.fc, .slice pa.c p.mA.length pa.cc, .int .i64 p.aH, .slice pa.k p.cases.length pa.kc] 28 :: L) M, ⟨?_, ?_, trivial⟩, ?_⟩
  ·have h' := cM h (b := kb)
   clear h
   obtain ⟨a, gg, dr, n, hl, h⟩ := h'
   have ID : a.cb.length = ((p.mA.take j).map aC.new).length := hl.2.2.1
   refine bQ h ?_
   refine tf h ?_
   clear h
   intro kc M h
   repeat (first|(refine aj h ?_;clear h;intro kb M h)|(refine ak h ?_;clear h;intro M h)|refine St.to h ?_|(apply Exists.intro;(repeat apply Exists.intro);refine And.intro rfl ?_)|refine aq ?_|refine af ?_|refine ai ?_)
   refine h.be En [kc] rfl rfl (by simp only [List.length_singleton]; omega) ?_
   clear h
   intro A' c' M h
   repeat (first|(refine aj h ?_;clear h;intro kb M h)|(refine ak h ?_;clear h;intro M h)|refine St.to h ?_|(apply Exists.intro;(repeat apply Exists.intro);refine And.intro rfl ?_)|refine aq ?_|refine af ?_|refine ai ?_)
   exact BT (j := j) (q := j) (A' := j) (a := a) (x := { Wd.new p with au := (p.mA.take j).map aC.new, aH := [] }) hl (h.sub eX)
  ·have h' := cM h (b := kb)
   clear h
   obtain ⟨a, gg, dr, n, hl, h⟩ := h'
   have ID : a.cb.length = ((p.mA.take j).map aC.new).length := hl.2.2.1
   refine tf h ?_
   clear h
   intro kc M h
   repeat (first|(refine aj h ?_;clear h;intro kb M h)|(refine ak h ?_;clear h;intro M h)|refine St.to h ?_|(apply Exists.intro;(repeat apply Exists.intro);refine And.intro rfl ?_)|refine aq ?_|refine af ?_|refine ai ?_)
   refine h.be En [kc] rfl rfl (by simp only [List.length_singleton]; omega) ?_
   clear h
   intro A' c' M h
   repeat (first|(refine aj h ?_;clear h;intro kb M h)|(refine ak h ?_;clear h;intro M h)|refine St.to h ?_|(apply Exists.intro;(repeat apply Exists.intro);refine And.intro rfl ?_)|refine aq ?_|refine af ?_|refine ai ?_)
   exact BT (j := j) (q := j) (A' := j) (a := a) (x := { Wd.new p with au := (p.mA.take j).map aC.new, aH := [] }) hl (h.sub eX)
  ·clear h
   intro _ M h
   refine ⟨p.mA.length - (j + 1), by omega, j + 1, rfl, rfl, by omega, ?_⟩
   rw [Ix, ← hcb]; exact h
 ·obtain rfl : j = p.mA.length := by omega
  rw [List.take_length] at h
  refine aR h ?_
  obtain ⟨nl, Md⟩ := Int.eq_ofNat_of_zero_le hk.1
  refine ⟨fun d vs M => ∃ j : Nat, vs = [.int .i64 (j : Int)] ∧ d = nl - j ∧ j ≤ nl ∧ Hp R (aM (b9 pa p) kb { Wd.new p with aH := List.replicate j ⟨-1, []⟩ } :: pt kp [.slice pa.f p.funcs.length pa.fc, .slice pa.c p.mA.length pa.cc, .int .i64 p.aH, .slice pa.k p.cases.length pa.kc] 28 :: L) M,
   ⟨_, 0, rfl, rfl, by omega, h⟩, ?_⟩
  clear h
  rintro d _ nn M ⟨j, he, hd, hj, h⟩
  simp only [List.cons.injEq, Value.int.injEq, and_true, true_and] at he
  subst he
  refine aG.2 ⟨fun hlt => ?_, fun hge => ?_⟩
  ·have Ix : List.replicate (j + 1) (⟨-1, []⟩ : Lk) = List.replicate j ⟨-1, []⟩ ++ [⟨-1, []⟩] := List.replicate_succ'
   rw [bk (by omega)]
   refine ⟨fun _ M => Hp R (aM (b9 pa p) kb { Wd.new p with aH := List.replicate j ⟨-1, []⟩ ++ [⟨-1, []⟩] } :: pt kp [.slice pa.f p.funcs.length pa.fc, .slice pa.c p.mA.length pa.cc, .int .i64 p.aH, .slice pa.k p.cases.length pa.kc] 28 :: L) M, ⟨?_, ?_, trivial⟩, ?_⟩
   ·have h' := cM h (b := kb)
    clear h
    obtain ⟨a, gg, dr, n, hl, h⟩ := h'
    have ID : a.lb.length = (List.replicate j (⟨-1, []⟩ : Lk)).length := hl.2.2.2
    rw [List.length_replicate] at ID
    refine bQ h ?_
    refine tv h ?_
    clear h
    intro kc M h
    repeat (first|(refine aj h ?_;clear h;intro kb M h)|(refine ak h ?_;clear h;intro M h)|refine St.to h ?_|(apply Exists.intro;(repeat apply Exists.intro);refine And.intro rfl ?_)|refine aq ?_|refine af ?_|refine ai ?_)
    refine h.be Eo [kc] rfl rfl (by simp only [List.length_singleton]; omega) ?_
    clear h
    intro A' c' M h
    repeat (first|(refine aj h ?_;clear h;intro kb M h)|(refine ak h ?_;clear h;intro M h)|refine St.to h ?_|(apply Exists.intro;(repeat apply Exists.intro);refine And.intro rfl ?_)|refine aq ?_|refine af ?_|refine ai ?_)
    exact BU (a := a) (x := { Wd.new p with aH := List.replicate j ⟨-1, []⟩ }) hl (h.sub eX)
   ·have h' := cM h (b := kb)
    clear h
    obtain ⟨a, gg, dr, n, hl, h⟩ := h'
    have ID : a.lb.length = (List.replicate j (⟨-1, []⟩ : Lk)).length := hl.2.2.2
    rw [List.length_replicate] at ID
    refine tv h ?_
    clear h
    intro kc M h
    repeat (first|(refine aj h ?_;clear h;intro kb M h)|(refine ak h ?_;clear h;intro M h)|refine St.to h ?_|(apply Exists.intro;(repeat apply Exists.intro);refine And.intro rfl ?_)|refine aq ?_|refine af ?_|refine ai ?_)
    refine h.be Eo [kc] rfl rfl (by simp only [List.length_singleton]; omega) ?_
    clear h
    intro A' c' M h
    repeat (first|(refine aj h ?_;clear h;intro kb M h)|(refine ak h ?_;clear h;intro M h)|refine St.to h ?_|(apply Exists.intro;(repeat apply Exists.intro);refine And.intro rfl ?_)|refine aq ?_|refine af ?_|refine ai ?_)
    exact BU (a := a) (x := { Wd.new p with aH := List.replicate j ⟨-1, []⟩ }) hl (h.sub eX)
   ·clear h
    intro _ M h
    refine ⟨nl - (j + 1), by omega, j + 1, rfl, rfl, by omega, ?_⟩
    rw [Ix]; exact h
  ·obtain rfl : j = nl := by omega
   have e : Wd.new p = { Wd.new p with aH := List.replicate j ⟨-1, []⟩ } := by unfold Wd.new; rw [Md]; rfl
   rw [← e] at h
   exact k _ _ h.bB
end
def av (p : cR) (i : cn) : List kZ := (p.cases.drop i.a.toNat).take i.b.toNat
def nT (f : cB) : List Int := [f.r.getD 0 0, f.r.getD 1 0, f.r.getD 2 0, f.r.getD 3 0, f.r.getD 4 0, f.r.getD 5 0, f.r.getD 6 0, f.r.getD 7 0]
inductive fU where
 | num (d : Int)
 | e7 (l : List PanicEntry)
def fI (R : Mem) (dr : Value) (kind n : Int) (d : fU) (L L2 : List HP) : Prop := ∀ (Q : HP) (M : Mem) (K : Value → Mem → Prop) (Kp : List PanicEntry → Mem → Prop), Hp R (Q :: L) M →
 (match d with
  | .num v => ∀ M', Hp R (Q :: L2) M' → K (.int .i64 v) M'
  | .e7 l => ∀ M', Hp R (Q :: L2) M' → Kp l M') → lY Cx dr [.int .i64 kind, .int .i64 n] M K Kp
def Wd.nU (p : cR) (x : Wd) (g : Int) (i : cn) (k : Int) : Out Wd :=
 let c := (av p i).getD k.toNat ⟨0, 0, 0⟩
 let x1 := x.next g
 if c.way = 1 then match x1.put p c.ch (aF x1 g c.bL) with
  | .cT n y => .cT n y
  | .e7 l y => .e7 l y
  | .on (y, _) => .on (y.aN g i.c k)
 else .on (((x1.get c.ch).1.aN g c.bL (x1.get c.ch).2.1).aN g i.c k)
def Wd.mQ (p : cR) (x : Wd) (g : Int) (i : cn) : Wd :=
 let x1 := x.next g
 match els (av p i) with
  | some k => x1.aN g i.c (k : Int)
  | none => Wd.block { x1 with au := cz g (nT (aa x1 g).top) (av p i) x1.au (av p i).length } g i
def Wd.choose (p : cR) (x : Wd) (g : Int) (i : cn) (d : fU) : Out Wd :=
 if enabled (av p i) x.au = [] then .on (x.mQ p g i)
 else match d with
  | .num v => x.nU p g i ((enabled (av p i) x.au).getD v.toNat 0)
  | .e7 l => .e7 l x
section
variable {R : Mem} {L L' L2 : List HP} {M : Mem} {K : Value → Mem → Prop} {Kp : List PanicEntry → Mem → Prop} {pa : PA} {p : cR} {gg : List GA} {dr : Value} {b : Nat} {x : Wd} {g : Int} {i : cn}
def nV (p : cR) (i : cn) : Prop := 0 ≤ i.a ∧ 0 ≤ i.b ∧ i.a + i.b ≤ p.cases.length ∧ p.cases.length ≤ 1000
instance (p : cR) (i : cn) : Decidable (nV p i) := by unfold nV; infer_instance
theorem we (h : Hp R L M) [o : oO b L pa p gg dr x L'] (hp : lX R pa p) (hk : nV p i)
  (k : ∀ A c M', RS qW R A c (av p i) → Hp R (aM (aO pa p gg dr) b x :: L') M' → K (.slice A (av p i).length c) M') :
  ae Try.prog 38 #[.pointer (some ⟨b, 0, none⟩), .agg #[.int .i64 i.op, .int .i64 i.a, .int .i64 i.b, .int .i64 i.c]] M K Kp := by
 refine kz ?_
 obtain ⟨a0, b0, hab, hl⟩ := hk
 have hcap := hp.cases.2
 refine aj h ?_
 clear h; intro kb M h
 have hC := h.drop.pick o.pick
 have h' := bz h (b := b)
 clear h
 obtain ⟨a, jA, h⟩ := h'
 refine bQ h (aR h (aR h (aR h ?_)))
 rw [cG (by omega) (by omega)]
 refine ⟨by omega, by omega, by omega, by omega, by omega, by omega, ?_⟩
 have e : (av p i).length = (i.a + i.b).toNat - i.a.toNat := by
  unfold av
  rw [List.length_take, List.length_drop]; omega
 rw [← e]
 simp only [Int.toNat_natCast]
 exact k _ _ _ ((hp.cases.drop i.a.toNat (by omega)).take i.b.toNat) hC
theorem BV {bs j : Nat} {l : List cB} {f : cB} (hs : Src R L (some ⟨bs, 0, none⟩) (gd.cells l)) (hi : l[j]? = some f) : Src R L (mW (some ⟨bs, j * 11 + 2, none⟩) 0 8 1) (cI.cells (nT f)) := by
 intro M h
 have e : mW (some ⟨bs, j * 11 + 2, none⟩) 0 8 1 = some ⟨bs, j * 11 + 2, none⟩ := by
  unfold mW; rw [if_neg (by omega)]; rfl
 rw [e]
 intro q hq
 have Nh : q < 8 := by simpa [cI, gY.cells, nT] using hq
 have e2 : j * 11 + 2 + q = 0 + (j * gd.z + (2 + q)) := by show _ = 0 + (j * 11 + (2 + q)); omega
 obtain rfl | rfl | rfl | rfl | rfl | rfl | rfl | rfl : q = 0 ∨ q = 1 ∨ q = 2 ∨ q = 3 ∨ q = 4 ∨ q = 5 ∨ q = 6 ∨ q = 7 := by omega
 all_goals exact Src.at hs h (i := j) hi rfl e2
theorem xX {bs c oo : Nat} {v : Int} {G : Mem → Prop} (h : Hp R L M) [o : oO b L pa p gg dr x L'] (hg : aI x g) (cS : gg[g.toNat]? = some (some ⟨bs, 0, none⟩, c)) (e : oo = ((aa x g).fs.length - 1) * 11 + 1) (hv : v = (aa x g).top.pc + 1)
  (k : ∀ M', Hp R (aM (aO pa p gg dr) b (x.next g) :: L') M' → G M') : bW M ⟨bs, oo, none⟩ (.int .i64 v) G := by
 subst hv
 obtain ⟨h0, h1, h2, h3⟩ := hg
 obtain ⟨a, gb, hl, dx, h4⟩ := dP h (b := b) h0 h1 cS
 refine rh h4 (cF h2) e fun M' h5 => ?_
 replace h5 := bI h5 gb hl dx cS (by simp)
 exact k M' (aD (a := a) (p := p) (pa := pa) (dr := dr) (gg := gg) (x := x.next g) (bP hl) h5 b)
theorem xY {bs c oo : Nat} {G : Int → Prop} (h : Hp R L M) [o : oO b L pa p gg dr x L'] (hg : aI x g) (cS : gg[g.toNat]? = some (some ⟨bs, 0, none⟩, c)) (e : oo = ((aa x g).fs.length - 1) * 11 + 1)
  (k : G (aa x g).top.pc) : bG (M.ld ⟨bs, oo, none⟩) .i64 G := by
 obtain ⟨h0, h1, h2, h3⟩ := hg
 obtain ⟨a, gb, hl, dx, h4⟩ := dP h (b := b) h0 h1 cS
 exact rf h4 (cF h2) e k
theorem rm (hg : aI x g) : aa (x.next g) g = (aa x g).bj (aa x g).top.next := cq hg.1 hg.2.1
theorem mR (hg : aI x g) : aI (x.next g) g := by
 have e := rm hg
 obtain ⟨h0, h1, h2, h3⟩ := hg
 refine ⟨h0, by simpa [Wd.next, Wd.aJ] using h1, ?_, ?_⟩ <;> rw [e] <;> simpa [eB.bj]
theorem uy (hg : aI x g) : (aa (x.next g) g).fs.length = (aa x g).fs.length := by rw [rm hg]; simp [eB.bj]
theorem zM {q v : Int} (hg : aI x g) : (aa (x.aN g q v) g).fs.length = (aa x g).fs.length := by rw [e8 hg]; simp [eB.bj]
theorem Dr (hs : x.Sm) : (x.next g).Sm := yI hs
def wg (p : cR) (x : Wd) (g : Int) (i : cn) (d : fU) : Prop := aI x g ∧ nV p i ∧ aQ i.c ∧ x.Sm ∧ (aa x g).top.pc < 1000000000 ∧ 0 ≤ (aa x g).top.pc ∧ (∀ c ∈ av p i, c.Ok x.au.length) ∧
 match enabled (av p i) x.au, d with
 | [], _ => True
 | _, .e7 _ => True
 | can, .num v => 0 ≤ v ∧ v < can.length ∧
  let k := can.getD v.toNat 0
  let c := (av p i).getD k.toNat ⟨0, 0, 0⟩
  let x1 := x.next g
  0 ≤ k ∧ k < (av p i).length ∧ aQ c.bL ∧
  if c.way = 1 then jt p x1 c.ch (aF x1 g c.bL) ∧ (match x1.put p c.ch (aF x1 g c.bL) with
   | .on (y, _) => aI y g ∧ (aa y g).fs.length = (aa x g).fs.length
   | _ => True)
  else nS x1 c.ch ∧ aI (x1.get c.ch).1 g ∧ (aa (x1.get c.ch).1 g).fs.length = (aa x g).fs.length
theorem zN {d : fU} (hp : lX R pa p) (hk : wg p x g i d) (hd : if enabled (av p i) x.au = [] then L2 = L else fI R dr 3 ((enabled (av p i) x.au).length : Int) d L L2) :
  dn R pa p dr 33 x g i (x.choose p g i d) L L2 := by
 intro gg b bs c M K Kp Q h cS k
 obtain ⟨hg, hcs, Ds, hs, su, Dt, hok, hk⟩ := hk
 have uu := hg
 obtain ⟨h0, h1, h2, h3⟩ := uu
 have hs' := hs
 obtain ⟨s1, s2, s3, s4, s5, s6, s7, s8⟩ := hs'
 have Ej : (av p i).length ≤ 1000 := by
  obtain ⟨_, _, _, hl⟩ := hcs
  unfold av
  rw [List.length_take, List.length_drop]; omega
 refine jD ?_
 refine aj h ?_
 clear h; intro k1 M h
 refine aR h (aR h (aR h (aR h ?_)))
 refine we (b := b) h hp hcs ?_
 clear h; intro A ca M hA h
 refine bu ?_
 unfold Wd.choose at k
 have Nn : ∀ {X : HP} {M : Mem} {L3 : List HP}, Hp R (aM (aO pa p gg dr) b x :: L3) M → ∀ (K1 : Value → Mem → Prop), (∀ A' c' M', Hp R (ur A' c' (enabled (av p i) x.au) :: aM (aO pa p gg dr) b x :: L3) M' → K1 (.slice A' (enabled (av p i) x.au).length c') M') →
   aE (M.ld ⟨b, 0 + 6, none⟩) fun Aa gJ mo => ae Try.prog 39 #[.slice A (av p i).length ca, .slice Aa gJ mo] M K1 Kp := by
  intro X M L3 h K1 k1
  have h' := bz h (b := b)
  clear h
  obtain ⟨a, hl, h⟩ := h'
  have hl' := hl
  obtain ⟨l1, l2, l3, l4⟩ := hl'
  refine bQ h ?_
  refine sq h (hA.src) (Src.row (A := a.ac)) rfl rfl (by omega) l3 hok ?_
  clear h; intro A' c' M h
  exact k1 _ _ _ ((aD (a := a) (p := p) (pa := pa) (dr := dr) (gg := gg) (x := x) hl h b).swap)
 refine Nn (X := Q) h _ ?_
 clear h Nn; intro A2 c2 M h
 refine bu ?_
 by_cases hcan : enabled (av p i) x.au = []
 ·rw [if_pos hcan] at k hd
  subst hd
  rw [hcan] at h ⊢
  refine af ?_
  unfold Wd.mQ at k
  dsimp only at k
  refine xY (b := b) h hg cS rfl ?_
  rw [gF Dt (by omega)]
  refine xX (b := b) h hg cS rfl rfl ?_
  clear h; intro M h
  have FL := mR hg
  have AO := uy hg
  refine xz h hA.src rfl (by omega) ?_
  clear h; intro M h
  refine ⟨_, _, rfl, ?_⟩
  cases he : els (av p i) with
  | some q =>
   rw [he] at k
   dsimp only at k ⊢
   refine af ?_
   refine aR h ?_
   refine ⟨Ds.1, Ds.2, ?_⟩
   refine gP (b := b) h FL cS Ds (by rw [AO]) ?_
   clear h; intro M h
   exact k _ _ (h.sub eX)
  | none =>
   rw [he] at k
   dsimp only at k ⊢
   refine ai ⟨by decide, by decide, by decide, by decide, by decide, by decide, ?_⟩
   have pO := FL
   obtain ⟨g0, g1, g2, g3⟩ := pO
   have h' := dP h (b := b) g0 g1 cS
   clear h
   obtain ⟨a, gb, hl, dx, h⟩ := h'
   have hl' := hl
   obtain ⟨l1, l2, l3, l4⟩ := hl'
   refine bQ h ?_
   refine xB (dg := nT (aa (x.next g) g).top) h hA.src (Src.row (A := a.ac)) ?_ rfl rfl rfl rfl (by omega) l3 hok (fun c hc => s1 c hc) ?_
   ·have e9 : ∀ {L9 : List HP}, Src R L9 (some ⟨bs, 0, none⟩) (gd.cells (aa (x.next g) g).fs) → Src R L9 (mW (some ⟨bs, ((aa x g).fs.length - 1) * 11 + 2, none⟩) 0 8 1) (cI.cells (nT (aa (x.next g) g).top)) := fun hs => by
     have := BV hs (cF g2)
     rwa [AO] at this
    exact e9 Src.row
   clear h; intro M h
   refine ⟨rfl, ?_⟩
   refine aR h (aR h (aR h (aR h ?_)))
   replace h := bI h gb hl dx cS
   have jA := bP (y := aa (x.next g) g) (g := g) hl
   have Me : ∀ x' : Wd, x' = { (x.next g).aJ g (aa (x.next g) g) with au := cz g (nT (aa (x.next g) g).top) (av p i) x.au (av p i).length } → cU gg a x' := by
    rintro _ rfl
    obtain ⟨m1, m2, m3, m4⟩ := jA
    exact ⟨m1, m2, by show _ = List.length _; rw [gE]; exact l3, m4⟩
   replace h := aD (a := a) (p := p) (pa := pa) (dr := dr) (gg := gg) (x := { (x.next g).aJ g (aa (x.next g) g) with au := cz g (nT (aa (x.next g) g).top) (av p i) x.au (av p i).length }) (Me _ rfl) h b
   rw [sx g0 g1] at h
   refine gO (b := b) (i := i) (x := { x.next g with au := cz g (nT (aa (x.next g) g).top) (av p i) x.au (av p i).length }) h g0 g1 ?_
   clear h; intro M h
   exact ⟨rfl, k _ _ (h.sub eX)⟩
 rw [if_neg hcan] at k hd
 have IE : 0 < (enabled (av p i) x.au).length := by
  cases hh : enabled (av p i) x.au with
  | nil => exact absurd hh hcan
  | cons _ _ => simp
 refine E2 (by simp; omega) ?_
 have uO : M.ld ⟨b, 0 + 14, none⟩ = some dr := by
  obtain ⟨a, hl, h9⟩ := bz h (b := b)
  exact eO h9
 rw [uO]
 refine Bc ?_
 have h5 : Hp R (sep [ur A2 c2 (enabled (av p i) x.au), aM (aO pa p gg dr) b x, pt k1 [.int .i64 i.op, .int .i64 i.a, .int .i64 i.b, .int .i64 i.c] 31, Q] :: L) M := Hp.bC.2 (h.sub eX)
 refine hd _ _ _ _ h5 ?_
 clear h h5 uO
 cases d with
 | e7 l =>
  dsimp only at k ⊢
  intro M h5
  have h : Hp R (ur A2 c2 (enabled (av p i) x.au) :: aM (aO pa p gg dr) b x :: pt k1 [.int .i64 i.op, .int .i64 i.a, .int .i64 i.b, .int .i64 i.c] 31 :: Q :: L2) M := Hp.bC.1 h5
  exact k _ _ (h.sub eX)
 | num v =>
  dsimp only at k ⊢
  intro M h5
  have h : Hp R (ur A2 c2 (enabled (av p i) x.au) :: aM (aO pa p gg dr) b x :: pt k1 [.int .i64 i.op, .int .i64 i.a, .int .i64 i.b, .int .i64 i.c] 31 :: Q :: L2) M := Hp.bC.1 h5
  clear h5
  have No : 0 ≤ v ∧ v < (enabled (av p i) x.au).length ∧
    0 ≤ (enabled (av p i) x.au).getD v.toNat 0 ∧ (enabled (av p i) x.au).getD v.toNat 0 < (av p i).length ∧ aQ ((av p i).getD ((enabled (av p i) x.au).getD v.toNat 0).toNat ⟨0, 0, 0⟩).bL ∧
    if ((av p i).getD ((enabled (av p i) x.au).getD v.toNat 0).toNat ⟨0, 0, 0⟩).way = 1 then jt p (x.next g) ((av p i).getD ((enabled (av p i) x.au).getD v.toNat 0).toNat ⟨0, 0, 0⟩).ch (aF (x.next g) g ((av p i).getD ((enabled (av p i) x.au).getD v.toNat 0).toNat ⟨0, 0, 0⟩).bL) ∧
     (match (x.next g).put p ((av p i).getD ((enabled (av p i) x.au).getD v.toNat 0).toNat ⟨0, 0, 0⟩).ch (aF (x.next g) g ((av p i).getD ((enabled (av p i) x.au).getD v.toNat 0).toNat ⟨0, 0, 0⟩).bL) with
      | .on (y, _) => aI y g ∧ (aa y g).fs.length = (aa x g).fs.length
      | _ => True)
    else nS (x.next g) ((av p i).getD ((enabled (av p i) x.au).getD v.toNat 0).toNat ⟨0, 0, 0⟩).ch ∧ aI ((x.next g).get ((av p i).getD ((enabled (av p i) x.au).getD v.toNat 0).toNat ⟨0, 0, 0⟩).ch).1 g ∧ (aa ((x.next g).get ((av p i).getD ((enabled (av p i) x.au).getD v.toNat 0).toNat ⟨0, 0, 0⟩).ch).1 g).fs.length = (aa x g).fs.length := by
   revert hk
   cases hh : enabled (av p i) x.au with
   | nil => exact absurd hh hcan
   | cons a l => exact fun hk => hk
  clear hk hcan hd
  generalize Np : enabled (av p i) x.au = can at h k No IE ⊢
  obtain ⟨v0, v1, q0, q1, Ep, FM⟩ := No
  refine gN ⟨v0, v1, ?_⟩
  obtain ⟨ab, rfl⟩ := h.bO (A := A2) IE (by decide)
  refine bh ?_
  obtain ⟨q, hq⟩ := aP (l := can) (i := v.toNat) (by omega)
  have PN : can.getD v.toNat 0 = q := by simp [hq]
  rw [PN] at k q0 q1 Ep FM
  refine bl (Src.at (h.src (A := some ⟨ab, 0, none⟩)) h (i := v.toNat) (j := 0) hq rfl (by simp [cI])) ?_
  unfold Wd.nU at k
  dsimp only at k
  obtain ⟨cc, Gz⟩ := aP (l := av p i) (i := q.toNat) (by omega)
  have hce : (av p i).getD q.toNat ⟨0, 0, 0⟩ = cc := by simp [Gz]
  rw [hce] at k Ep FM
  refine xY (b := b) h hg cS rfl ?_
  rw [gF Dt (by omega)]
  refine xX (b := b) h hg cS rfl rfl ?_
  clear h; intro M h
  have FL := mR hg
  have AO := uy hg
  have pN : (x.next g).Sm := Dr hs
  generalize Mf : x.next g = x1 at h k FM FL AO pN
  refine ⟨q0, q1, ?_⟩
  obtain ⟨cb, co, rfl⟩ := hA.some (by omega) (by decide)
  refine bh ?_
  refine bl (Src.at (hA.src (L := _)) h (i := q.toNat) (j := 0) Gz rfl (by simp [qW])) ?_
  refine bl (Src.at (hA.src (L := _)) h (i := q.toNat) (j := 1) Gz rfl (by show _ = co + (_ * 3 + 1); omega)) ?_
  refine bl (Src.at (hA.src (L := _)) h (i := q.toNat) (j := 2) Gz rfl (by show _ = co + (_ * 3 + 2); omega)) ?_
  refine aj h ?_
  clear h; intro kc M h
  refine ak h ?_
  clear h; intro M h
  refine ak h ?_
  clear h; intro M h
  refine ak h ?_
  clear h; intro M h
  refine aR h ?_
  refine cL.2 ⟨fun e1 => ?_, fun e1 => ?_⟩
  ·rw [if_pos e1] at k FM
   obtain ⟨hput, hy⟩ := FM
   refine aR h (aR h ⟨Ep.1, Ep.2, ?_⟩)
   refine vW (b := b) h FL cS Ep (by rw [AO]) ?_
   refine tw (b := b) h hp.cases hput pN ?_ ?_
   ·clear h
    intro y ok M e h
    rw [e] at k hy
    dsimp only at k hy
    refine j4 ?_
    refine aR h ⟨Ds.1, Ds.2, ?_⟩
    refine gP (b := b) h hy.1 cS Ds (by rw [hy.2]) ?_
    clear h; intro M h
    exact k _ _ (h.sub eX)
   ·clear h
    intro y n M e h
    rw [e] at k
    exact k _ _ (h.sub eX)
  ·rw [if_neg e1] at k FM
   obtain ⟨FE, vX, hfl⟩ := FM
   refine aR h (aR h ?_)
   refine tx (b := b) h FE pN ?_
   clear h; intro M h
   generalize x1.get cc.ch = r at h k vX hfl
   obtain ⟨y, w, sm, ok⟩ := r
   dsimp only at h k vX hfl ⊢
   refine ⟨_, _, _, rfl, eO h, Ep.1, Ep.2, ?_⟩
   refine gP (b := b) h vX cS Ep (by rw [hfl]) ?_
   clear h; intro M h
   refine ⟨eO h, aR h ⟨Ds.1, Ds.2, ?_⟩⟩
   refine gP (b := b) h (fa vX) cS Ds (by rw [zM vX, hfl]) ?_
   clear h; intro M h
   exact k _ _ (h.sub eX)
end
def ay.before (a b : ay) : Bool := decide (a.t < b.t) || (a.t == b.t && decide (a.seq < b.seq))
def cH (l : List ay) (i : Nat) : ay := l.getD i ⟨0, 0, 0⟩
def bU (l : List ay) (i j : Nat) : List ay := (l.set i (cH l j)).set j (cH l i)
def yN : Nat → Nat → List ay → List ay
 | 0, _, l => l
 | f + 1, i, l => if 0 < i ∧ (cH l i).before (cH l ((i - 1) / 4)) = true then yN f ((i - 1) / 4) (bU l i ((i - 1) / 4)) else l
def bT (l : List ay) : Nat → Nat → Nat → Nat
 | 0, _, out => out
 | n + 1, k, out => if k < l.length then bT l n (k + 1) (if (cH l k).before (cH l out) then k else out) else out
def cC (l : List ay) (i : Nat) : Nat := bT l 4 (4 * i + 1) i
def gR : Nat → Nat → List ay → List ay
 | 0, _, l => l
 | f + 1, i, l => if cC l i = i then l else gR f (cC l i) (bU l i (cC l i))
def gS (l : List ay) (x : ay) : List ay := yN l.length l.length (l ++ [x])
def br (l : List ay) (i : Nat) : List ay :=
 if i < l.length - 1 then yN i i (gR l.length i ((bU l i (l.length - 1)).take (l.length - 1))) else (bU l i (l.length - 1)).take (l.length - 1)
def bM : Nat → List ay → Int → List ay × List ay
 | 0, l, _ => (l, [])
 | f + 1, l, now => if 0 < l.length ∧ (cH l 0).t ≤ now then ((bM f (br l 0) now).1, cH l 0 :: (bM f (br l 0) now).2) else (l, [])
def bK : Nat → List ay → List ay
 | 0, _ => []
 | f + 1, l => if 0 < l.length then cH l 0 :: bK f (br l 0) else []
theorem rq {f i : Nat} {l : List ay} : yN (f + 1) i l = if 0 < i ∧ (cH l i).before (cH l ((i - 1) / 4)) = true then yN f ((i - 1) / 4) (bU l i ((i - 1) / 4)) else l := rfl
theorem ju {l : List ay} {n k out : Nat} : bT l (n + 1) k out = if k < l.length then bT l n (k + 1) (if (cH l k).before (cH l out) then k else out) else out := rfl
theorem ru {f i : Nat} {l : List ay} : gR (f + 1) i l = if cC l i = i then l else gR f (cC l i) (bU l i (cC l i)) := rfl
theorem ji {f : Nat} {l : List ay} {now : Int} : bM (f + 1) l now = if 0 < l.length ∧ (cH l 0).t ≤ now then ((bM f (br l 0) now).1, cH l 0 :: (bM f (br l 0) now).2) else (l, []) := rfl
theorem dQ {f : Nat} {l : List ay} : bK (f + 1) l = if 0 < l.length then cH l 0 :: bK f (br l 0) else [] := rfl
theorem bp {l : List ay} {i j : Nat} : (bU l i j).length = l.length := by simp [bU]
theorem uz : ∀ {f i : Nat} {l : List ay}, (yN f i l).length = l.length
 | 0, _, _ => rfl
 | f + 1, i, l => by unfold yN; split; rw [uz, bp]; rfl
theorem fB : ∀ {f i : Nat} {l : List ay}, (gR f i l).length = l.length
 | 0, _, _ => rfl
 | f + 1, i, l => by unfold gR; split; rfl; rw [fB, bp]
theorem eL {l : List ay} {i : Nat} : (br l i).length = l.length - 1 := by
 unfold br; split
 ·rw [uz, fB, List.length_take, bp]; omega
 ·rw [List.length_take, bp]; omega
theorem zO {l : List ay} {x : ay} : (gS l x).length = l.length + 1 := by unfold gS; rw [uz]; simp
theorem g8 {l : List ay} {i : Nat} (h : i < l.length) : l[i]? = some (cH l i) := by
 unfold cH; rw [List.getD_eq_getElem?_getD, List.getElem?_eq_getElem h]; rfl
theorem g9 {l : List ay} : ∀ (n k out : Nat), out < l.length → out < k → bT l n k out < l.length ∧ (out ≤ bT l n k out)
 | 0, _, _, h, _ => ⟨h, Nat.le_refl _⟩
 | n + 1, k, out, h, hk => by
  unfold bT; split
  ·rename_i hl
   split
   ·have := g9 n (k + 1) k hl (by omega); omega
   ·exact g9 n (k + 1) out h (by omega)
  ·exact ⟨h, Nat.le_refl _⟩
theorem tE {l : List ay} {i : Nat} (h : i < l.length) : cC l i < l.length ∧ i ≤ cC l i := g9 4 _ i h (by omega)
structure Cy (b o : Nat) (P : Option Addr → Nat → Nat → Int → HP) : Prop where
 Cz : ∀ (R : Mem) (L : List HP) (M : Mem) (A : Option Addr) (n c : Nat) (s : Int), Hp R (P A n c s :: L) M → M.ld ⟨b, o, none⟩ = some (.slice A n c)
 Mg : ∀ (R : Mem) (L : List HP) (M : Mem) (A : Option Addr) (n c : Nat) (s : Int), Hp R (P A n c s :: L) M → M.ld ⟨b, o + 1, none⟩ = some (.int .u64 s)
 Nq : ∀ (R : Mem) (L : List HP) (M : Mem) (A A' : Option Addr) (n c n' c' : Nat) (s : Int) (G : Mem → Prop), Hp R (P A n c s :: L) M → (∀ M', Hp R (P A' n' c' s :: L) M' → G M') → bW M ⟨b, o, none⟩ (.slice A' n' c') G
 PO : ∀ (R : Mem) (L : List HP) (M : Mem) (A : Option Addr) (n c : Nat) (s s' : Int) (G : Mem → Prop), Hp R (P A n c s :: L) M → (∀ M', Hp R (P A n c s' :: L) M' → G M') → bW M ⟨b, o + 1, none⟩ (.int .u64 s') G
theorem qi : bt Try.prog 62 86 3 24 [.int .u64 0, .int .u64 0, .int .i64 0] := bt.mk' (zv := .agg #[.int .u64 0, .int .u64 0, .int .i64 0]) (by kernel_rfl) (by kernel_rfl) rfl (by omega)
section
variable {R : Mem} {L L' : List HP} {M : Mem} {K : Value → Mem → Prop} {Kp : List PanicEntry → Mem → Prop} {b o : Nat} {P : Option Addr → Nat → Nat → Int → HP} {A : Option Addr} {c : Nat} {s : Int} {l : List ay} {i j : Nat}
theorem gT {q o0 o1 o2 o3 : Nat} {x : ay} {G : Int → Int → Int → Prop} (h : Hp R L M) (hs : Src R L (some ⟨q, o0, none⟩) (kq.cells l)) (hi : l[i]? = some x) (e1 : o1 = o0 + i * 3) (e2 : o2 = o0 + i * 3 + 1) (e3 : o3 = o0 + i * 3 + 2) (g : G x.t x.seq x.id) :
  bG (M.ld ⟨q, o1, none⟩) .u64 fun a => bG (M.ld ⟨q, o2, none⟩) .u64 fun b => bG (M.ld ⟨q, o3, none⟩) .i64 fun d => G a b d := by
 refine bl (Src.at hs h (i := i) (j := 0) hi rfl (by rw [e1]; rfl)) ?_
 refine bl (Src.at hs h (i := i) (j := 1) hi rfl (by rw [e2]; show _ = o0 + (i * 3 + 1); omega)) ?_
 exact bl (Src.at hs h (i := i) (j := 2) hi rfl (by rw [e3]; show _ = o0 + (i * 3 + 2); omega)) g
theorem yO {q o1 o2 o3 : Nat} {x y : ay} {G : Mem → Prop} (h : Hp R L M) [r : bN (some ⟨q, 0, none⟩) L ay kq 86 c l L'] (hi : l[i]? = some x) (e1 : o1 = i * 3) (e2 : o2 = i * 3 + 1) (e3 : o3 = i * 3 + 2)
  (k : ∀ M', Hp R (cJ (some ⟨q, 0, none⟩) c (l.set i y) :: L') M' → G M') :
  bW M ⟨q, o1, none⟩ (.int .u64 y.t) fun M1 => bW M1 ⟨q, o2, none⟩ (.int .u64 y.seq) fun M2 => bW M2 ⟨q, o3, none⟩ (.int .i64 y.id) G := by
 have hl := (List.getElem?_eq_some_iff.1 hi).1
 refine vC (E := kq) (a := x) (a' := ⟨y.t, x.seq, x.id⟩) i 0 h hi (by decide) rfl e1 ?_
 clear h; intro M h
 refine vC (E := kq) (a := ⟨y.t, x.seq, x.id⟩) (a' := ⟨y.t, y.seq, x.id⟩) i 1 h (by simp [hl]) (by decide) rfl e2 ?_
 clear h; intro M h
 refine vC (E := kq) (a := ⟨y.t, y.seq, x.id⟩) (a' := y) i 2 h (by simp [hl]) (by decide) rfl e3 ?_
 clear h; intro M h
 rw [kG, kG] at h
 exact k _ h
theorem pJ {x y : ay} (h : Hp R L M) (k : ∀ M', Hp R L M' → K (.bool (x.before y)) M') : ae Try.prog 83 #[.agg #[.int .u64 x.t, .int .u64 x.seq, .int .i64 x.id], .agg #[.int .u64 y.t, .int .u64 y.seq, .int .i64 y.id]] M K Kp := by
 refine q6 ?_
 repeat (first|(refine aj h ?_;clear h;intro kb M h)|(refine ak h ?_;clear h;intro M h)|refine St.to h ?_|(apply Exists.intro;(repeat apply Exists.intro);refine And.intro rfl ?_)|refine aq ?_|refine af ?_|refine ai ?_)
 unfold ay.before at k
 refine aG.2 ⟨fun h1 => ?_, fun h1 => ?_⟩
 ·have := k _ h.qJ
  rwa [decide_eq_true h1, Bool.true_or] at this
 ·repeat (first|(refine aj h ?_;clear h;intro kb M h)|(refine ak h ?_;clear h;intro M h)|refine St.to h ?_|(apply Exists.intro;(repeat apply Exists.intro);refine And.intro rfl ?_)|refine aq ?_|refine af ?_|refine ai ?_)
  refine cL.2 ⟨fun h2 => ?_, fun h2 => ?_⟩
  ·repeat (first|(refine aj h ?_;clear h;intro kb M h)|(refine ak h ?_;clear h;intro M h)|refine St.to h ?_|(apply Exists.intro;(repeat apply Exists.intro);refine And.intro rfl ?_)|refine aq ?_|refine af ?_|refine ai ?_)
   have := k _ h.qJ
   rwa [decide_eq_false h1, Bool.false_or, beq_iff_eq.2 h2, Bool.true_and] at this
  ·have := k _ h.qJ
   rwa [decide_eq_false h1, Bool.false_or, show (x.t == y.t) = false from by simpa using h2, Bool.false_and] at this
theorem oT (D : Cy b o P) (h : Hp R (P A l.length c s :: cJ A c l :: L) M) (hi : i < l.length) (hj : j < l.length)
  (k : ∀ M', Hp R (P A l.length c s :: cJ A c (bU l i j) :: L) M' → K (.tuple #[]) M') : ae Try.prog 57 #[.pointer (some ⟨b, o, none⟩), .int .i64 (i : Int), .int .i64 (j : Int)] M K Kp := by
 refine nG ?_
 obtain ⟨q, rfl⟩ := h.bO (A := A) (by omega) (by decide)
 have hs := h.src (A := some ⟨q, 0, none⟩)
 rw [D.Cz _ _ _ _ _ _ _ h]
 refine bu (bu (bu ⟨by omega, by omega, bh ?_⟩))
 refine gT h hs (g8 hj) (by simp) (by simp) (by simp) ?_
 refine bu ⟨by omega, by omega, bh ?_⟩
 refine gT h hs (g8 hi) (by simp) (by simp) (by simp) ?_
 clear hs
 refine ⟨by omega, by omega, bh ?_⟩
 refine yO (y := cH l j) h (g8 hi) (by simp) (by simp) (by simp) ?_
 clear h; intro M h
 refine ⟨by omega, by omega, bh ?_⟩
 have Gf : (l.set i (cH l j))[j]? = some (cH l j) := by
  rw [List.getElem?_set]
  split
  ·rfl
  ·exact g8 hj
 refine yO (y := cH l i) h Gf (by simp) (by simp) (by simp) ?_
 clear h; intro M h
 exact k _ (h.sub eX)
theorem ry (D : Cy b o P) (h : Hp R (P A l.length c s :: cJ A c l :: L) M) (hi : i < l.length) (hl : l.length ≤ 1000000)
  (k : ∀ M', Hp R (P A l.length c s :: cJ A c l :: L) M' → K (.int .i64 (cC l i : Int)) M') : ae Try.prog 82 #[.pointer (some ⟨b, o, none⟩), .int .i64 (i : Int)] M K Kp := by
 refine mM ?_
 have e1 : IntKind.wrap .i64 (IntKind.wrap .i64 (4 * (i : Int)) + 1) = ((4 * i + 1 : Nat) : Int) := by
  rw [cG (z := 4 * (i : Int)) (by omega) (by omega), cG (by omega) (by omega)]; omega
 have e4 : IntKind.wrap .i64 (IntKind.wrap .i64 (4 * (i : Int)) + 4) = ((4 * i + 4 : Nat) : Int) := by
  rw [cG (z := 4 * (i : Int)) (by omega) (by omega), cG (by omega) (by omega)]; omega
 rw [e1, e4]
 refine ⟨fun d vs M => ∃ kk out : Nat, vs = [.int .i64 (out : Int), .int .i64 (kk : Int)] ∧ d = 4 * i + 5 - kk ∧ kk ≤ 4 * i + 5 ∧ out < l.length ∧ out < kk ∧ bT l (4 * i + 5 - kk) kk out = cC l i ∧ Hp R (P A l.length c s :: cJ A c l :: L) M,
  ⟨_, 4 * i + 1, i, rfl, rfl, by omega, hi, by omega, by rw [show 4 * i + 5 - (4 * i + 1) = 4 from by omega]; rfl, h⟩, ?_⟩
 clear h
 rintro d _ n5 n6 M ⟨kk, out, he, hd, hkk, ho, hok, hf, h⟩
 simp only [List.cons.injEq, Value.int.injEq, and_true, true_and] at he
 obtain ⟨rfl, rfl⟩ := he
 refine aG.2 ⟨fun hle => ?_, fun hgt => ?_⟩
 ·rw [D.Cz _ _ _ _ _ _ _ h]
  obtain ⟨n, hn⟩ : ∃ n, 4 * i + 5 - kk = n + 1 := ⟨4 * i + 4 - kk, by omega⟩
  rw [hn] at hf
  rw [ju] at hf
  refine bu ?_
  refine aG.2 ⟨fun hlt => ?_, fun hge => ?_⟩
  ·rw [if_pos (by omega)] at hf
   obtain ⟨q, rfl⟩ := h.bO (A := A) (by omega) (by decide)
   have hs := h.src (A := some ⟨q, 0, none⟩)
   refine bu ⟨by omega, by omega, bh ?_⟩
   refine gT h hs (g8 (i := kk) (by omega)) (by simp) (by simp) (by simp) ?_
   refine bu ⟨by omega, by omega, bh ?_⟩
   refine gT h hs (g8 (i := out) (by omega)) (by simp) (by simp) (by simp) ?_
   refine pJ h ?_
   clear h hs; intro M h
   refine j4 ?_
   have e : IntKind.wrap .i64 ((kk : Int) + 1) = ((kk + 1 : Nat) : Int) := by rw [cG (by omega) (by omega)]; omega
   rw [e]
   cases hb : (cH l kk).before (cH l out) with
   | true =>
    rw [hb] at hf
    exact af ⟨n, by omega, kk + 1, kk, rfl, by omega, by omega, by omega, by omega, by rw [show 4 * i + 5 - (kk + 1) = n from by omega]; exact hf, h⟩
   | false =>
    rw [hb] at hf
    exact ai ⟨n, by omega, kk + 1, out, rfl, by omega, by omega, by omega, by omega, by rw [show 4 * i + 5 - (kk + 1) = n from by omega]; exact hf, h⟩
  ·rw [if_neg (by omega)] at hf
   subst hf
   exact k _ h
 ·have : 4 * i + 5 - kk = 0 := by omega
  rw [this] at hf
  have wZ : out = cC l i := hf
  subst wZ
  exact k _ h
theorem zP (D : Cy b o P) {f : Nat} (h : Hp R (P A l.length c s :: cJ A c l :: L) M) (hi : i < l.length) (hl : l.length ≤ 1000000) (hf : l.length ≤ f + i)
  (k : ∀ M', Hp R (P A l.length c s :: cJ A c (gR f i l) :: L) M' → K (.tuple #[]) M') : ae Try.prog 58 #[.pointer (some ⟨b, o, none⟩), .int .i64 (i : Int)] M K Kp := by
 refine nH ?_
 refine ry D h hi hl ?_
 clear h; intro M h
 refine gN ?_
 refine ⟨fun d vs M => ∃ (f' i' : Nat) (l' : List ay), vs = [.int .i64 (i' : Int), .int .i64 (cC l' i' : Int)] ∧ d = l.length - i' ∧ i' < l.length ∧ l'.length = l.length ∧ l.length ≤ f' + i' ∧ gR f' i' l' = gR f i l ∧ Hp R (P A l.length c s :: cJ A c l' :: L) M,
  ⟨_, f, i, l, rfl, rfl, hi, rfl, hf, rfl, h⟩, ?_⟩
 clear h
 rintro d _ n5 n6 M ⟨f', i', l', he, hd, hi', hl', EF, yP, h⟩
 simp only [List.cons.injEq, Value.int.injEq, and_true, true_and] at he
 obtain ⟨rfl, rfl⟩ := he
 obtain ⟨g, rfl⟩ : ∃ g, f' = g + 1 := ⟨f' - 1, by omega⟩
 rw [ru] at yP
 obtain ⟨m1, m2⟩ := tE (l := l') (i := i') (by omega)
 rw [← hl'] at h
 refine fA.2 ⟨fun hne => ?_, fun heq => ?_⟩
 ·rw [if_neg (by intro e; apply hne; rw [e])] at yP
  refine oT D h (i := i') (j := cC l' i') (by omega) (by omega) ?_
  clear h; intro M h
  refine ⟨rfl, ?_⟩
  have FN : (bU l' i' (cC l' i')).length = l'.length := bp
  rw [← FN] at h
  refine ry D h (by omega) (by omega) ?_
  clear h; intro M h
  rw [FN] at h
  refine gN ?_
  exact ⟨l.length - cC l' i', by omega, g, cC l' i', _, rfl, rfl, by omega, by omega, by omega, yP, by rw [← hl']; exact h⟩
 ·rw [if_pos (by omega)] at yP
  subst yP
  rw [hl'] at h
  exact k _ h
theorem yQ (D : Cy b o P) {f : Nat} (h : Hp R (P A l.length c s :: cJ A c l :: L) M) (hi : i < l.length) (hl : l.length ≤ 1000000) (hf : i ≤ f)
  (k : ∀ M', Hp R (P A l.length c s :: cJ A c (yN f i l) :: L) M' → K (.tuple #[]) M') : ae Try.prog 59 #[.pointer (some ⟨b, o, none⟩), .int .i64 (i : Int)] M K Kp := by
 refine pU ?_
 refine ⟨fun d vs M => ∃ (f' i' : Nat) (l' : List ay), vs = [.int .i64 (i' : Int)] ∧ d = i' ∧ i' < l.length ∧ l'.length = l.length ∧ i' ≤ f' ∧ yN f' i' l' = yN f i l ∧ Hp R (P A l.length c s :: cJ A c l' :: L) M,
  ⟨_, f, i, l, rfl, rfl, hi, rfl, hf, rfl, h⟩, ?_⟩
 clear h
 rintro d _ n5 M ⟨f', i', l', he, hd, hi', hl', EF, yP, h⟩
 simp only [List.cons.injEq, Value.int.injEq, and_true, true_and] at he
 subst he
 refine aG.2 ⟨fun hgt => ?_, fun hle => ?_⟩
 ·obtain ⟨g, rfl⟩ : ∃ g, f' = g + 1 := ⟨f' - 1, by omega⟩
  rw [rq] at yP
  have ep : IntKind.wrap .i64 (Int.tdiv (IntKind.wrap .i64 ((i' : Int) - 1)) 4) = (((i' - 1) / 4 : Nat) : Int) := by
   rw [cG (z := (i' : Int) - 1) (by omega) (by omega), show ((i' : Int) - 1) = ((i' - 1 : Nat) : Int) from by omega, show (4 : Int) = ((4 : Nat) : Int) from rfl, ← Int.ofNat_tdiv, cG (by omega) (by omega)]
  have hp : (i' - 1) / 4 < i' := by omega
  generalize Qu : (i' - 1) / 4 = p at ep yP hp
  rw [ep, D.Cz _ _ _ _ _ _ _ h]
  obtain ⟨q, rfl⟩ := h.bO (A := A) (by omega) (by decide)
  have hs := h.src (A := some ⟨q, 0, none⟩)
  refine ⟨by omega, bu ⟨by omega, by omega, bh ?_⟩⟩
  refine gT h hs (g8 (i := i') (by omega)) (by simp) (by simp) (by simp) ?_
  refine bu ⟨by omega, by omega, bh ?_⟩
  refine gT h hs (g8 (i := p) (by omega)) (by simp) (by simp) (by simp) ?_
  refine pJ h ?_
  clear h hs; intro M h
  refine j4 ?_
  cases hb : (cH l' i').before (cH l' p) with
  | true =>
   rw [if_pos ⟨by omega, hb⟩] at yP
   refine af ⟨by omega, ?_⟩
   rw [← hl'] at h
   refine oT D h (i := i') (j := p) (by omega) (by omega) ?_
   clear h; intro M h
   rw [hl'] at h
   exact ⟨rfl, by omega, p, by omega, g, p, _, rfl, rfl, by omega, by rw [bp]; exact hl', by omega, yP, h⟩
  | false =>
   rw [if_neg (by rintro ⟨_, h2⟩; rw [hb] at h2; cases h2)] at yP
   refine ai ?_
   subst yP
   exact k _ h
 ·have : yN f' i' l' = l' := by
   have h0 : i' = 0 := by omega
   subst h0
   cases f' with
   | zero => rfl
   | succ g => rw [rq]; rw [if_neg (by omega)]
  rw [this] at yP
  subst yP
  exact k _ h
theorem zQ (D : Cy b o P) {t id : Int} (h : Hp R (P A l.length c s :: cJ A c l :: L) M) (hl : l.length < 1000000)
  (k : ∀ v A' c' M', Hp R (P A' (l.length + 1) c' (IntKind.wrap .u64 (s + 1)) :: cJ A' c' (gS l ⟨t, s, id⟩) :: L) M' → K (.int .u64 v) M') : ae Try.prog 79 #[.pointer (some ⟨b, o, none⟩), .int .u64 t, .int .i64 id] M K Kp := by
 refine nI ?_
 rw [D.Cz _ _ _ _ _ _ _ h, D.Mg _ _ _ _ _ _ _ h]
 refine bu (gN ?_)
 refine aj h ?_
 clear h; intro kb M h
 replace h : Hp R (P A l.length c s :: cJ A c l :: pt kb [.int .u64 t, .int .u64 s, .int .i64 id] 86 :: L) M := h.sub eX
 refine h.be (A := A) qi [(⟨t, s, id⟩ : ay)] rfl rfl (by simp only [List.length_singleton]; omega) ?_
 clear h; intro A' c' M h
 refine bu ?_
 have hlen : (l ++ [(⟨t, s, id⟩ : ay)]).length = l.length + 1 := by simp
 refine D.Nq _ _ _ _ _ _ _ _ _ _ _ h.swap ?_
 clear h; intro M h
 rw [D.Mg _ _ _ _ _ _ _ h]
 refine gN ?_
 refine D.PO _ _ _ _ _ _ _ _ _ h ?_
 clear h; intro M h
 rw [D.Cz _ _ _ _ _ _ _ h]
 refine bu ?_
 have e : IntKind.wrap .i64 (((l ++ [(⟨t, s, id⟩ : ay)]).length : Int) - 1) = ((l.length : Nat) : Int) := by
  rw [cG (by omega) (by omega)]; omega
 rw [e]
 refine yQ D (f := l.length) h (by omega) (by omega) (Nat.le_refl _) ?_
 clear h; intro M h
 refine ⟨rfl, ?_⟩
 rw [D.Mg _ _ _ _ _ _ _ h]
 refine gN ?_
 rw [hlen] at h
 exact k _ _ _ _ h
theorem pK (D : Cy b o P) (h : Hp R (P A l.length c s :: cJ A c l :: L) M) (hi : i < l.length) (hl : l.length ≤ 1000000)
  (k : ∀ M', Hp R (P A (l.length - 1) c s :: cJ A c (br l i) :: L) M' → K (.agg #[.int .u64 (cH l i).t, .int .u64 (cH l i).seq, .int .i64 (cH l i).id]) M') : ae Try.prog 36 #[.pointer (some ⟨b, o, none⟩), .int .i64 (i : Int)] M K Kp := by
 refine lH ?_
 have hcap := h.j7 A
 obtain ⟨q, rfl⟩ := h.bO (A := A) (by omega) (by decide)
 refine aj h ?_
 clear h; intro k1 M h
 have hs := h.src (A := some ⟨q, 0, none⟩)
 replace h : Hp R (P (some ⟨q, 0, none⟩) l.length c s :: cJ (some ⟨q, 0, none⟩) c l :: pt k1 [.int .u64 0, .int .u64 0, .int .i64 0] 86 :: L) M := h.sub eX
 replace hs := h.src (A := some ⟨q, 0, none⟩)
 rw [D.Cz _ _ _ _ _ _ _ h]
 refine bu ⟨by omega, by omega, bh ?_⟩
 refine gT h hs (g8 hi) (by simp) (by simp) (by simp) ?_
 clear hs
 generalize hx : cH l i = x at k
 refine aj h ?_
 clear h; intro k2 M h
 refine ak h ?_
 clear h; intro M h
 refine ak h ?_
 clear h; intro M h
 refine ak h ?_
 clear h; intro M h
 replace h : Hp R (P (some ⟨q, 0, none⟩) l.length c s :: cJ (some ⟨q, 0, none⟩) c l :: pt k2 [.int .u64 x.t, .int .u64 x.seq, .int .i64 x.id] 86 :: pt k1 [.int .u64 0, .int .u64 0, .int .i64 0] 86 :: L) M := h.sub eX
 rw [D.Cz _ _ _ _ _ _ _ h]
 have e : IntKind.wrap .i64 ((l.length : Int) - 1) = ((l.length - 1 : Nat) : Int) := by
  rw [cG (by omega) (by omega)]; omega
 refine bu ?_
 rw [e]
 refine oT D h hi (j := l.length - 1) (by omega) ?_
 clear h; intro M h
 refine ⟨rfl, ?_⟩
 rw [D.Cz _ _ _ _ _ _ _ h]
 refine bu ⟨by omega, by omega, by omega, by omega, by omega, by omega, ?_⟩
 have e2 : mW (some ⟨q, 0, none⟩) 0 (Int.toNat (c : Int)) 3 = some ⟨q, 0, none⟩ := by
  unfold mW; rw [if_neg (by simp; omega)]; rfl
 rw [e2]
 simp only [Int.toNat_natCast, Nat.sub_zero]
 refine D.Nq _ _ _ _ _ _ _ _ _ _ _ h ?_
 clear h; intro M h
 have FN : ((bU l i (l.length - 1)).take (l.length - 1)).length = l.length - 1 := by rw [List.length_take, bp]; omega
 have fin : ∀ (M : Mem) (Q : List HP), Hp R (P (some ⟨q, 0, none⟩) (l.length - 1) c s :: cJ (some ⟨q, 0, none⟩) c (br l i) :: pt k2 [.int .u64 x.t, .int .u64 x.seq, .int .i64 x.id] 86 :: pt k1 [.int .u64 0, .int .u64 0, .int .i64 0] 86 :: L) M →
   bG (Mem.ld M ⟨k2, 0, none⟩) .u64 fun Ad => bG (Mem.ld M ⟨k2, (0 + 1), none⟩) .u64 fun xD => bG (Mem.ld M ⟨k2, (0 + 2), none⟩) .i64 fun td =>
   bW M ⟨k1, 0, none⟩ (.int .u64 Ad) fun m6 => bW m6 ⟨k1, (0 + 1), none⟩ (.int .u64 xD) fun xu => bW xu ⟨k1, (0 + 2), none⟩ (.int .i64 td) fun om =>
   bG (Mem.ld om ⟨k1, 0, none⟩) .u64 fun Cu => bG (Mem.ld om ⟨k1, (0 + 1), none⟩) .u64 fun Fq => bG (Mem.ld om ⟨k1, (0 + 2), none⟩) .i64 fun E7 =>
   K (.agg #[(.int .u64 Cu), (.int .u64 Fq), (.int .i64 E7)]) om := by
  intro M _ h
  refine aR h (aR h (aR h ?_))
  refine ak h ?_
  clear h; intro M h
  refine ak h ?_
  clear h; intro M h
  refine ak h ?_
  clear h; intro M h
  refine aR h (aR h (aR h ?_))
  exact k _ (h.sub eX)
 replace h : Hp R (P (some ⟨q, 0, none⟩) (l.length - 1) c s :: cJ (some ⟨q, 0, none⟩) c ((bU l i (l.length - 1)).take (l.length - 1)) :: pt k2 [.int .u64 x.t, .int .u64 x.seq, .int .i64 x.id] 86 :: pt k1 [.int .u64 0, .int .u64 0, .int .i64 0] 86 :: L) M := (h.swap.Bf (l.length - 1)).swap
 unfold br at fin
 refine aG.2 ⟨fun hlt => ?_, fun hge => ?_⟩
 ·rw [if_pos (by omega)] at fin
  have h' : Hp R (P (some ⟨q, 0, none⟩) ((bU l i (l.length - 1)).take (l.length - 1)).length c s :: cJ (some ⟨q, 0, none⟩) c ((bU l i (l.length - 1)).take (l.length - 1)) :: pt k2 [.int .u64 x.t, .int .u64 x.seq, .int .i64 x.id] 86 :: pt k1 [.int .u64 0, .int .u64 0, .int .i64 0] 86 :: L) M := by rw [FN]; exact h
  clear h
  have h := h'
  clear h'
  refine zP D (f := l.length) h (by omega) (by omega) (by omega) ?_
  clear h; intro M h
  refine ⟨rfl, ?_⟩
  rw [show ((bU l i (l.length - 1)).take (l.length - 1)).length = (gR l.length i ((bU l i (l.length - 1)).take (l.length - 1))).length from fB.symm] at h
  refine yQ D (f := i) h (by rw [fB]; omega) (by rw [fB]; omega) (Nat.le_refl _) ?_
  clear h; intro M h
  refine ⟨rfl, ?_⟩
  rw [fB, FN] at h
  exact fin M [] h
 ·rw [if_neg (by omega)] at fin
  exact fin M [] h
theorem zR (D : Cy b o P) {now : Int} (h : Hp R (P A l.length c s :: cJ A c l :: L) M) (hl : l.length ≤ 1000000)
  (k : ∀ A' c' M', Hp R (P A (bM l.length l now).1.length c s :: cJ A c (bM l.length l now).1 :: cJ A' c' (bM l.length l now).2 :: L) M' → K (.slice A' (bM l.length l now).2.length c') M') :
  ae Try.prog 28 #[.pointer (some ⟨b, o, none⟩), .int .u64 now] M K Kp := by
 refine nE ?_
 have h0 := h.cE kq 86
 refine ⟨fun d vs M => ∃ (A' : Option Addr) (c' : Nat) (out l' : List ay), vs = [.slice A' out.length c'] ∧ d = l'.length ∧ l'.length + out.length = l.length ∧ (bM l'.length l' now).1 = (bM l.length l now).1 ∧ out ++ (bM l'.length l' now).2 = (bM l.length l now).2 ∧
   Hp R (P A l'.length c s :: cJ A c l' :: cJ A' c' out :: L) M, ⟨_, none, 0, [], l, rfl, rfl, rfl, rfl, rfl, h0.sub eX⟩, ?_⟩
 clear h h0
 rintro d _ A' n' c' M ⟨A2, c2, out, l', he, hd, FN, e1, e2, h⟩
 simp only [List.cons.injEq, Value.slice.injEq, and_true, true_and] at he
 obtain ⟨rfl, rfl, rfl⟩ := he
 rw [D.Cz _ _ _ _ _ _ _ h]
 have stop : ¬ (0 < l'.length ∧ (cH l' 0).t ≤ now) → K (.slice A' out.length c') M := by
  intro hn
  have e : bM l'.length l' now = (l', []) := by
   cases hl' : l'.length with
   | zero => rfl
   | succ m => rw [ji]; rw [if_neg hn]
  rw [e] at e1 e2
  dsimp only at e1 e2
  rw [List.append_nil] at e2
  subst e1; subst e2
  exact k _ _ _ h
 refine bu ?_
 refine aG.2 ⟨fun hgt => ?_, fun hle => stop (by omega)⟩
 have hcap := h.j7 A
 obtain ⟨q, rfl⟩ := h.bO (A := A) (by omega) (by decide)
 have hs := h.src (A := some ⟨q, 0, none⟩)
 refine bu ⟨by omega, by omega, bh ?_⟩
 refine bl (Src.at hs h (i := 0) (j := 0) (g8 (by omega)) rfl rfl) ?_
 clear hs
 refine aG.2 ⟨fun hle => ?_, fun Mh => stop (fun hn => Mh hn.2)⟩
 refine pK D h (i := 0) (by omega) (by omega) ?_
 clear h stop; intro M h
 refine ⟨_, _, _, rfl, ?_⟩
 refine aj h ?_
 clear h; intro kb M h
 refine h.be (A := A') qi [cH l' 0] rfl rfl (by simp only [List.length_singleton]; omega) ?_
 clear h; intro A3 c3 M h
 refine bu ?_
 have j2 : (br l' 0).length = l'.length - 1 := eL
 have hw : bM l'.length l' now = ((bM (br l' 0).length (br l' 0) now).1, cH l' 0 :: (bM (br l' 0).length (br l' 0) now).2) := by
  obtain ⟨m, hm⟩ : ∃ m, l'.length = m + 1 := ⟨l'.length - 1, by omega⟩
  rw [j2, hm]
  show bM (m + 1) l' now = _
  rw [ji]
  rw [if_pos ⟨by omega, hle⟩]; rfl
 rw [hw] at e1 e2
 rw [← j2] at h
 exact ⟨_, by omega, A3, c3, out ++ [cH l' 0], br l' 0, rfl, rfl, by simp; omega, e1, by rw [List.append_assoc]; exact e2, h.sub eX⟩
theorem FO {kb T : Nat} : Cy kb 0 (fun A n c s => pt kb [.slice A n c, .int .u64 s] T) :=
 ⟨fun R L M A n c s h => eO h, fun R L M A n c s h => eO h, fun R L M A A' n c n' c' s G h k => ak h k, fun R L M A n c s s' G h k => ak h k⟩
theorem zS (D : Cy b o P) (h : Hp R (P A l.length c s :: cJ A c l :: L) M) (hl : l.length ≤ 1000000)
  (k : ∀ A' c' M', Hp R (cJ A' c' (bK l.length l) :: P A l.length c s :: cJ A c l :: L) M' → K (.slice A' (bK l.length l).length c') M') :
  ae Try.prog 30 #[.pointer (some ⟨b, o, none⟩)] M K Kp := by
 refine nF ?_
 refine aj h ?_
 clear h; intro kb M h
 replace h : Hp R (P A l.length c s :: cJ A c l :: pt kb [] 86 :: L) M := h.sub (by repeat (first | exact .refl | refine .cons (by repeat (first | exact .here | apply cu.there)) ?_ | apply Sub.drop))
 rw [D.Cz _ _ _ _ _ _ _ h]
 refine bu ?_
 refine h.nv kq (k := kb) qi l (h.src (A := A)) rfl (by omega) ?_
 clear h; intro A1 c1 M h
 refine bu ?_
 refine aj h ?_
 clear h; intro kc M h
 refine ak h ?_
 clear h; intro M h
 refine ak h ?_
 clear h; intro M h
 have h0 := h.cE kq 86
 refine ⟨fun d vs M => ∃ (A' : Option Addr) (c' : Nat) (out l' : List ay), vs = [.slice A' out.length c'] ∧ d = l'.length ∧ l'.length + out.length = l.length ∧ out ++ bK l'.length l' = bK l.length l ∧
   Hp R (pt kc [.slice A1 l'.length c1, .int .u64 0] 74 :: cJ A1 c1 l' :: cJ A' c' out :: P A l.length c s :: cJ A c l :: L) M, ⟨_, none, 0, [], l, rfl, rfl, rfl, rfl, h0.sub (by repeat (first | exact .refl | refine .cons (by repeat (first | exact .here | apply cu.there)) ?_ | apply Sub.drop))⟩, ?_⟩
 clear h h0
 rintro d _ A' n' c' M ⟨A2, c2, out, l', he, hd, FN, e2, h⟩
 simp only [List.cons.injEq, Value.slice.injEq, and_true, true_and] at he
 obtain ⟨rfl, rfl, rfl⟩ := he
 refine bQ h ?_
 refine aG.2 ⟨fun hgt => ?_, fun hle => ?_⟩
 ·refine pK FO h (i := 0) (by omega) (by omega) ?_
  clear h; intro M h
  refine ⟨_, _, _, rfl, ?_⟩
  refine aj h ?_
  clear h; intro Qv M h
  refine h.be (A := A') qi [cH l' 0] rfl rfl (by simp only [List.length_singleton]; omega) ?_
  clear h; intro A3 c3 M h
  refine bu ?_
  have j2 : (br l' 0).length = l'.length - 1 := eL
  have hw : bK l'.length l' = cH l' 0 :: bK (br l' 0).length (br l' 0) := by
   obtain ⟨m, hm⟩ : ∃ m, l'.length = m + 1 := ⟨l'.length - 1, by omega⟩
   rw [j2, hm]
   show bK (m + 1) l' = _
   rw [dQ]
   rw [if_pos (by omega)]; rfl
  rw [hw] at e2
  rw [← j2] at h
  exact ⟨_, by omega, A3, c3, out ++ [cH l' 0], br l' 0, rfl, rfl, by simp; omega, by rw [List.append_assoc]; exact e2, h.sub (by repeat (first | exact .refl | refine .cons (by repeat (first | exact .here | apply cu.there)) ?_ | apply Sub.drop))⟩
 ·have hz : l'.length = 0 := by omega
  rw [hz] at e2
  have e3 : out = bK l.length l := by rw [← e2]; simp [bK]
  subst e3
  exact k _ _ _ (h.sub (by repeat (first | exact .refl | refine .cons (by repeat (first | exact .here | apply cu.there)) ?_ | apply Sub.drop)))
end
def jJ (x : Wd) (k : Int) : Lk := x.aH.getD k.toNat ⟨-1, []⟩
def Wd.dK (x : Wd) (k : Int) (c : Lk) : Wd := { x with aH := x.aH.set k.toNat c }
def Wd.lock (x : Wd) (g : Int) (i : cn) : Wd := if ((jJ x i.a).take g).2 then x.dK i.a ((jJ x i.a).take g).1 else (x.dK i.a ((jJ x i.a).take g).1).block g i
def Wd.unlock (x : Wd) (g : Int) (i : cn) : Out Wd :=
 if ((jJ x i.a).lW g).2.2 ≠ 0 then .cT (-3) (x.dK i.a ((jJ x i.a).lW g).1)
 else if ((jJ x i.a).lW g).2.1 ≠ -1 then .on ((x.dK i.a ((jJ x i.a).lW g).1).bX ((jJ x i.a).lW g).2.1) else .on (x.dK i.a ((jJ x i.a).lW g).1)
def uA (x : Wd) (k : Int) : Prop := 0 ≤ k ∧ k < x.aH.length
instance (x : Wd) (k : Int) : Decidable (uA x k) := by unfold uA; infer_instance
def iD (x : Wd) (g : Int) (i : cn) : Prop := uA x i.a ∧ (((jJ x i.a).lW g).2.1 ≠ -1 → 0 ≤ ((jJ x i.a).lW g).2.1 ∧ ((jJ x i.a).lW g).2.1 < x.gs.length)
instance (x : Wd) (g : Int) (i : cn) : Decidable (iD x g i) := by unfold iD; infer_instance
def Wd.rand (x : Wd) (g : Int) (i : cn) : fU → Out Wd
 | .num d => .on ((x.next g).aN g i.a d)
 | .e7 l => .e7 l x
def hG (x : Wd) (g : Int) (i : cn) : Int := if 1048576 < aF x g i.a then 1048576 else aF x g i.a
def Wd.sleep (x : Wd) (g : Int) (i : cn) : Wd :=
 if 0 < hG x g i then { x.aJ g { aa x g with st := 3 } with hl := gS x.hl ⟨IntKind.wrap .u64 (x.clock + IntKind.wrap .u64 (hG x g i)), x.fO, g⟩, fO := IntKind.wrap .u64 (x.fO + 1) } else x
def Wd.tick (x : Wd) : Wd := if x.end_ ≠ 0 then { x with ready := [] } else
 let r := bM x.hl.length x.hl (IntKind.wrap .u64 (x.clock + 1))
 (r.2.map (·.id)).foldl Wd.bX { x with clock := IntKind.wrap .u64 (x.clock + 1), hl := r.1, ready := [] }
section
variable {R : Mem} {L L' L2 : List HP} {M : Mem} {K : Value → Mem → Prop} {Kp : List PanicEntry → Mem → Prop} {pa : PA} {p : cR} {gg : List GA} {dr : Value} {b : Nat} {x : Wd} {g : Int} {i : cn}
theorem Du (hg : aI x g) (hb : aQ i.b) : dn R pa p dr 45 x g i (x.call g i) L L := by
 intro gg b bs c M K Kp Q h cS k
 refine lI ?_
 have uu := hg
 obtain ⟨h0, h1, h2, h3⟩ := uu
 unfold Wd.call at k
 refine aj h ?_
 clear h
 intro kb M h
 have hC := h
 have h' := dP h (b := b) h0 h1 cS
 clear h
 obtain ⟨a, gb, hl, dx, h⟩ := h'
 have hl' := hl
 obtain ⟨l1, l2, l3, l4⟩ := hl'
 repeat (first|(refine aj h ?_;clear h;intro kb M h)|(refine ak h ?_;clear h;intro M h)|refine St.to h ?_|(apply Exists.intro;(repeat apply Exists.intro);refine And.intro rfl ?_)|refine aq ?_|refine af ?_|refine ai ?_)
 refine oP h dx fun q hq => ?_
 repeat (first|(refine aj h ?_;clear h;intro kb M h)|(refine ak h ?_;clear h;intro M h)|refine St.to h ?_|(apply Exists.intro;(repeat apply Exists.intro);refine And.intro rfl ?_)|refine aq ?_|refine af ?_|refine ai ?_)
 refine ⟨hb.1, hb.2, nN h (cF h2) hb rfl ?_⟩
 repeat (first|(refine aj h ?_;clear h;intro kb M h)|(refine ak h ?_;clear h;intro M h)|refine St.to h ?_|(apply Exists.intro;(repeat apply Exists.intro);refine And.intro rfl ?_)|refine aq ?_|refine af ?_|refine ai ?_)
 refine xI h h2 ?_ ?_
 ·intro nO
  rw [if_pos (by omega)] at k
  refine ⟨_, _, _, _, rfl, af ?_⟩
  exact k _ _ (hC.sub eX)
 ·intro hlt b' c' M' h'
  clear h hC
  have h := h'
  clear h'
  rw [if_neg (by omega)] at k
  refine ⟨_, _, _, _, rfl, ai ?_⟩
  repeat (first|(refine aj h ?_;clear h;intro kb M h)|(refine ak h ?_;clear h;intro M h)|refine St.to h ?_|(apply Exists.intro;(repeat apply Exists.intro);refine And.intro rfl ?_)|refine aq ?_|refine af ?_|refine ai ?_)
  refine oP h dx fun q2 yH => ?_
  repeat (first|(refine aj h ?_;clear h;intro kb M h)|(refine ak h ?_;clear h;intro M h)|refine St.to h ?_|(apply Exists.intro;(repeat apply Exists.intro);refine And.intro rfl ?_)|refine aq ?_|refine af ?_|refine ai ?_)
  have hlen : (aa x g).fs.length + 1 = ((aa x g).fs ++ [(⟨i.a, 0, [aF x g i.b, 0, 0, 0, 0, 0, 0, 0], i.c⟩ : cB)]).length := by simp
  have h5 := iC (A := some ⟨b', 0, none⟩) (fs := (aa x g).fs ++ [⟨i.a, 0, [aF x g i.b, 0, 0, 0, 0, 0, 0, 0], i.c⟩]) h gb hlen
  have hi := (List.getElem?_eq_some_iff.1 dx).1
  have h6 := h5.dw dk gb dx (by rw [List.length_zip]; omega)
  rw [rj] at h6
  have jA : cU (gg.set g.toNat (some ⟨b', 0, none⟩, c')) a (x.aJ g ⟨(aa x g).st, (aa x g).fs ++ [⟨i.a, 0, [aF x g i.b, 0, 0, 0, 0, 0, 0, 0], i.c⟩], (aa x g).wt⟩) := ⟨by simpa [Wd.aJ] using l1, by simpa [Wd.aJ] using l2, l3, l4⟩
  have h7 := aD (a := a) (p := p) (pa := pa) (dr := dr) (gg := gg.set g.toNat (some ⟨b', 0, none⟩, c')) (x := x.aJ g ⟨(aa x g).st, (aa x g).fs ++ [⟨i.a, 0, [aF x g i.b, 0, 0, 0, 0, 0, 0, 0], i.c⟩], (aa x g).wt⟩) jA h6 b
  exact k _ _ (h7.sub eX)
theorem yR {a : WA} {k : Int} {c : Lk} (hl : cU gg a x) : cU gg a (x.dK k c) := by
 obtain ⟨l1, l2, l3, l4⟩ := hl
 exact ⟨l1, l2, l3, by simpa [Wd.dK] using l4⟩
theorem Dv (hg : aI x g) (hk : uA x i.a) (hs : x.Sm) : dn R pa p dr 53 x g i (.on (x.lock g i)) L L := by
 intro gg b bs c M K Kp Q h cS k
 refine lO ?_
 replace k : ∀ gQ M', Hp R (aM (aO pa p gQ dr) b (x.lock g i) :: Q :: L) M' → K (.tuple #[]) M' := k
 unfold Wd.lock at k
 obtain ⟨s1, s2, s3, s4, s5, s6, s7, s8⟩ := hs
 obtain ⟨k0, k1⟩ := hk
 refine aj h ?_
 clear h
 intro kb M h
 have h' := bz h (b := b)
 clear h
 obtain ⟨a, hl, h⟩ := h'
 have hl' := hl
 obtain ⟨l1, l2, l3, l4⟩ := hl'
 refine bQ h (aR h ⟨k0, by omega, ?_⟩)
 obtain ⟨lb, hlb⟩ := aP (l := a.lb) (i := i.a.toNat) (by omega)
 refine oP h hlb fun q hq => ?_
 obtain ⟨y, hy⟩ := aP (l := x.aH) (i := i.a.toNat) (by omega)
 have e : jJ x i.a = y := by simp [jJ, hy]
 rw [e] at k
 replace h := h.cZ c9 hlb hy
 refine xJ h (Nat.le_trans (s6 y (List.mem_of_getElem? hy)) (by decide)) ?_
 clear h; intro M h
 replace h := h.dw c9 lb hlb (by omega)
 replace h := aD (a := a) (p := p) (pa := pa) (dr := dr) (gg := gg) (x := x.dK i.a (y.take g).1) (yR hl) h b
 refine j4 ?_
 cases ht : (y.take g).2 with
 | true =>
  rw [ht] at k
  simp only [if_true] at k
  refine ai ?_
  exact k _ _ (h.sub eX)
 | false =>
  rw [ht] at k
  simp only [Bool.false_eq_true, if_false] at k
  refine af ?_
  refine aR h (aR h (aR h (aR h ?_)))
  refine gO (b := b) (i := i) h hg.1 (show g < (x.dK i.a (y.take g).1).gs.length from hg.2.1) ?_
  clear h; intro M h
  exact ⟨rfl, k _ _ (h.sub eX)⟩
theorem zT (hk : iD x g i) (hs : x.Sm) : dn R pa p dr 54 x g i (x.unlock g i) L L := by
 intro gg b bs c M K Kp Q h cS k
 refine jE ?_
 unfold Wd.unlock at k
 obtain ⟨s1, s2, s3, s4, s5, s6, s7, s8⟩ := hs
 obtain ⟨⟨k0, k1⟩, hw⟩ := hk
 refine aj h ?_
 clear h
 intro kb M h
 have h' := bz h (b := b)
 clear h
 obtain ⟨a, hl, h⟩ := h'
 have hl' := hl
 obtain ⟨l1, l2, l3, l4⟩ := hl'
 refine bQ h (aR h ⟨k0, by omega, ?_⟩)
 obtain ⟨lb, hlb⟩ := aP (l := a.lb) (i := i.a.toNat) (by omega)
 refine oP h hlb fun q hq => ?_
 obtain ⟨y, hy⟩ := aP (l := x.aH) (i := i.a.toNat) (by omega)
 have e : jJ x i.a = y := by simp [jJ, hy]
 rw [e] at k hw
 replace h := h.cZ c9 hlb hy
 refine xK h (Nat.le_trans (s6 y (List.mem_of_getElem? hy)) (by decide)) ?_
 clear h; intro M h
 replace h := h.dw c9 lb hlb (by omega)
 replace h := aD (a := a) (p := p) (pa := pa) (dr := dr) (gg := gg) (x := x.dK i.a (y.lW g).1) (yR hl) h b
 refine ⟨_, _, rfl, ?_⟩
 refine fA.2 ⟨fun hn => ?_, fun hn => ?_⟩
 ·rw [if_pos hn] at k
  exact k _ _ (h.sub eX)
 rw [if_neg (by simpa using hn)] at k
 refine fA.2 ⟨fun sM => ?_, fun sM => ?_⟩
 ·rw [if_pos sM] at k
  obtain ⟨w0, w1⟩ := hw sM
  refine eD (b := b) h w0 (show _ < ((x.dK i.a (y.lW g).1).gs.length : Int) from w1) (by show x.ready.length ≤ _; omega) ?_
  clear h; intro M h
  exact ⟨rfl, k _ _ (h.sub eX)⟩
 ·rw [if_neg (by simpa using sM)] at k
  exact k _ _ (h.sub eX)
theorem Dw : dn R pa p dr 56 x g i (.cT i.a x) L L := by
 intro gg b bs c M K Kp Q h cS k
 refine lQ ?_
 refine aj h ?_
 clear h
 intro kb M h
 refine aR h ?_
 exact k _ _ (h.sub eX)
theorem BW : dn R pa p dr 48 x g i (.on x) L L := by
 intro gg b bs c M K Kp Q h cS k
 refine kC ?_
 refine aj h ?_
 clear h
 intro kb M h
 exact k _ _ (h.sub eX)
theorem Dx {d : fU} (hg : aI x g) (ha : aQ i.a) (su : 0 ≤ (aa x g).top.pc ∧ (aa x g).top.pc < 1000000000) (hd : fI R dr 4 i.b d L L2) : dn R pa p dr 34 x g i (x.rand g i d) L L2 := by
 intro gg b bs c M K Kp Q h cS k
 refine lG ?_
 refine aj h ?_
 clear h
 intro kb M h
 have uO : M.ld ⟨b, 0 + 14, none⟩ = some dr := by
  obtain ⟨a, hl, h9⟩ := bz h (b := b)
  exact eO h9
 rw [uO]
 refine Bc (aR h ?_)
 have h5 : Hp R (sep [aM (aO pa p gg dr) b x, pt kb [.int .i64 i.op, .int .i64 i.a, .int .i64 i.b, .int .i64 i.c] 31, Q] :: L) M := Hp.bC.2 (h.sub eX)
 refine hd _ _ _ _ h5 ?_
 clear h h5 uO
 cases d with
 | e7 l =>
  dsimp only at k ⊢
  intro M h5
  have h : Hp R (aM (aO pa p gg dr) b x :: pt kb [.int .i64 i.op, .int .i64 i.a, .int .i64 i.b, .int .i64 i.c] 31 :: Q :: L2) M := Hp.bC.1 h5
  exact k _ _ (h.sub eX)
 | num v =>
  dsimp only at k ⊢
  intro M h5
  have h : Hp R (aM (aO pa p gg dr) b x :: pt kb [.int .i64 i.op, .int .i64 i.a, .int .i64 i.b, .int .i64 i.c] 31 :: Q :: L2) M := Hp.bC.1 h5
  clear h5
  refine gN ?_
  refine xY (b := b) h hg cS rfl ?_
  rw [gF su.1 (by omega)]
  refine xX (b := b) h hg cS rfl rfl ?_
  clear h; intro M h
  refine aR h ⟨ha.1, ha.2, ?_⟩
  refine gP (b := b) h (mR hg) cS ha (by rw [uy hg]) ?_
  clear h; intro M h
  exact k _ _ (h.sub eX)
abbrev qj (pa : PA) (p : cR) (dr : Value) (a : WA) (x : Wd) (nr : Nat) (A : Option Addr) (n c : Nat) (s : Int) : List Value :=
 [.slice pa.f p.funcs.length pa.fc, .slice pa.c p.mA.length pa.cc, .int .i64 p.aH, .slice pa.k p.cases.length pa.kc, .slice a.ag a.gb.length a.cg, .int .u64 x.clock,
  .slice a.ac a.cb.length a.cc, .slice a.al a.lb.length a.cl, .slice A n c, .int .u64 s, .slice a.ao x.out.length a.co, .int .i64 x.end_, .int .i64 x.code, .slice a.ar nr a.cr, dr]
theorem BX {a : WA} {nr T : Nat} : Cy b (0 + 8) (fun A n c s => pt b (qj pa p dr a x nr A n c s) T) :=
 ⟨fun R L M A n c s h => eO h, fun R L M A n c s h => eO h, fun R L M A A' n c n' c' s G h k => ak h k, fun R L M A n c s s' G h k => ak h k⟩
theorem BY (hg : aI x g) (ha : aQ i.a) (hs : x.hl.length < 1000000) : dn R pa p dr 52 x g i (.on (x.sleep g i)) L L := by
 intro gg b bs c M K Kp Q h cS k
 refine kD ?_
 replace k : ∀ gQ M', Hp R (aM (aO pa p gQ dr) b (x.sleep g i) :: Q :: L) M' → K (.tuple #[]) M' := k
 have uu := hg
 obtain ⟨h0, h1, h2, h3⟩ := uu
 unfold Wd.sleep at k
 refine aj h ?_
 clear h
 intro kb M h
 refine aR h ⟨ha.1, ha.2, ?_⟩
 refine vW (b := b) h hg cS ha rfl ?_
 have hC := h
 have h' := bz h (b := b)
 clear h
 obtain ⟨a, hl, h⟩ := h'
 have hl' := hl
 obtain ⟨l1, l2, l3, l4⟩ := hl'
 have e : (if (1048576 : Int) < aF x g i.a then 1048576 else aF x g i.a) = hG x g i := rfl
 rw [e]
 refine aG.2 ⟨fun hn => ?_, fun hn => ?_⟩
 ·rw [if_pos (by omega)] at k
  refine aR h ?_
  clear hC
  replace h : Hp R (pt b (qj pa p dr a x x.ready.length a.ah x.hl.length a.ch x.fO) 76 :: cJ a.ah a.ch x.hl :: bn dk a.gb (x.gs.zip gg) :: pF a.ag a.cg a.gb :: pG a.ac a.cc a.cb :: bn aS a.cb x.au :: pH a.al a.cl a.lb :: bn c9 a.lb x.aH :: oK a.ao a.co x.out :: ur a.ar a.cr x.ready :: Q :: L) M := h.sub eX
  refine zQ (BX (a := a) (x := x)) h hs ?_
  clear h; intro v A' c' M h
  refine gN ?_
  have h9 : Hp R (aM (aO pa p gg dr) b { x with hl := gS x.hl ⟨IntKind.wrap .u64 (x.clock + IntKind.wrap .u64 (hG x g i)), x.fO, g⟩, fO := IntKind.wrap .u64 (x.fO + 1) } :: Q :: L) M := by
   have := zO (l := x.hl) (x := ⟨IntKind.wrap .u64 (x.clock + IntKind.wrap .u64 (hG x g i)), x.fO, g⟩)
   rw [← this] at h
   exact fG (a := { a with ah := A', ch := c' }) (x := { x with hl := gS x.hl ⟨IntKind.wrap .u64 (x.clock + IntKind.wrap .u64 (hG x g i)), x.fO, g⟩, fO := IntKind.wrap .u64 (x.fO + 1) }) ⟨l1, l2, l3, l4⟩ (h.sub eX)
  clear h hl l1 l2 l3 l4
  have h := h9
  clear h9
  have h' := dP (x := { x with hl := gS x.hl ⟨IntKind.wrap .u64 (x.clock + IntKind.wrap .u64 (hG x g i)), x.fO, g⟩, fO := IntKind.wrap .u64 (x.fO + 1) }) h (b := b) h0 h1 cS
  clear h
  obtain ⟨a2, gb, hl, dx, h⟩ := h'
  have hl' := hl
  obtain ⟨l1, l2, l3, l4⟩ := hl'
  refine bQ h ⟨h0, by dsimp only at l1; omega, ?_⟩
  refine oP h dx fun q hq => ?_
  refine bh ?_
  refine ak h ?_
  clear h; intro M h
  replace h := bI h gb hl dx cS
  have jA := bP (y := { aa x g with st := 3 }) (g := g) hl
  replace h := aD (a := a2) (p := p) (pa := pa) (dr := dr) (gg := gg) (x := { x.aJ g { aa x g with st := 3 } with hl := gS x.hl ⟨IntKind.wrap .u64 (x.clock + IntKind.wrap .u64 (hG x g i)), x.fO, g⟩, fO := IntKind.wrap .u64 (x.fO + 1) }) jA h b
  exact k _ _ (h.sub eX)
 ·rw [if_neg (by omega)] at k
  exact k _ _ (hC.sub eX)
theorem Dy {l : List Int} : ∀ {x : Wd}, (l.foldl Wd.bX x).gs.length = x.gs.length := by
 induction l with
 | nil => intro x; rfl
 | cons a l ih => intro x; rw [List.foldl_cons, ih]; simp [Wd.bX, Wd.aJ]
theorem xZ {l : List Int} : ∀ {x : Wd}, (l.foldl Wd.bX x).ready = x.ready ++ l := by
 induction l with
 | nil => intro x; simp
 | cons a l ih => intro x; rw [List.foldl_cons, ih]; simp [Wd.bX]
theorem ya (h : Hp R L M) [o : xU b L pa p x L'] (hs : x.hl.length ≤ 1000000) (hw : ∀ y ∈ (bM x.hl.length x.hl (IntKind.wrap .u64 (x.clock + 1))).2, 0 ≤ y.id ∧ y.id < x.gs.length)
  (k : ∀ R' A c M', R.le R' → RS cI R' A c x.tick.ready → Hp R' (aM (b9 pa p) b x.tick :: L') M' → K (.slice A x.tick.ready.length c) M') :
  ae Try.prog 18 #[.pointer (some ⟨b, 0, none⟩)] M K Kp := by
 refine lD ?_
 have h' := cM h (b := b)
 clear h
 obtain ⟨a, gg, dr, n, hl, h⟩ := h'
 have hl' := hl
 obtain ⟨l1, l2, l3, l4⟩ := hl'
 unfold Wd.tick at k
 dsimp only at k
 refine aR h ?_
 refine fA.2 ⟨fun he => ?_, fun he => ?_⟩
 ·rw [if_pos he] at k
  exact k R none 0 M (Mem.le_refl _) (RS.nil _ _) (gh (a := a) (gg := gg) (dr := dr) (n := n) (x := { x with ready := [] }) hl h)
 rw [if_neg (by simpa using he)] at k
 refine aR h ?_
 refine ak h ?_
 clear h; intro M h
 refine ak h ?_
 clear h; intro M h
 refine aR h ?_
 replace h : Hp R (pt b (qj pa p dr { a with ar := none, cr := 0 } { x with clock := IntKind.wrap .u64 (x.clock + 1) } 0 a.ah x.hl.length a.ch x.fO) 76 :: cJ a.ah a.ch x.hl :: bn dk a.gb (x.gs.zip gg) :: pF a.ag a.cg a.gb :: pG a.ac a.cc a.cb :: bn aS a.cb x.au :: pH a.al a.cl a.lb :: bn c9 a.lb x.aH :: oK a.ao a.co x.out :: L') M := h.sub (by repeat (first | exact .refl | refine .cons (by repeat (first | exact .here | apply cu.there)) ?_ | apply Sub.drop))
 refine zR (BX (a := { a with ar := none, cr := 0 }) (x := { x with clock := IntKind.wrap .u64 (x.clock + 1) })) h hs ?_
 clear h; intro A' c' M h
 have hlen : (bM x.hl.length x.hl (IntKind.wrap .u64 (x.clock + 1))).2.length ≤ x.hl.length := by
  have : ∀ (f : Nat) (l : List ay) (now : Int), (bM f l now).2.length ≤ f := by
   intro f
   induction f with
   | zero => intro l now; exact Nat.le_refl _
   | succ f ih =>
    intro l now; unfold bM; split
    ·have := ih (br l 0) now; simp; exact this
    ·exact Nat.zero_le _
  exact this _ _ _
 generalize bM x.hl.length x.hl (IntKind.wrap .u64 (x.clock + 1)) = r at h k hw hlen
 refine bu ?_
 have h0 := h.cE cI 3
 have hW : Hp R (aM (aO pa p gg dr) b { x with clock := IntKind.wrap .u64 (x.clock + 1), hl := r.1, ready := [] } :: cJ A' c' r.2 :: L') M :=
  fG (a := { a with ar := none, cr := 0 }) (x := { x with clock := IntKind.wrap .u64 (x.clock + 1), hl := r.1, ready := [] }) ⟨l1, l2, l3, l4⟩ (h0.sub (by repeat (first | exact .refl | refine .cons (by repeat (first | exact .here | apply cu.there)) ?_ | apply Sub.drop)))
 clear h h0
 generalize Mf : ({ x with clock := IntKind.wrap .u64 (x.clock + 1), hl := r.1, ready := [] } : Wd) = x1 at hW k
 have PR : x1.gs.length = x.gs.length := by rw [← Mf]
 have hrd : x1.ready = [] := by rw [← Mf]
 refine ⟨fun d vs M => ∃ j : Nat, vs = [.int .i64 (j : Int)] ∧ d = r.2.length - j ∧ j ≤ r.2.length ∧ Hp R (aM (aO pa p gg dr) b (((r.2.take j).map (·.id)).foldl Wd.bX x1) :: cJ A' c' r.2 :: L') M, ⟨_, 0, rfl, rfl, by omega, hW⟩, ?_⟩
 clear hW
 rintro d _ nn M ⟨j, Iy, hd, hj, h⟩
 simp only [List.cons.injEq, Value.int.injEq, and_true, true_and] at Iy
 subst Iy
 refine aG.2 ⟨fun hlt => ?_, fun hge => ?_⟩
 ·obtain ⟨w, Mi⟩ := aP (l := r.2) (i := j) (by omega)
  have Nr := hw w (List.mem_of_getElem? Mi)
  obtain ⟨q, rfl⟩ := h.bO (A := A') (by omega) (by decide)
  have Jp := h.src (A := some ⟨q, 0, none⟩)
  refine ⟨by omega, hlt, bh ?_⟩
  refine gT h Jp Mi (by simp) (by simp) (by simp) ?_
  clear Jp
  refine aj h ?_
  clear h; intro kw M h
  refine ak h ?_
  clear h; intro M h
  refine ak h ?_
  clear h; intro M h
  refine ak h ?_
  clear h; intro M h
  refine aR h ?_
  refine eD (b := b) h Nr.1 (by rw [Dy, PR]; exact Nr.2) (by rw [xZ, hrd]; simp; omega) ?_
  clear h; intro M h
  refine ⟨rfl, r.2.length - (j + 1), by omega, j + 1, by rw [bk (by omega)], rfl, by omega, ?_⟩
  rw [gm Mi, List.map_append, List.foldl_append]
  exact h.sub (by repeat (first | exact .refl | refine .cons (by repeat (first | exact .here | apply cu.there)) ?_ | apply Sub.drop))
 ·have Gl : j = r.2.length := by omega
  subst Gl
  rw [List.take_length] at h
  generalize hz : (r.2.map (·.id)).foldl Wd.bX x1 = z at h k
  have h' := bz h (b := b)
  clear h
  obtain ⟨a2, jA, h⟩ := h'
  refine bQ h ?_
  obtain ⟨R', hle, Mb, h6⟩ := h.iX a2.ar
  exact k R' _ _ _ hle Mb (gh (a := a2) (n := z.ready.length) (gg := gg) (dr := dr) jA (h6.sub (by repeat (first | exact .refl | refine .cons (by repeat (first | exact .here | apply cu.there)) ?_ | apply Sub.drop))))
theorem rz (h : Hp R L M) [o : xU b L pa p x L'] (hs : x.hl.length ≤ 1000000)
  (k : ∀ A c M', Hp R (cJ A c (bK x.hl.length x.hl) :: aM (b9 pa p) b x :: L') M' → K (.slice A (bK x.hl.length x.hl).length c) M') :
  ae Try.prog 20 #[.pointer (some ⟨b, 0, none⟩)] M K Kp := by
 refine iy ?_
 have h' := cM h (b := b)
 clear h
 obtain ⟨a, gg, dr, n, hl, h⟩ := h'
 replace h : Hp R (pt b (qj pa p dr a x n a.ah x.hl.length a.ch x.fO) 76 :: cJ a.ah a.ch x.hl :: bn dk a.gb (x.gs.zip gg) :: pF a.ag a.cg a.gb :: pG a.ac a.cc a.cb :: bn aS a.cb x.au :: pH a.al a.cl a.lb :: bn c9 a.lb x.aH :: oK a.ao a.co x.out :: L') M := h.sub eX
 refine zS (BX (a := a) (x := x)) h hs ?_
 clear h; intro A' c' M h
 refine bu ?_
 have h2 : Hp R (pt b (jg pa p dr a x n) 76 :: bn dk a.gb (x.gs.zip gg) :: mP a x (cJ A' c' (bK x.hl.length x.hl) :: L')) M := h.sub eX
 have h3 := gh (a := a) (gg := gg) (dr := dr) (n := n) (x := x) hl h2
 exact k _ _ _ h3.swap
end
def nW (x : Wd) (g : Int) (i : cn) : Out (Wd × Bool) → Prop
 | .on (y, false) => aI y g ∧ (aa y g).fs.length = (aa x g).fs.length ∧ ri y i.a
 | .on (_, true) => True
 | .cT _ _ => True
 | .e7 _ _ => True
instance (x : Wd) (g : Int) (i : cn) (r : Out (Wd × Bool)) : Decidable (nW x g i r) := match r with
 | .on (y, false) => by unfold nW; infer_instance
 | .on (_, true) => isTrue trivial
 | .cT _ _ => isTrue trivial
 | .e7 _ _ => isTrue trivial
theorem zU {p : cR} {x : Wd} {g : Int} {i : cn} (h : aI x g ∧ aQ i.b ∧ jt p x i.a (aF x g i.b) ∧ nW x g i (x.put p i.a (aF x g i.b))) : xN p x g i := by
 obtain ⟨h1, h2, h3, h4⟩ := h
 refine ⟨h1, h2, h3, ?_⟩
 generalize x.put p i.a (aF x g i.b) = r at h4
 match r, h4 with
 | .on (y, false), h4 => exact h4
 | .on (y, true), _ => trivial
 | .cT _ _, _ => trivial
 | .e7 _ _, _ => trivial
instance (x : Wd) (g : Int) (i : cn) : Decidable (oR x g i) := by unfold oR; infer_instance
instance (p : cR) (x : Wd) (i : cn) : Decidable (jf p x i) := by unfold jf; infer_instance
def rC (p : cR) (x : Wd) (g : Int) (i : cn) (k : Int) : Prop :=
 let c := (av p i).getD k.toNat ⟨0, 0, 0⟩
 let x1 := x.next g
 0 ≤ k ∧ k < (av p i).length ∧ aQ c.bL ∧
  if c.way = 1 then jt p x1 c.ch (aF x1 g c.bL) ∧ (match x1.put p c.ch (aF x1 g c.bL) with
   | .on (y, _) => aI y g ∧ (aa y g).fs.length = (aa x g).fs.length
   | _ => True)
  else nS x1 c.ch ∧ aI (x1.get c.ch).1 g ∧ (aa (x1.get c.ch).1 g).fs.length = (aa x g).fs.length
instance (g : Int) (n : Nat) (r : Out (Wd × Bool)) : Decidable (match r with
   | .on (y, _) => aI y g ∧ (aa y g).fs.length = n
   | _ => True) := match r with
 | .on (y, _) => by dsimp only; infer_instance
 | .cT _ _ => isTrue trivial
 | .e7 _ _ => isTrue trivial
instance (p : cR) (x : Wd) (g : Int) (i : cn) (k : Int) : Decidable (rC p x g i k) := by unfold rC; infer_instance
def iE (p : cR) (x : Wd) (g : Int) (i : cn) (d : fU) : Bool :=
 decide (aI x g ∧ nV p i ∧ aQ i.c ∧ x.Sm ∧ (aa x g).top.pc < 1000000000 ∧ 0 ≤ (aa x g).top.pc ∧ (∀ c ∈ av p i, c.Ok x.au.length)) &&
 (match d with
  | .e7 _ => true
  | .num v => (enabled (av p i) x.au).isEmpty || decide (0 ≤ v ∧ v < (enabled (av p i) x.au).length ∧ rC p x g i ((enabled (av p i) x.au).getD v.toNat 0)))
theorem wh {p : cR} {x : Wd} {g : Int} {i : cn} {d : fU} (h : iE p x g i d = true) : wg p x g i d := by
 unfold iE at h
 rw [Bool.and_eq_true] at h
 obtain ⟨h1, h2⟩ := h
 obtain ⟨a1, a2, a3, a4, a5, a6, a7⟩ := of_decide_eq_true h1
 refine ⟨a1, a2, a3, a4, a5, a6, a7, ?_⟩
 cases d with
 | e7 l => split <;> trivial
 | num v =>
  dsimp only at h2
  cases he : enabled (av p i) x.au with
  | nil => trivial
  | cons q l =>
   rw [he] at h2
   rw [List.isEmpty_cons, Bool.false_or] at h2
   have h3 := of_decide_eq_true h2
   exact h3
def jj (p : cR) (x : Wd) (g : Int) (i : cn) : Option (Out Wd) :=
 if i.op = 10 then (if aI x g ∧ aQ i.a ∧ aQ (aa x g).top.lC then some (.on (x.back g i)) else none)
 else if i.op = 11 then (if aI x g ∧ aQ i.b ∧ aQ i.c ∧ x.Sm then some (x.spawn g i) else none)
 else if i.op = 13 then (if (aI x g ∧ aQ i.b ∧ jt p x i.a (aF x g i.b) ∧ nW x g i (x.put p i.a (aF x g i.b))) ∧ x.Sm then some (x.send p g i) else none)
 else if i.op = 14 then (if oR x g i ∧ x.Sm then some (.on (x.recv g i)) else none)
 else if i.op = 15 then (if jf p x i ∧ x.Sm then some (x.shut p i) else none)
 else if i.op = 20 then (if aI x g ∧ aQ i.a ∧ x.Sm then some (x.emit g i) else none)
 else if i.op = 9 then (if aI x g ∧ aQ i.b then some (x.call g i) else none)
 else if i.op = 12 then some (.on x)
 else if i.op = 17 then (if aI x g ∧ aQ i.a ∧ x.hl.length < 1000000 then some (.on (x.sleep g i)) else none)
 else if i.op = 18 then (if aI x g ∧ uA x i.a ∧ x.Sm then some (.on (x.lock g i)) else none)
 else if i.op = 19 then (if iD x g i ∧ x.Sm then some (x.unlock g i) else none)
 else if i.op = 22 then some (.cT i.a x)
 else none
def eM (p : cR) (x : Wd) (g : Int) : Option cn := match p.funcs[(aa x g).top.fn.toNat]? with
 | none => none
 | some code => code[(aa x g).top.pc.toNat]?
def fJ (x : Wd) (g : Int) : Prop := 0 ≤ g ∧ g < x.gs.length ∧ x.end_ = 0 ∧ (aa x g).st = 1
instance (x : Wd) (g : Int) : Decidable (fJ x g) := by unfold fJ; infer_instance
def asks (p : cR) (x : Wd) (g : Int) : Option (Int × Int) :=
 if fJ x g then match eM p x g with
  | none => none
  | some i => if i.op = 21 then some (4, i.b) else if i.op = 16 then (if enabled (av p i) x.au = [] then none else some (3, (enabled (av p i) x.au).length)) else none
 else none
def gG (p : cR) (x0 : Wd) (g : Int) (d : fU) : Option (Out Wd × Bool) :=
 let x := { x0 with ready := [] }
 if fJ x g then
  if aI x g ∧ 0 ≤ (aa x g).top.fn ∧ 0 ≤ (aa x g).top.pc ∧ (aa x g).top.pc < 1000000000 then
   match p.funcs[(aa x g).top.fn.toNat]? with
   | none => none
   | some code => match code[(aa x g).top.pc.toNat]? with
    | none => some (.cT (-7) x, false)
    | some i =>
     if 0 ≤ i.op ∧ i.op ≤ 8 then (if i.eZ then some (.on (x.aJ g ((aa x g).bj ((aa x g).top.next.pure i))), false) else none)
     else if i.op = 16 then (if iE p x g i d = true then (if g < (x.choose p g i d).fin.gs.length then some (x.choose p g i d, false) else none) else none)
     else if i.op = 21 then (if aQ i.a then (if g < (x.rand g i d).fin.gs.length then some (x.rand g i d, false) else none) else none)
     else match jj p (x.next g) g i with
      | none => none
      | some r => if g < r.fin.gs.length then some (r, xT i.op r) else none
  else none
 else some (.on x, true)
def exec (p : cR) (x : Wd) (g : Int) (d : fU) : Option (Wd × Bool) := match gG p x g d with
 | some (.on y, rest) => some (y, jh y g rest)
 | some (.cT n y, rest) => some ({ y with end_ := 2, code := n }, jh { y with end_ := 2, code := n } g rest)
 | _ => none
section
variable {R : Mem} {L L' L2 : List HP} {M : Mem} {K : Value → Mem → Prop} {Kp : List PanicEntry → Mem → Prop} {pa : PA} {p : cR} {gg : List GA} {dr : Value} {b : Nat} {x : Wd} {g : Int}
theorem cf {α : Type} {c : Prop} [Decidable c] {a b : α} (h : (if c then some a else none) = some b) : c ∧ b = a := by
 split at h
 ·rename_i hc; cases h; exact ⟨hc, rfl⟩
 ·cases h
theorem zV {i : cn} {r : Out Wd} (hp : lX R pa p) (h : jj p x g i = some r) : ∃ fn, sr FG i.op = some (.func (.func fn) #[] #[]) ∧ (1 < fn ∧ fn < 91) ∧ i.op ≠ 16 ∧ i.op ≠ 21 ∧ 8 < i.op ∧ ∀ L, dn R pa p dr fn x g i r L L := by
 unfold jj at h
 by_cases e : i.op = 10
 ·rw [if_pos e] at h
  obtain ⟨hc, rfl⟩ := cf h
  exact ⟨46, by rw [e]; rfl, by decide, by omega, by omega, by omega, fun L => Dq hc.1 hc.2.1 hc.2.2⟩
 rw [if_neg e] at h
 clear e
 by_cases e : i.op = 11
 ·rw [if_pos e] at h
  obtain ⟨hc, rfl⟩ := cf h
  exact ⟨47, by rw [e]; rfl, by decide, by omega, by omega, by omega, fun L => BR hc.1 hc.2.1 hc.2.2.1 hc.2.2.2⟩
 rw [if_neg e] at h
 clear e
 by_cases e : i.op = 13
 ·rw [if_pos e] at h
  obtain ⟨hc, rfl⟩ := cf h
  exact ⟨49, by rw [e]; rfl, by decide, by omega, by omega, by omega, fun L => Dk hp (zU hc.1) hc.2⟩
 rw [if_neg e] at h
 clear e
 by_cases e : i.op = 14
 ·rw [if_pos e] at h
  obtain ⟨hc, rfl⟩ := cf h
  exact ⟨50, by rw [e]; rfl, by decide, by omega, by omega, by omega, fun L => Dl hc.1 hc.2⟩
 rw [if_neg e] at h
 clear e
 by_cases e : i.op = 15
 ·rw [if_pos e] at h
  obtain ⟨hc, rfl⟩ := cf h
  exact ⟨51, by rw [e]; rfl, by decide, by omega, by omega, by omega, fun L => Dp hp hc.1 hc.2⟩
 rw [if_neg e] at h
 clear e
 by_cases e : i.op = 20
 ·rw [if_pos e] at h
  obtain ⟨hc, rfl⟩ := cf h
  exact ⟨55, by rw [e]; rfl, by decide, by omega, by omega, by omega, fun L => Dm hc.1 hc.2.1 hc.2.2⟩
 rw [if_neg e] at h
 clear e
 by_cases e : i.op = 9
 ·rw [if_pos e] at h
  obtain ⟨hc, rfl⟩ := cf h
  exact ⟨45, by rw [e]; rfl, by decide, by omega, by omega, by omega, fun L => Du hc.1 hc.2⟩
 rw [if_neg e] at h
 clear e
 by_cases e : i.op = 12
 ·rw [if_pos e] at h
  cases h
  exact ⟨48, by rw [e]; rfl, by decide, by omega, by omega, by omega, fun L => BW⟩
 rw [if_neg e] at h
 clear e
 by_cases e : i.op = 17
 ·rw [if_pos e] at h
  obtain ⟨hc, rfl⟩ := cf h
  exact ⟨52, by rw [e]; rfl, by decide, by omega, by omega, by omega, fun L => BY hc.1 hc.2.1 hc.2.2⟩
 rw [if_neg e] at h
 clear e
 by_cases e : i.op = 18
 ·rw [if_pos e] at h
  obtain ⟨hc, rfl⟩ := cf h
  exact ⟨53, by rw [e]; rfl, by decide, by omega, by omega, by omega, fun L => Dv hc.1 hc.2.1 hc.2.2⟩
 rw [if_neg e] at h
 clear e
 by_cases e : i.op = 19
 ·rw [if_pos e] at h
  obtain ⟨hc, rfl⟩ := cf h
  exact ⟨54, by rw [e]; rfl, by decide, by omega, by omega, by omega, fun L => zT hc.1 hc.2⟩
 rw [if_neg e] at h
 clear e
 by_cases e : i.op = 22
 ·rw [if_pos e] at h
  cases h
  exact ⟨56, by rw [e]; rfl, by decide, by omega, by omega, by omega, fun L => Dw⟩
 rw [if_neg e] at h
 clear e
 cases h
theorem yb {l : List Int} (h : Hp R (aM (b9 pa p) b x :: L) M) : Hp R (aM (b9 pa p) b { x with ready := l } :: L) M := by
 obtain ⟨a, gg, dr, n, hl, h⟩ := cM h (b := b)
 exact gh (a := a) (gg := gg) (dr := dr) (n := n) (x := { x with ready := l }) hl h
theorem fI.cons {kind n : Int} {d : fU} {Q : HP} (h : fI R dr kind n d L L2) : fI R dr kind n d (Q :: L) (Q :: L2) := by
 intro Q' M K Kp hM k
 refine h (sep [Q', Q]) M K Kp (Hp.bC.2 hM) ?_
 cases d with
 | num v => exact fun M' h' => k M' (Hp.bC.1 h')
 | e7 l => exact fun M' h' => k M' (Hp.bC.1 h')
theorem oU {d : fU} {r : Out Wd} {rest : Bool} (h : Hp R L M) [o : xU b L pa p x L'] (hp : lX R pa p) (uO : ∃ f c d, dr = .func f c d) (he : gG p x g d = some (r, rest))
  (hd : match asks p { x with ready := [] } g with | none => L2 = L' | some (kd, n) => fI R dr kd n d L' L2) (k : lj R pa p b g L2 K Kp r rest) :
  ae Try.prog 9 #[.pointer (some ⟨b, 0, none⟩), .int .i64 g, dr] M K Kp := by
 unfold gG at he
 dsimp only at he
 split at he
 ·rename_i hg
  have uu := hg
  obtain ⟨h0, h1, IF, pI⟩ := uu
  split at he
  ·rename_i su
   obtain ⟨BZ, PS, Ns, Nt⟩ := su
   split at he
   ·cases he
   ·rename_i code fT
    have done : ∀ (r : Out Wd) (rest : Bool), lj R pa p b g L2 K Kp r rest → (∀ Q, Step R pa p dr { x with ready := [] } g code r rest (Q :: L') (Q :: L2)) → g < r.fin.gs.length → ae Try.prog 9 #[.pointer (some ⟨b, 0, none⟩), .int .i64 g, dr] M K Kp := by
     intro r rest k hs hl
     exact xV (x := x) h hp (show aI x g from BZ) IF pI PS fT ⟨Ns, Nt⟩ uO hs hl k
    have zW : ∀ i, code[(aa x g).top.pc.toNat]? = some i → asks p { x with ready := [] } g = if i.op = 21 then some (4, i.b) else if i.op = 16 then (if enabled (av p i) x.au = [] then none else some (3, ((enabled (av p i) x.au).length : Int))) else none := by
     intro i hi
     unfold asks
     rw [if_pos hg]
     unfold eM
     rw [show p.funcs[(aa { x with ready := [] } g).top.fn.toNat]? = some code from fT]
     dsimp only
     rw [show code[(aa { x with ready := [] } g).top.pc.toNat]? = some i from hi]
    split at he
    ·rename_i hnone
     cases he
     have e : asks p { x with ready := [] } g = none := by
      unfold asks
      rw [if_pos hg]
      unfold eM
      rw [show p.funcs[(aa { x with ready := [] } g).top.fn.toNat]? = some code from fT]
      dsimp only
      rw [hnone]
     rw [e] at hd
     dsimp only at hd
     subst hd
     refine done (.cT (-7) { x with ready := [] }) false k (fun Q => .out ?_) h1
     have := List.getElem?_eq_none_iff.1 hnone
     omega
    ·rename_i i hi
     have e := zW i hi
     rw [e] at hd
     clear e zW
     split at he
     ·rename_i h8
      split at he
      ·rename_i hok
       cases he
       rw [if_neg (by omega), if_neg (by omega)] at hd
       dsimp only at hd
       subst hd
       exact done (.on _) false k (fun Q => .pure i hi h8.1 h8.2 hok) (by simpa [Out.fin, Wd.aJ] using h1)
      ·cases he
     split at he
     ·rename_i yJ
      split at he
      ·rename_i hok
       split at he
       ·rename_i hl
        cases he
        rw [if_neg (by omega), if_pos yJ] at hd
        refine done _ false k (fun Q => .uv i hi yJ (zN hp (wh hok) ?_)) hl
        split at hd
        ·rename_i hq
         split at hq
         ·rename_i yH
          rw [if_pos (by exact yH), hd]
         ·cases hq
        ·rename_i kd n hq
         split at hq
         ·cases hq
         ·rename_i yH
          cases hq
          rw [if_neg (by exact yH)]
          exact hd.cons
       ·cases he
      ·cases he
     split at he
     ·rename_i Gy
      split at he
      ·rename_i hok
       split at he
       ·rename_i hl
        cases he
        rw [if_pos Gy] at hd
        exact done _ false k (fun Q => .FH i hi Gy (Dx BZ hok ⟨Ns, Nt⟩ (fI.cons hd))) hl
       ·cases he
      ·cases he
     split at he
     ·cases he
     ·rename_i yJ Gy _ r' PT
      split at he
      ·rename_i hl
       cases he
       rw [if_neg Gy, if_neg yJ] at hd
       dsimp only at hd
       subst hd
       obtain ⟨fn, f1, f2, f3, f4, f5, f6⟩ := zV (R := R) (pa := pa) (dr := dr) hp PT
       exact done _ _ k (fun Q => .dflt i fn hi f5 f3 f4 f1 f2 (f6 _)) hl
      ·cases he
  ·cases he
 ·rename_i hr
  cases he
  have e : asks p { x with ready := [] } g = none := by
   unfold asks
   rw [if_neg hr]
  rw [e] at hd
  dsimp only at hd
  subst hd
  refine fS ?_
  refine aj h ?_
  clear h
  intro kb M h
  have hC := h
  have h' := cM h (b := b)
  clear h
  obtain ⟨a, gg, PL, n0, hl, h⟩ := h'
  have hl' := hl
  obtain ⟨l1, l2, l3, l4⟩ := hl'
  have fin : bW M ⟨kb, 0, none⟩ (.bool false) fun om => bW om ⟨kb, (0 + 1), none⟩ (.slice none 0 0) fun Fz =>
    dz (Mem.ld Fz ⟨kb, 0, none⟩) fun t36 => aE (Mem.ld Fz ⟨kb, (0 + 1), none⟩) fun Fv g6 zH => K (.agg #[(.bool t36), (.slice Fv g6 zH)]) Fz := by
   have h := hC
   clear hC
   refine ak h ?_
   clear h; intro M h
   refine ak h ?_
   clear h; intro M h
   refine vv h (bQ h ?_)
   have k2 := k R none 0 M (Mem.le_refl _) (RS.nil _ _) (yb (h.drop.pick o.pick))
   exact k2
  refine aG.2 ⟨fun hn => fin, fun h0 => ?_⟩
  refine bQ h ?_
  refine aG.2 ⟨fun hn => fin, fun h1 => ?_⟩
  refine aR h ?_
  refine fA.2 ⟨fun hn => fin, fun PU => ?_⟩
  refine bQ h ?_
  refine ⟨by omega, by omega, ?_⟩
  obtain ⟨gb, dx⟩ := aP (l := a.gb) (i := g.toNat) (by omega)
  refine oP h dx fun q hq => ?_
  obtain ⟨ga, FJ⟩ := aP (l := gg) (i := g.toNat) (by omega)
  obtain ⟨z, hy⟩ := aP (l := x.gs) (i := g.toNat) (by omega)
  have ey : aa x g = z := by simp [aa, hy]
  refine bh ?_
  have Em : M.ld ⟨gb, 0, none⟩ = some (.int .i64 z.st) := by
   have h9 := kJ (b := gb) (h.cZ dk dx (lf hy FJ))
   exact eO h9
  rw [Em]
  refine gN ?_
  refine fA.2 ⟨fun hn => fin, fun hn => ?_⟩
  exact absurd ⟨by omega, by show g < (x.gs.length : Int); omega, PU, by show (aa x g).st = 1; rw [ey]; exact hn⟩ hr
theorem B4 {d : fU} {y : Wd} {kp : Bool} (h : Hp R L M) [o : xU b L pa p x L'] (hp : lX R pa p) (uO : ∃ f c d, dr = .func f c d) (he : exec p x g d = some (y, kp))
  (hd : match asks p { x with ready := [] } g with | none => L2 = L' | some (kd, n) => fI R dr kd n d L' L2)
  (k : ∀ R' A c M', R.le R' → RS cI R' A c y.ready → Hp R' (aM (b9 pa p) b y :: L2) M' → K (.agg #[.bool kp, .slice A y.ready.length c]) M') :
  ae Try.prog 9 #[.pointer (some ⟨b, 0, none⟩), .int .i64 g, dr] M K Kp := by
 unfold exec at he
 cases hr : gG p x g d with
 | none => rw [hr] at he; cases he
 | some q =>
  obtain ⟨r, rest⟩ := q
  rw [hr] at he
  cases r with
  | on z => cases he; exact oU h hp uO hr hd k
  | cT n z => cases he; exact oU h hp uO hr hd k
  | e7 l z => cases he
end
theorem qk {b : Nat} : ∀ (n : Nat) (l : List Int), (∀ g ∈ l, 0 ≤ g ∧ g < (n : Int)) → (∀ g, l.count g ≤ b) → l.length ≤ b * n
 | 0, l, h, _ => by
  cases l with
  | nil => simp
  | cons a l => have := h a (by simp); omega
 | n + 1, l, h, hc => by
  have h1 : (l.filter (fun g => g != (n : Int))).length ≤ b * n := by
   refine qk n _ (fun g hg => ?_) (fun g => ?_)
   ·obtain ⟨hm, hne⟩ := List.mem_filter.1 hg
    have := h g hm
    simp at hne
    omega
   ·exact Nat.le_trans (List.Sublist.count_le _ List.filter_sublist) (hc g)
  have h2 : l.length = l.count (n : Int) + (l.filter (fun g => g != (n : Int))).length := by
   have := List.length_eq_countP_add_countP (l := l) (fun g => g == (n : Int))
   rw [this, List.count, List.countP_eq_length_filter (p := fun a => decide ¬(a == (n : Int)) = true)]
   congr 2
   apply List.filter_congr
   intro a _
   cases h : (a == (n : Int)) <;> simp_all
  have := hc (n : Int)
  rw [h2, Nat.mul_succ]; omega
theorem gU {α : Type} (f : α → Nat) : ∀ (l : List α) (k : Nat) (c d : α), l[k]? = some d → ((l.set k c).map f).sum + f d = (l.map f).sum + f c
 | [], k, c, d, h => by simp at h
 | a :: l, 0, c, d, h => by simp at h; subst h; simp; omega
 | a :: l, k + 1, c, d, h => by
  have := gU f l k c d (by simpa using h)
  simp only [List.set_cons_succ, List.map_cons, List.sum_cons]; omega
theorem rD {α : Type} (f : α → Nat) : ∀ (l : List α), (l.map f).sum = 0 → ∀ a ∈ l, f a = 0
 | [], _, a, h => by cases h
 | b :: l, hs, a, h => by
  simp only [List.map_cons, List.sum_cons] at hs
  rcases List.mem_cons.1 h with rfl | h
  ·omega
  ·exact rD f l (by omega) a h
theorem rE {α : Type} (f : α → Nat) : ∀ (l : List α) (a : α), a ∈ l → f a ≤ (l.map f).sum
 | b :: l, a, h => by
  simp only [List.map_cons, List.sum_cons]
  rcases List.mem_cons.1 h with rfl | h
  ·omega
  ·have := rE f l a h; omega
theorem kL {α : Type} (f : α → Nat) : ∀ (l : List α), (∀ a ∈ l, f a = 0) → (l.map f).sum = 0
 | [], _ => rfl
 | b :: l, h => by
  simp only [List.map_cons, List.sum_cons]
  rw [h b (by simp), kL f l fun a ha => h a (by simp [ha])]
def bJ (c : aC) : List Int := c.snd.map Wt.g ++ c.cQ.map Wt.g
def bg (cs : List aC) (g : Int) : Nat := (cs.map fun c => (bJ c).count g).sum
def dV (ls : List Lk) (g : Int) : Nat := (ls.map fun l => l.waits.count g).sum
def uB (hl : List ay) (g : Int) : Nat := (hl.map ay.id).count g
def iF (x : Wd) (g : Int) : Prop := (∀ c ∈ x.au, g ∉ bJ c) ∧ (∀ l ∈ x.aH, g ∉ l.waits) ∧ ∀ y ∈ x.hl, y.id ≠ g
theorem nX {cs : List aC} {g : Int} : bg cs g = 0 ↔ ∀ c ∈ cs, g ∉ bJ c := by
 constructor
 ·intro h c hc
  exact List.count_eq_zero.1 (rD _ cs h c hc)
 ·intro h
  exact kL _ cs fun c hc => List.count_eq_zero.2 (h c hc)
theorem ql {ls : List Lk} {g : Int} : dV ls g = 0 ↔ ∀ l ∈ ls, g ∉ l.waits := by
 constructor
 ·intro h c hc
  exact List.count_eq_zero.1 (rD _ ls h c hc)
 ·intro h
  exact kL _ ls fun c hc => List.count_eq_zero.2 (h c hc)
def At (x : Wd) (g s : Int) : Prop := 0 ≤ g ∧ g < x.gs.length ∧ (aa x g).st = s
def eN (p : cR) (f : List cn) (i : cn) : Prop := 0 ≤ i.op ∧ i.op < 23 ∧ i.eZ ∧ (i.op = 7 → 0 ≤ i.a ∧ i.a < f.length) ∧ (i.op = 8 → 0 ≤ i.b ∧ i.b < f.length) ∧
 (i.op = 9 ∨ i.op = 11 → 0 ≤ i.a ∧ i.a < p.funcs.length ∧ aQ i.b ∧ aQ i.c) ∧ (i.op = 10 ∨ i.op = 17 ∨ i.op = 20 ∨ i.op = 21 → aQ i.a) ∧
 (i.op = 13 ∨ i.op = 14 ∨ i.op = 15 → 0 ≤ i.a ∧ i.a < p.mA.length) ∧ (i.op = 13 ∨ i.op = 14 → aQ i.b) ∧ (i.op = 14 ∨ i.op = 16 → aQ i.c) ∧
 (i.op = 16 → 0 ≤ i.a ∧ 1 ≤ i.b ∧ i.a + i.b ≤ p.cases.length) ∧ (i.op = 18 ∨ i.op = 19 → 0 ≤ i.a ∧ i.a < p.aH) ∧ (i.op = 21 → 1 ≤ i.b ∧ i.b < 1099511627776)
structure fe (p : cR) : Prop where
 f1 : 0 < p.funcs.length
 ch : p.mA.length ≤ 8
 lk : 0 ≤ p.aH ∧ p.aH ≤ 8
 cs : p.cases.length ≤ 32
 Mj : ∀ c ∈ p.cases, c.Ok p.mA.length ∧ aQ c.bL
 code : ∀ f ∈ p.funcs, 0 < f.length ∧ f.length ≤ 64 ∧ ∀ i ∈ f, eN p f i
def wj (p : cR) (f : cB) : Prop := 0 ≤ f.fn ∧ f.fn < p.funcs.length ∧ 0 ≤ f.pc ∧ f.pc ≤ 64 ∧ aQ f.lC
structure jK (p : cR) (y : eB) : Prop where
 l1 : 0 < y.fs.length
 l2 : y.fs.length ≤ 16
 fr : ∀ f ∈ y.fs, wj p f
 wt : y.st = 2 → ∃ f ∈ p.funcs, eN p f y.wt
 st : 1 ≤ y.st ∧ y.st ≤ 4
structure WV (p : cR) (x : Wd) : Prop where
 n1 : 0 < x.gs.length
 n2 : x.gs.length ≤ 100
 wk : ∀ y ∈ x.gs, jK p y
 ch : x.au.length = p.mA.length
 lk : (x.aH.length : Int) = p.aH
 buf : ∀ c ∈ x.au, c.buf.length ≤ c.room ∧ c.room ≤ 16
 cQ : ∀ c ∈ x.au, ∀ v ∈ c.cQ, At x v.g 2 ∧ ((aa x v.g).wt.op = 14 ∨ (aa x v.g).wt.op = 16 ∧ 0 ≤ v.cs ∧ v.cs < (aa x v.g).wt.b)
 snd : ∀ c ∈ x.au, ∀ v ∈ c.snd, At x v.g 2 ∧ ((aa x v.g).wt.op = 13 ∨ (aa x v.g).wt.op = 16 ∧ 0 ≤ v.cs ∧ v.cs < (aa x v.g).wt.b)
 lw : ∀ l ∈ x.aH, ∀ g ∈ l.waits, At x g 2 ∧ (aa x g).wt.op = 18
 hl : ∀ y ∈ x.hl, At x y.id 3
 one : ∀ g, 0 ≤ g → (aa x g).wt.op ≠ 16 → bg x.au g + dV x.aH g ≤ 1
 uv : ∀ g, bg x.au g ≤ 32
 h1 : ∀ g, uB x.hl g ≤ 1
 out : x.out.length ≤ 1000
section
variable {p : cR} {x : Wd} {g : Int}
theorem WV.Dz (h : WV p x) {c : aC} (hc : c ∈ x.au) {q : Int} (hq : q ∈ bJ c) : At x q 2 ∧ ((aa x q).wt.op = 13 ∨ (aa x q).wt.op = 14 ∨ (aa x q).wt.op = 16) := by
 unfold bJ at hq
 rcases List.mem_append.1 hq with hq | hq
 ·obtain ⟨v, hv, rfl⟩ := List.mem_map.1 hq
  obtain ⟨a, b⟩ := h.snd c hc v hv
  exact ⟨a, by rcases b with b | b; exact .inl b; exact .inr (.inr b.1)⟩
 ·obtain ⟨v, hv, rfl⟩ := List.mem_map.1 hq
  obtain ⟨a, b⟩ := h.cQ c hc v hv
  exact ⟨a, by rcases b with b | b; exact .inr (.inl b); exact .inr (.inr b.1)⟩
theorem WV.free (h : WV p x) (h2 : (aa x g).st ≠ 2) (h3 : (aa x g).st ≠ 3) : iF x g :=
 ⟨fun c hc hg => h2 (h.Dz hc hg).1.2.2, fun l hl hg => h2 (h.lw l hl g hg).1.2.2, fun y hy e => h3 (by have := (h.hl y hy).2.2; rwa [e] at this)⟩
theorem WV.yS (h : WV p x) {c : aC} (hc : c ∈ x.au) : (bJ c).length ≤ 3200 := by
 have h1 := qk (b := 32) x.gs.length (bJ c) (fun q hq => ⟨(h.Dz hc hq).1.1, (h.Dz hc hq).1.2.1⟩) (fun q => Nat.le_trans (rE (fun c => (bJ c).count q) x.au c hc) (h.uv q))
 have := h.n2
 omega
theorem WV.FP (h : WV p x) {l : Lk} (hl : l ∈ x.aH) : l.waits.length ≤ 100 := by
 have h1 := qk (b := 1) x.gs.length l.waits (fun q hq => ⟨(h.lw l hl q hq).1.1, (h.lw l hl q hq).1.2.1⟩) (fun q => by
  by_cases hq : q ∈ l.waits
  ·have := h.one q (h.lw l hl q hq).1.1 (by rw [(h.lw l hl q hq).2]; decide)
   have := rE (fun l : Lk => l.waits.count q) x.aH l hl
   unfold dV at *
   omega
  ·rw [List.count_eq_zero.2 hq]; omega)
 have := h.n2
 omega
theorem WV.wm (h : WV p x) : x.hl.length ≤ 100 := by
 have h1 := qk (b := 1) x.gs.length (x.hl.map ay.id) (fun q hq => by
  obtain ⟨y, hy, rfl⟩ := List.mem_map.1 hq
  exact ⟨(h.hl y hy).1, (h.hl y hy).2.1⟩) h.h1
 rw [List.length_map] at h1
 have := h.n2
 omega
theorem WV.sm (h : WV p x) (hp : fe p) (hr : x.ready.length ≤ 1000000) : x.Sm := by
 refine ⟨fun c hc => ?_, by have := h.ch; have := hp.ch; omega, by have := h.n2; omega, hr, by have := h.out; omega, fun l hl => by have := h.FP hl; omega, by have := h.lk; have := hp.lk; omega, by have := h.wm; omega⟩
 have h1 := h.yS hc
 unfold bJ at h1
 rw [List.length_append, List.length_map, List.length_map] at h1
 have := h.buf c hc
 exact ⟨by omega, by omega, by omega⟩
end
section
variable {p : cR} {x y : Wd} {g q k v : Int} {f : List cn} {i : cn}
theorem eE {z : eB} (hg : g < x.gs.length) (h0 : 0 ≤ g) : aa (x.aJ g z) q = if q.toNat = g.toNat then z else aa x q := by
 unfold aa Wd.aJ
 dsimp only
 by_cases e : q.toNat = g.toNat
 ·rw [if_pos e, e]
  simp [List.getD_eq_getElem?_getD, List.getElem?_set_self (show g.toNat < x.gs.length by omega)]
 ·rw [if_neg e, List.getD_eq_getElem?_getD, List.getD_eq_getElem?_getD, List.getElem?_set_ne (Ne.symm e)]
theorem oV (h0 : 0 ≤ g) (hg : g < x.gs.length) : aa x g ∈ x.gs := by
 unfold aa
 rw [List.getD_eq_getElem?_getD, List.getElem?_eq_getElem (by omega), Option.getD_some]
 exact List.getElem_mem _
theorem WV.congr (h : WV p x) (hl : y.gs.length = x.gs.length) (hst : ∀ q, (aa y q).st = (aa x q).st ∧ (aa y q).wt = (aa x q).wt) (hg : ∀ z ∈ y.gs, jK p z) (e1 : y.au = x.au) (e2 : y.aH = x.aH) (e3 : y.hl = x.hl) (e4 : y.out.length ≤ 1000) : WV p y := by
 have at_ : ∀ q s, At x q s → At y q s := fun q s ha => ⟨ha.1, by rw [hl]; exact ha.2.1, by rw [(hst q).1]; exact ha.2.2⟩
 refine ⟨by rw [hl]; exact h.n1, by rw [hl]; exact h.n2, hg, by rw [e1]; exact h.ch, by rw [e2]; exact h.lk, by rw [e1]; exact h.buf, ?_, ?_, ?_, ?_, ?_, by rw [e1]; exact h.uv, by rw [e3]; exact h.h1, e4⟩
 ·intro c hc v hv
  rw [e1] at hc
  rw [(hst v.g).2]
  exact ⟨at_ _ _ (h.cQ c hc v hv).1, (h.cQ c hc v hv).2⟩
 ·intro c hc v hv
  rw [e1] at hc
  rw [(hst v.g).2]
  exact ⟨at_ _ _ (h.snd c hc v hv).1, (h.snd c hc v hv).2⟩
 ·intro l hl q hq
  rw [e2] at hl
  rw [(hst q).2]
  exact ⟨at_ _ _ (h.lw l hl q hq).1, (h.lw l hl q hq).2⟩
 ·intro z hz
  rw [e3] at hz
  exact at_ _ _ (h.hl z hz)
 ·intro q h0 hq
  rw [(hst q).2] at hq
  rw [e1, e2]
  exact h.one q h0 hq
theorem rF {l : List eB} {n : Nat} {z w : eB} (h : w ∈ l.set n z) : w ∈ l ∨ w = z := List.mem_or_eq_of_mem_set h
theorem WV.aJ (h : WV p x) (h0 : 0 ≤ g) (hg : g < x.gs.length) {z : eB} (hz : jK p z) (e1 : z.st = (aa x g).st) (e2 : z.wt = (aa x g).wt) : WV p (x.aJ g z) := by
 refine h.congr (by simp [Wd.aJ]) (fun q => ?_) (fun w hw => ?_) rfl rfl rfl h.out
 ·rw [eE hg h0]
  split
  ·rename_i e
   have : aa x q = aa x g := by unfold aa; rw [e]
   rw [this]; exact ⟨e1, e2⟩
  ·exact ⟨rfl, rfl⟩
 ·rcases rF hw with hw | rfl
  ·exact h.wk w hw
  ·exact hz
theorem WV.ready (h : WV p x) {r : List Int} : WV p { x with ready := r } := h.congr rfl (fun _ => ⟨rfl, rfl⟩) h.wk rfl rfl rfl h.out
theorem WV.fin (h : WV p x) {e c : Int} : WV p { x with end_ := e, code := c } := h.congr rfl (fun _ => ⟨rfl, rfl⟩) h.wk rfl rfl rfl h.out
theorem WV.yT (h : WV p x) (h0 : 0 ≤ g) (hg : g < x.gs.length) (hf : iF x g) {z : eB} (hz : jK p z) : WV p (x.aJ g z) := by
 have ne : ∀ q, 0 ≤ q → q ≠ g → aa (x.aJ g z) q = aa x q := fun q q0 hq => by rw [eE hg h0, if_neg (by omega)]
 have at_ : ∀ q s, q ≠ g → At x q s → At (x.aJ g z) q s := fun q s hq ha => ⟨ha.1, by simpa [Wd.aJ] using ha.2.1, by rw [ne q ha.1 hq]; exact ha.2.2⟩
 refine ⟨by simpa [Wd.aJ] using h.n1, by simpa [Wd.aJ] using h.n2, fun w hw => ?_, h.ch, h.lk, h.buf, ?_, ?_, ?_, ?_, ?_, h.uv, h.h1, h.out⟩
 ·rcases rF hw with hw | rfl
  ·exact h.wk w hw
  ·exact hz
 ·intro c hc v hv
  have hne : v.g ≠ g := fun e => hf.1 c hc (by rw [← e]; exact List.mem_append_right _ (List.mem_map.2 ⟨v, hv, rfl⟩))
  obtain ⟨a, b⟩ := h.cQ c hc v hv
  rw [ne _ a.1 hne]
  exact ⟨at_ _ _ hne a, b⟩
 ·intro c hc v hv
  have hne : v.g ≠ g := fun e => hf.1 c hc (by rw [← e]; exact List.mem_append_left _ (List.mem_map.2 ⟨v, hv, rfl⟩))
  obtain ⟨a, b⟩ := h.snd c hc v hv
  rw [ne _ a.1 hne]
  exact ⟨at_ _ _ hne a, b⟩
 ·intro l hl q hq
  have hne : q ≠ g := fun e => hf.2.1 l hl (by rw [← e]; exact hq)
  obtain ⟨a, b⟩ := h.lw l hl q hq
  rw [ne _ a.1 hne]
  exact ⟨at_ _ _ hne a, b⟩
 ·intro w hw
  have hne : w.id ≠ g := hf.2.2 w hw
  exact at_ _ _ hne (h.hl w hw)
 ·intro q q0 hq
  by_cases e : q = g
  ·subst e
   have a := nX.2 hf.1
   have b := ql.2 hf.2.1
   show bg x.au q + dV x.aH q ≤ 1
   omega
  ·rw [ne q q0 e] at hq
   exact h.one q q0 hq
theorem jK.B5 {z : eB} (h : jK p z) {s : Int} (h1 : s ≠ 2) (h2 : 1 ≤ s ∧ s ≤ 4) : jK p { z with st := s } := ⟨h.l1, h.l2, h.fr, fun e => absurd e h1, h2⟩
theorem WV.bX (h : WV p x) (h0 : 0 ≤ g) (hg : g < x.gs.length) (hf : iF x g) : WV p (x.bX g) :=
 WV.ready (h.yT h0 hg hf ((h.wk _ (oV h0 hg)).B5 (by decide) (by decide)))
theorem WV.block (h : WV p x) (ha : At x g 1) (hf : f ∈ p.funcs) (hi : eN p f i) : WV p (x.block g i) := by
 have hz := h.wk _ (oV ha.1 ha.2.1)
 exact h.yT ha.1 ha.2.1 (h.free (by rw [ha.2.2]; decide) (by rw [ha.2.2]; decide)) ⟨hz.l1, hz.l2, hz.fr, fun _ => ⟨f, hf, hi⟩, by show (1 : Int) ≤ 2 ∧ (2 : Int) ≤ 4; decide⟩
theorem gV {α : Type} {l : List α} {n : Nat} {a b : α} (h : b ∈ l.set n a) : b ∈ l ∨ b = a := List.mem_or_eq_of_mem_set h
theorem WV.less (h : WV p x) {c c' : aC} (hc : x.au[k.toNat]? = some c) (hb : c'.buf.length ≤ c'.room ∧ c'.room ≤ 16) (hr : ∀ v ∈ c'.cQ, v ∈ c.cQ) (hs : ∀ v ∈ c'.snd, v ∈ c.snd) (hn : ∀ q, (bJ c').count q ≤ (bJ c).count q) : WV p (x.bx k c') := by
 have hm : c ∈ x.au := List.mem_of_getElem? hc
 have B6 : ∀ q, bg (x.au.set k.toNat c') q ≤ bg x.au q := by
  intro q
  have := gU (fun c : aC => (bJ c).count q) x.au k.toNat c' c hc
  have := hn q
  unfold bg
  omega
 refine ⟨h.n1, h.n2, h.wk, by simpa [Wd.bx] using h.ch, h.lk, ?_, ?_, ?_, h.lw, h.hl, ?_, ?_, h.h1, h.out⟩
 ·intro d hd
  rcases gV hd with hd | rfl
  ·exact h.buf d hd
  ·exact hb
 ·intro d hd v hv
  rcases gV hd with hd | rfl
  ·exact h.cQ d hd v hv
  ·exact h.cQ c hm v (hr v hv)
 ·intro d hd v hv
  rcases gV hd with hd | rfl
  ·exact h.snd d hd v hv
  ·exact h.snd c hm v (hs v hv)
 ·intro q q0 hq
  have := h.one q q0 hq
  have := B6 q
  show bg (x.au.set k.toNat c') q + dV x.aH q ≤ 1
  omega
 ·intro q
  exact Nat.le_trans (B6 q) (h.uv q)
theorem WV.more (h : WV p x) {c c' : aC} {w : Wt} (hc : x.au[k.toNat]? = some c) (hb : c'.buf.length ≤ c'.room ∧ c'.room ≤ 16)
  (hr : ∀ v ∈ c'.cQ, v ∈ c.cQ ∨ v = w ∧ At x w.g 2 ∧ ((aa x w.g).wt.op = 14 ∨ (aa x w.g).wt.op = 16 ∧ 0 ≤ w.cs ∧ w.cs < (aa x w.g).wt.b))
  (hs : ∀ v ∈ c'.snd, v ∈ c.snd ∨ v = w ∧ At x w.g 2 ∧ ((aa x w.g).wt.op = 13 ∨ (aa x w.g).wt.op = 16 ∧ 0 ≤ w.cs ∧ w.cs < (aa x w.g).wt.b))
  (hn : ∀ q, (bJ c').count q ≤ (bJ c).count q + (if q = w.g then 1 else 0)) (hz : (aa x w.g).wt.op ≠ 16 → bg x.au w.g + dV x.aH w.g = 0) (Nu : bg x.au w.g < 32) : WV p (x.bx k c') := by
 have hm : c ∈ x.au := List.mem_of_getElem? hc
 have B6 : ∀ q, bg (x.au.set k.toNat c') q ≤ bg x.au q + (if q = w.g then 1 else 0) := by
  intro q
  have := gU (fun c : aC => (bJ c).count q) x.au k.toNat c' c hc
  have := hn q
  unfold bg
  omega
 refine ⟨h.n1, h.n2, h.wk, by simpa [Wd.bx] using h.ch, h.lk, ?_, ?_, ?_, h.lw, h.hl, ?_, ?_, h.h1, h.out⟩
 ·intro d hd
  rcases gV hd with hd | rfl
  ·exact h.buf d hd
  ·exact hb
 ·intro d hd v hv
  rcases gV hd with hd | rfl
  ·exact h.cQ d hd v hv
  ·rcases hr v hv with hv | ⟨rfl, hv⟩
   ·exact h.cQ c hm v hv
   ·exact hv
 ·intro d hd v hv
  rcases gV hd with hd | rfl
  ·exact h.snd d hd v hv
  ·rcases hs v hv with hv | ⟨rfl, hv⟩
   ·exact h.snd c hm v hv
   ·exact hv
 ·intro q q0 hq
  have a := B6 q
  show bg (x.au.set k.toNat c') q + dV x.aH q ≤ 1
  by_cases e : q = w.g
  ·subst e
   have := hz hq
   rw [if_pos rfl] at a
   omega
  ·have := h.one q q0 hq
   rw [if_neg e] at a
   omega
 ·intro q
  have a := B6 q
  show bg (x.au.set k.toNat c') q ≤ 32
  by_cases e : q = w.g
  ·subst e
   rw [if_pos rfl] at a
   omega
  ·have := h.uv q
   rw [if_neg e] at a
   omega
end
section
variable {p : cR} {x y : Wd} {g q k n : Int} {f : List cn} {i : cn} {v : Wt}
theorem B7 {α : Type} (f g : α → Nat) : ∀ (l : List α), (∀ a ∈ l, f a ≤ g a) → (l.map f).sum ≤ (l.map g).sum
 | [], _ => Nat.le_refl _
 | b :: l, h => by
  simp only [List.map_cons, List.sum_cons]
  have := h b (by simp)
  have := B7 f g l fun a ha => h a (by simp [ha])
  omega
theorem rG (c : aC) : bJ (c.drop g) = (bJ c).filter (fun q => q != g) := by
 unfold bJ aC.drop wo
 simp only [List.filter_append, List.filter_map]
 rfl
theorem wq (cs : List aC) (q : Int) : bg (cs.map fun c => c.drop g) q ≤ bg cs q := by
 unfold bg
 rw [List.map_map]
 refine B7 _ _ cs fun c _ => ?_
 show (bJ (c.drop g)).count q ≤ _
 rw [rG]
 exact List.Sublist.count_le _ List.filter_sublist
theorem WV.leave (h : WV p x) : WV p (x.leave g) := by
 refine ⟨h.n1, h.n2, h.wk, by simpa [Wd.leave] using h.ch, h.lk, ?_, ?_, ?_, h.lw, h.hl, ?_, ?_, h.h1, h.out⟩
 ·intro d hd
  obtain ⟨c, hc, rfl⟩ := List.mem_map.1 hd
  exact h.buf c hc
 ·intro d hd v hv
  obtain ⟨c, hc, rfl⟩ := List.mem_map.1 hd
  exact h.cQ c hc v (List.mem_filter.1 hv).1
 ·intro d hd v hv
  obtain ⟨c, hc, rfl⟩ := List.mem_map.1 hd
  exact h.snd c hc v (List.mem_filter.1 hv).1
 ·intro q q0 hq
  have := wq (g := g) x.au q
  have := h.one q q0 hq
  show bg (x.au.map fun c => c.drop g) q + dV x.aH q ≤ 1
  omega
 ·intro q
  exact Nat.le_trans (wq x.au q) (h.uv q)
theorem yc (h : WV p x) (h3 : (aa x g).wt.op ≠ 18) (h2 : (aa x g).st = 2) : iF (x.leave g) g := by
 refine ⟨fun d hd hg => ?_, fun l hl hg => h3 (h.lw l hl g hg).2, fun w hw e => ?_⟩
 ·obtain ⟨c, hc, rfl⟩ := List.mem_map.1 hd
  rw [rG] at hg
  have := (List.mem_filter.1 hg).2
  simp at this
 ·have := (h.hl w hw).2.2
  rw [e, h2] at this
  cases this
theorem wj.set {r : cB} (h : wj p r) (q v : Int) : wj p (r.set q v) := h
theorem jK.bj {z : eB} (h : jK p z) {r : cB} (hr : wj p r) : jK p (z.bj r) :=
 ⟨by simpa [eB.bj] using h.l1, by simpa [eB.bj] using h.l2, fun f hf => by
  rcases List.mem_or_eq_of_mem_set hf with hf | rfl
  ·exact h.fr f hf
  ·exact hr, h.wt, h.st⟩
theorem jK.top {z : eB} (h : jK p z) : wj p z.top := by
 unfold eB.top
 have := h.l1
 rw [List.getD_eq_getElem?_getD, List.getElem?_eq_getElem (by omega), Option.getD_some]
 exact h.fr _ (List.getElem_mem _)
theorem WV.fP (h : WV p x) (h0 : 0 ≤ g) (hg : g < x.gs.length) : jK p (aa x g) := h.wk _ (oV h0 hg)
theorem WV.aN (h : WV p x) (h0 : 0 ≤ g) (hg : g < x.gs.length) : WV p (x.aN g q n) :=
 h.aJ h0 hg ((h.fP h0 hg).bj ((h.fP h0 hg).top.set q n)) rfl rfl
theorem tF (h0 : 0 ≤ g) (hg : g < x.gs.length) {m : Int} : (aa (x.aN g q n) m).st = (aa x m).st ∧ (aa (x.aN g q n) m).wt = (aa x m).wt ∧ (aa (x.aN g q n) m).fs.length = (aa x m).fs.length := by
 unfold Wd.aN
 rw [eE hg h0]
 split
 ·rename_i e
  have : aa x m = aa x g := by unfold aa; rw [e]
  rw [this]
  exact ⟨rfl, rfl, by simp [eB.bj]⟩
 ·exact ⟨rfl, rfl, rfl⟩
theorem iG (h0 : 0 ≤ g) (hg : g < x.gs.length) {m : Int} (h1 : 0 ≤ m) (hne : m ≠ g) : aa (x.aN g q n) m = aa x m := by
 unfold Wd.aN
 rw [eE hg h0, if_neg (by omega)]
theorem WV.aI (h : WV p x) (h0 : 0 ≤ g) (hg : g < x.gs.length) : aI x g := ⟨h0, hg, (h.fP h0 hg).l1, by have := (h.fP h0 hg).l2; omega⟩
theorem zX (hp : fe p) {a : Int} (h0 : 0 ≤ a) (h1 : a < p.cases.length) : ku p a ∈ p.cases := by
 unfold ku
 rw [List.getD_eq_getElem?_getD, List.getElem?_eq_getElem (by omega), Option.getD_some]
 exact List.getElem_mem _
theorem WV.kx (h : WV p x) (hp : fe p) (ha : At x v.g 2) (hw : (aa x v.g).wt.op = 14 ∨ (aa x v.g).wt.op = 16 ∧ 0 ≤ v.cs ∧ v.cs < (aa x v.g).wt.b) : kx p x v := by
 refine ⟨h.aI ha.1 ha.2.1, ?_⟩
 obtain ⟨f, hf, hi⟩ := (h.fP ha.1 ha.2.1).wt ha.2.2
 obtain ⟨_, _, _, _, _, _, _, _, i13, i14, i16, _⟩ := hi
 split
 ·rename_i e
  rcases hw with hw | ⟨_, c0, c1⟩
  ·rw [e] at hw; cases hw
  ·obtain ⟨a0, a1, a2⟩ := i16 e
   refine ⟨by omega, by omega, by have := hp.cs; omega, (hp.Mj _ (zX hp (by omega) (by omega))).2, i14 (.inr e)⟩
 ·rename_i e
  rcases hw with hw | ⟨hw, _⟩
  ·exact ⟨i13 (.inr hw), i14 (.inl hw)⟩
  ·exact absurd hw e
theorem WV.pD (h : WV p x) (ha : At x v.g 2) : pD x v := by
 refine ⟨h.aI ha.1 ha.2.1, fun e => ?_⟩
 obtain ⟨f, hf, hi⟩ := (h.fP ha.1 ha.2.1).wt ha.2.2
 obtain ⟨_, _, _, _, _, _, _, _, _, i14, _⟩ := hi
 exact i14 (.inr e)
theorem iF.bL (h : iF x g) : iF (x.aN q k n) g := h
theorem aY {m : Int} : (x.aN g q m).gs.length = x.gs.length := by simp [Wd.aN, Wd.aJ]
theorem fK : (x.bX g).gs.length = x.gs.length := by simp [Wd.bX, Wd.aJ]
theorem jk (h0 : 0 ≤ g) (hg : g < x.gs.length) {m : Int} (h1 : 0 ≤ m) (hne : m ≠ g) : aa (x.bX g) m = aa x m := by
 show aa (x.aJ g _) m = _
 rw [eE hg h0, if_neg (by omega)]
theorem nY (h0 : 0 ≤ g) (hg : g < x.gs.length) : (aa (x.bX g) g).st = 1 := by
 show (aa (x.aJ g _) g).st = _
 rw [eE hg h0, if_pos rfl]
theorem WV.dJ (h : WV p x) (ha : At x g 2) (Er : (aa x g).wt.op ≠ 18) : WV p (x.dJ g k) ∧ iF (x.dJ g k) g := by
 obtain ⟨h0, hg, h2⟩ := ha
 unfold Wd.dJ
 have r2 := h.aN (q := (aa x g).wt.c) (n := k) h0 hg
 have e2 := tF (x := x) (q := (aa x g).wt.c) (n := k) h0 hg (m := g)
 exact ⟨r2.leave, yc r2 (by rw [e2.2.1]; exact Er) (by rw [e2.1]; exact h2)⟩
theorem dL : (x.dJ g k).gs.length = x.gs.length := by simp [Wd.dJ, Wd.leave, aY]
theorem tG (h0 : 0 ≤ g) (hg : g < x.gs.length) {m : Int} (h1 : 0 ≤ m) (hne : m ≠ g) : aa (x.dJ g k) m = aa x m := by
 show aa (x.aN g _ _) m = _
 exact iG h0 hg h1 hne
theorem WV.received (h : WV p x) (ha : At x v.g 2) (Er : (aa x v.g).wt.op ≠ 18) (hf : (aa x v.g).wt.op ≠ 16 → iF x v.g) {s : Int} : WV p (x.received p v s) := by
 have Mk := ha
 obtain ⟨h0, hg, h2⟩ := Mk
 unfold Wd.received
 dsimp only
 split
 ·have r1 := h.aN (q := (ku p ((aa x v.g).wt.a + v.cs)).bL) (n := v.v) h0 hg
  have e1 := tF (x := x) (q := (ku p ((aa x v.g).wt.a + v.cs)).bL) (n := v.v) h0 hg (m := v.g)
  have l1 := aY (x := x) (g := v.g) (q := (ku p ((aa x v.g).wt.a + v.cs)).bL) (m := v.v)
  obtain ⟨r2, f2⟩ := r1.dJ (k := v.cs) ⟨h0, by rw [l1]; exact hg, by rw [e1.1]; exact h2⟩ (by rw [e1.2.1]; exact Er)
  exact r2.bX h0 (by rw [dL, l1]; exact hg) f2
 ·rename_i e
  have r1 := h.aN (q := (aa x v.g).wt.b) (n := v.v) h0 hg
  have r2 := r1.aN (g := v.g) (q := (aa x v.g).wt.c) (n := s) h0 (by rw [aY]; exact hg)
  exact r2.bX h0 (by rw [aY, aY]; exact hg) (hf e)
theorem nZ {s : Int} : (x.received p v s).gs.length = x.gs.length := by
 unfold Wd.received
 dsimp only
 split
 ·rw [fK, dL, aY]
 ·rw [fK, aY, aY]
theorem pL (h0 : 0 ≤ v.g) (hg : v.g < x.gs.length) {s m : Int} (h1 : 0 ≤ m) (hne : m ≠ v.g) : aa (x.received p v s) m = aa x m := by
 unfold Wd.received
 dsimp only
 split
 ·rw [jk h0 (by rw [dL, aY]; exact hg) h1 hne, tG h0 (by rw [aY]; exact hg) h1 hne, iG h0 hg h1 hne]
 ·rw [jk h0 (by rw [aY, aY]; exact hg) h1 hne, iG h0 (by rw [aY]; exact hg) h1 hne, iG h0 hg h1 hne]
theorem gW (h0 : 0 ≤ v.g) (hg : v.g < x.gs.length) {s : Int} : (aa (x.received p v s) v.g).st = 1 ∧ (x.received p v s).ready = x.ready ++ [v.g] := by
 unfold Wd.received
 dsimp only
 split
 ·exact ⟨nY h0 (by rw [dL, aY]; exact hg), rfl⟩
 ·exact ⟨nY h0 (by rw [aY, aY]; exact hg), rfl⟩
theorem WV.sent (h : WV p x) (ha : At x v.g 2) (Er : (aa x v.g).wt.op ≠ 18) (hf : (aa x v.g).wt.op ≠ 16 → iF x v.g) : WV p (x.sent v) := by
 have Mk := ha
 obtain ⟨h0, hg, h2⟩ := Mk
 unfold Wd.sent
 split
 ·obtain ⟨r2, f2⟩ := h.dJ (k := v.cs) ha Er
  exact r2.bX h0 (by rw [dL]; exact hg) f2
 ·rename_i e
  exact h.bX h0 hg (hf e)
theorem B8 : (x.sent v).gs.length = x.gs.length := by
 unfold Wd.sent
 split
 ·rw [fK, dL]
 ·rw [fK]
theorem DA (h0 : 0 ≤ v.g) (hg : v.g < x.gs.length) {m : Int} (h1 : 0 ≤ m) (hne : m ≠ v.g) : aa (x.sent v) m = aa x m := by
 unfold Wd.sent
 split
 ·rw [jk h0 (by rw [dL]; exact hg) h1 hne, tG h0 hg h1 hne]
 ·rw [jk h0 hg h1 hne]
theorem yU (h0 : 0 ≤ v.g) (hg : v.g < x.gs.length) : (aa (x.sent v) v.g).st = 1 ∧ (x.sent v).ready = x.ready ++ [v.g] := by
 unfold Wd.sent
 split
 ·exact ⟨nY h0 (by rw [dL]; exact hg), rfl⟩
 ·exact ⟨nY h0 hg, rfl⟩
theorem wu (hk : nR x k) : ∃ c, x.au[k.toNat]? = some c ∧ b7 x.au k = c := by
 obtain ⟨k0, k1⟩ := hk
 obtain ⟨c, hc⟩ := aP (l := x.au) (i := k.toNat) (by omega)
 exact ⟨c, hc, by simp [b7, hc]⟩
theorem uC (h : WV p x) {c c' : aC} (hc : x.au[k.toNat]? = some c) (h0 : 0 ≤ g) (h2 : (aa x g).st = 2) (nO : (aa x g).wt.op ≠ 16) (hn : (bJ c').count g + 1 ≤ (bJ c).count g) : iF (x.bx k c') g := by
 have a := h.one g h0 nO
 have b := gU (fun c : aC => (bJ c).count g) x.au k.toNat c' c hc
 have e1 : bg (x.au.set k.toNat c') g = 0 := by unfold bg at *; omega
 have e2 : dV x.aH g = 0 := by
  have := rE (fun c : aC => (bJ c).count g) x.au c (List.mem_of_getElem? hc)
  unfold bg at a
  omega
 refine ⟨nX.1 e1, ql.1 e2, fun w hw e => ?_⟩
 have := (h.hl w hw).2.2
 rw [e, h2] at this
 cases this
end
def Wk (x y : Wd) : Prop := y.gs.length = x.gs.length ∧ ∃ l : List Int, y.ready = x.ready ++ l ∧ l.Nodup ∧ (∀ q ∈ l, 0 ≤ q ∧ q < x.gs.length ∧ (aa x q).st ≠ 1 ∧ (aa y q).st = 1) ∧ ∀ q, 0 ≤ q → q ∉ l → aa y q = aa x q
section
variable {p : cR} {x y z : Wd} {g q k n : Int} {f : List cn} {i : cn} {v : Wt}
theorem Wk.refl (x : Wd) : Wk x x := ⟨rfl, [], by simp, List.nodup_nil, (fun q h => by cases h), fun q _ _ => rfl⟩
theorem Wk.same (h1 : y.gs = x.gs) (h2 : y.ready = x.ready) : Wk x y := ⟨by rw [h1], [], by simp [h2], List.nodup_nil, fun q h => by (cases h), fun q _ _ => by unfold aa; rw [h1]⟩
theorem Wk.trans (h : Wk x y) (h' : Wk y z) : Wk x z := by
 obtain ⟨a1, l, a2, a3, a4, a5⟩ := h
 obtain ⟨b1, m, b2, b3, b4, b5⟩ := h'
 refine ⟨by rw [b1, a1], l ++ m, by rw [b2, a2, List.append_assoc], ?_, ?_, ?_⟩
 ·refine List.nodup_append.2 ⟨a3, b3, fun q hq r hr e => ?_⟩
  subst e
  exact (b4 q hr).2.2.1 (a4 q hq).2.2.2
 ·intro q hq
  rcases List.mem_append.1 hq with hq | hq
  ·obtain ⟨c1, c2, c3, c4⟩ := a4 q hq
   refine ⟨c1, c2, c3, ?_⟩
   by_cases hm : q ∈ m
   ·exact (b4 q hm).2.2.2
   ·rw [b5 q c1 hm]; exact c4
  ·obtain ⟨c1, c2, c3, c4⟩ := b4 q hq
   by_cases hl : q ∈ l
   ·exact absurd (a4 q hl).2.2.2 c3
   ·exact ⟨c1, by rw [← a1]; exact c2, by rw [← a5 q c1 hl]; exact c3, c4⟩
 ·intro q q0 hq
  rw [List.mem_append] at hq
  rw [b5 q q0 (fun h => hq (.inr h)), a5 q q0 (fun h => hq (.inl h))]
theorem Wk.keep (h : Wk x y) (h0 : 0 ≤ q) (h1 : (aa x q).st = 1) : aa y q = aa x q := by
 obtain ⟨_, l, _, _, a4, a5⟩ := h
 exact a5 q h0 fun hq => (a4 q hq).2.2.1 h1
theorem Wk.received (h0 : 0 ≤ v.g) (hg : v.g < x.gs.length) (h1 : (aa x v.g).st ≠ 1) {s : Int} : Wk x (x.received p v s) :=
 ⟨nZ, [v.g], (gW h0 hg).2, by simp, fun q hq => by
  simp only [List.mem_singleton] at hq; subst hq
  exact ⟨h0, hg, h1, (gW h0 hg).1⟩, fun q q0 hq => pL h0 hg q0 (by simpa using hq)⟩
theorem Wk.sent (h0 : 0 ≤ v.g) (hg : v.g < x.gs.length) (h1 : (aa x v.g).st ≠ 1) : Wk x (x.sent v) :=
 ⟨B8, [v.g], (yU h0 hg).2, by simp, fun q hq => by
  simp only [List.mem_singleton] at hq; subst hq
  exact ⟨h0, hg, h1, (yU h0 hg).1⟩, fun q q0 hq => DA h0 hg q0 (by simpa using hq)⟩
theorem Wk.bX (h0 : 0 ≤ g) (hg : g < x.gs.length) (h1 : (aa x g).st ≠ 1) : Wk x (x.bX g) :=
 ⟨fK, [g], rfl, by simp, fun q hq => by
  simp only [List.mem_singleton] at hq; subst hq
  exact ⟨h0, hg, h1, nY h0 hg⟩, fun q q0 hq => jk h0 hg q0 (by simpa using hq)⟩
theorem Wk.bx {c : aC} : Wk x (x.bx k c) := Wk.same rfl rfl
theorem kM (h : WV p x) {c : aC} (hc : c ∈ x.au) : c.buf.length ≤ 16 ∧ c.snd.length ≤ 3200 ∧ c.cQ.length ≤ 3200 := by
 have h1 := h.yS hc
 unfold bJ at h1
 rw [List.length_append, List.length_map, List.length_map] at h1
 have := h.buf c hc
 omega
def FQ (p : cR) (x : Wd) : Out (Wd × Bool) → Prop
 | .cT _ y => WV p y ∧ y.gs = x.gs ∧ y.ready = x.ready
 | .on (y, true) => WV p y ∧ Wk x y
 | .on (y, false) => y = x
 | .e7 _ _ => False
theorem di {α : Type} : ∀ (l : List α) (n : Nat) (a : α), l[n]? = some a → l.set n a = l
 | [], _, _, _ => rfl
 | b :: l, 0, a, h => by simp at h; subst h; rfl
 | b :: l, n + 1, a, h => by rw [List.set_cons_succ, di l n a (by simpa using h)]
theorem jm {c : aC} (hc : x.au[k.toNat]? = some c) : x.bx k c = x := by
 unfold Wd.bx
 rw [di _ _ _ hc]
theorem WV.put (h : WV p x) (hp : fe p) (hk : nR x k) : jt p x k n ∧ FQ p x (x.put p k n) := by
 obtain ⟨c, hc, e⟩ := wu hk
 have hm := List.mem_of_getElem? hc
 obtain ⟨s1, s2, s3⟩ := kM h hm
 have hb := h.buf c hm
 have hr := h.cQ c hm
 unfold jt Wd.put
 rw [e]
 refine ⟨⟨hk, ?_, ?_⟩, ?_⟩
 ·unfold aC.send
  split
  ·intro h; cases h
  ·split
   ·rename_i w r hw
    intro _
    obtain ⟨a, b⟩ := hr w (by rw [hw]; simp)
    exact h.kx (v := ⟨w.g, w.cs, n⟩) hp a b
   ·split <;> (intro h; cases h)
 ·have : c.Small 3200 := ⟨by omega, s2, s3⟩
  exact (this.send n).mono (by omega)
 ·unfold aC.send
  split
  ·dsimp only
   rw [if_pos rfl, jm hc]
   exact ⟨h, rfl, rfl⟩
  ·split
   ·rename_i w r hw
    dsimp only
    obtain ⟨a, b⟩ := hr w (by rw [hw]; simp)
    have hl : WV p (x.bx k { c with cQ := r }) := h.less hc hb (fun v hv => by rw [hw]; exact List.mem_cons_of_mem _ hv) (fun v hv => hv) (fun q => by
     unfold bJ; rw [hw]; simp only [List.map_cons, List.count_append, List.count_cons]; omega)
    have hne : (aa x w.g).wt.op ≠ 18 := by rcases b with b | b; rw [b]; decide; rw [b.1]; decide
    rw [if_neg (by decide), if_pos rfl]
    refine ⟨hl.received (v := ⟨w.g, w.cs, n⟩) a hne (fun nO => ?_), Wk.bx.trans (Wk.received (x := x.bx k { c with cQ := r }) (v := ⟨w.g, w.cs, n⟩) a.1 a.2.1 (by show (aa x w.g).st ≠ 1; rw [a.2.2]; decide))⟩
    exact uC h hc a.1 a.2.2 nO (by unfold bJ; rw [hw]; simp only [List.map_cons, List.count_append, List.count_cons, beq_self_eq_true, if_true]; omega)
   ·rename_i hw
    split
    ·dsimp only
     rw [if_neg (by decide), if_neg (by decide)]
     exact ⟨h.less hc ⟨by simp; omega, hb.2⟩ (fun v hv => hv) (fun v hv => hv) (fun q => Nat.le_refl _), Wk.bx⟩
    ·dsimp only
     rw [if_neg (by decide), if_neg (by decide), jm hc]
     exact rfl
theorem WV.get (h : WV p x) (hp : fe p) (hk : nR x k) : nS x k ∧ WV p (x.get k).1 ∧ Wk x (x.get k).1 ∧ ((x.get k).2.2.2 = false → (x.get k).1 = x) := by
 obtain ⟨c, hc, e⟩ := wu hk
 have hm := List.mem_of_getElem? hc
 obtain ⟨s1, s2, s3⟩ := kM h hm
 have hb := h.buf c hm
 have hs := h.snd c hm
 unfold nS Wd.get
 rw [e]
 obtain ⟨room, buf, snd, cQ, closed⟩ := c
 cases snd with
 | cons w r =>
  obtain ⟨a, b⟩ := hs w (by simp)
  obtain ⟨v, l, hv⟩ : ∃ v l, buf ++ [w.v] = v :: l := by
   cases buf with
   | nil => exact ⟨_, _, rfl⟩
   | cons q t => exact ⟨q, t ++ [w.v], rfl⟩
  have hlen : l.length = buf.length := by
   have := congrArg List.length hv
   simp at this; omega
  have er : aC.recv ⟨room, buf, w :: r, cQ, closed⟩ = (⟨room, l, r, cQ, closed⟩, v, true, w, true, 0) := by
   unfold aC.recv aC.all
   dsimp only
   rw [hv]
   rfl
  rw [er]
  dsimp only
  have hl : WV p (x.bx k ⟨room, l, r, cQ, closed⟩) := h.less hc (by rw [hlen]; exact hb) (fun v hv => hv) (fun v hv => List.mem_cons_of_mem _ hv) (fun q => by
   unfold bJ; simp only [List.map_cons, List.cons_append, List.count_cons]; omega)
  have hne : (aa x w.g).wt.op ≠ 18 := by rcases b with b | b; rw [b]; decide; rw [b.1]; decide
  rw [if_pos rfl, if_pos rfl]
  refine ⟨⟨hk, fun _ => h.pD a, ⟨by dsimp only at *; omega, by simp only [List.length_cons] at s2; dsimp only; omega, by dsimp only at *; omega⟩⟩, hl.sent a hne (fun nO => ?_), Wk.bx.trans (Wk.sent (x := x.bx k ⟨room, l, r, cQ, closed⟩) a.1 a.2.1 (by show (aa x w.g).st ≠ 1; rw [a.2.2]; decide)), (fun h => by cases h)⟩
  exact uC h hc a.1 a.2.2 nO (by unfold bJ; simp only [List.map_cons, List.cons_append, List.count_cons, beq_self_eq_true, if_true]; omega)
 | nil =>
  cases buf with
  | cons q t =>
   have er : aC.recv ⟨room, q :: t, [], cQ, closed⟩ = (⟨room, t, [], cQ, closed⟩, q, true, .zero, false, 0) := rfl
   rw [er]
   dsimp only
   simp only [Bool.false_eq_true, if_false, if_true]
   simp only [List.length_cons] at s1 hb
   exact ⟨⟨hk, (fun h => by cases h), ⟨by dsimp only; omega, by dsimp only at *; omega, by dsimp only at *; omega⟩⟩, h.less hc ⟨by dsimp only; omega, hb.2⟩ (fun v hv => hv) (fun v hv => hv) (fun q => Nat.le_refl _), Wk.bx, (fun h => by cases h)⟩
  | nil =>
   have er : aC.recv ⟨room, [], [], cQ, closed⟩ = (⟨room, [], [], cQ, closed⟩, 0, false, .zero, false, if closed then 0 else 5) := rfl
   rw [er]
   dsimp only
   simp only [Bool.false_eq_true, if_false, jm hc]
   exact ⟨⟨hk, (fun h => by cases h), ⟨by dsimp only at *; omega, by dsimp only at *; omega, by dsimp only at *; omega⟩⟩, h, Wk.refl _, fun _ => trivial⟩
end
section
variable {p : cR} {x y z : Wd} {g q k n : Int} {f : List cn} {i : cn} {v : Wt}
def FR (x : Wd) (v : Wt) : Prop := 0 ≤ v.g ∧ v.g < x.gs.length ∧ ((aa x v.g).st = 2 → (aa x v.g).wt.op = 14 ∧ iF x v.g ∨ (aa x v.g).wt.op = 16 ∧ 0 ≤ v.cs ∧ v.cs < (aa x v.g).wt.b)
def rH (x y : Wd) : Prop := (∀ d ∈ y.au, ∃ c ∈ x.au, ∀ q ∈ bJ d, q ∈ bJ c) ∧ y.aH = x.aH ∧ y.hl = x.hl
theorem rH.refl (x : Wd) : rH x x := ⟨fun d hd => ⟨d, hd, fun _ h => h⟩, rfl, rfl⟩
theorem rH.free (h : rH x y) (hf : iF x g) : iF y g := by
 obtain ⟨a, b, c⟩ := h
 refine ⟨fun d hd hg => ?_, by rw [b]; exact hf.2.1, by rw [c]; exact hf.2.2⟩
 obtain ⟨e, he, hs⟩ := a d hd
 exact hf.1 e he (hs g hg)
theorem rH.leave : rH x (x.leave g) := ⟨fun d hd => by
 obtain ⟨c, hc, rfl⟩ := List.mem_map.1 hd
 exact ⟨c, hc, fun q hq => by rw [rG] at hq; exact (List.mem_filter.1 hq).1⟩, rfl, rfl⟩
theorem rH.received {s : Int} : rH x (x.received p v s) := by
 unfold Wd.received
 dsimp only
 split
 ·exact rH.leave (x := (x.aN v.g (ku p ((aa x v.g).wt.a + v.cs)).bL v.v).aN v.g _ _)
 ·exact rH.refl x
theorem oW (hp : fe p) : ∀ (l : List Wt) (x : Wd), WV p x → x.ready.length + l.length ≤ 1000000 → (∀ v ∈ l, FR x v) → oQ p x l ∧ WV p (l.foldl (b8 p) x) ∧ Wk x (l.foldl (b8 p) x)
 | [], x, h, _, _ => ⟨trivial, h, Wk.refl x⟩
 | v :: l, x, h, hr, ha => by
  obtain ⟨h0, hg, h2⟩ := ha v (by simp)
  have j2 : x.ready.length ≤ 1000000 := by simp only [List.length_cons] at hr; omega
  by_cases e : (aa x v.g).st = 2
  ·have Ag : At x v.g 2 := ⟨h0, hg, e⟩
   have hne : (aa x v.g).wt.op ≠ 18 := by rcases h2 e with b | b; rw [b.1]; decide; rw [b.1]; decide
   have hw := h.received (v := { v with v := 0 }) Ag hne (fun nO => by
    rcases h2 e with b | b
    ·exact b.2
    ·exact absurd b.1 nO) (s := 0)
   have hk : Wk x (x.received p { v with v := 0 } 0) := Wk.received (v := { v with v := 0 }) h0 hg (by rw [e]; decide)
   have es : b8 p x v = x.received p { v with v := 0 } 0 := by unfold b8; rw [if_pos e]
   have hrd : (x.received p { v with v := 0 } 0).ready = x.ready ++ [v.g] := (gW (v := { v with v := 0 }) h0 hg).2
   obtain ⟨r1, r2, r3⟩ := oW hp l (x.received p { v with v := 0 } 0) hw (by rw [hrd]; simp only [List.length_append, List.length_cons, List.length_nil] at *; omega) (fun w GC => by
    obtain ⟨b0, b1, b2⟩ := ha w (List.mem_cons_of_mem _ GC)
    refine ⟨b0, by rw [nZ]; exact b1, fun GB => ?_⟩
    by_cases ew : w.g = v.g
    ·rw [ew, (gW (v := { v with v := 0 }) h0 hg).1] at GB; cases GB
    ·rw [pL (v := { v with v := 0 }) h0 hg b0 ew] at GB ⊢
     rcases b2 GB with c | c
     ·exact .inl ⟨c.1, rH.received.free c.2⟩
     ·exact .inr c)
   refine ⟨⟨h.sm hp j2, h0, hg, fun _ => h.kx (v := { v with v := 0 }) hp Ag ?_, by rw [es]; exact r1⟩, by rw [List.foldl_cons, es]; exact r2, by rw [List.foldl_cons, es]; exact hk.trans r3⟩
   rcases h2 e with b | b
   ·exact .inl b.1
   ·exact .inr b
  ·have es : b8 p x v = x := by unfold b8; rw [if_neg e]
   obtain ⟨r1, r2, r3⟩ := oW hp l x h (by simp only [List.length_cons] at hr; omega) (fun w GC => ha w (List.mem_cons_of_mem _ GC))
   exact ⟨⟨h.sm hp j2, h0, hg, fun GB => absurd GB e, by rw [es]; exact r1⟩, by rw [List.foldl_cons, es]; exact r2, by rw [List.foldl_cons, es]; exact r3⟩
end
theorem uD {l : List ay} {i : Nat} (h : i < l.length) : cH l i = l[i] := by
 unfold cH; rw [List.getD_eq_getElem?_getD, List.getElem?_eq_getElem h]; rfl
theorem mS {l : List ay} {i j : Nat} (hi : i < l.length) (hj : j < l.length) : (bU l i j).Perm l := by
 unfold bU
 rw [uD hi, uD hj]
 exact List.set_set_perm hi hj
theorem rJ : ∀ (f i : Nat) (l : List ay), i < l.length → (yN f i l).Perm l
 | 0, _, l, _ => List.Perm.refl l
 | f + 1, i, l, h => by
  unfold yN
  split
  ·exact (rJ f _ _ (by rw [bp]; omega)).trans (mS h (by omega))
  ·exact List.Perm.refl l
theorem rK : ∀ (f i : Nat) (l : List ay), i < l.length → (gR f i l).Perm l
 | 0, _, l, _ => List.Perm.refl l
 | f + 1, i, l, h => by
  unfold gR
  split
  ·exact List.Perm.refl l
  ·have := (tE h).1
   exact (rK f _ _ (by rw [bp]; exact this)).trans (mS h this)
theorem mT {l : List ay} {x : ay} : (gS l x).Perm (l ++ [x]) := rJ _ _ _ (by simp)
theorem oa {l : List ay} {i : Nat} (h : i < l.length) : l.Perm (cH l i :: br l i) := by
 have hn : l.length - 1 < l.length := by omega
 have h1 : (bU l i (l.length - 1)).Perm l := mS h hn
 have vT : (bU l i (l.length - 1))[l.length - 1]? = some (cH l i) := by
  unfold bU
  rw [List.getElem?_set_self (by rw [List.length_set]; exact hn)]
 have h2 : bU l i (l.length - 1) = (bU l i (l.length - 1)).take (l.length - 1) ++ [cH l i] := by
  have e : bU l i (l.length - 1) = (bU l i (l.length - 1)).take (l.length - 1 + 1) := by
   rw [List.take_of_length_le (by rw [bp]; omega)]
  conv => lhs; rw [e]
  rw [List.take_add_one, vT]
  rfl
 have h3 : l.Perm (cH l i :: (bU l i (l.length - 1)).take (l.length - 1)) := by
  refine h1.symm.trans ?_
  rw [h2]
  have : (List.take (l.length - 1) (bU l i (l.length - 1)) ++ [cH l i]).take (l.length - 1) = (bU l i (l.length - 1)).take (l.length - 1) := by rw [← h2]
  rw [this]
  exact List.perm_append_comm
 unfold br
 split
 ·rename_i hlt
  have hlen : ((bU l i (l.length - 1)).take (l.length - 1)).length = l.length - 1 := by rw [List.length_take, bp]; omega
  refine h3.trans (List.Perm.cons _ ?_)
  exact ((rJ _ _ _ (by rw [fB, hlen]; exact hlt)).trans (rK _ _ _ (by rw [hlen]; exact hlt))).symm
 ·exact h3
theorem rL : ∀ (f : Nat) (l : List ay) (now : Int), l.Perm ((bM f l now).2 ++ (bM f l now).1)
 | 0, l, _ => by simp [bM]
 | f + 1, l, now => by
  unfold bM
  split
  ·rename_i h
   refine (oa h.1).trans ?_
   dsimp only
   exact List.Perm.cons _ (rL f _ now)
  ·simp
def ff (g : Int) (x y : Wd) : Prop := y.ready.Nodup ∧ g ∉ y.ready ∧ (∀ q ∈ y.ready, 0 ≤ q ∧ q < y.gs.length ∧ ¬ At x q 1 ∧ (aa y q).st = 1) ∧
 (∀ q, 0 ≤ q → q ≠ g → q ∉ y.ready → aa y q = aa x q) ∧ x.gs.length ≤ y.gs.length ∧ ∀ q : Int, x.gs.length ≤ q → q < y.gs.length → q ∈ y.ready
section
variable {p : cR} {x y z : Wd} {g q k n : Int} {f : List cn} {i : cn} {v : Wt}
theorem ff.refl (hr : x.ready = []) : ff g x x := by
 refine ⟨by rw [hr]; exact List.nodup_nil, by rw [hr]; simp, fun q hq => ?_, fun _ _ _ _ => rfl, Nat.le_refl _, fun q a b => by omega⟩
 rw [hr] at hq; cases hq
theorem ff.of (h : Wk x y) (hr : x.ready = []) (hg : At x g 1) : ff g x y := by
 obtain ⟨a1, l, a2, a3, a4, a5⟩ := h
 rw [hr, List.nil_append] at a2
 rw [ff, a2]
 refine ⟨a3, fun hm => (a4 g hm).2.2.1 hg.2.2, fun q hq => ?_, fun q q0 _ hn => a5 q q0 hn, by omega, fun q b c => by omega⟩
 obtain ⟨b1, b2, b3, b4⟩ := a4 q hq
 exact ⟨b1, by omega, fun ha => b3 ha.2.2, b4⟩
theorem ff.Ah (h : ff g x y) (h1 : z.ready = y.ready) (h2 : z.gs.length = y.gs.length) (h3 : ∀ q, 0 ≤ q → q ≠ g → aa z q = aa y q) : ff g x z := by
 obtain ⟨a1, a2, a3, a4, a5, a6⟩ := h
 rw [ff, h1, h2]
 refine ⟨a1, a2, fun q hq => ?_, fun q q0 hne hn => by rw [h3 q q0 hne]; exact a4 q q0 hne hn, a5, a6⟩
 have hne : q ≠ g := fun e => a2 (e ▸ hq)
 obtain ⟨b1, b2, b3, b4⟩ := a3 q hq
 exact ⟨b1, b2, b3, by rw [h3 q b1 hne]; exact b4⟩
theorem ff.pre (h : ff g y z) (h2 : y.gs.length = x.gs.length) (h3 : ∀ q, 0 ≤ q → q ≠ g → aa y q = aa x q) : ff g x z := by
 obtain ⟨a1, a2, a3, a4, a5, a6⟩ := h
 refine ⟨a1, a2, fun q hq => ?_, fun q q0 hne hn => by rw [a4 q q0 hne hn, h3 q q0 hne], by omega, fun q a b => a6 q (by omega) b⟩
 have hne : q ≠ g := fun e => a2 (e ▸ hq)
 obtain ⟨b1, b2, b3, b4⟩ := a3 q hq
 exact ⟨b1, b2, fun ha => b3 ⟨ha.1, by rw [h2]; exact ha.2.1, by rw [h3 q b1 hne]; exact ha.2.2⟩, b4⟩
theorem ff.bL (h : ff g x y) (h0 : 0 ≤ g) (hg : g < y.gs.length) : ff g x (y.aN g q n) := h.Ah rfl aY fun m m0 hne => iG h0 hg m0 hne
theorem gi {w : eB} (h0 : 0 ≤ g) (hg : g < x.gs.length) {m : Int} (m0 : 0 ≤ m) (hne : m ≠ g) : aa (x.aJ g w) m = aa x m := by
 rw [eE hg h0, if_neg (by omega)]
theorem ff.aJ {w : eB} (h : ff g x y) (h0 : 0 ≤ g) (hg : g < y.gs.length) : ff g x (y.aJ g w) := h.Ah rfl (by simp [Wd.aJ]) fun m m0 hne => gi h0 hg m0 hne
def en (p : cR) (g : Int) (x : Wd) : Out Wd → Prop
 | .cT _ y => WV p y ∧ ff g x y
 | .on y => WV p y ∧ ff g x y
 | .e7 _ _ => False
theorem en.lt {r : Out Wd} (h : en p g x r) (hg : At x g 1) : g < r.fin.gs.length := by
 cases r with
 | on y => have := h.2.2.2.2.2.1; have := hg.2.1; show g < y.gs.length; omega
 | cT n y => have := h.2.2.2.2.2.1; have := hg.2.1; show g < y.gs.length; omega
 | e7 l y => exact h.elim
theorem iF.pY (h : iF x g) : bg x.au g = 0 ∧ dV x.aH g = 0 ∧ uB x.hl g = 0 :=
 ⟨nX.2 h.1, ql.2 h.2.1, List.count_eq_zero.2 fun hm => by
  obtain ⟨y, hy, e⟩ := List.mem_map.1 hm
  exact h.2.2 y hy e⟩
theorem At.free (hg : At x g 1) (h : WV p x) : iF x g := h.free (by rw [hg.2.2]; decide) (by rw [hg.2.2]; decide)
theorem DB (h : WV p x) (hg : At x g 1) (hi : eN p f i) (h9 : i.op = 9) (hr : x.ready = []) : (aI x g ∧ aQ i.b) ∧ en p g x (x.call g i) := by
 obtain ⟨_, _, _, _, _, i9, _⟩ := hi
 obtain ⟨a0, a1, b1, c1⟩ := i9 (.inl h9)
 have hz := h.fP hg.1 hg.2.1
 refine ⟨⟨h.aI hg.1 hg.2.1, b1⟩, ?_⟩
 unfold Wd.call
 split
 ·exact ⟨h, ff.refl hr⟩
 ·rename_i hn
  refine ⟨h.aJ hg.1 hg.2.1 ⟨by simp, by simp; omega, fun r hr => ?_, hz.wt, hz.st⟩ rfl rfl, (ff.refl hr).aJ hg.1 hg.2.1⟩
  rcases List.mem_append.1 hr with hr | hr
  ·exact hz.fr r hr
  ·simp only [List.mem_singleton] at hr; subst hr
   exact ⟨a0, a1, Int.le_refl 0, (by show (0 : Int) ≤ 64; decide), c1⟩
theorem DC (h : WV p x) (hp : fe p) (hg : At x g 1) (hi : eN p f i) (PV : i.op = 20) (hr : x.ready = []) : (aI x g ∧ aQ i.a ∧ x.Sm) ∧ en p g x (x.emit g i) := by
 obtain ⟨_, _, _, _, _, _, i10, _⟩ := hi
 refine ⟨⟨h.aI hg.1 hg.2.1, i10 (.inr (.inr (.inl PV))), h.sm hp (by rw [hr]; decide)⟩, ?_⟩
 unfold Wd.emit
 split
 ·exact ⟨h, ff.refl hr⟩
 ·rename_i hn
  exact ⟨h.congr rfl (fun _ => ⟨rfl, rfl⟩) h.wk rfl rfl rfl (by simp; omega), (ff.refl hr).Ah rfl rfl fun _ _ _ => rfl⟩
theorem DD (h : WV p x) (hg : At x g 1) (hi : eN p f i) (Jo : i.op = 10) (hr : x.ready = []) : (aI x g ∧ aQ i.a ∧ aQ (aa x g).top.lC) ∧ en p g x (.on (x.back g i)) := by
 obtain ⟨_, _, _, _, _, _, i10, _⟩ := hi
 have hz := h.fP hg.1 hg.2.1
 refine ⟨⟨h.aI hg.1 hg.2.1, i10 (.inl Jo), hz.top.2.2.2.2⟩, ?_⟩
 have hf := hg.free h
 unfold Wd.back
 split
 ·rename_i h2
  refine ⟨h.aJ hg.1 hg.2.1 ⟨by simp [eB.back]; omega, by have := hz.l2; simp [eB.back]; omega, fun r hr => ?_, hz.wt, hz.st⟩ rfl rfl, (ff.refl hr).aJ hg.1 hg.2.1⟩
  rcases List.mem_or_eq_of_mem_set hr with hr | rfl
  ·exact hz.fr r (List.mem_of_mem_take hr)
  ·refine wj.set ?_ _ _
   rw [List.getD_eq_getElem?_getD, List.getElem?_eq_getElem (by omega), Option.getD_some]
   exact hz.fr _ (List.getElem_mem _)
 ·have hd : WV p (x.aJ g { aa x g with st := 4 }) := h.yT hg.1 hg.2.1 hf (hz.B5 (by decide) (by decide))
  have Es : ff g x (x.aJ g { aa x g with st := 4 }) := (ff.refl hr).aJ hg.1 hg.2.1
  split
  ·exact ⟨hd.congr rfl (fun _ => ⟨rfl, rfl⟩) hd.wk rfl rfl rfl hd.out, Es.Ah rfl rfl fun _ _ _ => rfl⟩
  ·exact ⟨hd, Es⟩
theorem DE (h : WV p x) (hp : fe p) (hg : At x g 1) (hf : f ∈ p.funcs) (hi : eN p f i) (IG : i.op = 13) (hr : x.ready = []) :
  ((aI x g ∧ aQ i.b ∧ jt p x i.a (aF x g i.b) ∧ nW x g i (x.put p i.a (aF x g i.b))) ∧ x.Sm) ∧ en p g x (x.send p g i) := by
 have hi' := hi
 obtain ⟨_, _, _, _, _, _, _, i13, B9, _⟩ := hi'
 obtain ⟨a0, a1⟩ := i13 (.inl IG)
 have hk : nR x i.a := ⟨a0, by rw [h.ch]; exact a1⟩
 obtain ⟨p1, p2⟩ := h.put (n := aF x g i.b) hp hk
 have BZ := h.aI hg.1 hg.2.1
 have hs := h.sm hp (by rw [hr]; decide)
 have hfr := hg.free h
 obtain ⟨c, hc, ec⟩ := wu hk
 have hm := List.mem_of_getElem? hc
 obtain ⟨s1, s2, s3⟩ := kM h hm
 unfold Wd.send
 generalize Qw : x.put p i.a (aF x g i.b) = r at p2
 match r, p2 with
 | .cT n y, p2 =>
  exact ⟨⟨⟨BZ, B9 (.inl IG), p1, trivial⟩, hs⟩, p2.1, ff.of (Wk.same p2.2.1 p2.2.2) hr hg⟩
 | .on (y, true), p2 =>
  exact ⟨⟨⟨BZ, B9 (.inl IG), p1, trivial⟩, hs⟩, p2.1, ff.of p2.2 hr hg⟩
 | .on (y, false), p2 =>
  have p3 : y = x := p2
  subst p3
  refine ⟨⟨⟨BZ, B9 (.inl IG), p1, BZ, rfl, hk, by rw [ec]; exact ⟨by omega, by omega, by omega⟩⟩, hs⟩, ?_, ?_⟩
  ·have hb := h.block hg hf hi
   have eg : aa (y.block g i) g = { aa y g with st := 2, wt := i } := cq hg.1 hg.2.1
   show WV p ((y.block g i).bx i.a { b7 y.au i.a with snd := (b7 y.au i.a).snd ++ [⟨g, 0, aF y g i.b⟩] })
   rw [ec]
   refine hb.more (c := c) (w := ⟨g, 0, aF y g i.b⟩) hc (h.buf c hm) (fun v hv => .inl hv) (fun v hv => ?_) (fun q => ?_) (fun _ => ?_) ?_
   ·rcases List.mem_append.1 hv with hv | hv
    ·exact .inl hv
    ·refine .inr ⟨by simpa using hv, ⟨hg.1, by simpa [Wd.block, Wd.aJ] using hg.2.1, by rw [eg]⟩, .inl (by rw [eg]; exact IG)⟩
   ·unfold bJ
    simp only [List.map_append, List.map_cons, List.map_nil, List.count_append, List.count_cons, List.count_nil]
    by_cases e : q = g
    ·subst e; simp; omega
    ·rw [if_neg e]
     have : (g == q) = false := by simp; exact fun h => e h.symm
     simp [this]
   ·have := hfr.pY
    show bg y.au g + dV y.aH g = 0
    omega
   ·have := hfr.pY
    show bg y.au g < 32
    omega
  ·exact (ff.refl hr).Ah rfl (by simp [Wd.block, Wd.yL, Wd.aJ, Wd.bx]) fun m m0 hne => by
    show aa (y.aJ g _) m = _
    exact gi hg.1 hg.2.1 m0 hne
 | .e7 l y, p2 => exact p2.elim
end
section
variable {p : cR} {x y z : Wd} {g q k n : Int} {f : List cn} {i : cn} {v : Wt}
theorem gH (l : List Int) (q g : Int) : (l ++ [g]).count q ≤ l.count q + (if q = g then 1 else 0) := by
 rw [List.count_append, List.count_cons, List.count_nil]
 by_cases e : q = g
 ·subst e; simp
 ·rw [if_neg e]
  have : (g == q) = false := by simp; exact fun h => e h.symm
  simp [this]
theorem DF (h : WV p x) (hp : fe p) (hg : At x g 1) (hf : f ∈ p.funcs) (hi : eN p f i) (Jq : i.op = 14) (hr : x.ready = []) :
  (oR x g i ∧ x.Sm) ∧ en p g x (.on (x.recv g i)) := by
 have hi' := hi
 obtain ⟨_, _, _, _, _, _, _, i13, B9, i14, _⟩ := hi'
 obtain ⟨a0, a1⟩ := i13 (.inr (.inl Jq))
 have hk : nR x i.a := ⟨a0, by rw [h.ch]; exact a1⟩
 obtain ⟨p1, p2, p3, p4⟩ := h.get hp hk
 have BZ := h.aI hg.1 hg.2.1
 have hs := h.sm hp (by rw [hr]; decide)
 have hfr := hg.free h
 obtain ⟨c, hc, ec⟩ := wu hk
 have hm := List.mem_of_getElem? hc
 obtain ⟨s1, s2, s3⟩ := kM h hm
 have ek := p3.keep hg.1 hg.2.2
 have el := p3.1
 refine ⟨⟨⟨BZ, B9 (.inr Jq), i14 (.inl Jq), p1, p2.aI hg.1 (by rw [el]; exact hg.2.1), by rw [ek], fun e => ?_⟩, hs⟩, ?_⟩
 ·rw [p4 e]
  exact ⟨hk, by rw [ec]; exact ⟨by omega, by omega, by omega⟩⟩
 ·unfold Wd.recv
  have Es : ff g x (x.get i.a).1 := ff.of p3 hr hg
  split
  ·have r1 := p2.aN (g := g) (q := i.b) (n := (x.get i.a).2.1) hg.1 (by rw [el]; exact hg.2.1)
   refine ⟨r1.aN hg.1 (by rw [aY, el]; exact hg.2.1), (Es.bL hg.1 (by rw [el]; exact hg.2.1)).bL hg.1 (by rw [aY, el]; exact hg.2.1)⟩
  ·rename_i e
   rw [p4 (by simpa using e)]
   have hb := h.block hg hf hi
   have eg : aa (x.block g i) g = { aa x g with st := 2, wt := i } := cq hg.1 hg.2.1
   refine ⟨?_, ?_⟩
   ·show WV p ((x.block g i).bx i.a { b7 x.au i.a with cQ := (b7 x.au i.a).cQ ++ [⟨g, 0, 0⟩] })
    rw [ec]
    refine hb.more (c := c) (w := ⟨g, 0, 0⟩) hc (h.buf c hm) (fun v hv => ?_) (fun v hv => .inl hv) (fun q => ?_) (fun _ => ?_) ?_
    ·rcases List.mem_append.1 hv with hv | hv
     ·exact .inl hv
     ·exact .inr ⟨by simpa using hv, ⟨hg.1, by simpa [Wd.block, Wd.aJ] using hg.2.1, by rw [eg]⟩, .inl (by rw [eg]; exact Jq)⟩
    ·unfold bJ
     rw [List.map_append, ← List.append_assoc]
     exact gH _ _ _
    ·have := hfr.pY
     show bg x.au g + dV x.aH g = 0
     omega
    ·have := hfr.pY
     show bg x.au g < 32
     omega
   ·exact (ff.refl hr).Ah rfl (by simp [Wd.block, Wd.yM, Wd.aJ, Wd.bx]) fun m m0 hne => by
     show aa (x.aJ g _) m = _
     exact gi hg.1 hg.2.1 m0 hne
theorem DG (h : WV p x) (hp : fe p) (hg : At x g 1) (hi : eN p f i) (PW : i.op = 15) (hr : x.ready = []) :
  (jf p x i ∧ x.Sm) ∧ en p g x (x.shut p i) := by
 have hi' := hi
 obtain ⟨_, _, _, _, _, _, _, i13, _⟩ := hi'
 obtain ⟨a0, a1⟩ := i13 (.inr (.inr PW))
 have hk : nR x i.a := ⟨a0, by rw [h.ch]; exact a1⟩
 have hs := h.sm hp (by rw [hr]; decide)
 obtain ⟨c, hc, ec⟩ := wu hk
 have hm := List.mem_of_getElem? hc
 obtain ⟨s1, s2, s3⟩ := kM h hm
 have hb := h.buf c hm
 have hrc := h.cQ c hm
 unfold jf Wd.shut
 rw [ec]
 obtain ⟨room, buf, snd, cQ, closed⟩ := c
 cases closed with
 | true =>
  refine ⟨⟨⟨hk, by dsimp only at *; omega, fun e => by simp [aC.close] at e⟩, hs⟩, ?_⟩
  simp only [aC.close, if_true]
  rw [jm hc]
  exact ⟨h, ff.refl hr⟩
 | false =>
  have Ej : WV p (x.bx i.a ⟨room, buf, [], [], true⟩) := h.less hc hb (fun v hv => by cases hv) (fun v hv => by cases hv) (fun q => by simp [bJ])
  have Ca := oW hp cQ (x.bx i.a ⟨room, buf, [], [], true⟩) Ej (by show x.ready.length + cQ.length ≤ 1000000; rw [hr]; dsimp only [List.length_nil] at *; omega) (fun v hv => by
   obtain ⟨a, b⟩ := hrc v hv
   refine ⟨a.1, a.2.1, fun _ => ?_⟩
   rcases b with b | b
   ·refine .inl ⟨b, uC h hc a.1 a.2.2 (by rw [b]; decide) ?_⟩
    have : 0 < List.count v.g (bJ ⟨room, buf, snd, cQ, false⟩) := List.count_pos_iff.2 (List.mem_append_right _ (List.mem_map.2 ⟨v, hv, rfl⟩))
    show List.count v.g (bJ ⟨room, buf, [], [], true⟩) + 1 ≤ _
    simp only [bJ, List.map_nil, List.append_nil, List.count_nil] at *
    omega
   ·exact .inr b)
  refine ⟨⟨⟨hk, by dsimp only at *; omega, fun _ _ => ?_⟩, hs⟩, ?_⟩
  ·simp only [aC.close, Bool.false_eq_true, if_false]
   exact Ca.1
  ·simp only [aC.close, Bool.false_eq_true, if_false]
   rw [if_neg (by decide)]
   split
   ·exact ⟨Ej, (ff.refl hr).Ah rfl rfl fun _ _ _ => rfl⟩
   ·exact ⟨Ca.2.1, ff.of (Wk.bx.trans Ca.2.2) hr hg⟩
theorem Cb (h : WV p x) (hp : fe p) (hg : At x g 1) (hi : eN p f i) (PX : i.op = 17) (hr : x.ready = []) :
  (aI x g ∧ aQ i.a ∧ x.hl.length < 1000000) ∧ en p g x (.on (x.sleep g i)) := by
 obtain ⟨_, _, _, _, _, _, i10, _⟩ := hi
 refine ⟨⟨h.aI hg.1 hg.2.1, i10 (.inr (.inl PX)), by have := h.wm; omega⟩, ?_⟩
 unfold Wd.sleep
 split
 ·have hf := hg.free h
  have hz := h.fP hg.1 hg.2.1
  have h1 := h.yT hg.1 hg.2.1 hf (hz.B5 (s := 3) (by decide) (by decide))
  have Es : ff g x (x.aJ g { aa x g with st := 3 }) := (ff.refl hr).aJ hg.1 hg.2.1
  refine ⟨⟨h1.n1, h1.n2, h1.wk, h1.ch, h1.lk, h1.buf, h1.cQ, h1.snd, h1.lw, fun w hw => ?_, h1.one, h1.uv, fun q => ?_, h1.out⟩, Es.Ah rfl rfl fun _ _ _ => rfl⟩
  ·have xA := mT.mem_iff.1 hw
   rcases List.mem_append.1 xA with xA | xA
   ·exact h1.hl w xA
   ·simp only [List.mem_singleton] at xA; subst xA
    refine ⟨hg.1, by simpa [Wd.aJ] using hg.2.1, ?_⟩
    show (aa (x.aJ g { aa x g with st := 3 }) g).st = 3
    rw [cq hg.1 hg.2.1]
  ·show uB (gS x.hl _) q ≤ 1
   unfold uB
   rw [(mT.map ay.id).count_eq, List.map_append, List.map_cons, List.map_nil]
   have a := gH (x.hl.map ay.id) q g
   have b := h.h1 q
   unfold uB at b
   by_cases e : q = g
   ·subst e
    have := hf.pY.2.2
    unfold uB at this
    rw [if_pos rfl] at a
    dsimp only at *
    omega
   ·rw [if_neg e] at a
    dsimp only at *
    omega
 ·exact ⟨h, ff.refl hr⟩
theorem Et (hk : uA x k) : ∃ c, x.aH[k.toNat]? = some c ∧ jJ x k = c := by
 obtain ⟨k0, k1⟩ := hk
 obtain ⟨c, hc⟩ := aP (l := x.aH) (i := k.toNat) (by omega)
 exact ⟨c, hc, by simp [jJ, hc]⟩
theorem WV.yd (h : WV p x) {c c' : Lk} (hc : x.aH[k.toNat]? = some c) (hr : ∀ v ∈ c'.waits, v ∈ c.waits) (hn : ∀ q, c'.waits.count q ≤ c.waits.count q) : WV p (x.dK k c') := by
 have hm : c ∈ x.aH := List.mem_of_getElem? hc
 refine ⟨h.n1, h.n2, h.wk, h.ch, by simpa [Wd.dK] using h.lk, h.buf, h.cQ, h.snd, fun d hd v hv => ?_, h.hl, fun q q0 hq => ?_, h.uv, h.h1, h.out⟩
 ·rcases gV hd with hd | rfl
  ·exact h.lw d hd v hv
  ·exact h.lw c hm v (hr v hv)
 ·have a := h.one q q0 hq
  have b := gU (fun l : Lk => l.waits.count q) x.aH k.toNat c' c hc
  have := hn q
  show bg x.au q + dV (x.aH.set k.toNat c') q ≤ 1
  unfold dV at *
  omega
theorem DH (h : WV p x) (hp : fe p) (hg : At x g 1) (hf : f ∈ p.funcs) (hi : eN p f i) (Er : i.op = 18) (hr : x.ready = []) :
  (aI x g ∧ uA x i.a ∧ x.Sm) ∧ en p g x (.on (x.lock g i)) := by
 have hi' := hi
 obtain ⟨_, _, _, _, _, _, _, _, _, _, _, i18, _⟩ := hi'
 obtain ⟨a0, a1⟩ := i18 (.inl Er)
 have hk : uA x i.a := ⟨a0, by rw [h.lk]; exact a1⟩
 refine ⟨⟨h.aI hg.1 hg.2.1, hk, h.sm hp (by rw [hr]; decide)⟩, ?_⟩
 obtain ⟨c, hc, ec⟩ := Et hk
 have hm := List.mem_of_getElem? hc
 have hfr := hg.free h
 unfold Wd.lock
 rw [ec]
 unfold Lk.take
 split
 ·dsimp only
  rw [if_pos rfl]
  exact ⟨h.yd hc (fun v hv => hv) (fun q => Nat.le_refl _), (ff.refl hr).Ah rfl rfl fun _ _ _ => rfl⟩
 ·dsimp only
  rw [if_neg (by decide)]
  have hb := h.block hg hf hi
  have eg : aa (x.block g i) g = { aa x g with st := 2, wt := i } := cq hg.1 hg.2.1
  refine ⟨?_, ?_⟩
  ·show WV p ((x.block g i).dK i.a ⟨c.owner, c.waits ++ [g]⟩)
   refine ⟨hb.n1, hb.n2, hb.wk, hb.ch, by simpa [Wd.dK] using hb.lk, hb.buf, hb.cQ, hb.snd, fun d hd v hv => ?_, hb.hl, fun q q0 hq => ?_, hb.uv, hb.h1, hb.out⟩
   ·rcases gV hd with hd | rfl
    ·exact hb.lw d hd v hv
    ·rcases List.mem_append.1 hv with hv | hv
     ·exact hb.lw c hm v hv
     ·simp only [List.mem_singleton] at hv; subst hv
      exact ⟨⟨hg.1, by simpa [Wd.dK, Wd.block, Wd.aJ] using hg.2.1, by show (aa (x.block v i) v).st = 2; rw [eg]⟩, by show (aa (x.block v i) v).wt.op = 18; rw [eg]; exact Er⟩
   ·have a := hb.one q q0 hq
    have b := gU (fun l : Lk => l.waits.count q) x.aH i.a.toNat ⟨c.owner, c.waits ++ [g]⟩ c hc
    have d := gH c.waits q g
    show bg x.au q + dV (x.aH.set i.a.toNat _) q ≤ 1
    have a' : bg x.au q + dV x.aH q ≤ 1 := a
    by_cases e : q = g
    ·subst e
     have := hfr.pY
     rw [if_pos rfl] at d
     unfold dV at *
     dsimp only at *
     omega
    ·rw [if_neg e] at d
     unfold dV at *
     dsimp only at *
     omega
  ·exact (ff.refl hr).Ah rfl (by simp [Wd.block, Wd.dK, Wd.aJ]) fun m m0 hne => by
    show aa (x.aJ g _) m = _
    exact gi hg.1 hg.2.1 m0 hne
theorem zY (h : WV p x) (hp : fe p) (hg : At x g 1) (hi : eN p f i) (PY : i.op = 19) (hr : x.ready = []) :
  (iD x g i ∧ x.Sm) ∧ en p g x (x.unlock g i) := by
 have hi' := hi
 obtain ⟨_, _, _, _, _, _, _, _, _, _, _, i18, _⟩ := hi'
 obtain ⟨a0, a1⟩ := i18 (.inr PY)
 have hk : uA x i.a := ⟨a0, by rw [h.lk]; exact a1⟩
 have hs := h.sm hp (by rw [hr]; decide)
 obtain ⟨c, hc, ec⟩ := Et hk
 have hm := List.mem_of_getElem? hc
 have hw := h.lw c hm
 unfold iD Wd.unlock
 rw [ec]
 unfold Lk.lW
 split
 ·refine ⟨⟨⟨hk, fun e => absurd rfl e⟩, hs⟩, ?_⟩
  dsimp only
  rw [if_pos (by decide)]
  have e : x.dK i.a c = x := by unfold Wd.dK; rw [di _ _ _ hc]
  rw [e]
  exact ⟨h, ff.refl hr⟩
 ·obtain ⟨o, ws⟩ := c
  cases ws with
  | nil =>
   refine ⟨⟨⟨hk, fun e => absurd rfl e⟩, hs⟩, ?_⟩
   split
   ·rename_i e; exact absurd rfl e
   ·split
    ·rename_i e; exact absurd rfl e
    ·exact ⟨h.yd (c' := ⟨-1, []⟩) hc (fun v hv => by cases hv) (fun q => by simp), (ff.refl hr).Ah rfl rfl fun _ _ _ => rfl⟩
  | cons w ws =>
   obtain ⟨a, b⟩ := hw w (by simp)
   refine ⟨⟨⟨hk, fun _ => ⟨a.1, a.2.1⟩⟩, hs⟩, ?_⟩
   have hne : w ≠ -1 := by have := a.1; omega
   have hl : WV p (x.dK i.a ⟨w, ws⟩) := h.yd hc (fun v hv => List.mem_cons_of_mem _ hv) (fun q => by simp only [List.count_cons]; omega)
   have hfr : iF (x.dK i.a ⟨w, ws⟩) w := by
    have o1 := h.one w a.1 (by rw [b]; decide)
    have s := gU (fun l : Lk => l.waits.count w) x.aH i.a.toNat ⟨w, ws⟩ ⟨o, w :: ws⟩ hc
    simp only [List.count_cons, beq_self_eq_true, if_true] at s
    have e1 : dV (x.aH.set i.a.toNat ⟨w, ws⟩) w = 0 := by unfold dV at *; omega
    have e2 : bg x.au w = 0 := by
     have := rE (fun l : Lk => l.waits.count w) x.aH ⟨o, w :: ws⟩ hm
     simp only [List.count_cons, beq_self_eq_true, if_true] at this
     unfold dV at *; omega
    refine ⟨nX.1 e2, ql.1 e1, fun y hy e => ?_⟩
    have := (h.hl y hy).2.2
    rw [e, a.2.2] at this
    cases this
   have hres : en p g x (.on ((x.dK i.a ⟨w, ws⟩).bX w)) := ⟨hl.bX a.1 a.2.1 hfr, ff.of (Wk.trans (Wk.same rfl rfl) (Wk.bX (x := x.dK i.a ⟨w, ws⟩) a.1 a.2.1 (by show (aa x w).st ≠ 1; rw [a.2.2]; decide))) hr hg⟩
   split
   ·rename_i e; exact absurd rfl e
   ·split
    ·exact hres
    ·rename_i e; exact absurd hne e
end
section
variable {p : cR} {x y z : Wd} {g q k n : Int} {f : List cn} {i : cn} {v : Wt}
theorem gq {w : eB} (h0 : 0 ≤ q) (hq : q < x.gs.length) : aa { x with gs := x.gs ++ [w] } q = aa x q := by
 unfold aa
 dsimp only
 rw [List.getD_eq_getElem?_getD, List.getD_eq_getElem?_getD, List.getElem?_append_left (by omega)]
theorem tH {w : eB} : aa { x with gs := x.gs ++ [w] } (x.gs.length : Int) = w := by
 unfold aa
 dsimp only
 rw [Int.toNat_natCast, List.getD_eq_getElem?_getD, List.getElem?_append_right (Nat.le_refl _)]
 simp
theorem WV.spawn (h : WV p x) (hn : x.gs.length < 100) {w : eB} (hw : jK p w) : WV p { x with gs := x.gs ++ [w] } := by
 have at_ : ∀ q s, At x q s → At { x with gs := x.gs ++ [w] } q s := fun q s ha => ⟨ha.1, by have := ha.2.1; simp; omega, by rw [gq ha.1 ha.2.1]; exact ha.2.2⟩
 refine ⟨by simp, by simp; omega, fun z hz => ?_, h.ch, h.lk, h.buf, fun c hc v hv => ?_, fun c hc v hv => ?_, fun l hl q hq => ?_, fun z hz => at_ _ _ (h.hl z hz), fun q q0 hq => ?_, h.uv, h.h1, h.out⟩
 ·rcases List.mem_append.1 hz with hz | hz
  ·exact h.wk z hz
  ·simp only [List.mem_singleton] at hz; subst hz; exact hw
 ·obtain ⟨a, b⟩ := h.cQ c hc v hv
  rw [gq a.1 a.2.1]
  exact ⟨at_ _ _ a, b⟩
 ·obtain ⟨a, b⟩ := h.snd c hc v hv
  rw [gq a.1 a.2.1]
  exact ⟨at_ _ _ a, b⟩
 ·obtain ⟨a, b⟩ := h.lw l hl q hq
  rw [gq a.1 a.2.1]
  exact ⟨at_ _ _ a, b⟩
 ·by_cases hlt : q < x.gs.length
  ·rw [gq q0 hlt] at hq
   exact h.one q q0 hq
  ·refine h.one q q0 ?_
   unfold aa
   rw [List.getD_eq_getElem?_getD, List.getElem?_eq_none (by omega)]
   decide
theorem wz {w : eB} : Wd.bX { x with gs := x.gs ++ [{ w with st := 0 }] } (x.gs.length : Int) = { x with gs := x.gs ++ [{ w with st := 1 }], ready := x.ready ++ [(x.gs.length : Int)] } := by
 unfold Wd.bX Wd.aJ
 rw [tH]
 simp [List.set_append_right]
theorem Cc (h : WV p x) (hp : fe p) (hg : At x g 1) (hi : eN p f i) (PZ : i.op = 11) (hr : x.ready = []) : (aI x g ∧ aQ i.b ∧ aQ i.c ∧ x.Sm) ∧ en p g x (x.spawn g i) := by
 obtain ⟨_, _, _, _, _, i9, _⟩ := hi
 obtain ⟨a0, a1, b1, c1⟩ := i9 (.inr PZ)
 refine ⟨⟨h.aI hg.1 hg.2.1, b1, c1, h.sm hp (by rw [hr]; decide)⟩, ?_⟩
 unfold Wd.spawn
 split
 ·exact ⟨h, ff.refl hr⟩
 ·rename_i hn
  rw [wz (w := ⟨0, [cB.begin i.a (aF x g i.b)], .zero⟩)]
  have hw : jK p ⟨1, [cB.begin i.a (aF x g i.b)], .zero⟩ := ⟨by simp, by simp, fun r hr => by
   simp only [List.mem_singleton] at hr; subst hr
   exact ⟨a0, a1, Int.le_refl 0, (by show (0 : Int) ≤ 64; decide), by show aQ 0; decide⟩, (fun e => by cases e), by show (1 : Int) ≤ 1 ∧ (1 : Int) ≤ 4; decide⟩
  have h1 := (h.spawn (by omega) hw).ready (r := x.ready ++ [(x.gs.length : Int)])
  have hlen : g < (x.gs ++ [(⟨1, [cB.begin i.a (aF x g i.b)], .zero⟩ : eB)]).length := by have := hg.2.1; simp; omega
  refine ⟨h1.aN hg.1 hlen, ?_⟩
  have Es : ff g x { x with gs := x.gs ++ [⟨1, [cB.begin i.a (aF x g i.b)], .zero⟩], ready := x.ready ++ [(x.gs.length : Int)] } := by
   rw [ff, hr]
   simp only [List.nil_append, List.length_append, List.length_cons, List.length_nil]
   refine ⟨by simp, by have := hg.2.1; simp; omega, fun q hq => ?_, fun q q0 _ hn => ?_, by omega, fun q a b => by simp; omega⟩
   ·simp only [List.mem_singleton] at hq; subst hq
    exact ⟨by omega, by omega, fun ha => by have := ha.2.1; omega, by show (aa { x with gs := x.gs ++ [_] } _).st = 1; rw [tH]⟩
   ·show aa { x with gs := x.gs ++ [_] } q = aa x q
    by_cases hlt : q < x.gs.length
    ·exact gq q0 hlt
    ·simp only [List.mem_singleton] at hn
     unfold aa
     dsimp only
     rw [List.getD_eq_getElem?_getD, List.getD_eq_getElem?_getD, List.getElem?_eq_none (by simp; omega), List.getElem?_eq_none (by omega)]
  exact Es.bL hg.1 hlen
theorem yV (h : WV p x) (hg : At x g 2) (nO : (aa x g).wt.op = 16) (hf : iF x g) {dg : List Int} {cases : List kZ} (hc : ∀ c ∈ cases, c.Ok x.au.length) (hb : (cases.length : Int) ≤ (aa x g).wt.b) (Nu : cases.length ≤ 32) :
  ∀ j, j ≤ cases.length → WV p { x with au := cz g dg cases x.au j } ∧ bg (cz g dg cases x.au j) g ≤ j
 | 0, _ => ⟨h, by show bg x.au g ≤ 0; have := hf.pY; omega⟩
 | j + 1, hj => by
  obtain ⟨ih, ic⟩ := yV h hg nO hf (dg := dg) hc hb Nu j (by omega)
  obtain ⟨c, uK⟩ := aP (l := cases) (i := j) (by omega)
  have ok := hc c (List.mem_of_getElem? uK)
  unfold cz
  rw [uK]
  dsimp only
  unfold fZ
  generalize hcs : cz g dg cases x.au j = cs at ih ic
  have hlen : cs.length = x.au.length := by
   have a := ih.ch
   have b := h.ch
   dsimp only at a
   omega
  have key : ∀ d : aC, (c.way = 0 ∨ c.way = 1) → b7 cs c.ch = d → ∀ d' : aC, d'.buf = d.buf → d'.room = d.room →
    ((∀ v ∈ d'.cQ, v ∈ d.cQ ∨ v = ⟨g, j, 0⟩) ∧ d'.snd = d.snd ∨ (∀ v ∈ d'.snd, v ∈ d.snd ∨ v = ⟨g, j, dg.getD c.bL.toNat 0⟩) ∧ d'.cQ = d.cQ) →
    (∀ q, (bJ d').count q ≤ (bJ d).count q + (if q = g then 1 else 0)) →
    WV p { x with au := cs.set c.ch.toNat d' } ∧ bg (cs.set c.ch.toNat d') g ≤ j + 1 := by
   intro d FT hd d' e1 e2 e3 hn
   obtain ⟨k0, k1, _⟩ := ok.2.2 (by rcases FT with e | e <;> rw [e] <;> decide)
   obtain ⟨d2, FU⟩ := aP (l := cs) (i := c.ch.toNat) (by omega)
   have : d2 = d := by rw [← hd]; simp [b7, FU]
   subst this
   have hm : d2 ∈ cs := List.mem_of_getElem? FU
   have II := ih.buf d2 hm
   refine ⟨?_, ?_⟩
   ·rcases e3 with ⟨e3, e4⟩ | ⟨e3, e4⟩
    ·exact ih.more (k := c.ch) (w := ⟨g, j, 0⟩) FU (by rw [e1, e2]; exact II) (fun v hv => by
      rcases e3 v hv with e | e
      ·exact .inl e
      ·exact .inr ⟨e, hg, .inr ⟨nO, by dsimp only; omega, by dsimp only; show (j : Int) < (aa x g).wt.b; omega⟩⟩) (fun v hv => .inl (by rw [← e4]; exact hv)) hn (fun e => absurd nO e) (by show bg cs g < 32; omega)
    ·exact ih.more (k := c.ch) (w := ⟨g, j, dg.getD c.bL.toNat 0⟩) FU (by rw [e1, e2]; exact II) (fun v hv => .inl (by rw [← e4]; exact hv)) (fun v hv => by
      rcases e3 v hv with e | e
      ·exact .inl e
      ·exact .inr ⟨e, hg, .inr ⟨nO, by dsimp only; omega, by dsimp only; show (j : Int) < (aa x g).wt.b; omega⟩⟩) hn (fun e => absurd nO e) (by show bg cs g < 32; omega)
   ·have a := gU (fun c : aC => (bJ c).count g) cs c.ch.toNat d' d2 FU
    have b := hn g
    rw [if_pos rfl] at b
    unfold bg at *
    omega
  split
  ·rename_i hw
   refine key _ (.inl hw) rfl _ rfl rfl (.inl ⟨fun v hv => ?_, rfl⟩) (fun q => ?_)
   ·rcases List.mem_append.1 hv with hv | hv
    ·exact .inl hv
    ·exact .inr (by simpa using hv)
   ·unfold bJ
    rw [List.map_append, ← List.append_assoc]
    exact gH _ _ _
  ·split
   ·rename_i hw
    refine key _ (.inr hw) rfl _ rfl rfl (.inr ⟨fun v hv => ?_, rfl⟩) (fun q => ?_)
    ·rcases List.mem_append.1 hv with hv | hv
     ·exact .inl hv
     ·exact .inr (by simpa using hv)
    ·unfold bJ
     have := gH ((b7 cs c.ch).snd.map Wt.g) q g
     simp only [List.map_append, List.map_cons, List.map_nil, List.count_append] at *
     omega
   ·exact ⟨ih, by omega⟩
end
section
variable {p : cR} {x y z : Wd} {g q k n : Int} {f : List cn} {i : cn} {v : Wt} {d : fU}
theorem jK.DI {w : eB} (h : jK p w) (su : w.top.pc + 1 ≤ 64) : jK p (w.bj w.top.next) :=
 h.bj ⟨h.top.1, h.top.2.1, by have := h.top.2.2.1; show 0 ≤ w.top.pc + 1; omega, su, h.top.2.2.2.2⟩
theorem WV.next (h : WV p x) (hg : At x g 1) (su : (aa x g).top.pc + 1 ≤ 64) : WV p (x.next g) ∧ At (x.next g) g 1 ∧ (x.next g).gs.length = x.gs.length ∧ (∀ q, 0 ≤ q → q ≠ g → aa (x.next g) q = aa x q) ∧ (aa (x.next g) g).fs.length = (aa x g).fs.length := by
 have hz := (h.fP hg.1 hg.2.1).DI su
 have e : aa (x.next g) g = (aa x g).bj (aa x g).top.next := cq hg.1 hg.2.1
 refine ⟨h.aJ hg.1 hg.2.1 hz rfl rfl, ⟨hg.1, by simpa [Wd.next, Wd.aJ] using hg.2.1, by rw [e]; exact hg.2.2⟩, by simp [Wd.next, Wd.aJ], fun q q0 hne => gi hg.1 hg.2.1 q0 hne, by rw [e]; simp [eB.bj]⟩
theorem tI {c : kZ} (h : c ∈ av p i) : c ∈ p.cases := List.mem_of_mem_drop (List.mem_of_mem_take h)
theorem wA {cases : List kZ} {cs : List aC} (h : k ∈ enabled cases cs) : ∃ (j : Nat) (c : kZ), k = (j : Int) ∧ j < cases.length ∧ cases[j]? = some c ∧ can cs c = true := by
 unfold enabled uh at h
 obtain ⟨j, hj, rfl⟩ := List.mem_map.1 h
 obtain ⟨h1, h2⟩ := List.mem_filter.1 hj
 rw [List.mem_range] at h1
 obtain ⟨c, hc⟩ := aP (l := cases) (i := j) (by omega)
 unfold BB at h2
 rw [hc] at h2
 exact ⟨j, c, rfl, h1, hc, h2⟩
theorem zZ (h : WV p x) (hp : fe p) (hg : At x g 1) (hf : f ∈ p.funcs) (hi : eN p f i) (nO : i.op = 16) (hr : x.ready = []) (su : (aa x g).top.pc + 1 ≤ 64)
  (hd : ∀ v, d = .num v → enabled (av p i) x.au ≠ [] → 0 ≤ v ∧ v < (enabled (av p i) x.au).length) :
  iE p x g i d = true ∧ (en p g x (x.choose p g i d) ∨ ∃ l, d = .e7 l ∧ x.choose p g i d = .e7 l x) := by
 have hi' := hi
 obtain ⟨_, _, _, _, _, _, _, _, _, i14, i16, _⟩ := hi'
 have hc := i14 (.inr nO)
 obtain ⟨a0, b1, ab⟩ := i16 nO
 have hcs := hp.cs
 have BZ := h.aI hg.1 hg.2.1
 have hs := h.sm hp (by rw [hr]; decide)
 obtain ⟨n1, n2, n3, n4, n5⟩ := h.next hg su
 have Dt := (h.fP hg.1 hg.2.1).top.2.2.1
 have Ej : (av p i).length = i.b.toNat := by
  unfold av
  rw [List.length_take, List.length_drop]; omega
 have FV : ∀ c ∈ av p i, c.Ok x.au.length := fun c hc => by rw [h.ch]; exact (hp.Mj c (tI hc)).1
 have P0 : (x.next g).au = x.au := rfl
 have Eu : ∀ k, k ∈ enabled (av p i) x.au → rC p x g i k ∧ en p g x (x.nU p g i k) := by
  intro k hk
  obtain ⟨j, c, rfl, hj, uK, hcan⟩ := wA hk
  have hm : c ∈ av p i := List.mem_of_getElem? uK
  have Jr := (hp.Mj c (tI hm)).2
  have hok := FV c hm
  have ec : (av p i).getD (j : Int).toNat ⟨0, 0, 0⟩ = c := by rw [Int.toNat_natCast, List.getD_eq_getElem?_getD, uK]; rfl
  have FT : c.way = 0 ∨ c.way = 1 := by
   unfold can at hcan
   split at hcan
   ·rename_i e; exact .inl e
   ·split at hcan
    ·rename_i e; exact .inr e
    ·cases hcan
  obtain ⟨k0, k1, _⟩ := hok.2.2 (by rcases FT with e | e <;> rw [e] <;> decide)
  have Nv : nR (x.next g) c.ch := ⟨k0, k1⟩
  unfold rC Wd.nU
  rw [ec]
  dsimp only
  by_cases hw : c.way = 1
  ·rw [if_pos hw, if_pos hw]
   obtain ⟨p1, p2⟩ := n1.put (n := aF (x.next g) g c.bL) hp Nv
   generalize (x.next g).put p c.ch (aF (x.next g) g c.bL) = r at p2
   match r, p2 with
   | .cT n y, p2 => exact ⟨⟨by omega, by omega, Jr, p1, trivial⟩, p2.1, (ff.of (Wk.same p2.2.1 p2.2.2) hr n2).pre n3 n4⟩
   | .on (y, true), p2 =>
    have ek := p2.2.keep hg.1 n2.2.2
    have el : g < y.gs.length := by rw [p2.2.1, n3]; exact hg.2.1
    exact ⟨⟨by omega, by omega, Jr, p1, p2.1.aI hg.1 el, by rw [ek, n5]⟩, p2.1.aN hg.1 el, ((ff.of p2.2 hr n2).pre n3 n4).bL hg.1 el⟩
   | .on (y, false), p2 =>
    have p3 : y = x.next g := p2
    subst p3
    have el : g < (x.next g).gs.length := by rw [n3]; exact hg.2.1
    exact ⟨⟨by omega, by omega, Jr, p1, n1.aI hg.1 el, n5⟩, n1.aN hg.1 el, ((ff.refl (x := x.next g) hr).pre n3 n4).bL hg.1 el⟩
   | .e7 l y, p2 => exact p2.elim
  ·rw [if_neg hw, if_neg hw]
   obtain ⟨p1, p2, p3, _⟩ := n1.get hp Nv
   have ek := p3.keep hg.1 n2.2.2
   have el : g < ((x.next g).get c.ch).1.gs.length := by rw [p3.1, n3]; exact hg.2.1
   have r1 := p2.aN (g := g) (q := c.bL) (n := ((x.next g).get c.ch).2.1) hg.1 el
   exact ⟨⟨by omega, by omega, Jr, p1, p2.aI hg.1 el, by rw [ek, n5]⟩, r1.aN hg.1 (by rw [aY]; exact el), (((ff.of p3 hr n2).pre n3 n4).bL hg.1 el).bL hg.1 (by rw [aY]; exact el)⟩
 refine ⟨?_, ?_⟩
 ·unfold iE
  rw [Bool.and_eq_true]
  refine ⟨decide_eq_true ⟨BZ, ⟨a0, by omega, ab, by omega⟩, hc, hs, by omega, Dt, FV⟩, ?_⟩
  cases d with
  | e7 l => rfl
  | num v =>
   dsimp only
   cases he : enabled (av p i) x.au with
   | nil => rfl
   | cons q t =>
    rw [List.isEmpty_cons, Bool.false_or]
    obtain ⟨v0, v1⟩ := hd v rfl (by rw [he]; simp)
    rw [he] at v1
    refine decide_eq_true ⟨v0, v1, (Eu _ ?_).1⟩
    rw [he, List.getD_eq_getElem?_getD, List.getElem?_eq_getElem (by omega), Option.getD_some]
    exact List.getElem_mem _
 ·unfold Wd.choose
  split
  ·refine .inl ?_
   unfold Wd.mQ
   dsimp only
   split
   ·exact ⟨n1.aN hg.1 (by rw [n3]; exact hg.2.1), ((ff.refl (x := x.next g) hr).pre n3 n4).bL hg.1 (by rw [n3]; exact hg.2.1)⟩
   ·have hb := n1.block n2 hf hi
    have eg : aa ((x.next g).block g i) g = { aa (x.next g) g with st := 2, wt := i } := cq hg.1 (by rw [n3]; exact hg.2.1)
    have hfr := n2.free n1
    have hw := (yV (x := (x.next g).block g i) hb ⟨hg.1, by simpa [Wd.block, Wd.aJ, n3] using hg.2.1, by rw [eg]⟩ (by rw [eg]; exact nO) hfr (dg := nT (aa (x.next g) g).top) (cases := av p i) FV (by rw [eg, Ej]; show ((i.b.toNat : Nat) : Int) ≤ i.b; omega) (by omega) (av p i).length (Nat.le_refl _)).1
    refine ⟨hw, ((ff.refl (x := x.next g) hr).pre n3 n4).Ah rfl (by simp [Wd.block, Wd.aJ]) fun m m0 hne => ?_⟩
    show aa ((x.next g).aJ g _) m = _
    exact gi hg.1 (by rw [n3]; exact hg.2.1) m0 hne
  ·rename_i hne
   cases d with
   | num v =>
    refine .inl (Eu _ ?_).2
    obtain ⟨v0, v1⟩ := hd v rfl hne
    rw [List.getD_eq_getElem?_getD, List.getElem?_eq_getElem (by omega), Option.getD_some]
    exact List.getElem_mem _
   | e7 l => exact .inr ⟨l, rfl, rfl⟩
theorem Cd (h : WV p x) (hp : fe p) (h0 : 0 ≤ g) (hd : ∀ v kd n, d = .num v → asks p { x with ready := [] } g = some (kd, n) → 0 ≤ v ∧ v < n) :
  ∃ r rest, gG p x g d = some (r, rest) ∧ (en p g { x with ready := [] } r ∧ (fJ { x with ready := [] } g ∨ r = .on { x with ready := [] } ∧ rest = true) ∨ ∃ l, d = .e7 l ∧ r = .e7 l { x with ready := [] } ∧ rest = false ∧ fJ { x with ready := [] } g ∧ asks p { x with ready := [] } g ≠ none) := by
 have h := h.ready (r := [])
 generalize hx : ({ x with ready := [] } : Wd) = x' at h hd
 have hr : x'.ready = [] := by rw [← hx]
 unfold gG
 rw [hx]
 dsimp only
 split
 ·rename_i jO
  have hg : At x' g 1 := ⟨jO.1, jO.2.1, jO.2.2.2⟩
  have hz := h.fP hg.1 hg.2.1
  obtain ⟨t1, t2, t3, t4, t5⟩ := hz.top
  rw [if_pos ⟨h.aI hg.1 hg.2.1, t1, t3, by omega⟩]
  obtain ⟨code, fT⟩ := aP (l := p.funcs) (i := (aa x' g).top.fn.toNat) (by omega)
  rw [fT]
  dsimp only
  have hf : code ∈ p.funcs := List.mem_of_getElem? fT
  obtain ⟨c1, c2, c3⟩ := hp.code code hf
  cases FW : code[(aa x' g).top.pc.toNat]? with
  | none => exact ⟨_, _, rfl, .inl ⟨⟨h, ff.refl hr⟩, .inl jO⟩⟩
  | some i =>
   dsimp only
   have hi : eN p code i := c3 i (List.mem_of_getElem? FW)
   have hi' := hi
   obtain ⟨o0, o1, o2, o7, o8, o9, P1, Qx, P2, Qy, Qz, QA, QB⟩ := hi'
   have ME := (List.getElem?_eq_some_iff.1 FW).1
   have su : (aa x' g).top.pc + 1 ≤ 64 := by omega
   obtain ⟨n1, n2, n3, n4, n5⟩ := h.next hg su
   have pI : (x'.next g).ready = [] := hr
   have zW : asks p x' g = if i.op = 21 then some (4, i.b) else if i.op = 16 then (if enabled (av p i) x'.au = [] then none else some (3, (enabled (av p i) x'.au).length)) else none := by
    unfold asks eM
    rw [if_pos jO, fT]
    dsimp only
    rw [FW]
   have fin : ∀ {r : Out Wd}, en p g (x'.next g) r → en p g x' r := by
    intro r hres
    cases r with
    | on y => exact ⟨hres.1, hres.2.pre n3 n4⟩
    | cT n y => exact ⟨hres.1, hres.2.pre n3 n4⟩
    | e7 l y => exact hres.elim
   split
   ·rename_i h8
    try rw [if_pos o2]
    refine ⟨_, _, rfl, .inl ⟨⟨h.aJ hg.1 hg.2.1 (hz.bj ?_) rfl rfl, (ff.refl hr).aJ hg.1 hg.2.1⟩, .inl jO⟩⟩
    unfold cB.pure
    have base : wj p (aa x' g).top.next := ⟨t1, t2, by show 0 ≤ (aa x' g).top.pc + 1; omega, su, t5⟩
    split; exact base
    split; exact base.set _ _
    split; exact base.set _ _
    split; exact base.set _ _
    split; exact base.set _ _
    split; exact base.set _ _
    split; exact base.set _ _
    split
    ·rename_i e
     exact ⟨t1, t2, (o7 e).1, by have := (o7 e).2; show i.a ≤ 64; omega, t5⟩
    ·split
     ·have := o8 (by omega)
      exact ⟨t1, t2, this.1, by show i.b ≤ 64; omega, t5⟩
     ·exact base
   ·rename_i h8
    split
    ·rename_i nO
     have hw := zZ (d := d) h hp hg hf hi nO hr su (fun v hv hne => by
      refine hd v 3 _ hv ?_
      rw [zW, if_neg (by omega), if_pos nO, if_neg hne])
     rw [if_pos hw.1]
     rcases hw.2 with xA | ⟨l, Gm, xA⟩
     ·rw [if_pos (xA.lt hg)]
      exact ⟨_, _, rfl, .inl ⟨xA, .inl jO⟩⟩
     ·rw [xA, if_pos (show g < (Out.fin (.e7 l x')).gs.length from hg.2.1)]
      refine ⟨_, _, rfl, .inr ⟨l, Gm, rfl, rfl, jO, ?_⟩⟩
      rw [zW, if_neg (by omega), if_pos nO]
      split
      ·rename_i e
       unfold Wd.choose at xA
       rw [if_pos e] at xA
       cases xA
      ·simp
    ·rename_i nO
     split
     ·rename_i Iz
      rw [if_pos (P1 (.inr (.inr (.inr Iz))))]
      cases d with
      | num v =>
       have hl : g < (x'.next g).gs.length := by rw [n3]; exact hg.2.1
       have hres : en p g x' (x'.rand g i (.num v)) := ⟨n1.aN hg.1 hl, ((ff.refl (x := x'.next g) hr).pre n3 n4).bL hg.1 hl⟩
       rw [if_pos (hres.lt hg)]
       exact ⟨_, _, rfl, .inl ⟨hres, .inl jO⟩⟩
      | e7 l =>
       rw [if_pos (show g < (Out.fin (x'.rand g i (.e7 l))).gs.length from hg.2.1)]
       exact ⟨_, _, rfl, .inr ⟨l, rfl, rfl, rfl, jO, by rw [zW, if_pos Iz]; simp⟩⟩
     ·rename_i Iz
      have go : ∀ r, jj p (x'.next g) g i = some r → en p g (x'.next g) r → ∃ r rest, (match jj p (x'.next g) g i with
        | none => none
        | some r => if g < r.fin.gs.length then some (r, xT i.op r) else none) = some (r, rest) ∧ (en p g x' r ∧ (fJ x' g ∨ r = .on x' ∧ rest = true) ∨ ∃ l, d = .e7 l ∧ r = .e7 l x' ∧ rest = false ∧ fJ x' g ∧ asks p x' g ≠ none) := by
       intro r Ek hres
       rw [Ek]
       dsimp only
       rw [if_pos (hres.lt n2)]
       exact ⟨_, _, rfl, .inl ⟨fin hres, .inl jO⟩⟩
      have hop : i.op = 9 ∨ i.op = 10 ∨ i.op = 11 ∨ i.op = 12 ∨ i.op = 13 ∨ i.op = 14 ∨ i.op = 15 ∨ i.op = 17 ∨ i.op = 18 ∨ i.op = 19 ∨ i.op = 20 ∨ i.op = 22 := by omega
      rcases hop with e | e | e | e | e | e | e | e | e | e | e | e
      ·have w := DB n1 n2 hi e pI
       refine go _ ?_ w.2
       unfold jj
       rw [e]; simp only [Int.reduceEq, if_false, if_true]
       rw [if_pos w.1]
      ·have w := DD n1 n2 hi e pI
       refine go _ ?_ w.2
       unfold jj
       rw [e]; simp only [if_true]
       rw [if_pos w.1]
      ·have w := Cc n1 hp n2 hi e pI
       refine go _ ?_ w.2
       unfold jj
       rw [e]; simp only [Int.reduceEq, if_false, if_true]
       rw [if_pos w.1]
      ·refine go (.on (x'.next g)) ?_ ⟨n1, ff.refl pI⟩
       unfold jj
       rw [e]; simp only [Int.reduceEq, if_false, if_true]
      ·have w := DE n1 hp n2 hf hi e pI
       refine go _ ?_ w.2
       unfold jj
       rw [e]; simp only [Int.reduceEq, if_false, if_true]
       rw [if_pos w.1]
      ·have w := DF n1 hp n2 hf hi e pI
       refine go _ ?_ w.2
       unfold jj
       rw [e]; simp only [Int.reduceEq, if_false, if_true]
       rw [if_pos w.1]
      ·have w := DG n1 hp n2 hi e pI
       refine go _ ?_ w.2
       unfold jj
       rw [e]; simp only [Int.reduceEq, if_false, if_true]
       rw [if_pos w.1]
      ·have w := Cb n1 hp n2 hi e pI
       refine go _ ?_ w.2
       unfold jj
       rw [e]; simp only [Int.reduceEq, if_false, if_true]
       rw [if_pos w.1]
      ·have w := DH n1 hp n2 hf hi e pI
       refine go _ ?_ w.2
       unfold jj
       rw [e]; simp only [Int.reduceEq, if_false, if_true]
       rw [if_pos w.1]
      ·have w := zY n1 hp n2 hi e pI
       refine go _ ?_ w.2
       unfold jj
       rw [e]; simp only [Int.reduceEq, if_false, if_true]
       rw [if_pos w.1]
      ·have w := DC n1 hp n2 hi e pI
       refine go _ ?_ w.2
       unfold jj
       rw [e]; simp only [Int.reduceEq, if_false, if_true]
       rw [if_pos w.1]
      ·refine go (.cT i.a (x'.next g)) ?_ ⟨n1, ff.refl pI⟩
       unfold jj
       rw [e]; simp only [Int.reduceEq, if_false, if_true]
 ·exact ⟨_, _, rfl, .inl ⟨⟨h, ff.refl hr⟩, .inr ⟨rfl, rfl⟩⟩⟩
end
section
variable {p : cR} {x y z : Wd} {g q k n : Int}
theorem tJ : ∀ (l : List Int) (x : Wd), WV p x → l.Nodup → (∀ q ∈ l, 0 ≤ q ∧ q < x.gs.length ∧ (aa x q).st ≠ 1 ∧ iF x q) → WV p (l.foldl Wd.bX x) ∧ Wk x (l.foldl Wd.bX x) ∧ (l.foldl Wd.bX x).ready = x.ready ++ l
 | [], x, h, _, _ => ⟨h, Wk.refl x, by simp⟩
 | q :: l, x, h, hn, ha => by
  obtain ⟨q0, q1, q2, q3⟩ := ha q (by simp)
  obtain ⟨P3, sM⟩ := List.nodup_cons.1 hn
  obtain ⟨r1, r2, r3⟩ := tJ l (x.bX q) (h.bX q0 q1 q3) sM (fun m hm => by
   obtain ⟨m0, m1, m2, m3⟩ := ha m (List.mem_cons_of_mem _ hm)
   have hne : m ≠ q := fun e => P3 (e ▸ hm)
   exact ⟨m0, by rw [fK]; exact m1, by rw [jk q0 q1 m0 hne]; exact m2, m3⟩)
  refine ⟨r1, (Wk.bX q0 q1 q2).trans r2, ?_⟩
  rw [List.foldl_cons, r3]
  show (x.ready ++ [q]) ++ l = _
  simp
def yK (x : Wd) : List Int := (bM x.hl.length x.hl (IntKind.wrap .u64 (x.clock + 1))).2.map ay.id
theorem DJ (he : x.end_ = 0) : x.tick = (yK x).foldl Wd.bX { x with clock := IntKind.wrap .u64 (x.clock + 1), hl := (bM x.hl.length x.hl (IntKind.wrap .u64 (x.clock + 1))).1, ready := [] } := by
 unfold Wd.tick
 rw [if_neg (by rw [he]; decide)]
 rfl
theorem yW (h : WV p x) : (∀ y ∈ (bM x.hl.length x.hl (IntKind.wrap .u64 (x.clock + 1))).2, 0 ≤ y.id ∧ y.id < x.gs.length) ∧ WV p x.tick ∧ Wk { x with ready := [] } x.tick ∧ x.tick.ready.length ≤ 100 := by
 generalize hr : bM x.hl.length x.hl (IntKind.wrap .u64 (x.clock + 1)) = r
 have hp : x.hl.Perm (r.2 ++ r.1) := by rw [← hr]; exact rL _ _ _
 have m2 : ∀ y ∈ r.2, y ∈ x.hl := fun y hy => hp.mem_iff.2 (List.mem_append_left _ hy)
 have m1 : ∀ y ∈ r.1, y ∈ x.hl := fun y hy => hp.mem_iff.2 (List.mem_append_right _ hy)
 have hc : ∀ q, (r.2.map ay.id).count q + (r.1.map ay.id).count q ≤ 1 := fun q => by
  have a := h.h1 q
  unfold uB at a
  rw [(hp.map ay.id).count_eq, List.map_append, List.count_append] at a
  exact a
 refine ⟨fun y hy => ⟨(h.hl y (m2 y hy)).1, (h.hl y (m2 y hy)).2.1⟩, ?_⟩
 by_cases he : x.end_ = 0
 ·rw [DJ he]
  unfold yK
  rw [hr]
  have h1 : WV p { x with clock := IntKind.wrap .u64 (x.clock + 1), hl := r.1, ready := [] } :=
   ⟨h.n1, h.n2, h.wk, h.ch, h.lk, h.buf, h.cQ, h.snd, h.lw, fun y hy => h.hl y (m1 y hy), h.one, h.uv, fun q => by have := hc q; unfold uB; dsimp only; omega, h.out⟩
  have ye : (r.2.map ay.id).Nodup := List.nodup_iff_count.2 fun q => by have := hc q; omega
  obtain ⟨r1, r2, r3⟩ := tJ (r.2.map ay.id) { x with clock := IntKind.wrap .u64 (x.clock + 1), hl := r.1, ready := [] } h1 ye (fun q hq => by
   obtain ⟨y, hy, rfl⟩ := List.mem_map.1 hq
   have a := h.hl y (m2 y hy)
   refine ⟨a.1, a.2.1, by show (aa x y.id).st ≠ 1; rw [a.2.2]; decide, fun c Gz hg => ?_, fun l hl hg => ?_, fun w hw e => ?_⟩
   ·have := (h.Dz Gz hg).1.2.2
    rw [a.2.2] at this; cases this
   ·have := (h.lw l hl _ hg).1.2.2
    rw [a.2.2] at this; cases this
   ·have b := hc y.id
    have c1 : 0 < (r.2.map ay.id).count y.id := List.count_pos_iff.2 hq
    have c2 : 0 < (r.1.map ay.id).count y.id := List.count_pos_iff.2 (List.mem_map.2 ⟨w, hw, e⟩)
    omega)
  refine ⟨r1, Wk.trans (Wk.same rfl rfl) r2, ?_⟩
  rw [r3]
  have a := h.wm
  have b := hp.length_eq
  simp only [List.length_append, List.length_map, List.nil_append] at *
  omega
 ·have e : x.tick = { x with ready := [] } := by unfold Wd.tick; rw [if_pos he]
  rw [e]
  exact ⟨h.ready, Wk.refl _, by simp⟩
theorem FX (hp : fe p) : WV p (Wd.new p) := by
 have e : ∀ q, aa (Wd.new p) q = if q.toNat = 0 then ⟨1, [cB.begin 0 0], .zero⟩ else ⟨0, [], .zero⟩ := by
  intro q
  unfold aa Wd.new
  dsimp only
  split
  ·rename_i e; rw [e]; rfl
  ·rename_i e
   rw [List.getD_eq_getElem?_getD, List.getElem?_eq_none (by simp; omega)]; rfl
 have tr : ∀ c ∈ (Wd.new p).au, ∃ n, c = aC.new n := fun c hc => by
  obtain ⟨n, _, rfl⟩ := List.mem_map.1 hc
  exact ⟨n, rfl⟩
 have hlk : ∀ l ∈ (Wd.new p).aH, l.waits = [] := fun l hl => by
  have := List.eq_of_mem_replicate hl
  rw [this]
 have z1 : ∀ q, bg (Wd.new p).au q = 0 := fun q => kL _ _ fun c hc => by
  obtain ⟨n, rfl⟩ := tr c hc
  rfl
 have z2 : ∀ q, dV (Wd.new p).aH q = 0 := fun q => kL _ _ fun l hl => by rw [hlk l hl]; rfl
 refine ⟨by simp [Wd.new], by simp [Wd.new], fun y hy => ?_, by simp [Wd.new], by (simp [Wd.new]; have := hp.lk.1; omega), fun c hc => ?_, fun c hc v hv => ?_, fun c hc v hv => ?_, fun l hl q hq => ?_, fun y hy => by simp [Wd.new] at hy, fun q _ _ => by rw [z1, z2]; omega, fun q => by rw [z1]; omega, fun q => by simp [uB, Wd.new], by simp [Wd.new]⟩
 ·simp only [Wd.new, List.mem_singleton] at hy
  subst hy
  refine ⟨by simp, by simp, fun r hr => ?_, (fun e => by cases e), by show (1 : Int) ≤ 1 ∧ (1 : Int) ≤ 4; decide⟩
  simp only [List.mem_singleton] at hr; subst hr
  exact ⟨Int.le_refl 0, by have := hp.f1; show (0 : Int) < _; omega, Int.le_refl 0, (by show (0 : Int) ≤ 64; decide), by show aQ 0; decide⟩
 ·obtain ⟨n, rfl⟩ := tr c hc
  exact ⟨Nat.zero_le _, Bj n⟩
 ·obtain ⟨n, rfl⟩ := tr c hc
  cases hv
 ·obtain ⟨n, rfl⟩ := tr c hc
  cases hv
 ·rw [hlk l hl] at hq; cases hq
end
theorem kN {a b c : ay} (h : a.before b = false) (h2 : b.before c = false) : a.before c = false := by
 unfold ay.before at *
 simp only [Bool.or_eq_false_iff, Bool.and_eq_false_iff, decide_eq_false_iff_not, beq_eq_false_iff_ne] at *
 omega
theorem Ce {a b : ay} (h : a.before b = true) : b.before a = false := by
 unfold ay.before at *
 simp only [Bool.or_eq_true, Bool.and_eq_true, decide_eq_true_iff, beq_iff_eq, Bool.or_eq_false_iff, Bool.and_eq_false_iff, decide_eq_false_iff_not, beq_eq_false_iff_ne] at *
 omega
theorem uE (a : ay) : a.before a = false := by
 unfold ay.before
 simp
def fh (l : List ay) : Prop := ∀ i, 0 < i → i < l.length → (cH l i).before (cH l ((i - 1) / 4)) = false
theorem fh.root {l : List ay} (h : fh l) : ∀ i, i < l.length → (cH l i).before (cH l 0) = false := by
 intro i
 induction i using Nat.strongRecOn with
 | ind i ih =>
  intro hi
  by_cases h0 : i = 0
  ·subst h0; exact uE _
  ·exact kN (h i (by omega) hi) (ih ((i - 1) / 4) (by omega) (by omega))
theorem rM {l : List ay} {i j m : Nat} (hi : i < l.length) (hj : j < l.length) (hne : i ≠ j) : cH (bU l i j) m = if m = i then cH l j else if m = j then cH l i else cH l m := by
 unfold bU
 rw [cH, List.getD_eq_getElem?_getD, List.getElem?_set, List.length_set]
 by_cases h1 : j = m
 ·subst h1
  rw [if_pos rfl, if_pos hj, if_neg (fun e => hne e.symm), if_pos rfl]; rfl
 ·rw [if_neg h1, List.getElem?_set]
  by_cases h2 : i = m
  ·subst h2
   rw [if_pos rfl, if_pos hi, if_pos rfl]; rfl
  ·rw [if_neg h2, if_neg (fun e => h2 e.symm), if_neg (fun e => h1 e.symm), ← List.getD_eq_getElem?_getD]; rfl
def Ml (l : List ay) (i : Nat) : Prop := (∀ j, 0 < j → j < l.length → j ≠ i → (cH l j).before (cH l ((j - 1) / 4)) = false) ∧
 (0 < i → ∀ j, 0 < j → j < l.length → (j - 1) / 4 = i → (cH l j).before (cH l ((i - 1) / 4)) = false)
theorem Cf : ∀ (f i : Nat) (l : List ay), i ≤ f → i < l.length → Ml l i → fh (yN f i l)
 | 0, i, l, hf, hi, h => by
  have : i = 0 := by omega
  subst this
  intro j j0 jl
  exact h.1 j j0 jl (by omega)
 | f + 1, i, l, hf, hi, h => by
  rw [rq]
  by_cases hb : 0 < i ∧ (cH l i).before (cH l ((i - 1) / 4)) = true
  ·rw [if_pos hb]
   obtain ⟨i0, hb⟩ := hb
   have P4 : (i - 1) / 4 < i := by omega
   generalize hp : (i - 1) / 4 = q at hb P4
   have Mm : q < l.length := by omega
   have Ai : ∀ m, cH (bU l i q) m = if m = i then cH l q else if m = q then cH l i else cH l m := fun m => rM hi Mm (by omega)
   refine Cf f q _ (by omega) (by rw [bp]; exact Mm) ⟨fun j j0 jl FY => ?_, fun q0 j j0 jl je => ?_⟩
   ·rw [bp] at jl
    rw [Ai, Ai]
    by_cases e1 : j = i
    ·subst e1
     rw [if_pos rfl, hp, if_neg (by omega), if_pos rfl]
     exact Ce hb
    ·rw [if_neg e1, if_neg FY]
     by_cases e2 : (j - 1) / 4 = i
     ·rw [if_pos e2]
      have := h.2 i0 j j0 jl e2
      rw [hp] at this
      exact this
     ·rw [if_neg e2]
      by_cases e3 : (j - 1) / 4 = q
      ·rw [if_pos e3]
       have := h.1 j j0 jl e1
       rw [e3] at this
       exact kN this (Ce hb)
      ·rw [if_neg e3]
       exact h.1 j j0 jl e1
   ·rw [bp] at jl
    rw [Ai, Ai]
    have hq := h.1 q q0 Mm (by omega)
    rw [if_neg (show ¬ (q - 1) / 4 = i by omega), if_neg (show ¬ (q - 1) / 4 = q by omega)]
    by_cases e1 : j = i
    ·rw [if_pos e1]; exact hq
    ·rw [if_neg e1, if_neg (show ¬ j = q by omega)]
     have := h.1 j j0 jl e1
     rw [je] at this
     exact kN this hq
  ·rw [if_neg hb]
   intro j j0 jl
   by_cases e : j = i
   ·subst e
    have : ¬ (cH l j).before (cH l ((j - 1) / 4)) = true := fun hh => hb ⟨j0, hh⟩
    simpa using this
   ·exact h.1 j j0 jl e
theorem Cg {l : List ay} {x : ay} (h : fh l) : fh (gS l x) := by
 unfold gS
 have ha : ∀ m, m < l.length → cH (l ++ [x]) m = cH l m := fun m hm => by
  unfold cH; rw [List.getD_eq_getElem?_getD, List.getElem?_append_left hm, ← List.getD_eq_getElem?_getD]
 refine Cf _ _ _ (Nat.le_refl _) (by simp) ⟨fun j j0 jl FY => ?_, fun i0 j j0 jl je => ?_⟩
 ·rw [List.length_append, List.length_singleton] at jl
  rw [ha j (by omega), ha _ (by omega)]
  exact h j j0 (by omega)
 ·rw [List.length_append, List.length_singleton] at jl
  omega
theorem hH {l : List ay} : ∀ (n k out : Nat), (∀ c, (c = out ∨ (k ≤ c ∧ c < k + n ∧ c < l.length)) → (cH l c).before (cH l (bT l n k out)) = false) ∧
  (bT l n k out = out ∨ (k ≤ bT l n k out ∧ bT l n k out < k + n ∧ bT l n k out < l.length))
 | 0, k, out => by
  refine ⟨fun c hc => ?_, .inl rfl⟩
  rcases hc with rfl | hc
  ·exact uE _
  ·omega
 | n + 1, k, out => by
  rw [ju]
  by_cases hk : k < l.length
  ·rw [if_pos hk]
   by_cases hb : (cH l k).before (cH l out) = true
   ·rw [if_pos hb]
    obtain ⟨a, b⟩ := hH n (k + 1) k
    refine ⟨fun c hc => ?_, ?_⟩
    ·rcases hc with rfl | hc
     ·exact kN (Ce hb) (a k (.inl rfl))
     ·by_cases e : c = k
      ·exact a c (.inl e)
      ·exact a c (.inr (by omega))
    ·rcases b with b | b
     ·right; rw [b]; omega
     ·right; omega
   ·rw [if_neg hb]
    have hb' : (cH l k).before (cH l out) = false := by simpa using hb
    obtain ⟨a, b⟩ := hH n (k + 1) out
    refine ⟨fun c hc => ?_, ?_⟩
    ·rcases hc with rfl | hc
     ·exact a c (.inl rfl)
     ·by_cases e : c = k
      ·subst e; exact kN hb' (a out (.inl rfl))
      ·exact a c (.inr (by omega))
    ·rcases b with b | b
     ·left; exact b
     ·right; omega
  ·rw [if_neg hk]
   refine ⟨fun c hc => ?_, .inl rfl⟩
   rcases hc with rfl | hc
   ·exact uE _
   ·omega
def FZ (l : List ay) (i : Nat) : Prop := (∀ j, 0 < j → j < l.length → (j - 1) / 4 ≠ i → (cH l j).before (cH l ((j - 1) / 4)) = false) ∧
 (0 < i → ∀ j, 0 < j → j < l.length → (j - 1) / 4 = i → (cH l j).before (cH l ((i - 1) / 4)) = false)
theorem wB : ∀ (f i : Nat) (l : List ay), l.length ≤ f + i → i < l.length → FZ l i → fh (gR f i l)
 | 0, i, l, hf, hi, h => by omega
 | f + 1, i, l, hf, hi, h => by
  rw [ru]
  obtain ⟨la, lb⟩ := hH (l := l) 4 (4 * i + 1) i
  replace la : ∀ c, (c = i ∨ (4 * i + 1 ≤ c ∧ c < 4 * i + 1 + 4 ∧ c < l.length)) → (cH l c).before (cH l (cC l i)) = false := la
  replace lb : cC l i = i ∨ (4 * i + 1 ≤ cC l i ∧ cC l i < 4 * i + 1 + 4 ∧ cC l i < l.length) := lb
  by_cases hm : cC l i = i
  ·rw [if_pos hm]
   rw [hm] at la
   intro j j0 jl
   by_cases e : (j - 1) / 4 = i
   ·rw [e]; exact la j (.inr (by omega))
   ·exact h.1 j j0 jl e
  ·rw [if_neg hm]
   generalize cC l i = m at la lb hm
   have lb' : 4 * i + 1 ≤ m ∧ m < 4 * i + 1 + 4 ∧ m < l.length := by rcases lb with lb | lb; exact absurd lb hm; exact lb
   obtain ⟨m1, m2, m3⟩ := lb'
   have pm : (m - 1) / 4 = i := by omega
   have Ai : ∀ q, cH (bU l i m) q = if q = i then cH l m else if q = m then cH l i else cH l q := fun q => rM hi m3 (by omega)
   refine wB f m _ (by rw [bp]; omega) (by rw [bp]; exact m3) ⟨fun j j0 jl FY => ?_, fun _ j j0 jl je => ?_⟩
   ·rw [bp] at jl
    rw [Ai, Ai]
    by_cases e1 : j = i
    ·subst e1
     rw [if_pos rfl, if_neg (show ¬ (j - 1) / 4 = j by omega), if_neg FY]
     exact h.2 j0 m (by omega) m3 pm
    ·rw [if_neg e1]
     by_cases e2 : j = m
     ·subst e2
      rw [if_pos rfl, if_pos pm]
      exact la i (.inl rfl)
     ·rw [if_neg e2]
      by_cases e3 : (j - 1) / 4 = i
      ·rw [if_pos e3]; exact la j (.inr (by omega))
      ·rw [if_neg e3, if_neg FY]; exact h.1 j j0 jl e3
   ·rw [bp] at jl
    rw [Ai, Ai, pm, if_pos rfl, if_neg (show ¬ j = i by omega), if_neg (show ¬ j = m by omega)]
    have := h.1 j j0 jl (by omega)
    rw [je] at this
    exact this
theorem rN {l : List ay} (h : fh l) : fh (br l 0) := by
 unfold br
 have ht : ∀ (l' : List ay) (n m : Nat), m < n → cH (l'.take n) m = cH l' m := fun l' n m hm => by
  unfold cH; rw [List.getD_eq_getElem?_getD, List.getElem?_take_of_lt hm, ← List.getD_eq_getElem?_getD]
 by_cases hl : 0 < l.length - 1
 ·rw [if_pos hl]
  show fh (gR l.length 0 ((bU l 0 (l.length - 1)).take (l.length - 1)))
  have Ai : ∀ q, cH (bU l 0 (l.length - 1)) q = if q = 0 then cH l (l.length - 1) else if q = l.length - 1 then cH l 0 else cH l q := fun q => rM (by omega) (by omega) (by omega)
  have hlen : ((bU l 0 (l.length - 1)).take (l.length - 1)).length = l.length - 1 := by rw [List.length_take, bp]; omega
  refine wB _ _ _ (by rw [hlen]; omega) (by rw [hlen]; exact hl) ⟨fun j j0 jl FY => ?_, fun i0 => by omega⟩
  rw [hlen] at jl
  rw [ht _ _ _ (by omega), ht _ _ _ (by omega), Ai, Ai, if_neg (by omega), if_neg (by omega), if_neg FY, if_neg (by omega)]
  exact h j j0 (by omega)
 ·rw [if_neg hl]
  intro j j0 jl
  rw [List.length_take, bp] at jl
  omega
def jn (now : Int) (y : ay) : Bool := decide (y.t ≤ now)
theorem rO (now : Int) : ∀ (f : Nat) (l : List ay), l.length ≤ f → (bM f l now).2 = (bK f l).takeWhile (jn now) ∧ bK (bM f l now).1.length (bM f l now).1 = (bK f l).dropWhile (jn now)
 | 0, l, h => by
  have : l = [] := List.length_eq_zero_iff.1 (by omega)
  subst this
  exact ⟨rfl, rfl⟩
 | f + 1, l, h => by
  rw [ji, dQ]
  by_cases hl : 0 < l.length
  ·rw [if_pos hl]
   by_cases hd : (cH l 0).t ≤ now
   ·rw [if_pos ⟨hl, hd⟩]
    have hdb : jn now (cH l 0) = true := decide_eq_true hd
    obtain ⟨a, b⟩ := rO now f (br l 0) (by rw [eL]; omega)
    rw [List.takeWhile_cons, List.dropWhile_cons, if_pos hdb, if_pos hdb]
    exact ⟨by rw [← a], b⟩
   ·rw [if_neg (fun e => hd e.2)]
    have hdb : ¬ jn now (cH l 0) = true := by unfold jn; simpa using hd
    rw [List.takeWhile_cons, List.dropWhile_cons, if_neg hdb, if_neg hdb]
    refine ⟨rfl, ?_⟩
    have key : ∀ (n m : Nat) (l : List ay), l.length ≤ n → l.length ≤ m → bK n l = bK m l := by
     intro n
     induction n with
     | zero =>
      intro m l h1 _
      have : l = [] := List.length_eq_zero_iff.1 (by omega)
      subst this
      cases m with
      | zero => rfl
      | succ m => rfl
     | succ n ih =>
      intro m l h1 h2
      cases m with
      | zero =>
       have : l = [] := List.length_eq_zero_iff.1 (by omega)
       subst this; rfl
      | succ m =>
       rw [dQ, dQ]
       split
       ·rw [ih m _ (by rw [eL]; omega) (by rw [eL]; omega)]
       ·rfl
    rw [key l.length (f + 1) l (Nat.le_refl _) h, dQ, if_pos hl]
  ·rw [if_neg (fun e => hl e.1), if_neg hl]
   have : l = [] := List.length_eq_zero_iff.1 (by omega)
   subst this
   exact ⟨rfl, rfl⟩
theorem kO : ∀ (n : Nat) (l : List ay), l.length ≤ n → fh l → (bK n l).Perm l ∧ (bK n l).Pairwise (fun a b => b.before a = false)
 | 0, l, h, _ => by
  have : l = [] := List.length_eq_zero_iff.1 (by omega)
  subst this
  exact ⟨List.Perm.refl _, List.Pairwise.nil⟩
 | n + 1, l, h, ho => by
  rw [dQ]
  by_cases hl : 0 < l.length
  ·rw [if_pos hl]
   obtain ⟨a, b⟩ := kO n (br l 0) (by rw [eL]; omega) (rN ho)
   have hp := oa (l := l) hl
   refine ⟨(a.cons _).trans hp.symm, List.pairwise_cons.2 ⟨fun y hy => ?_, b⟩⟩
   have hm : y ∈ l := hp.mem_iff.2 (List.mem_cons_of_mem _ (a.mem_iff.1 hy))
   obtain ⟨j, hj, rfl⟩ := List.getElem_of_mem hm
   rw [← uD hj]
   exact ho.root j hj
  ·rw [if_neg hl]
   have : l = [] := List.length_eq_zero_iff.1 (by omega)
   subst this
   exact ⟨List.Perm.refl _, List.Pairwise.nil⟩
end Go.Proofs
