/- A part of proofs about one program. -/
import Derived.Test.YtnnlgknlialpmaaGreatZFairBound2
import Derived.Test.YtnnlgknlialpmaaGreatZFairBound3
set_option linter.unusedVariables false
namespace Go.Proofs
open Go.AF
set_option maxRecDepth 100000
set_option maxHeartbeats 1000000
attribute [local irreducible] aJ de fA cw aB dZ aF aK bh aY bA aO
def zC : iY (Option Addr × Nat × Nat) := ⟨1, fun t => [.slice t.1 t.2.1 t.2.2], fun _ => rfl, fun w v hv => by simp only [List.mem_singleton] at hv; subst hv; rfl⟩
structure oQ (R : Mem) (pa : PA) (p : b6) : Prop where
 funcs : ∃ ts : List (Option Addr × Nat × Nat), RS zC R pa.f pa.fc ts ∧ ts.length = p.funcs.length ∧ ∀ (i : Nat) t f, ts[i]? = some t → p.funcs[i]? = some f → RS jh R t.1 t.2.2 f ∧ t.2.1 = f.length
 cases : RS hH R pa.k pa.kc p.cases
theorem oQ.le {R R' : Mem} {pa : PA} {p : b6} (h : oQ R pa p) (hle : R.le R') : oQ R' pa p := by
 obtain ⟨⟨ts, h1, h2, h3⟩, h4⟩ := h
 exact ⟨⟨ts, h1.le hle, h2, fun i t f a b => ⟨(h3 i t f a b).1.le hle, (h3 i t f a b).2⟩⟩, h4.le hle⟩
def Wd.next (x : Wd) (g : Int) : Wd := x.bu g ((aj x g).cI (aj x g).top.next)
def SW (n : Int) : List PanicEntry := [{ v := .iface 340 (.int .i64 n), recovered := false }]
def gd (R : Mem) (pa : PA) (p : b6) (dr : Value) (fnum : Nat) (x : Wd) (g : Int) (i : cH) (r : Out Wd) (L L2 : List HP) : Prop :=
 ∀ (gg : List GA) (b bs c : Nat) (M : Mem) (K : Value → Mem → Prop) (Kp : List PanicEntry → Mem → Prop) (Q : HP), Hp R (az (br pa p gg dr) b x :: Q :: L) M → gg[g.toNat]? = some (some ⟨bs, 0, none⟩, c) →
  Out.Ok r (fun y => ∀ lQ M', Hp R (az (br pa p lQ dr) b y :: Q :: L2) M' → K (.tuple #[]) M') (fun n y => ∀ lQ M', Hp R (az (br pa p lQ dr) b y :: Q :: L2) M' → Kp (SW n) M') (fun l y => ∀ lQ M', Hp R (az (br pa p lQ dr) b y :: Q :: L2) M' → Kp l M') →
  aa Tryz.prog fnum #[.pointer (some ⟨b, 0, none⟩), .int .i64 g, .pointer (some ⟨bs, ((aj x g).fs.length - 1) * 11, none⟩), .agg #[.int .i64 i.op, .int .i64 i.a, .int .i64 i.b, .int .i64 i.c]] M K Kp
theorem Out.Ok.mono {α : Type} {r : Out α} {k1 k1' : α → Prop} {k2 k2' : Int → Wd → Prop} {k3 : List PanicEntry → Wd → Prop} (h : r.Ok k1 k2 k3) (h1 : ∀ y, k1 y → k1' y) (h2 : ∀ n y, k2 n y → k2' n y) : r.Ok k1' k2' := by
 cases r with
 | on y => exact h1 y h
 | eD n y => exact h2 n y h
 | cV l y => trivial
section
variable {R : Mem} {L L' L2 : List HP} {M : Mem} {K : Value → Mem → Prop} {Kp : List PanicEntry → Mem → Prop} {pa : PA} {p : b6} {gg : List GA} {dr : Value} {b : Nat} {x : Wd} {g : Int} {i : cH}
theorem Rf (hp : oQ R pa p) (hk : Hg p x g i) (hs : x.Sm) : gd R pa p dr 215 x g i (x.send p g i) L L := fun gg b bs c M K Kp Q h eF k =>
 Hh h hp.cases eF hk hs (k.mono (fun y hy M' h' => hy gg M' h') (fun n y hy M' h' => hy gg M' h'))
theorem Rh (hk : wj x g i) (hs : x.Sm) : gd R pa p dr 216 x g i (.on (x.recv g i)) L L := fun gg b bs c M K Kp Q h eF k =>
 Hi h eF hk hs fun M' h' => k gg M' h'
theorem Ri (hg : bk x g) (ha : aU i.a) (hs : x.Sm) : gd R pa p dr 221 x g i (x.emit g i) L L := fun gg b bs c M K Kp Q h eF k =>
 Hj h eF hg ha hs (k.mono (fun y hy M' h' => hy gg M' h') (fun n y hy M' h' => hy gg M' h'))
theorem Ov (hg : bk x g) (hb : aU i.b) (hc : aU i.c) (hs : x.Sm) : gd R pa p dr 213 x g i (x.spawn g i) L L := fun gg b bs c M K Kp Q h eF k =>
 E4 h eF hg hb hc hs (k.mono (fun y hy => hy) (fun n y hy M' h' => hy gg M' h'))
theorem Rj (hp : oQ R pa p) (hk : nU p x i) (hs : x.Sm) : gd R pa p dr 217 x g i (x.shut p i) L L := fun gg b bs c M K Kp Q h eF k =>
 Ho (f := .nilFunc) h hp.cases hk hs (k.mono (fun y hy M' h' => hy gg M' h') (fun n y hy M' h' => hy gg M' h'))
def We : AL := [(9, .func (.func 211) #[] #[]), (10, .func (.func 212) #[] #[]), (11, .func (.func 213) #[] #[]), (12, .func (.func 214) #[] #[]), (13, .func (.func 215) #[] #[]), (14, .func (.func 216) #[] #[]), (15, .func (.func 217) #[] #[]), (17, .func (.func 218) #[] #[]), (18, .func (.func 219) #[] #[]), (19, .func (.func 220) #[] #[]), (20, .func (.func 221) #[] #[]), (22, .func (.func 222) #[] #[])]
theorem Fb (h : Hp R L M) (k : ∀ m M', Hp R (ob m (lC We) :: L) M' → K (.map (some m)) M') : aa Tryz.prog 193 #[] M K Kp := by
 refine y4 ?_
 refine Mu h ?_
 clear h
 intro m M h
 replace h : Hp R (ob m (lC []) :: L) M := h
 have hu : Tryz.prog.underlying 345 = some (.map 25 344) := by kernel_rfl
 have hk : Tryz.prog.underlying 25 = some (.int .i64) := by kernel_rfl
 iterate 12
  refine w9 h hu hk ?_
  clear h
  intro M h
 exact k _ _ h
end
theorem zD {α β : Type} : ∀ {l : List α} {m : List β} {i : Nat} {u : α} {v : β}, (l.zip m).set i (u, v) = (l.set i u).zip (m.set i v)
 | [], _, _, _, _ => by simp
 | a :: l, [], i, u, v => by simp
 | a :: l, w :: m, 0, u, v => rfl
 | a :: l, w :: m, i + 1, u, v => by
  have := zD (l := l) (m := m) (i := i) (u := u) (v := v)
  simp [this]
theorem sx {x : Wd} {g : Int} (h0 : 0 ≤ g) (h1 : g < x.gs.length) : x.bu g (aj x g) = x := by
 obtain ⟨y, hy⟩ := aP (l := x.gs) (i := g.toNat) (by omega)
 have e : aj x g = y := by simp [aj, hy]
 rw [e]
 obtain ⟨hi, rfl⟩ := List.getElem?_eq_some_iff.1 hy
 simp [Wd.bu]
section
variable {R : Mem} {L L' L2 : List HP} {M : Mem} {K : Value → Mem → Prop} {Kp : List PanicEntry → Mem → Prop} {pa : PA} {p : b6} {gg : List GA} {dr : Value} {b : Nat} {x : Wd} {g : Int} {i : cH}
theorem Rk (hg : bk x g) (ha : aU i.a) (hin : aU (aj x g).top.qU) : gd R pa p dr 212 x g i (.on (x.back g i)) L L := by
 intro gg b bs c M K Kp Q h eF k
 refine ri ?_
 replace k : ∀ lQ M', Hp R (az (br pa p lQ dr) b (x.back g i) :: Q :: L) M' → K (.tuple #[]) M' := k
 have AE := hg
 obtain ⟨h0, h1, h2, h3⟩ := AE
 unfold Wd.back at k
 refine aq h ?_
 clear h
 intro kb M h
 have h' := gJ h (b := b) h0 h1 eF
 clear h
 obtain ⟨a, gb, hl, fQ, h⟩ := h'
 have hl' := hl
 obtain ⟨l1, l2, l3, l4⟩ := hl'
 repeat (first|(refine aq h ?_;clear h;intro kb M h)|(refine au h ?_;clear h;intro M h)|refine St.to h ?_|(apply Exists.intro;(repeat apply Exists.intro);refine And.intro rfl ?_)|refine av ?_|refine ae ?_|refine ai ?_)
 refine vq h fQ fun q hq => ?_
 repeat (first|(refine aq h ?_;clear h;intro kb M h)|(refine au h ?_;clear h;intro M h)|refine St.to h ?_|(apply Exists.intro;(repeat apply Exists.intro);refine And.intro rfl ?_)|refine av ?_|refine ae ?_|refine ai ?_)
 refine ⟨ha.1, ha.2, uR h (dW h2) ha rfl ?_⟩
 refine Dh h h2 (by omega) (dW h2) hin ?_ ?_
 ·intro hlt
  rw [if_neg (by omega)] at k
  refine ⟨_, _, _, _, rfl, ai ?_⟩
  repeat (first|(refine aq h ?_;clear h;intro kb M h)|(refine au h ?_;clear h;intro M h)|refine St.to h ?_|(apply Exists.intro;(repeat apply Exists.intro);refine And.intro rfl ?_)|refine av ?_|refine ae ?_|refine ai ?_)
  refine vq h fQ fun q2 lO => ?_
  repeat (first|(refine aq h ?_;clear h;intro kb M h)|(refine au h ?_;clear h;intro M h)|refine St.to h ?_|(apply Exists.intro;(repeat apply Exists.intro);refine And.intro rfl ?_)|refine av ?_|refine ae ?_|refine ai ?_)
  refine aR.2 ⟨fun e0 => ?_, fun e0 => ?_⟩
  ·rw [if_pos e0] at k
   repeat (first|(refine aq h ?_;clear h;intro kb M h)|(refine au h ?_;clear h;intro M h)|refine St.to h ?_|(apply Exists.intro;(repeat apply Exists.intro);refine And.intro rfl ?_)|refine av ?_|refine ae ?_|refine ai ?_)
   replace h := cO h gb hl fQ eF
   have kW := c7 (y := { aj x g with st := 4 }) (g := g) hl
   replace h := aW (a := a) (p := p) (pa := pa) (dr := dr) (gg := gg) (x := { x.bu g { aj x g with st := 4 } with end_ := 1 }) kW h b
   exact k _ _ h.bV
  ·rw [if_neg e0] at k
   replace h := cO h gb hl fQ eF
   have kW := c7 (y := { aj x g with st := 4 }) (g := g) hl
   replace h := aW (a := a) (p := p) (pa := pa) (dr := dr) (gg := gg) (x := x.bu g { aj x g with st := 4 }) kW h b
   exact k _ _ h.bV
 ·intro hge b' c' M' fr hfr h'
  clear h
  have h := h'
  clear h'
  rw [if_pos hge] at k
  refine ⟨_, _, _, _, rfl, ae ?_⟩
  repeat (first|(refine aq h ?_;clear h;intro kb M h)|(refine au h ?_;clear h;intro M h)|refine St.to h ?_|(apply Exists.intro;(repeat apply Exists.intro);refine And.intro rfl ?_)|refine av ?_|refine ae ?_|refine ai ?_)
  refine vq h fQ fun q2 lO => ?_
  repeat (first|(refine aq h ?_;clear h;intro kb M h)|(refine au h ?_;clear h;intro M h)|refine St.to h ?_|(apply Exists.intro;(repeat apply Exists.intro);refine And.intro rfl ?_)|refine av ?_|refine ae ?_|refine ai ?_)
  have hlen : (aj x g).fs.length - 1 = (((aj x g).fs.take ((aj x g).fs.length - 1)).set ((aj x g).fs.length - 2) (fr.set (aj x g).top.qU (bt x g i.a))).length := by simp
  have hfr2 : (aj x g).fs.getD ((aj x g).fs.length - 2) ⟨0, 0, [], 0⟩ = fr := by rw [List.getD_eq_getElem?_getD, hfr]; rfl
  have h5 := m8 (A := some ⟨b', 0, none⟩) (fs := ((aj x g).fs.take ((aj x g).fs.length - 1)).set ((aj x g).fs.length - 2) (fr.set (aj x g).top.qU (bt x g i.a))) h gb hlen
  have hi := (List.getElem?_eq_some_iff.1 fQ).1
  have h6 := h5.dN fX gb fQ (by rw [List.length_zip]; omega)
  rw [zD] at h6
  have kW : eT (gg.set g.toNat (some ⟨b', 0, none⟩, c')) a (x.bu g ((aj x g).back (bt x g i.a))) := ⟨by simpa [Wd.bu] using l1, by simpa [Wd.bu] using l2, l3, l4⟩
  have e : (aj x g).back (bt x g i.a) = ⟨(aj x g).st, ((aj x g).fs.take ((aj x g).fs.length - 1)).set ((aj x g).fs.length - 2) (fr.set (aj x g).top.qU (bt x g i.a)), (aj x g).wt⟩ := by
   unfold jo.back; rw [hfr2]
  rw [e] at kW k
  have h7 := aW (a := a) (p := p) (pa := pa) (dr := dr) (gg := gg.set g.toNat (some ⟨b', 0, none⟩, c')) (x := x.bu g ⟨(aj x g).st, ((aj x g).fs.take ((aj x g).fs.length - 1)).set ((aj x g).fs.length - 2) (fr.set (aj x g).top.qU (bt x g i.a)), (aj x g).wt⟩) kW h6 b
  exact k _ _ (h7.sub bD)
end
def Out.fin : Out Wd → Wd
 | .on y => y
 | .eD n y => { y with end_ := 2, code := n }
 | .cV _ y => y
def Hx (op : Int) : Out Wd → Bool
 | .on _ => op == 12 || op == 17
 | .eD _ _ => false
 | .cV _ _ => false
inductive Step (R : Mem) (pa : PA) (p : b6) (dr : Value) (x : Wd) (g : Int) (code : List cH) : Out Wd → Bool → List HP → List HP → Prop where
 | out {L : List HP} (h : (code.length : Int) ≤ (aj x g).top.pc) : Step R pa p dr x g code (.eD (-7) x) false L L
 | pure {L : List HP} (i : cH) (h : code[(aj x g).top.pc.toNat]? = some i) (h0 : 0 ≤ i.op) (h8 : i.op ≤ 8) (hk : i.cv) : Step R pa p dr x g code (.on (x.bu g ((aj x g).cI ((aj x g).top.next.pure i)))) false L L
 | Dl {L L2 : List HP} {r : Out Wd} (i : cH) (h : code[(aj x g).top.pc.toNat]? = some i) (uS : i.op = 16) (hs : gd R pa p dr 191 x g i r L L2) : Step R pa p dr x g code r false L L2
 | Wf {L L2 : List HP} {r : Out Wd} (i : cH) (h : code[(aj x g).top.pc.toNat]? = some i) (ZF : i.op = 21) (hs : gd R pa p dr 192 x g i r L L2) : Step R pa p dr x g code r false L L2
 | dflt {L L2 : List HP} {r : Out Wd} (i : cH) (fn : Nat) (h : code[(aj x g).top.pc.toNat]? = some i) (h8 : 8 < i.op) (uS : i.op ≠ 16) (ZF : i.op ≠ 21) (hf : Bk We i.op = some (.func (.func fn) #[] #[])) (hn : 1 < fn ∧ fn < 255)
   (hs : gd R pa p dr fn (x.next g) g i r L L2) : Step R pa p dr x g code r (Hx i.op r) L L2
section
variable {R : Mem} {L L' L2 : List HP} {M : Mem} {K : Value → Mem → Prop} {Kp : List PanicEntry → Mem → Prop} {pa : PA} {p : b6} {gg : List GA} {dr : Value} {b : Nat} {x : Wd} {g : Int} {i : cH}
theorem Wg {c bs j : Nat} {l : List gQ} {f : gQ} {G : Int → Prop} (h : Hp R L M) [q : cG (some ⟨bs, 0, none⟩) L gQ ke 275 c l L'] (hi : l[j]? = some f) (g : G f.fn) : aJ (M.ld ⟨bs, j * 11, none⟩) .i64 G := by
 refine aZ (Src.at (h.src (A := some ⟨bs, 0, none⟩)) h (i := j) (j := 0) hi rfl ?_) g
 show _ = 0 + (j * 11 + 0); omega
theorem Dm {n : Int} {v : Value} {Q : HP} (h : Hp R (az (br pa p gg dr) b x :: Q :: L) M) (k : ∀ M', Hp R (az (br pa p gg dr) b { x with end_ := 2, code := n } :: L) M' → K v M') :
  cu Tryz.prog 188 (.pointer (some ⟨b, 0, none⟩)) K Kp v (.panicking (SW n)) M := by
 refine G3 ?_
 have h' := cj h (b := b)
 clear h
 obtain ⟨a, hl, h⟩ := h'
 repeat (first|(refine aq h ?_;clear h;intro kb M h)|(refine au h ?_;clear h;intro M h)|refine St.to h ?_|(apply Exists.intro;(repeat apply Exists.intro);refine And.intro rfl ?_)|refine av ?_|refine ae ?_|refine ai ?_)
 exact k _ (jy (a := a) (x := { x with end_ := 2, code := n }) hl (h.sub bD))
theorem yf {k : Nat} {bw : Nat} (h : Hp R L M) [o : kU k L [.int .i64 i.op, .int .i64 i.a, .int .i64 i.b, .int .i64 i.c] 27 L'] (g : K (.bool (i.op == 12 || i.op == 17)) M) :
  aJ (M.ld ⟨k, 0, none⟩) .i64 fun n => aO (n == 12) (cu Tryz.prog 188 (.pointer (some ⟨bw, 0, none⟩)) K Kp (.bool true) .returning M)
   (aJ (M.ld ⟨k, 0, none⟩) .i64 fun n => cu Tryz.prog 188 (.pointer (some ⟨bw, 0, none⟩)) K Kp (.bool (n == 17)) .returning M) := by
 have hp := h.pick o.pick
 refine aH hp ?_
 refine aR.2 ⟨fun e => ?_, fun e => ?_⟩
 ·rw [e] at g; exact ES g
 ·refine aH hp ?_
  have : (i.op == 12) = false := by simpa using e
  rw [this, Bool.false_or] at g
  exact ES g
def Ow (R : Mem) (pa : PA) (p : b6) (dr : Value) (b : Nat) (L2 : List HP) (K : Value → Mem → Prop) (Kp : List PanicEntry → Mem → Prop) (r : Out Wd) (rest : Bool) : Prop := match r with
 | .cV l y => ∀ lQ M', Hp R (az (br pa p lQ dr) b y :: L2) M' → cu Tryz.prog 188 (.pointer (some ⟨b, 0, none⟩)) K Kp (.bool false) (.panicking l) M'
 | .on y => ∀ lQ M', Hp R (az (br pa p lQ dr) b y :: L2) M' → K (.bool rest) M'
 | .eD n y => ∀ lQ M', Hp R (az (br pa p lQ dr) b { y with end_ := 2, code := n } :: L2) M' → K (.bool rest) M'
theorem Fc {code : List cH} {r : Out Wd} {rest : Bool} (h : Hp R L M) [o : wg b L pa p gg dr x L'] (hp : oQ R pa p) (hg : bk x g) (hfn : 0 ≤ (aj x g).top.fn) (m9 : p.funcs[(aj x g).top.fn.toNat]? = some code)
  (Bl : 0 ≤ (aj x g).top.pc ∧ (aj x g).top.pc < 1000000000) (hs : Step R pa p dr x g code r rest L' L2)
  (k : Ow R pa p dr b L2 K Kp r rest) : aa Tryz.prog 159 #[.pointer (some ⟨b, 0, none⟩), .int .i64 g] M K Kp := by
 refine uN ?_
 have AE := hg
 obtain ⟨h0, h1, h2, h3⟩ := AE
 have h' := jz h (b := b) h0 h1
 clear h
 obtain ⟨a, gb, A, c, hl, fQ, eF, h⟩ := h'
 have hl' := hl
 obtain ⟨l1, l2, l3, l4⟩ := hl'
 obtain ⟨bs, rfl⟩ := h.bF (A := A) h2 (by decide)
 have SX : ∀ {M : Mem}, Hp R (pt gb (qe (aj x g) (some ⟨bs, 0, none⟩) c) 229 :: uQ (some ⟨bs, 0, none⟩) c (aj x g).fs :: pt b (mo pa p dr a x) 161 :: lM fX a.gb (x.gs.zip gg) g.toNat :: sw a x L') M → Hp R (az (br pa p gg dr) b x :: L') M := by
  intro M h
  replace h := cO h gb hl fQ eF
  have kW := c7 (y := aj x g) (g := g) hl
  replace h := aW (a := a) (p := p) (pa := pa) (dr := dr) (gg := gg) (x := x.bu g (aj x g)) kW h b
  rwa [sx h0 h1] at h
 repeat (first|(refine aq h ?_;clear h;intro kb M h)|(refine au h ?_;clear h;intro M h)|refine St.to h ?_|(apply Exists.intro;(repeat apply Exists.intro);refine And.intro rfl ?_)|refine av ?_|refine ae ?_|refine ai ?_)
 refine vq h fQ fun q hq => ?_
 repeat (first|(refine aq h ?_;clear h;intro kb M h)|(refine au h ?_;clear h;intro M h)|refine St.to h ?_|(apply Exists.intro;(repeat apply Exists.intro);refine And.intro rfl ?_)|refine av ?_|refine ae ?_|refine ai ?_)
 refine m6 h2 (by omega) ?_
 repeat (first|(refine aq h ?_;clear h;intro kb M h)|(refine au h ?_;clear h;intro M h)|refine St.to h ?_|(apply Exists.intro;(repeat apply Exists.intro);refine And.intro rfl ?_)|refine av ?_|refine ae ?_|refine ai ?_)
 refine Wg h (dW h2) ?_
 obtain ⟨ts, hts, Xf, hrow⟩ := hp.funcs
 have hfl := (List.getElem?_eq_some_iff.1 m9).1
 obtain ⟨t, ht⟩ := aP (l := ts) (i := (aj x g).top.fn.toNat) (by omega)
 obtain ⟨xd, Ox⟩ := hrow _ t code ht m9
 obtain ⟨tA, tn, tc⟩ := t
 dsimp only at xd Ox
 subst Ox
 refine ⟨hfn, by omega, ?_⟩
 obtain ⟨fb, fo, hfb⟩ := hts.some (by omega) (by decide)
 rw [hfb] at hts ⊢
 refine bp ?_
 refine Gq (Src.at (hts.src (L := _)) h (i := (aj x g).top.fn.toNat) (j := 0) ht rfl (by simp [zC])) ?_
 dsimp only
 refine bp ?_
 refine zm h (dW h2) rfl ?_
 refine aM.2 ⟨fun hge => ?_, fun hlt => ?_⟩
 ·cases hs with
  | out _ =>
   have h5 : Hp R (az (br pa p gg dr) b x :: fact True :: L') M := (Hp.fO.2 ⟨trivial, SX h⟩).swap
   exact Dm h5 fun M' h' => k gg M' h'
  | pure i hi => have := (List.getElem?_eq_some_iff.1 hi).1; omega
  | Dl i hi => have := (List.getElem?_eq_some_iff.1 hi).1; omega
  | Wf i hi => have := (List.getElem?_eq_some_iff.1 hi).1; omega
  | dflt i fn hi => have := (List.getElem?_eq_some_iff.1 hi).1; omega
 refine bp ?_
 refine zm h (dW h2) rfl ?_
 refine ⟨Bl.1, by omega, ?_⟩
 obtain ⟨i, hi⟩ := aP (l := code) (i := (aj x g).top.pc.toNat) (by omega)
 obtain ⟨ib, io, rfl⟩ := xd.some (by omega) (by decide)
 refine bp ?_
 refine aZ (Src.at (xd.src (L := _)) h (i := (aj x g).top.pc.toNat) (j := 0) hi rfl (by simp [jh])) ?_
 refine aZ (Src.at (xd.src (L := _)) h (i := (aj x g).top.pc.toNat) (j := 1) hi rfl (by show _ = io + (_ * 4 + 1); omega)) ?_
 refine aZ (Src.at (xd.src (L := _)) h (i := (aj x g).top.pc.toNat) (j := 2) hi rfl (by show _ = io + (_ * 4 + 2); omega)) ?_
 refine aZ (Src.at (xd.src (L := _)) h (i := (aj x g).top.pc.toNat) (j := 3) hi rfl (by show _ = io + (_ * 4 + 3); omega)) ?_
 have hpure : i.cv ∧ 0 ≤ i.op ∨ 8 < i.op := by
  cases hs with
  | out h => omega
  | pure j hj a1 a2 a3 => rw [hi] at hj; cases hj; exact .inl ⟨a3, a1⟩
  | Dl j hj a1 => rw [hi] at hj; cases hj; exact .inr (by omega)
  | Wf j hj a1 => rw [hi] at hj; cases hj; exact .inr (by omega)
  | dflt j fn hj a1 => rw [hi] at hj; cases hj; exact .inr a1
 have hok : i.cv ∧ 0 ≤ i.op := by
  rcases hpure with h | h
  ·exact h
  ·exact ⟨⟨fun h => by simp at h; omega, fun h => by omega, fun h => by simp at h; omega⟩, by omega⟩
 refine aq h ?_
 clear h; intro ki M h
 refine au h ?_
 clear h; intro M h
 refine au h ?_
 clear h; intro M h
 refine au h ?_
 clear h; intro M h
 refine au h ?_
 clear h; intro M h
 refine aH h (aH h (aH h (aH h ?_)))
 refine G6 h (dW h2) hok.1 hok.2 Bl ?_ ?_
 ·intro h8 M' h'
  clear h
  have h := h'
  clear h'
  refine ot (ae ?_)
  cases hs with
  | out h => omega
  | Dl j hj a1 => rw [hi] at hj; cases hj; omega
  | Wf j hj a1 => rw [hi] at hj; cases hj; omega
  | dflt j fn hj a1 => rw [hi] at hj; cases hj; omega
  | pure j hj a1 a2 a3 =>
   rw [hi] at hj; cases hj
   replace h := cO h gb hl fQ eF (by simp)
   have kW := c7 (y := (aj x g).cI ((aj x g).top.next.pure i)) (g := g) hl
   have h5 := aW (a := a) (p := p) (pa := pa) (dr := dr) (gg := gg) (x := x.bu g ((aj x g).cI ((aj x g).top.next.pure i))) kW h b
   refine yf h5 ?_
   have e1 : (i.op == 12) = false := by simp; omega
   have e2 : (i.op == 17) = false := by simp; omega
   rw [e1, e2]
   exact k gg _ h5.bV
 ·intro h8 M' h'
  clear h
  have h := h'
  clear h'
  refine ot (ai ?_)
  refine aH h ?_
  refine aR.2 ⟨fun IV => ?_, fun IV => ?_⟩
  ·refine aH h (aH h (aH h (aH h ?_)))
   cases hs with
   | out h => omega
   | pure j hj a1 a2 a3 => rw [hi] at hj; cases hj; omega
   | dflt j fn hj a1 a2 => rw [hi] at hj; cases hj; omega
   | Wf j hj a1 => rw [hi] at hj; cases hj; omega
   | Dl j hj a1 hop =>
    rw [hi] at hj; cases hj
    replace h := cO h gb hl fQ eF
    have kW := c7 (y := aj x g) (g := g) hl
    replace h := aW (a := a) (p := p) (pa := pa) (dr := dr) (gg := gg) (x := x.bu g (aj x g)) kW h b
    rw [sx h0 h1] at h
    refine hop gg b bs c M' _ _ _ h eF ?_
    cases r with
    | on y =>
     intro lQ M2 h
     refine ⟨rfl, yf h ?_⟩
     have e1 : (i.op == 12) = false := by simp; omega
     have e2 : (i.op == 17) = false := by simp; omega
     rw [e1, e2]
     exact k lQ _ h.bV
    | eD n y =>
     intro lQ M2 h
     exact Dm h fun M3 h3 => k lQ M3 h3
    | cV l y =>
     intro lQ M2 h
     exact k lQ M2 h.bV
  ·refine aH h ?_
   refine aR.2 ⟨fun Xg => ?_, fun Xg => ?_⟩
   ·refine aH h (aH h (aH h (aH h ?_)))
    cases hs with
    | out h => omega
    | pure j hj a1 a2 a3 => rw [hi] at hj; cases hj; omega
    | Dl j hj a1 => rw [hi] at hj; cases hj; omega
    | dflt j fn hj a1 a2 a3 => rw [hi] at hj; cases hj; omega
    | Wf j hj a1 hop =>
     rw [hi] at hj; cases hj
     replace h := cO h gb hl fQ eF
     have kW := c7 (y := aj x g) (g := g) hl
     replace h := aW (a := a) (p := p) (pa := pa) (dr := dr) (gg := gg) (x := x.bu g (aj x g)) kW h b
     rw [sx h0 h1] at h
     refine hop gg b bs c M' _ _ _ h eF ?_
     cases r with
     | on y =>
      intro lQ M2 h
      refine ⟨rfl, yf h ?_⟩
      have e1 : (i.op == 12) = false := by simp; omega
      have e2 : (i.op == 17) = false := by simp; omega
      rw [e1, e2]
      exact k lQ _ h.bV
     | eD n y =>
      intro lQ M2 h
      exact Dm h fun M3 h3 => k lQ M3 h3
     | cV l y =>
      intro lQ M2 h
      exact k lQ M2 h.bV
   cases hs with
   | out h => omega
   | pure j hj a1 a2 a3 => rw [hi] at hj; cases hj; omega
   | Dl j hj a1 => rw [hi] at hj; cases hj; omega
   | Wf j hj a1 => rw [hi] at hj; cases hj; omega
   | dflt j fn hj a1 a2 a3 hf hn hop =>
    rw [hi] at hj; cases hj
    refine bp ?_
    refine zm h (dW h2) rfl ?_
    refine bp ?_
    rw [jk Bl.1 (by omega)]
    refine zn h (dW h2) rfl ?_
    clear h; intro M h
    refine aH h (aH h (aH h (aH h (aH h ?_))))
    refine Fb h ?_
    clear h; intro mp M h
    refine ⟨jv (bN h) (jv (bN h) (jv (bN h) (jv (bN h) uf))), bN h, ?_⟩
    have hu : Tryz.prog.underlying 345 = some (.map 25 344) := by kernel_rfl
    have hkk : Tryz.prog.underlying 25 = some (.int .i64) := by kernel_rfl
    obtain ⟨ti, PR, htz⟩ : ∃ ti, Tryz.prog.info? 344 = some ti ∧ ti.zero = some .nilFunc := ⟨_, rfl, rfl⟩
    refine Oc h hu hkk PR htz ?_
    rw [hf]
    refine ⟨jv (bN h) (jv (bN h) (jv (bN h) (jv (bN h) uf))), bN h, ?_⟩
    refine EY hn ?_
    replace h := cO h gb hl fQ eF (by simp)
    have kW := c7 (y := (aj x g).cI (aj x g).top.next) (g := g) hl
    have h5 := aW (a := a) (p := p) (pa := pa) (dr := dr) (gg := gg) (x := x.next g) kW h b
    have h6 : Hp R (az (br pa p gg dr) b (x.next g) :: pt ki [.int .i64 i.op, .int .i64 i.a, .int .i64 i.b, .int .i64 i.c] 27 :: L') M := h5.sub bD
    clear h h5
    have hfl : (aj (x.next g) g).fs.length = (aj x g).fs.length := by
     unfold Wd.next; rw [gI h0 h1]; simp [jo.cI]
    have hc := hop gg b bs c M (fun Nt lu => (Nt = (.tuple #[])) ∧ ((Mem.g9 lu ⟨ki, 0, none⟩ 0 4) = some [(.int .i64 i.op), (.int .i64 i.a), (.int .i64 i.b), (.int .i64 i.c)]) ∧ ((Mem.ld lu ⟨ki, 0, none⟩) = (some (.int .i64 i.op))) ∧
     aJ (lu.ld ⟨ki, 0, none⟩) .i64 fun n => aO (n == 12) (cu Tryz.prog 188 (.pointer (some ⟨b, 0, none⟩)) K Kp (.bool true) .returning lu)
      (aJ (lu.ld ⟨ki, 0, none⟩) .i64 fun n => cu Tryz.prog 188 (.pointer (some ⟨b, 0, none⟩)) K Kp (.bool (n == 17)) .returning lu))
     (fun l M => cu Tryz.prog 188 (.pointer (some ⟨b, 0, none⟩)) K Kp (.bool false) (.panicking l) M) _ h6 eF ?_
    ·rw [hfl] at hc
     exact hc
    cases r with
    | on y =>
     intro lQ M2 h
     exact ⟨rfl, jv (bN h) (jv (bN h) (jv (bN h) (jv (bN h) uf))), bN h, yf h (k lQ _ h.bV)⟩
    | eD n y =>
     intro lQ M2 h
     exact Dm h fun M3 h3 => k lQ M3 h3
    | cV l y =>
     intro lQ M2 h
     exact k lQ M2 h.bV
end
abbrev qM (pa : PA) (p : b6) (dr : Value) (a : WA) (x : Wd) (n : Nat) : List Value :=
 [.slice pa.f p.funcs.length pa.fc, .slice pa.c p.eJ.length pa.cc, .int .i64 p.aL, .slice pa.k p.cases.length pa.kc, .slice a.ag a.gb.length a.cg, .int .u64 x.clock,
  .slice a.ac a.cb.length a.cc, .slice a.al a.lb.length a.cl, .slice a.ah x.hl.length a.ch, .int .u64 x.mO, .slice a.ao x.out.length a.co, .int .i64 x.end_, .int .i64 x.code, .slice a.ar n a.cr, dr]
abbrev wq (a : WA) (x : Wd) (L : List HP) : List HP :=
 zo a.ag a.cg a.gb :: zp a.ac a.cc a.cb :: bj bE a.cb x.aD :: zq a.al a.cl a.lb :: bj fP a.lb x.aL :: gp a.ah a.ch x.hl :: yU a.ao a.co x.out :: L
def bI (pa : PA) (p : b6) : sH Wd := ⟨fun b x => exs fun q : WA × List GA × Value × Nat =>
 sep (pt b (qM pa p q.2.2.1 q.1 x q.2.2.2) 161 :: bj fX q.1.gb (x.gs.zip q.2.1) :: fact (eT q.2.1 q.1 x) :: wq q.1 x [])⟩
section
variable {R : Mem} {L L' L2 : List HP} {M : Mem} {K : Value → Mem → Prop} {Kp : List PanicEntry → Mem → Prop} {pa : PA} {p : b6} {gg : List GA} {dr : Value} {b : Nat} {x : Wd} {g : Int}
class I9 (b : Nat) (L : List HP) (pa : outParam PA) (p : outParam b6) (x : outParam Wd) (L' : outParam (List HP)) : Prop where
 pick : cY L (az (bI pa p) b x) L'
instance I9.here : I9 b (az (bI pa p) b x :: L) pa p x L := ⟨.here⟩
instance (priority := low) I9.there {Q : HP} [h : I9 b L pa p x L'] : I9 b (Q :: L) pa p x (Q :: L') := ⟨.there h.pick⟩
theorem eo (h : Hp R L M) [o : I9 b L pa p x L'] : ∃ (a : WA) (gg : List GA) (dr : Value) (n : Nat), eT gg a x ∧ Hp R (pt b (qM pa p dr a x n) 161 :: bj fX a.gb (x.gs.zip gg) :: wq a x L') M := by
 have := h.pick o.pick
 unfold az at this
 simp only [bI, wq, Hp.di, Hp.aX, List.cons_append, List.nil_append] at this
 obtain ⟨⟨a, gg, dr, n⟩, h⟩ := this
 have h2 := h.pick (P := fact (eT gg a x)) (.there (.there .here))
 exact ⟨a, gg, dr, n, (Hp.fO.1 h2).1, (Hp.fO.1 h2).2⟩
theorem lR {a : WA} {n : Nat} (hl : eT gg a x) (h : Hp R (pt b (qM pa p dr a x n) 161 :: bj fX a.gb (x.gs.zip gg) :: wq a x L) M) : Hp R (az (bI pa p) b x :: L) M := by
 refine Hp.vL ?_
 simp only [bI, wq, Hp.di, Hp.aX, List.cons_append, List.nil_append]
 refine ⟨(a, gg, dr, n), ?_⟩
 have h2 : Hp R (fact (eT gg a x) :: pt b (qM pa p dr a x n) 161 :: bj fX a.gb (x.gs.zip gg) :: wq a x L) M := Hp.fO.2 ⟨hl, h⟩
 exact h2.nB (.there (.there .here))
def hU (x : Wd) (g : Int) (rest : Bool) : Bool := !rest && x.end_ == 0 && (aj x g).st == 1
def Ci (l l' : List PanicEntry) : Prop := ∀ (b : Nat) (v : Value) (M : Mem) (K : Value → Mem → Prop) (Kp : List PanicEntry → Mem → Prop), Kp l' M → cu Tryz.prog 188 (.pointer (some ⟨b, 0, none⟩)) K Kp v (.panicking l) M
def qN (R : Mem) (pa : PA) (p : b6) (b : Nat) (g : Int) (L2 : List HP) (K : Value → Mem → Prop) (Kp : List PanicEntry → Mem → Prop) (r : Out Wd) (rest : Bool) : Prop := match r with
 | .cV l y => ∃ l', Ci l l' ∧ ∀ M', Hp R (az (bI pa p) b y :: L2) M' → Kp l' M'
 | .on y => ∀ R' A c M', R.le R' → RS bB R' A c y.ready → Hp R' (az (bI pa p) b y :: L2) M' → K (.agg #[.bool (hU y g rest), .slice A y.ready.length c]) M'
 | .eD n y => ∀ R' A c M', R.le R' → RS bB R' A c y.ready → Hp R' (az (bI pa p) b { y with end_ := 2, code := n } :: L2) M' → K (.agg #[.bool (hU { y with end_ := 2, code := n } g rest), .slice A y.ready.length c]) M'
theorem Ow.of {r : Out Wd} {rest : Bool} (hd : ¬ ∃ l y, r = .cV l y) (k : ∀ lQ M', Hp R (az (br pa p lQ dr) b r.fin :: L2) M' → K (.bool rest) M') : Ow R pa p dr b L2 K Kp r rest := by
 cases r with
 | on y => exact k
 | eD n y => exact k
 | cV l y => exact absurd ⟨l, y, rfl⟩ hd
theorem qN.get {r : Out Wd} {rest : Bool} (hd : ¬ ∃ l y, r = .cV l y) (k : qN R pa p b g L2 K Kp r rest) :
  ∀ R' A c M', R.le R' → RS bB R' A c r.fin.ready → Hp R' (az (bI pa p) b r.fin :: L2) M' → K (.agg #[.bool (hU r.fin g rest), .slice A r.fin.ready.length c]) M' := by
 cases r with
 | on y => exact k
 | eD n y => exact k
 | cV l y => exact absurd ⟨l, y, rfl⟩ hd
theorem Hy {code : List cH} {r : Out Wd} {rest : Bool} (h : Hp R L M) [o : I9 b L pa p x L'] (hp : oQ R pa p) (hg : bk x g) (he : x.end_ = 0) (hst : (aj x g).st = 1)
  (hfn : 0 ≤ (aj x g).top.fn) (m9 : p.funcs[(aj x g).top.fn.toNat]? = some code)
  (Bl : 0 ≤ (aj x g).top.pc ∧ (aj x g).top.pc < 1000000000) (Bm : ∃ f c d, dr = .func f c d) (hs : ∀ Q, Step R pa p dr { x with ready := [] } g code r rest (Q :: L') (Q :: L2)) (hlen : g < r.fin.gs.length)
  (k : qN R pa p b g L2 K Kp r rest) :
  aa Tryz.prog 121 #[.pointer (some ⟨b, 0, none⟩), .int .i64 g, dr] M K Kp := by
 refine jV ?_
 have AE := hg
 obtain ⟨h0, h1, h2, h3⟩ := AE
 refine aq h ?_
 clear h
 intro kb M h
 have h' := eo h (b := b)
 clear h
 obtain ⟨a, gg, dr0, n0, hl, h⟩ := h'
 have hl' := hl
 obtain ⟨l1, l2, l3, l4⟩ := hl'
 refine aM.2 ⟨fun hn => by omega, fun _ => ?_⟩
 refine aS h ?_
 refine aM.2 ⟨fun hn => by omega, fun _ => ?_⟩
 refine aH h ?_
 refine eL.2 ⟨fun hn => absurd he hn, fun _ => ?_⟩
 refine aS h ?_
 refine ⟨h0, by omega, ?_⟩
 obtain ⟨gb, fQ⟩ := aP (l := a.gb) (i := g.toNat) (by omega)
 refine vq h fQ fun q hq => ?_
 obtain ⟨ga, Wh⟩ := aP (l := gg) (i := g.toNat) (by omega)
 obtain ⟨y, hy⟩ := aP (l := x.gs) (i := g.toNat) (by omega)
 have ey : aj x g = y := by simp [aj, hy]
 rw [ey] at hst
 refine bp ?_
 have Oy : M.ld ⟨gb, 0, none⟩ = some (.int .i64 y.st) := by
  have h9 := m7 (b := gb) (h.c6 fX fQ (nT hy Wh))
  exact bN h9
 rw [Oy]
 refine cE ?_
 refine eL.2 ⟨fun hn => absurd hst hn, fun _ => ?_⟩
 refine au h ?_
 clear h Oy; intro M h
 have hpc2 : ∀ X : Prop, X → Bw dr X := by
  obtain ⟨f, c, d, rfl⟩ := Bm
  intro X hX; exact hX
 refine hpc2 _ ?_
 refine au h ?_
 clear h; intro M h
 have h4 := h.cz bB 3
 have h5 : Hp R (az (br pa p gg dr) b { x with ready := [] } :: pt kb [.bool false, .slice none 0 0] 250 :: L') M := jy (a := { a with ar := none, cr := 0 }) (x := { x with ready := [] }) hl (h4.sub bD)
 clear h h4
 by_cases Hz : ∃ l y, r = .cV l y
 ·obtain ⟨l, y, rfl⟩ := Hz
  refine Fc (b := b) (x := { x with ready := [] }) h5 hp hg hfn m9 Bl (hs _) ?_
  clear h5
  intro lQ M h
  obtain ⟨l', hdr2, k⟩ := k
  refine hdr2 _ _ _ _ _ (k _ ?_)
  have h' := cj h (b := b)
  clear h
  obtain ⟨a2, kW, h⟩ := h'
  exact lR (a := a2) (n := y.ready.length) (gg := lQ) (dr := dr) kW (h.sub bD)
 refine Fc (b := b) (x := { x with ready := [] }) h5 hp hg hfn m9 Bl (hs _) (.of Hz ?_)
 clear h5
 intro lQ M h
 replace k := qN.get Hz k
 generalize r.fin = z at h k hlen
 have h' := cj h (b := b)
 clear h
 obtain ⟨a2, kW, h⟩ := h'
 have V8 := kW
 obtain ⟨m1, m2, m3, m4⟩ := V8
 have fin : ∀ t : Bool, t = hU z g rest → aK M ⟨kb, 0, none⟩ (.bool t) fun IG =>
    aK IG ⟨kb, (0 + 1), none⟩ (.slice a2.ar z.ready.length a2.cr) fun AB =>
    de (Mem.ld AB ⟨kb, 0, none⟩) fun t60 =>
    aB (Mem.ld AB ⟨kb, (0 + 1), none⟩) fun T9 Ns Kl =>
    K (.agg #[(.bool t60), (.slice T9 Ns Kl)]) AB := by
  intro t ht
  refine au h ?_
  clear h; intro M h
  refine au h ?_
  clear h; intro M h
  refine Is h (aS h ?_)
  obtain ⟨R', hle, yh, h6⟩ := h.gh a2.ar
  subst ht
  exact k R' _ _ _ hle yh (lR (a := a2) (n := z.ready.length) (gg := lQ) (dr := dr) kW (h6.sub bD))
 refine ot ?_
 cases rest with
 | true =>
  refine ai ?_
  refine aS h ?_
  exact fin false (by simp [hU])
 | false =>
  refine ae ?_
  refine aH h ?_
  refine aR.2 ⟨fun e0 => ?_, fun e0 => ?_⟩
  ·refine aS h ?_
   refine ⟨h0, by omega, ?_⟩
   obtain ⟨gb2, ZG⟩ := aP (l := a2.gb) (i := g.toNat) (by omega)
   refine vq h ZG fun q2 lO => ?_
   obtain ⟨ga2, hga2⟩ := aP (l := lQ) (i := g.toNat) (by omega)
   obtain ⟨y2, hy2⟩ := aP (l := z.gs) (i := g.toNat) (by omega)
   have ey2 : aj z g = y2 := by simp [aj, hy2]
   refine bp ?_
   have Oy : M.ld ⟨gb2, 0, none⟩ = some (.int .i64 y2.st) := by
    have h9 := m7 (b := gb2) (h.c6 fX ZG (nT hy2 hga2))
    exact bN h9
   rw [Oy]
   refine cE ?_
   refine aS h ?_
   exact fin (y2.st == 1) (by simp [hU, e0, ey2])
  ·refine aS h ?_
   have : (z.end_ == 0) = false := by simpa using e0
   exact fin false (by simp [hU, this])
end
section
variable {R : Mem} {L L' L2 : List HP} {M : Mem} {K : Value → Mem → Prop} {Kp : List PanicEntry → Mem → Prop} {pa : PA} {p : b6} {gg : List GA} {dr : Value} {b : Nat} {x : Wd} {g : Int}
theorem KN (h : Hp R L M) [o : I9 b L pa p x L'] (k : K (.int .i64 (x.gs.length : Int)) M) : aa Tryz.prog 73 #[.pointer (some ⟨b, 0, none⟩)] M K Kp := by
 refine sV ?_
 have h' := eo h (b := b)
 clear h
 obtain ⟨a, gg, dr, n, hl, h⟩ := h'
 refine aS h ?_
 rw [hl.1]
 exact k
theorem KO (h : Hp R L M) [o : I9 b L pa p x L'] (k : K (.tuple #[.int .i64 x.end_, .int .i64 x.code]) M) : aa Tryz.prog 28 #[.pointer (some ⟨b, 0, none⟩)] M K Kp := by
 refine sW ?_
 have h' := eo h (b := b)
 clear h
 obtain ⟨a, gg, dr, n, hl, h⟩ := h'
 refine aH h (aH h ?_)
 exact k
theorem u5 (h : Hp R L M) [o : I9 b L pa p x L'] (h0 : 0 ≤ g) (h1 : g < x.gs.length) (k : K (.int .i64 (aj x g).st) M) : aa Tryz.prog 119 #[.pointer (some ⟨b, 0, none⟩), .int .i64 g] M K Kp := by
 refine oF ?_
 have h' := eo h (b := b)
 clear h
 obtain ⟨a, gg, dr, n, hl, h⟩ := h'
 have hl' := hl
 obtain ⟨l1, l2, l3, l4⟩ := hl'
 refine aM.2 ⟨fun hn => by omega, fun _ => ?_⟩
 refine aS h ?_
 refine aM.2 ⟨fun hn => by omega, fun _ => ?_⟩
 refine aS h ?_
 refine ⟨h0, by omega, ?_⟩
 obtain ⟨gb, fQ⟩ := aP (l := a.gb) (i := g.toNat) (by omega)
 refine vq h fQ fun q hq => ?_
 obtain ⟨ga, Wh⟩ := aP (l := gg) (i := g.toNat) (by omega)
 obtain ⟨y, hy⟩ := aP (l := x.gs) (i := g.toNat) (by omega)
 have ey : aj x g = y := by simp [aj, hy]
 rw [ey] at k
 refine bp ?_
 have Oy : M.ld ⟨gb, 0, none⟩ = some (.int .i64 y.st) := by
  have h9 := m7 (b := gb) (h.c6 fX fQ (nT hy Wh))
  exact bN h9
 rw [Oy]
 exact cE k
end
def Wd.new (p : b6) : Wd := ⟨[⟨1, [gQ.begin 0 0], .zero⟩], 0, p.eJ.map aT.new, List.replicate p.aL.toNat ⟨-1, []⟩, [], 0, [], 0, 0, []⟩
theorem SY : bn Tryz.prog 156 230 1 8 [.pointer none] := bn.mk' (zv := .pointer none) (by kernel_rfl) (by kernel_rfl) rfl (by omega)
theorem SZ : bn Tryz.prog 157 232 1 8 [.pointer none] := bn.mk' (zv := .pointer none) (by kernel_rfl) (by kernel_rfl) rfl (by omega)
section
variable {R : Mem} {L L' L2 : List HP} {M : Mem} {K : Value → Mem → Prop} {Kp : List PanicEntry → Mem → Prop} {pa : PA} {p : b6} {gg : List GA} {dr : Value} {b : Nat} {x : Wd} {g : Int}
theorem Oz {j : Nat} {q A' : Nat} {c' : Nat} {v : Int} {a : WA} {n k : Nat} {Ac : Option Addr} {Q : List HP} (hl : eT gg a x)
  (h : Hp R (pt b (qM pa p dr { a with ac := Ac, cc := c', cb := a.cb ++ [k] } x n) 161 :: zp Ac c' (a.cb ++ [k]) :: az bE k (aT.new v) :: bj bE a.cb x.aD :: bj fX a.gb (x.gs.zip gg) :: zo a.ag a.cg a.gb :: zq a.al a.cl a.lb :: bj fP a.lb x.aL :: gp a.ah a.ch x.hl :: yU a.ao a.co x.out :: Q) M) :
  Hp R (az (bI pa p) b { x with aD := x.aD ++ [aT.new v] } :: Q) M := by
 obtain ⟨l1, l2, l3, l4⟩ := hl
 have h2 := h.kF bE k l3
 exact lR (a := { a with ac := Ac, cc := c', cb := a.cb ++ [k] }) (gg := gg) (dr := dr) (n := n) (x := { x with aD := x.aD ++ [aT.new v] }) ⟨l1, l2, by simp [l3], l4⟩ (h2.sub bD)
theorem OA {c' : Nat} {a : WA} {n k : Nat} {Ac : Option Addr} {Q : List HP} (hl : eT gg a x)
  (h : Hp R (pt b (qM pa p dr { a with al := Ac, cl := c', lb := a.lb ++ [k] } x n) 161 :: zq Ac c' (a.lb ++ [k]) :: az fP k ⟨-1, []⟩ :: bj fP a.lb x.aL :: bj fX a.gb (x.gs.zip gg) :: zo a.ag a.cg a.gb :: zp a.ac a.cc a.cb :: bj bE a.cb x.aD :: gp a.ah a.ch x.hl :: yU a.ao a.co x.out :: Q) M) :
  Hp R (az (bI pa p) b { x with aL := x.aL ++ [⟨-1, []⟩] } :: Q) M := by
 obtain ⟨l1, l2, l3, l4⟩ := hl
 have h2 := h.kF fP k l4
 exact lR (a := { a with al := Ac, cl := c', lb := a.lb ++ [k] }) (gg := gg) (dr := dr) (n := n) (x := { x with aL := x.aL ++ [⟨-1, []⟩] }) ⟨l1, l2, l3, by simp [l4]⟩ (h2.sub bD)
theorem KP (h : Hp R L M) (ye : RS bB R pa.c pa.cc p.eJ) (hc : p.eJ.length ≤ 1000000) (hk : 0 ≤ p.aL ∧ p.aL ≤ 1000000)
  (k : ∀ b M', Hp R (az (bI pa p) b (Wd.new p) :: L) M' → K (.pointer (some ⟨b, 0, none⟩)) M') :
  aa Tryz.prog 56 #[.agg #[.slice pa.f p.funcs.length pa.fc, .slice pa.c p.eJ.length pa.cc, .int .i64 p.aL, .slice pa.k p.cases.length pa.kc]] M K Kp := by
 refine C4 ?_
 repeat (first|(refine aq h ?_;clear h;intro kb M h)|(refine au h ?_;clear h;intro M h)|refine St.to h ?_|(apply Exists.intro;(repeat apply Exists.intro);refine And.intro rfl ?_)|refine av ?_|refine ae ?_|refine ai ?_)
 refine qd h ?_
 clear h
 intro bs M h
 repeat (first|(refine aq h ?_;clear h;intro kb M h)|(refine au h ?_;clear h;intro M h)|refine St.to h ?_|(apply Exists.intro;(repeat apply Exists.intro);refine And.intro rfl ?_)|refine av ?_|refine ae ?_|refine ai ?_)
 rename_i kp _ _ kr _ kw _
 replace h := m8 h kr
 replace h := (h.ux fX).kF fX kr rfl
 replace h := (h.pt kw).kT (E := l8) (l := [kr]) rfl
 replace h := (h.cz l8 230).ux bE
 replace h := (h.cz l8 232).ux fP
 replace h := (h.cz uA 203).cz bB 2
 have base : Hp R (az (bI pa p) kb { Wd.new p with aD := (p.eJ.take 0).map aT.new, aL := [] } :: pt kp [.slice pa.f p.funcs.length pa.fc, .slice pa.c p.eJ.length pa.cc, .int .i64 p.aL, .slice pa.k p.cases.length pa.kc] 39 :: L) _ :=
  lR (a := ⟨some ⟨kw, 0, none⟩, 1, [kr], none, 0, [], none, 0, [], none, 0, none, 0, none, 0⟩) (gg := [(some ⟨bs, 0, none⟩, 1)]) (dr := .nilFunc) (n := 0) (x := { Wd.new p with aD := [], aL := [] }) ⟨rfl, rfl, rfl, rfl⟩ (h.sub bD)
 clear h
 refine ⟨fun d vs M => ∃ j : Nat, vs = [.int .i64 (j : Int)] ∧ d = p.eJ.length - j ∧ j ≤ p.eJ.length ∧ Hp R (az (bI pa p) kb { Wd.new p with aD := (p.eJ.take j).map aT.new, aL := [] } :: pt kp [.slice pa.f p.funcs.length pa.fc, .slice pa.c p.eJ.length pa.cc, .int .i64 p.aL, .slice pa.k p.cases.length pa.kc] 39 :: L) M,
  ⟨_, 0, rfl, rfl, by omega, base⟩, ?_⟩
 clear base
 rintro d _ nn M ⟨j, he, hd, hj, h⟩
 simp only [List.cons.injEq, Value.int.injEq, and_true, true_and] at he
 subst he
 refine aM.2 ⟨fun hlt => ?_, fun hge => ?_⟩
 ·obtain ⟨v, hv⟩ := aP (l := p.eJ) (i := j) (by omega)
  have ZC : (p.eJ.take (j + 1)).map aT.new = (p.eJ.take j).map aT.new ++ [aT.new v] := by rw [dD hv, List.map_append]; rfl
  have LA : ((p.eJ.take j).map aT.new).length ≤ 1000000 := by simp; omega
  rw [aV (by omega)]
  refine ⟨by omega, hlt, ?_⟩
  obtain ⟨cb, co, hcb⟩ := ye.some (by omega) (by decide)
  have ZH := ye
  rw [hcb] at ZH ⊢
  refine bp ?_
  simp only [Int.toNat_natCast]
  refine aZ (Src.at (ZH.src (L := _)) h (i := j) (j := 0) hv rfl (by simp [bB])) ?_
  refine ⟨fun _ M => Hp R (az (bI pa p) kb { Wd.new p with aD := (p.eJ.take j).map aT.new ++ [aT.new v], aL := [] } :: pt kp [.slice pa.f p.funcs.length pa.fc, .slice pa.c p.eJ.length pa.cc, .int .i64 p.aL, .slice pa.k p.cases.length pa.kc] 39 :: L) M, ⟨?_, ?_, trivial⟩, ?_⟩
  ·have h' := eo h (b := kb)
   clear h
   obtain ⟨a, gg, dr, n, hl, h⟩ := h'
   have PS : a.cb.length = ((p.eJ.take j).map aT.new).length := hl.2.2.1
   refine aS h ?_
   refine BX h ?_
   clear h
   intro kc M h
   repeat (first|(refine aq h ?_;clear h;intro kb M h)|(refine au h ?_;clear h;intro M h)|refine St.to h ?_|(apply Exists.intro;(repeat apply Exists.intro);refine And.intro rfl ?_)|refine av ?_|refine ae ?_|refine ai ?_)
   refine h.bJ SY [kc] rfl rfl (by simp only [List.length_singleton]; omega) ?_
   clear h
   intro A' c' M h
   repeat (first|(refine aq h ?_;clear h;intro kb M h)|(refine au h ?_;clear h;intro M h)|refine St.to h ?_|(apply Exists.intro;(repeat apply Exists.intro);refine And.intro rfl ?_)|refine av ?_|refine ae ?_|refine ai ?_)
   exact Oz (j := j) (q := j) (A' := j) (a := a) (x := { Wd.new p with aD := (p.eJ.take j).map aT.new, aL := [] }) hl (h.sub bD)
  ·have h' := eo h (b := kb)
   clear h
   obtain ⟨a, gg, dr, n, hl, h⟩ := h'
   have PS : a.cb.length = ((p.eJ.take j).map aT.new).length := hl.2.2.1
   refine BX h ?_
   clear h
   intro kc M h
   repeat (first|(refine aq h ?_;clear h;intro kb M h)|(refine au h ?_;clear h;intro M h)|refine St.to h ?_|(apply Exists.intro;(repeat apply Exists.intro);refine And.intro rfl ?_)|refine av ?_|refine ae ?_|refine ai ?_)
   refine h.bJ SY [kc] rfl rfl (by simp only [List.length_singleton]; omega) ?_
   clear h
   intro A' c' M h
   repeat (first|(refine aq h ?_;clear h;intro kb M h)|(refine au h ?_;clear h;intro M h)|refine St.to h ?_|(apply Exists.intro;(repeat apply Exists.intro);refine And.intro rfl ?_)|refine av ?_|refine ae ?_|refine ai ?_)
   exact Oz (j := j) (q := j) (A' := j) (a := a) (x := { Wd.new p with aD := (p.eJ.take j).map aT.new, aL := [] }) hl (h.sub bD)
  ·clear h
   intro _ M h
   refine ⟨p.eJ.length - (j + 1), by omega, j + 1, rfl, rfl, by omega, ?_⟩
   rw [ZC, ← hcb]; exact h
 ·obtain rfl : j = p.eJ.length := by omega
  rw [List.take_length] at h
  refine aH h ?_
  obtain ⟨nl, hnl⟩ := Int.eq_ofNat_of_zero_le hk.1
  refine ⟨fun d vs M => ∃ j : Nat, vs = [.int .i64 (j : Int)] ∧ d = nl - j ∧ j ≤ nl ∧ Hp R (az (bI pa p) kb { Wd.new p with aL := List.replicate j ⟨-1, []⟩ } :: pt kp [.slice pa.f p.funcs.length pa.fc, .slice pa.c p.eJ.length pa.cc, .int .i64 p.aL, .slice pa.k p.cases.length pa.kc] 39 :: L) M,
   ⟨_, 0, rfl, rfl, by omega, h⟩, ?_⟩
  clear h
  rintro d _ nn M ⟨j, he, hd, hj, h⟩
  simp only [List.cons.injEq, Value.int.injEq, and_true, true_and] at he
  subst he
  refine aM.2 ⟨fun hlt => ?_, fun hge => ?_⟩
  ·have ZC : List.replicate (j + 1) (⟨-1, []⟩ : Lk) = List.replicate j ⟨-1, []⟩ ++ [⟨-1, []⟩] := List.replicate_succ'
   rw [aV (by omega)]
   refine ⟨fun _ M => Hp R (az (bI pa p) kb { Wd.new p with aL := List.replicate j ⟨-1, []⟩ ++ [⟨-1, []⟩] } :: pt kp [.slice pa.f p.funcs.length pa.fc, .slice pa.c p.eJ.length pa.cc, .int .i64 p.aL, .slice pa.k p.cases.length pa.kc] 39 :: L) M, ⟨?_, ?_, trivial⟩, ?_⟩
   ·have h' := eo h (b := kb)
    clear h
    obtain ⟨a, gg, dr, n, hl, h⟩ := h'
    have PS : a.lb.length = (List.replicate j (⟨-1, []⟩ : Lk)).length := hl.2.2.2
    rw [List.length_replicate] at PS
    refine aS h ?_
    refine B7 h ?_
    clear h
    intro kc M h
    repeat (first|(refine aq h ?_;clear h;intro kb M h)|(refine au h ?_;clear h;intro M h)|refine St.to h ?_|(apply Exists.intro;(repeat apply Exists.intro);refine And.intro rfl ?_)|refine av ?_|refine ae ?_|refine ai ?_)
    refine h.bJ SZ [kc] rfl rfl (by simp only [List.length_singleton]; omega) ?_
    clear h
    intro A' c' M h
    repeat (first|(refine aq h ?_;clear h;intro kb M h)|(refine au h ?_;clear h;intro M h)|refine St.to h ?_|(apply Exists.intro;(repeat apply Exists.intro);refine And.intro rfl ?_)|refine av ?_|refine ae ?_|refine ai ?_)
    exact OA (a := a) (x := { Wd.new p with aL := List.replicate j ⟨-1, []⟩ }) hl (h.sub bD)
   ·have h' := eo h (b := kb)
    clear h
    obtain ⟨a, gg, dr, n, hl, h⟩ := h'
    have PS : a.lb.length = (List.replicate j (⟨-1, []⟩ : Lk)).length := hl.2.2.2
    rw [List.length_replicate] at PS
    refine B7 h ?_
    clear h
    intro kc M h
    repeat (first|(refine aq h ?_;clear h;intro kb M h)|(refine au h ?_;clear h;intro M h)|refine St.to h ?_|(apply Exists.intro;(repeat apply Exists.intro);refine And.intro rfl ?_)|refine av ?_|refine ae ?_|refine ai ?_)
    refine h.bJ SZ [kc] rfl rfl (by simp only [List.length_singleton]; omega) ?_
    clear h
    intro A' c' M h
    repeat (first|(refine aq h ?_;clear h;intro kb M h)|(refine au h ?_;clear h;intro M h)|refine St.to h ?_|(apply Exists.intro;(repeat apply Exists.intro);refine And.intro rfl ?_)|refine av ?_|refine ae ?_|refine ai ?_)
    exact OA (a := a) (x := { Wd.new p with aL := List.replicate j ⟨-1, []⟩ }) hl (h.sub bD)
   ·clear h
    intro _ M h
    refine ⟨nl - (j + 1), by omega, j + 1, rfl, rfl, by omega, ?_⟩
    rw [ZC]; exact h
  ·obtain rfl : j = nl := by omega
   have e : Wd.new p = { Wd.new p with aL := List.replicate j ⟨-1, []⟩ } := by unfold Wd.new; rw [hnl]; rfl
   rw [← e] at h
   exact k _ _ h.bV
end
def aC (p : b6) (i : cH) : List ov := (p.cases.drop i.a.toNat).take i.b.toNat
def u6 (f : gQ) : List Int := [f.r.getD 0 0, f.r.getD 1 0, f.r.getD 2 0, f.r.getD 3 0, f.r.getD 4 0, f.r.getD 5 0, f.r.getD 6 0, f.r.getD 7 0]
inductive jW where
 | num (d : Int)
 | cV (l : List PanicEntry)
def iT (R : Mem) (dr : Value) (kind n : Int) (d : jW) (L L2 : List HP) : Prop := ∀ (Q : HP) (M : Mem) (K : Value → Mem → Prop) (Kp : List PanicEntry → Mem → Prop), Hp R (Q :: L) M →
 (match d with
  | .num v => ∀ M', Hp R (Q :: L2) M' → K (.int .i64 v) M'
  | .cV l => ∀ M', Hp R (Q :: L2) M' → Kp l M') → iF Cx dr [.int .i64 kind, .int .i64 n] M K Kp
def Wd.qh (p : b6) (x : Wd) (g : Int) (i : cH) (k : Int) : Out Wd :=
 let c := (aC p i).getD k.toNat ⟨0, 0, 0⟩
 let x1 := x.next g
 if c.way = 1 then match x1.put p c.ch (bt x1 g c.bR) with
  | .eD n y => .eD n y
  | .cV l y => .cV l y
  | .on (y, _) => .on (y.bq g i.c k)
 else .on (((x1.get c.ch).1.bq g c.bR (x1.get c.ch).2.1).bq g i.c k)
def Wd.tF (p : b6) (x : Wd) (g : Int) (i : cH) : Wd :=
 let x1 := x.next g
 match els (aC p i) with
  | some k => x1.bq g i.c (k : Int)
  | none => Wd.block { x1 with aD := dU g (u6 (aj x1 g).top) (aC p i) x1.aD (aC p i).length } g i
def Wd.choose (p : b6) (x : Wd) (g : Int) (i : cH) (d : jW) : Out Wd :=
 if enabled (aC p i) x.aD = [] then .on (x.tF p g i)
 else match d with
  | .num v => x.qh p g i ((enabled (aC p i) x.aD).getD v.toNat 0)
  | .cV l => .cV l x
section
variable {R : Mem} {L L' L2 : List HP} {M : Mem} {K : Value → Mem → Prop} {Kp : List PanicEntry → Mem → Prop} {pa : PA} {p : b6} {gg : List GA} {dr : Value} {b : Nat} {x : Wd} {g : Int} {i : cH}
def u7 (p : b6) (i : cH) : Prop := 0 ≤ i.a ∧ 0 ≤ i.b ∧ i.a + i.b ≤ p.cases.length ∧ p.cases.length ≤ 1000
instance (p : b6) (i : cH) : Decidable (u7 p i) := by unfold u7; infer_instance
theorem Fe (h : Hp R L M) [o : wg b L pa p gg dr x L'] (hp : oQ R pa p) (hk : u7 p i)
  (k : ∀ A c M', RS hH R A c (aC p i) → Hp R (az (br pa p gg dr) b x :: L') M' → K (.slice A (aC p i).length c) M') :
  aa Tryz.prog 204 #[.pointer (some ⟨b, 0, none⟩), .agg #[.int .i64 i.op, .int .i64 i.a, .int .i64 i.b, .int .i64 i.c]] M K Kp := by
 refine pP ?_
 obtain ⟨a0, b0, hab, hl⟩ := hk
 have hcap := hp.cases.2
 refine aq h ?_
 clear h; intro kb M h
 have hC := h.drop.pick o.pick
 have h' := cj h (b := b)
 clear h
 obtain ⟨a, kW, h⟩ := h'
 refine aS h (aH h (aH h (aH h ?_)))
 rw [cT (by omega) (by omega)]
 refine ⟨by omega, by omega, by omega, by omega, by omega, by omega, ?_⟩
 have e : (aC p i).length = (i.a + i.b).toNat - i.a.toNat := by
  unfold aC
  rw [List.length_take, List.length_drop]; omega
 rw [← e]
 simp only [Int.toNat_natCast]
 exact k _ _ _ ((hp.cases.drop i.a.toNat (by omega)).take i.b.toNat) hC
theorem OB {bs j : Nat} {l : List gQ} {f : gQ} (hs : Src R L (some ⟨bs, 0, none⟩) (ke.cells l)) (hi : l[j]? = some f) : Src R L (lF (some ⟨bs, j * 11 + 2, none⟩) 0 8 1) (bB.cells (u6 f)) := by
 intro M h
 have e : lF (some ⟨bs, j * 11 + 2, none⟩) 0 8 1 = some ⟨bs, j * 11 + 2, none⟩ := by
  unfold lF; rw [if_neg (by omega)]; rfl
 rw [e]
 intro q hq
 have hq8 : q < 8 := by simpa [bB, iY.cells, u6] using hq
 have e2 : j * 11 + 2 + q = 0 + (j * ke.z + (2 + q)) := by show _ = 0 + (j * 11 + (2 + q)); omega
 obtain rfl | rfl | rfl | rfl | rfl | rfl | rfl | rfl : q = 0 ∨ q = 1 ∨ q = 2 ∨ q = 3 ∨ q = 4 ∨ q = 5 ∨ q = 6 ∨ q = 7 := by omega
 all_goals exact Src.at hs h (i := j) hi rfl e2
theorem HA {bs c oo : Nat} {v : Int} {G : Mem → Prop} (h : Hp R L M) [o : wg b L pa p gg dr x L'] (hg : bk x g) (eF : gg[g.toNat]? = some (some ⟨bs, 0, none⟩, c)) (e : oo = ((aj x g).fs.length - 1) * 11 + 1) (hv : v = (aj x g).top.pc + 1)
  (k : ∀ M', Hp R (az (br pa p gg dr) b (x.next g) :: L') M' → G M') : aK M ⟨bs, oo, none⟩ (.int .i64 v) G := by
 subst hv
 obtain ⟨h0, h1, h2, h3⟩ := hg
 obtain ⟨a, gb, hl, fQ, h4⟩ := gJ h (b := b) h0 h1 eF
 refine zn h4 (dW h2) e fun M' h5 => ?_
 replace h5 := cO h5 gb hl fQ eF (by simp)
 exact k M' (aW (a := a) (p := p) (pa := pa) (dr := dr) (gg := gg) (x := x.next g) (c7 hl) h5 b)
theorem HB {bs c oo : Nat} {G : Int → Prop} (h : Hp R L M) [o : wg b L pa p gg dr x L'] (hg : bk x g) (eF : gg[g.toNat]? = some (some ⟨bs, 0, none⟩, c)) (e : oo = ((aj x g).fs.length - 1) * 11 + 1)
  (k : G (aj x g).top.pc) : aJ (M.ld ⟨bs, oo, none⟩) .i64 G := by
 obtain ⟨h0, h1, h2, h3⟩ := hg
 obtain ⟨a, gb, hl, fQ, h4⟩ := gJ h (b := b) h0 h1 eF
 exact zm h4 (dW h2) e k
theorem zE (hg : bk x g) : aj (x.next g) g = (aj x g).cI (aj x g).top.next := gI hg.1 hg.2.1
theorem tG (hg : bk x g) : bk (x.next g) g := by
 have e := zE hg
 obtain ⟨h0, h1, h2, h3⟩ := hg
 refine ⟨h0, by simpa [Wd.next, Wd.bu] using h1, ?_, ?_⟩ <;> rw [e] <;> simpa [jo.cI]
theorem Dp (hg : bk x g) : (aj (x.next g) g).fs.length = (aj x g).fs.length := by rw [zE hg]; simp [jo.cI]
theorem KQ {q v : Int} (hg : bk x g) : (aj (x.bq g q v) g).fs.length = (aj x g).fs.length := by rw [iP hg]; simp [jo.cI]
theorem Rl (hs : x.Sm) : (x.next g).Sm := IU hs
def Ff (p : b6) (x : Wd) (g : Int) (i : cH) (d : jW) : Prop := bk x g ∧ u7 p i ∧ aU i.c ∧ x.Sm ∧ (aj x g).top.pc < 1000000000 ∧ 0 ≤ (aj x g).top.pc ∧ (∀ c ∈ aC p i, c.Ok x.aD.length) ∧
 match enabled (aC p i) x.aD, d with
 | [], _ => True
 | _, .cV _ => True
 | can, .num v => 0 ≤ v ∧ v < can.length ∧
  let k := can.getD v.toNat 0
  let c := (aC p i).getD k.toNat ⟨0, 0, 0⟩
  let x1 := x.next g
  0 ≤ k ∧ k < (aC p i).length ∧ aU c.bR ∧
  if c.way = 1 then oy p x1 c.ch (bt x1 g c.bR) ∧ (match x1.put p c.ch (bt x1 g c.bR) with
   | .on (y, _) => bk y g ∧ (aj y g).fs.length = (aj x g).fs.length
   | _ => True)
  else uW x1 c.ch ∧ bk (x1.get c.ch).1 g ∧ (aj (x1.get c.ch).1 g).fs.length = (aj x g).fs.length
theorem KR {d : jW} (hp : oQ R pa p) (hk : Ff p x g i d) (hd : if enabled (aC p i) x.aD = [] then L2 = L else iT R dr 3 ((enabled (aC p i) x.aD).length : Int) d L L2) :
  gd R pa p dr 191 x g i (x.choose p g i d) L L2 := by
 intro gg b bs c M K Kp Q h eF k
 obtain ⟨hg, hcs, Rn, hs, Bl, Ro, hok, hk⟩ := hk
 have AE := hg
 obtain ⟨h0, h1, h2, h3⟩ := AE
 have hs' := hs
 obtain ⟨s1, s2, s3, s4, s5, s6, s7, s8⟩ := hs'
 have SX : (aC p i).length ≤ 1000 := by
  obtain ⟨_, _, _, hl⟩ := hcs
  unfold aC
  rw [List.length_take, List.length_drop]; omega
 refine oH ?_
 refine aq h ?_
 clear h; intro k1 M h
 refine aH h (aH h (aH h (aH h ?_)))
 refine Fe (b := b) h hp hcs ?_
 clear h; intro A ca M hA h
 refine be ?_
 unfold Wd.choose at k
 have hen : ∀ {X : HP} {M : Mem} {L3 : List HP}, Hp R (az (br pa p gg dr) b x :: L3) M → ∀ (K1 : Value → Mem → Prop), (∀ A' c' M', Hp R (lD A' c' (enabled (aC p i) x.aD) :: az (br pa p gg dr) b x :: L3) M' → K1 (.slice A' (enabled (aC p i) x.aD).length c') M') →
   aB (M.ld ⟨b, 0 + 6, none⟩) fun Ax eN jJ => aa Tryz.prog 205 #[.slice A (aC p i).length ca, .slice Ax eN jJ] M K1 Kp := by
  intro X M L3 h K1 k1
  have h' := cj h (b := b)
  clear h
  obtain ⟨a, hl, h⟩ := h'
  have hl' := hl
  obtain ⟨l1, l2, l3, l4⟩ := hl'
  refine aS h ?_
  refine AV h (hA.src) (Src.row (A := a.ac)) rfl rfl (by omega) l3 hok ?_
  clear h; intro A' c' M h
  exact k1 _ _ _ ((aW (a := a) (p := p) (pa := pa) (dr := dr) (gg := gg) (x := x) hl h b).swap)
 refine hen (X := Q) h _ ?_
 clear h hen; intro A2 c2 M h
 refine be ?_
 by_cases hcan : enabled (aC p i) x.aD = []
 ·rw [if_pos hcan] at k hd
  subst hd
  rw [hcan] at h ⊢
  refine ae ?_
  unfold Wd.tF at k
  dsimp only at k
  refine HB (b := b) h hg eF rfl ?_
  rw [jk Ro (by omega)]
  refine HA (b := b) h hg eF rfl rfl ?_
  clear h; intro M h
  have KS := tG hg
  have JP := Dp hg
  refine GI h hA.src rfl (by omega) ?_
  clear h; intro M h
  refine ⟨_, _, rfl, ?_⟩
  cases he : els (aC p i) with
  | some q =>
   rw [he] at k
   dsimp only at k ⊢
   refine ae ?_
   refine aH h ?_
   refine ⟨Rn.1, Rn.2, ?_⟩
   refine lP (b := b) h KS eF Rn (by rw [JP]) ?_
   clear h; intro M h
   exact k _ _ (h.sub bD)
  | none =>
   rw [he] at k
   dsimp only at k ⊢
   refine ai ⟨by decide, by decide, by decide, by decide, by decide, by decide, ?_⟩
   have wP := KS
   obtain ⟨g0, g1, g2, g3⟩ := wP
   have h' := gJ h (b := b) g0 g1 eF
   clear h
   obtain ⟨a, gb, hl, fQ, h⟩ := h'
   have hl' := hl
   obtain ⟨l1, l2, l3, l4⟩ := hl'
   refine aS h ?_
   refine GK (fH := u6 (aj (x.next g) g).top) h hA.src (Src.row (A := a.ac)) ?_ rfl rfl rfl rfl (by omega) l3 hok (fun c hc => s1 c hc) ?_
   ·have e9 : ∀ {L9 : List HP}, Src R L9 (some ⟨bs, 0, none⟩) (ke.cells (aj (x.next g) g).fs) → Src R L9 (lF (some ⟨bs, ((aj x g).fs.length - 1) * 11 + 2, none⟩) 0 8 1) (bB.cells (u6 (aj (x.next g) g).top)) := fun hs => by
     have := OB hs (dW g2)
     rwa [JP] at this
    exact e9 Src.row
   clear h; intro M h
   refine ⟨rfl, ?_⟩
   refine aH h (aH h (aH h (aH h ?_)))
   replace h := cO h gb hl fQ eF
   have kW := c7 (y := aj (x.next g) g) (g := g) hl
   have hcl2 : ∀ x' : Wd, x' = { (x.next g).bu g (aj (x.next g) g) with aD := dU g (u6 (aj (x.next g) g).top) (aC p i) x.aD (aC p i).length } → eT gg a x' := by
    rintro _ rfl
    obtain ⟨m1, m2, m3, m4⟩ := kW
    exact ⟨m1, m2, by show _ = List.length _; rw [kX]; exact l3, m4⟩
   replace h := aW (a := a) (p := p) (pa := pa) (dr := dr) (gg := gg) (x := { (x.next g).bu g (aj (x.next g) g) with aD := dU g (u6 (aj (x.next g) g).top) (aC p i) x.aD (aC p i).length }) (hcl2 _ rfl) h b
   rw [sx g0 g1] at h
   refine lN (b := b) (i := i) (x := { x.next g with aD := dU g (u6 (aj (x.next g) g).top) (aC p i) x.aD (aC p i).length }) h g0 g1 ?_
   clear h; intro M h
   exact ⟨rfl, k _ _ (h.sub bD)⟩
 rw [if_neg hcan] at k hd
 have ZI : 0 < (enabled (aC p i) x.aD).length := by
  cases hh : enabled (aC p i) x.aD with
  | nil => exact absurd hh hcan
  | cons _ _ => simp
 refine Gr (by simp; omega) ?_
 have Bm : M.ld ⟨b, 0 + 14, none⟩ = some dr := by
  obtain ⟨a, hl, h9⟩ := cj h (b := b)
  exact bN h9
 rw [Bm]
 refine MA ?_
 have h5 : Hp R (sep [lD A2 c2 (enabled (aC p i) x.aD), az (br pa p gg dr) b x, pt k1 [.int .i64 i.op, .int .i64 i.a, .int .i64 i.b, .int .i64 i.c] 27, Q] :: L) M := Hp.aX.2 (h.sub bD)
 refine hd _ _ _ _ h5 ?_
 clear h h5 Bm
 cases d with
 | cV l =>
  dsimp only at k ⊢
  intro M h5
  have h : Hp R (lD A2 c2 (enabled (aC p i) x.aD) :: az (br pa p gg dr) b x :: pt k1 [.int .i64 i.op, .int .i64 i.a, .int .i64 i.b, .int .i64 i.c] 27 :: Q :: L2) M := Hp.aX.1 h5
  exact k _ _ (h.sub bD)
 | num v =>
  dsimp only at k ⊢
  intro M h5
  have h : Hp R (lD A2 c2 (enabled (aC p i) x.aD) :: az (br pa p gg dr) b x :: pt k1 [.int .i64 i.op, .int .i64 i.a, .int .i64 i.b, .int .i64 i.c] 27 :: Q :: L2) M := Hp.aX.1 h5
  clear h5
  have hk2 : 0 ≤ v ∧ v < (enabled (aC p i) x.aD).length ∧
    0 ≤ (enabled (aC p i) x.aD).getD v.toNat 0 ∧ (enabled (aC p i) x.aD).getD v.toNat 0 < (aC p i).length ∧ aU ((aC p i).getD ((enabled (aC p i) x.aD).getD v.toNat 0).toNat ⟨0, 0, 0⟩).bR ∧
    if ((aC p i).getD ((enabled (aC p i) x.aD).getD v.toNat 0).toNat ⟨0, 0, 0⟩).way = 1 then oy p (x.next g) ((aC p i).getD ((enabled (aC p i) x.aD).getD v.toNat 0).toNat ⟨0, 0, 0⟩).ch (bt (x.next g) g ((aC p i).getD ((enabled (aC p i) x.aD).getD v.toNat 0).toNat ⟨0, 0, 0⟩).bR) ∧
     (match (x.next g).put p ((aC p i).getD ((enabled (aC p i) x.aD).getD v.toNat 0).toNat ⟨0, 0, 0⟩).ch (bt (x.next g) g ((aC p i).getD ((enabled (aC p i) x.aD).getD v.toNat 0).toNat ⟨0, 0, 0⟩).bR) with
      | .on (y, _) => bk y g ∧ (aj y g).fs.length = (aj x g).fs.length
      | _ => True)
    else uW (x.next g) ((aC p i).getD ((enabled (aC p i) x.aD).getD v.toNat 0).toNat ⟨0, 0, 0⟩).ch ∧ bk ((x.next g).get ((aC p i).getD ((enabled (aC p i) x.aD).getD v.toNat 0).toNat ⟨0, 0, 0⟩).ch).1 g ∧ (aj ((x.next g).get ((aC p i).getD ((enabled (aC p i) x.aD).getD v.toNat 0).toNat ⟨0, 0, 0⟩).ch).1 g).fs.length = (aj x g).fs.length := by
   revert hk
   cases hh : enabled (aC p i) x.aD with
   | nil => exact absurd hh hcan
   | cons a l => exact fun hk => hk
  clear hk hcan hd
  generalize hcane : enabled (aC p i) x.aD = can at h k hk2 ZI ⊢
  obtain ⟨v0, v1, q0, q1, S2, Wi⟩ := hk2
  refine cE ⟨v0, v1, ?_⟩
  obtain ⟨ab, rfl⟩ := h.bF (A := A2) ZI (by decide)
  refine bp ?_
  obtain ⟨q, hq⟩ := aP (l := can) (i := v.toNat) (by omega)
  have hqe : can.getD v.toNat 0 = q := by simp [hq]
  rw [hqe] at k q0 q1 S2 Wi
  refine aZ (Src.at (h.src (A := some ⟨ab, 0, none⟩)) h (i := v.toNat) (j := 0) hq rfl (by simp [bB])) ?_
  unfold Wd.qh at k
  dsimp only at k
  obtain ⟨cc, Xh⟩ := aP (l := aC p i) (i := q.toNat) (by omega)
  have hce : (aC p i).getD q.toNat ⟨0, 0, 0⟩ = cc := by simp [Xh]
  rw [hce] at k S2 Wi
  refine HB (b := b) h hg eF rfl ?_
  rw [jk Ro (by omega)]
  refine HA (b := b) h hg eF rfl rfl ?_
  clear h; intro M h
  have KS := tG hg
  have JP := Dp hg
  have vA : (x.next g).Sm := Rl hs
  generalize Dq : x.next g = x1 at h k Wi KS JP vA
  refine ⟨q0, q1, ?_⟩
  obtain ⟨cb, co, rfl⟩ := hA.some (by omega) (by decide)
  refine bp ?_
  refine aZ (Src.at (hA.src (L := _)) h (i := q.toNat) (j := 0) Xh rfl (by simp [hH])) ?_
  refine aZ (Src.at (hA.src (L := _)) h (i := q.toNat) (j := 1) Xh rfl (by show _ = co + (_ * 3 + 1); omega)) ?_
  refine aZ (Src.at (hA.src (L := _)) h (i := q.toNat) (j := 2) Xh rfl (by show _ = co + (_ * 3 + 2); omega)) ?_
  refine aq h ?_
  clear h; intro kc M h
  refine au h ?_
  clear h; intro M h
  refine au h ?_
  clear h; intro M h
  refine au h ?_
  clear h; intro M h
  refine aH h ?_
  refine aR.2 ⟨fun e1 => ?_, fun e1 => ?_⟩
  ·rw [if_pos e1] at k Wi
   obtain ⟨hput, hy⟩ := Wi
   refine aH h (aH h ⟨S2.1, S2.2, ?_⟩)
   refine E2 (b := b) h KS eF S2 (by rw [JP]) ?_
   refine B8 (b := b) h hp.cases hput vA ?_ ?_
   ·clear h
    intro y ok M e h
    rw [e] at k hy
    dsimp only at k hy
    refine ot ?_
    refine aH h ⟨Rn.1, Rn.2, ?_⟩
    refine lP (b := b) h hy.1 eF Rn (by rw [hy.2]) ?_
    clear h; intro M h
    exact k _ _ (h.sub bD)
   ·clear h
    intro y n M e h
    rw [e] at k
    exact k _ _ (h.sub bD)
  ·rw [if_neg e1] at k Wi
   obtain ⟨V7, E3, hfl⟩ := Wi
   refine aH h (aH h ?_)
   refine B9 (b := b) h V7 vA ?_
   clear h; intro M h
   generalize x1.get cc.ch = r at h k E3 hfl
   obtain ⟨y, w, sm, ok⟩ := r
   dsimp only at h k E3 hfl ⊢
   refine ⟨_, _, _, rfl, bN h, S2.1, S2.2, ?_⟩
   refine lP (b := b) h E3 eF S2 (by rw [hfl]) ?_
   clear h; intro M h
   refine ⟨bN h, aH h ⟨Rn.1, Rn.2, ?_⟩⟩
   refine lP (b := b) h (iQ E3) eF Rn (by rw [KQ E3, hfl]) ?_
   clear h; intro M h
   exact k _ _ (h.sub bD)
end
def bz.before (a b : bz) : Bool := decide (a.t < b.t) || (a.t == b.t && decide (a.seq < b.seq))
def nW (l : List bz) (i : Nat) : bz := l.getD i ⟨0, 0, 0⟩
def eG (l : List bz) (i j : Nat) : List bz := (l.set i (nW l j)).set j (nW l i)
def KT : Nat → Nat → List bz → List bz
 | 0, _, l => l
 | f + 1, i, l => if 0 < i ∧ (nW l i).before (nW l ((i - 1) / 4)) = true then KT f ((i - 1) / 4) (eG l i ((i - 1) / 4)) else l
def gA (l : List bz) : Nat → Nat → Nat → Nat
 | 0, _, out => out
 | n + 1, k, out => if k < l.length then gA l n (k + 1) (if (nW l k).before (nW l out) then k else out) else out
def gO (l : List bz) (i : Nat) : Nat := gA l 4 (4 * i + 1) i
def oz : Nat → Nat → List bz → List bz
 | 0, _, l => l
 | f + 1, i, l => if gO l i = i then l else oz f (gO l i) (eG l i (gO l i))
def sA (l : List bz) (x : bz) : List bz := KT l.length l.length (l ++ [x])
def dX (l : List bz) (i : Nat) : List bz :=
 if i < l.length - 1 then KT i i (oz l.length i ((eG l i (l.length - 1)).take (l.length - 1))) else (eG l i (l.length - 1)).take (l.length - 1)
def dM : Nat → List bz → Int → List bz × List bz
 | 0, l, _ => (l, [])
 | f + 1, l, now => if 0 < l.length ∧ (nW l 0).t ≤ now then ((dM f (dX l 0) now).1, nW l 0 :: (dM f (dX l 0) now).2) else (l, [])
theorem Fg {f i : Nat} {l : List bz} : KT (f + 1) i l = if 0 < i ∧ (nW l i).before (nW l ((i - 1) / 4)) = true then KT f ((i - 1) / 4) (eG l i ((i - 1) / 4)) else l := rfl
theorem xL {l : List bz} {n k out : Nat} : gA l (n + 1) k out = if k < l.length then gA l n (k + 1) (if (nW l k).before (nW l out) then k else out) else out := rfl
theorem HC {f i : Nat} {l : List bz} : oz (f + 1) i l = if gO l i = i then l else oz f (gO l i) (eG l i (gO l i)) := rfl
theorem zF {f : Nat} {l : List bz} {now : Int} : dM (f + 1) l now = if 0 < l.length ∧ (nW l 0).t ≤ now then ((dM f (dX l 0) now).1, nW l 0 :: (dM f (dX l 0) now).2) else (l, []) := rfl
theorem fu {l : List bz} {i j : Nat} : (eG l i j).length = l.length := by simp [eG]
theorem Dr : ∀ {f i : Nat} {l : List bz}, (KT f i l).length = l.length
 | 0, _, _ => rfl
 | f + 1, i, l => by unfold KT; split; rw [Dr, fu]; rfl
theorem jl : ∀ {f i : Nat} {l : List bz}, (oz f i l).length = l.length
 | 0, _, _ => rfl
 | f + 1, i, l => by unfold oz; split; rfl; rw [jl, fu]
theorem Fh {l : List bz} {i : Nat} : (dX l i).length = l.length - 1 := by
 unfold dX; split
 ·rw [Dr, jl, List.length_take, fu]; omega
 ·rw [List.length_take, fu]; omega
theorem KU {l : List bz} {x : bz} : (sA l x).length = l.length + 1 := by unfold sA; rw [Dr]; simp
theorem mq {l : List bz} {i : Nat} (h : i < l.length) : l[i]? = some (nW l i) := by
 unfold nW; rw [List.getD_eq_getElem?_getD, List.getElem?_eq_getElem h]; rfl
theorem mw {l : List bz} : ∀ (n k out : Nat), out < l.length → out < k → gA l n k out < l.length ∧ (out ≤ gA l n k out)
 | 0, _, _, h, _ => ⟨h, Nat.le_refl _⟩
 | n + 1, k, out, h, hk => by
  unfold gA; split
  ·rename_i hl
   split
   ·have := mw n (k + 1) k hl (by omega); omega
   ·exact mw n (k + 1) out h (by omega)
  ·exact ⟨h, Nat.le_refl _⟩
theorem Cj {l : List bz} {i : Nat} (h : i < l.length) : gO l i < l.length ∧ i ≤ gO l i := mw 4 _ i h (by omega)
structure S3 (b o : Nat) (P : Option Addr → Nat → Nat → Int → HP) : Prop where
 Hq : ∀ (R : Mem) (L : List HP) (M : Mem) (A : Option Addr) (n c : Nat) (s : Int), Hp R (P A n c s :: L) M → M.ld ⟨b, o, none⟩ = some (.slice A n c)
 ldI : ∀ (R : Mem) (L : List HP) (M : Mem) (A : Option Addr) (n c : Nat) (s : Int), Hp R (P A n c s :: L) M → M.ld ⟨b, o + 1, none⟩ = some (.int .u64 s)
 ZD : ∀ (R : Mem) (L : List HP) (M : Mem) (A A' : Option Addr) (n c n' c' : Nat) (s : Int) (G : Mem → Prop), Hp R (P A n c s :: L) M → (∀ M', Hp R (P A' n' c' s :: L) M' → G M') → aK M ⟨b, o, none⟩ (.slice A' n' c') G
 stI : ∀ (R : Mem) (L : List HP) (M : Mem) (A : Option Addr) (n c : Nat) (s s' : Int) (G : Mem → Prop), Hp R (P A n c s :: L) M → (∀ M', Hp R (P A n c s' :: L) M' → G M') → aK M ⟨b, o + 1, none⟩ (.int .u64 s') G
theorem Ja : bn Tryz.prog 46 203 3 24 [.int .u64 0, .int .u64 0, .int .i64 0] := bn.mk' (zv := .agg #[.int .u64 0, .int .u64 0, .int .i64 0]) (by kernel_rfl) (by kernel_rfl) rfl (by omega)
section
variable {R : Mem} {L L' : List HP} {M : Mem} {K : Value → Mem → Prop} {Kp : List PanicEntry → Mem → Prop} {b o : Nat} {P : Option Addr → Nat → Nat → Int → HP} {A : Option Addr} {c : Nat} {s : Int} {l : List bz} {i j : Nat}
theorem lS {q o0 o1 o2 o3 : Nat} {x : bz} {G : Int → Int → Int → Prop} (h : Hp R L M) (hs : Src R L (some ⟨q, o0, none⟩) (uA.cells l)) (hi : l[i]? = some x) (e1 : o1 = o0 + i * 3) (e2 : o2 = o0 + i * 3 + 1) (e3 : o3 = o0 + i * 3 + 2) (g : G x.t x.seq x.id) :
  aJ (M.ld ⟨q, o1, none⟩) .u64 fun a => aJ (M.ld ⟨q, o2, none⟩) .u64 fun b => aJ (M.ld ⟨q, o3, none⟩) .i64 fun d => G a b d := by
 refine aZ (Src.at hs h (i := i) (j := 0) hi rfl (by rw [e1]; rfl)) ?_
 refine aZ (Src.at hs h (i := i) (j := 1) hi rfl (by rw [e2]; show _ = o0 + (i * 3 + 1); omega)) ?_
 exact aZ (Src.at hs h (i := i) (j := 2) hi rfl (by rw [e3]; show _ = o0 + (i * 3 + 2); omega)) g
theorem Jb {q o1 o2 o3 : Nat} {x y : bz} {G : Mem → Prop} (h : Hp R L M) [r : cG (some ⟨q, 0, none⟩) L bz uA 203 c l L'] (hi : l[i]? = some x) (e1 : o1 = i * 3) (e2 : o2 = i * 3 + 1) (e3 : o3 = i * 3 + 2)
  (k : ∀ M', Hp R (gp (some ⟨q, 0, none⟩) c (l.set i y) :: L') M' → G M') :
  aK M ⟨q, o1, none⟩ (.int .u64 y.t) fun M1 => aK M1 ⟨q, o2, none⟩ (.int .u64 y.seq) fun M2 => aK M2 ⟨q, o3, none⟩ (.int .i64 y.id) G := by
 have hl := (List.getElem?_eq_some_iff.1 hi).1
 refine gK (E := uA) (a := x) (a' := ⟨y.t, x.seq, x.id⟩) i 0 h hi (by decide) rfl e1 ?_
 clear h; intro M h
 refine gK (E := uA) (a := ⟨y.t, x.seq, x.id⟩) (a' := ⟨y.t, y.seq, x.id⟩) i 1 h (by simp [hl]) (by decide) rfl e2 ?_
 clear h; intro M h
 refine gK (E := uA) (a := ⟨y.t, y.seq, x.id⟩) (a' := y) i 2 h (by simp [hl]) (by decide) rfl e3 ?_
 clear h; intro M h
 rw [iO, iO] at h
 exact k _ h
theorem xe {x y : bz} (h : Hp R L M) (k : ∀ M', Hp R L M' → K (.bool (x.before y)) M') : aa Tryz.prog 187 #[.agg #[.int .u64 x.t, .int .u64 x.seq, .int .i64 x.id], .agg #[.int .u64 y.t, .int .u64 y.seq, .int .i64 y.id]] M K Kp := by
 refine y6 ?_
 repeat (first|(refine aq h ?_;clear h;intro kb M h)|(refine au h ?_;clear h;intro M h)|refine St.to h ?_|(apply Exists.intro;(repeat apply Exists.intro);refine And.intro rfl ?_)|refine av ?_|refine ae ?_|refine ai ?_)
 unfold bz.before at k
 refine aM.2 ⟨fun h1 => ?_, fun h1 => ?_⟩
 ·have := k _ h.pE
  rwa [decide_eq_true h1, Bool.true_or] at this
 ·repeat (first|(refine aq h ?_;clear h;intro kb M h)|(refine au h ?_;clear h;intro M h)|refine St.to h ?_|(apply Exists.intro;(repeat apply Exists.intro);refine And.intro rfl ?_)|refine av ?_|refine ae ?_|refine ai ?_)
  refine aR.2 ⟨fun h2 => ?_, fun h2 => ?_⟩
  ·repeat (first|(refine aq h ?_;clear h;intro kb M h)|(refine au h ?_;clear h;intro M h)|refine St.to h ?_|(apply Exists.intro;(repeat apply Exists.intro);refine And.intro rfl ?_)|refine av ?_|refine ae ?_|refine ai ?_)
   have := k _ h.pE
   rwa [decide_eq_false h1, Bool.false_or, beq_iff_eq.2 h2, Bool.true_and] at this
  ·have := k _ h.pE
   rwa [decide_eq_false h1, Bool.false_or, show (x.t == y.t) = false from by simpa using h2, Bool.false_and] at this
theorem wu (D : S3 b o P) (h : Hp R (P A l.length c s :: gp A c l :: L) M) (hi : i < l.length) (hj : j < l.length)
  (k : ∀ M', Hp R (P A l.length c s :: gp A c (eG l i j) :: L) M' → K (.tuple #[]) M') : aa Tryz.prog 154 #[.pointer (some ⟨b, o, none⟩), .int .i64 (i : Int), .int .i64 (j : Int)] M K Kp := by
 refine uD ?_
 obtain ⟨q, rfl⟩ := h.bF (A := A) (by omega) (by decide)
 have hs := h.src (A := some ⟨q, 0, none⟩)
 rw [D.Hq _ _ _ _ _ _ _ h]
 refine be (be (be ⟨by omega, by omega, bp ?_⟩))
 refine lS h hs (mq hj) (by simp) (by simp) (by simp) ?_
 refine be ⟨by omega, by omega, bp ?_⟩
 refine lS h hs (mq hi) (by simp) (by simp) (by simp) ?_
 clear hs
 refine ⟨by omega, by omega, bp ?_⟩
 refine Jb (y := nW l j) h (mq hi) (by simp) (by simp) (by simp) ?_
 clear h; intro M h
 refine ⟨by omega, by omega, bp ?_⟩
 have Gm : (l.set i (nW l j))[j]? = some (nW l j) := by
  rw [List.getElem?_set]
  split
  ·rfl
  ·exact mq hj
 refine Jb (y := nW l i) h Gm (by simp) (by simp) (by simp) ?_
 clear h; intro M h
 exact k _ (h.sub bD)
theorem zG (D : S3 b o P) (h : Hp R (P A l.length c s :: gp A c l :: L) M) (hi : i < l.length) (hl : l.length ≤ 1000000)
  (k : ∀ M', Hp R (P A l.length c s :: gp A c l :: L) M' → K (.int .i64 (gO l i : Int)) M') : aa Tryz.prog 186 #[.pointer (some ⟨b, o, none⟩), .int .i64 (i : Int)] M K Kp := by
 refine tj ?_
 have e1 : IntKind.wrap .i64 (IntKind.wrap .i64 (4 * (i : Int)) + 1) = ((4 * i + 1 : Nat) : Int) := by
  rw [cT (z := 4 * (i : Int)) (by omega) (by omega), cT (by omega) (by omega)]; omega
 have e4 : IntKind.wrap .i64 (IntKind.wrap .i64 (4 * (i : Int)) + 4) = ((4 * i + 4 : Nat) : Int) := by
  rw [cT (z := 4 * (i : Int)) (by omega) (by omega), cT (by omega) (by omega)]; omega
 rw [e1, e4]
 refine ⟨fun d vs M => ∃ kk out : Nat, vs = [.int .i64 (out : Int), .int .i64 (kk : Int)] ∧ d = 4 * i + 5 - kk ∧ kk ≤ 4 * i + 5 ∧ out < l.length ∧ out < kk ∧ gA l (4 * i + 5 - kk) kk out = gO l i ∧ Hp R (P A l.length c s :: gp A c l :: L) M,
  ⟨_, 4 * i + 1, i, rfl, rfl, by omega, hi, by omega, by rw [show 4 * i + 5 - (4 * i + 1) = 4 from by omega]; rfl, h⟩, ?_⟩
 clear h
 rintro d _ n5 n6 M ⟨kk, out, he, hd, hkk, ho, hok, hf, h⟩
 simp only [List.cons.injEq, Value.int.injEq, and_true, true_and] at he
 obtain ⟨rfl, rfl⟩ := he
 refine aM.2 ⟨fun hle => ?_, fun hgt => ?_⟩
 ·rw [D.Hq _ _ _ _ _ _ _ h]
  obtain ⟨n, hn⟩ : ∃ n, 4 * i + 5 - kk = n + 1 := ⟨4 * i + 4 - kk, by omega⟩
  rw [hn] at hf
  rw [xL] at hf
  refine be ?_
  refine aM.2 ⟨fun hlt => ?_, fun hge => ?_⟩
  ·rw [if_pos (by omega)] at hf
   obtain ⟨q, rfl⟩ := h.bF (A := A) (by omega) (by decide)
   have hs := h.src (A := some ⟨q, 0, none⟩)
   refine be ⟨by omega, by omega, bp ?_⟩
   refine lS h hs (mq (i := kk) (by omega)) (by simp) (by simp) (by simp) ?_
   refine be ⟨by omega, by omega, bp ?_⟩
   refine lS h hs (mq (i := out) (by omega)) (by simp) (by simp) (by simp) ?_
   refine xe h ?_
   clear h hs; intro M h
   refine ot ?_
   have e : IntKind.wrap .i64 ((kk : Int) + 1) = ((kk + 1 : Nat) : Int) := by rw [cT (by omega) (by omega)]; omega
   rw [e]
   cases hb : (nW l kk).before (nW l out) with
   | true =>
    rw [hb] at hf
    exact ae ⟨n, by omega, kk + 1, kk, rfl, by omega, by omega, by omega, by omega, by rw [show 4 * i + 5 - (kk + 1) = n from by omega]; exact hf, h⟩
   | false =>
    rw [hb] at hf
    exact ai ⟨n, by omega, kk + 1, out, rfl, by omega, by omega, by omega, by omega, by rw [show 4 * i + 5 - (kk + 1) = n from by omega]; exact hf, h⟩
  ·rw [if_neg (by omega)] at hf
   subst hf
   exact k _ h
 ·have : 4 * i + 5 - kk = 0 := by omega
  rw [this] at hf
  have Ed : out = gO l i := hf
  subst Ed
  exact k _ h
theorem KV (D : S3 b o P) {f : Nat} (h : Hp R (P A l.length c s :: gp A c l :: L) M) (hi : i < l.length) (hl : l.length ≤ 1000000) (hf : l.length ≤ f + i)
  (k : ∀ M', Hp R (P A l.length c s :: gp A c (oz f i l) :: L) M' → K (.tuple #[]) M') : aa Tryz.prog 155 #[.pointer (some ⟨b, o, none⟩), .int .i64 (i : Int)] M K Kp := by
 refine uE ?_
 refine zG D h hi hl ?_
 clear h; intro M h
 refine cE ?_
 refine ⟨fun d vs M => ∃ (f' i' : Nat) (l' : List bz), vs = [.int .i64 (i' : Int), .int .i64 (gO l' i' : Int)] ∧ d = l.length - i' ∧ i' < l.length ∧ l'.length = l.length ∧ l.length ≤ f' + i' ∧ oz f' i' l' = oz f i l ∧ Hp R (P A l.length c s :: gp A c l' :: L) M,
  ⟨_, f, i, l, rfl, rfl, hi, rfl, hf, rfl, h⟩, ?_⟩
 clear h
 rintro d _ n5 n6 M ⟨f', i', l', he, hd, hi', hl', F6, Ck, h⟩
 simp only [List.cons.injEq, Value.int.injEq, and_true, true_and] at he
 obtain ⟨rfl, rfl⟩ := he
 obtain ⟨g, rfl⟩ : ∃ g, f' = g + 1 := ⟨f' - 1, by omega⟩
 rw [HC] at Ck
 obtain ⟨m1, m2⟩ := Cj (l := l') (i := i') (by omega)
 rw [← hl'] at h
 refine eL.2 ⟨fun hne => ?_, fun heq => ?_⟩
 ·rw [if_neg (by intro e; apply hne; rw [e])] at Ck
  refine wu D h (i := i') (j := gO l' i') (by omega) (by omega) ?_
  clear h; intro M h
  refine ⟨rfl, ?_⟩
  have Xi : (eG l' i' (gO l' i')).length = l'.length := fu
  rw [← Xi] at h
  refine zG D h (by omega) (by omega) ?_
  clear h; intro M h
  rw [Xi] at h
  refine cE ?_
  exact ⟨l.length - gO l' i', by omega, g, gO l' i', _, rfl, rfl, by omega, by omega, by omega, Ck, by rw [← hl']; exact h⟩
 ·rw [if_pos (by omega)] at Ck
  subst Ck
  rw [hl'] at h
  exact k _ h
theorem Jc (D : S3 b o P) {f : Nat} (h : Hp R (P A l.length c s :: gp A c l :: L) M) (hi : i < l.length) (hl : l.length ≤ 1000000) (hf : i ≤ f)
  (k : ∀ M', Hp R (P A l.length c s :: gp A c (KT f i l) :: L) M' → K (.tuple #[]) M') : aa Tryz.prog 156 #[.pointer (some ⟨b, o, none⟩), .int .i64 (i : Int)] M K Kp := by
 refine xC ?_
 refine ⟨fun d vs M => ∃ (f' i' : Nat) (l' : List bz), vs = [.int .i64 (i' : Int)] ∧ d = i' ∧ i' < l.length ∧ l'.length = l.length ∧ i' ≤ f' ∧ KT f' i' l' = KT f i l ∧ Hp R (P A l.length c s :: gp A c l' :: L) M,
  ⟨_, f, i, l, rfl, rfl, hi, rfl, hf, rfl, h⟩, ?_⟩
 clear h
 rintro d _ n5 M ⟨f', i', l', he, hd, hi', hl', F6, Ck, h⟩
 simp only [List.cons.injEq, Value.int.injEq, and_true, true_and] at he
 subst he
 refine aM.2 ⟨fun hgt => ?_, fun hle => ?_⟩
 ·obtain ⟨g, rfl⟩ : ∃ g, f' = g + 1 := ⟨f' - 1, by omega⟩
  rw [Fg] at Ck
  have ep : IntKind.wrap .i64 (Int.tdiv (IntKind.wrap .i64 ((i' : Int) - 1)) 4) = (((i' - 1) / 4 : Nat) : Int) := by
   rw [cT (z := (i' : Int) - 1) (by omega) (by omega), show ((i' : Int) - 1) = ((i' - 1 : Nat) : Int) from by omega, show (4 : Int) = ((4 : Nat) : Int) from rfl, ← Int.ofNat_tdiv, cT (by omega) (by omega)]
  have hp : (i' - 1) / 4 < i' := by omega
  generalize hpe : (i' - 1) / 4 = p at ep Ck hp
  rw [ep, D.Hq _ _ _ _ _ _ _ h]
  obtain ⟨q, rfl⟩ := h.bF (A := A) (by omega) (by decide)
  have hs := h.src (A := some ⟨q, 0, none⟩)
  refine ⟨by omega, be ⟨by omega, by omega, bp ?_⟩⟩
  refine lS h hs (mq (i := i') (by omega)) (by simp) (by simp) (by simp) ?_
  refine be ⟨by omega, by omega, bp ?_⟩
  refine lS h hs (mq (i := p) (by omega)) (by simp) (by simp) (by simp) ?_
  refine xe h ?_
  clear h hs; intro M h
  refine ot ?_
  cases hb : (nW l' i').before (nW l' p) with
  | true =>
   rw [if_pos ⟨by omega, hb⟩] at Ck
   refine ae ⟨by omega, ?_⟩
   rw [← hl'] at h
   refine wu D h (i := i') (j := p) (by omega) (by omega) ?_
   clear h; intro M h
   rw [hl'] at h
   exact ⟨rfl, by omega, p, by omega, g, p, _, rfl, rfl, by omega, by rw [fu]; exact hl', by omega, Ck, h⟩
  | false =>
   rw [if_neg (by rintro ⟨_, h2⟩; rw [hb] at h2; cases h2)] at Ck
   refine ai ?_
   subst Ck
   exact k _ h
 ·have : KT f' i' l' = l' := by
   have h0 : i' = 0 := by omega
   subst h0
   cases f' with
   | zero => rfl
   | succ g => rw [Fg]; rw [if_neg (by omega)]
  rw [this] at Ck
  subst Ck
  exact k _ h
theorem KW (D : S3 b o P) {t id : Int} (h : Hp R (P A l.length c s :: gp A c l :: L) M) (hl : l.length < 1000000)
  (k : ∀ v A' c' M', Hp R (P A' (l.length + 1) c' (IntKind.wrap .u64 (s + 1)) :: gp A' c' (sA l ⟨t, s, id⟩) :: L) M' → K (.int .u64 v) M') : aa Tryz.prog 244 #[.pointer (some ⟨b, o, none⟩), .int .u64 t, .int .i64 id] M K Kp := by
 refine uF ?_
 rw [D.Hq _ _ _ _ _ _ _ h, D.ldI _ _ _ _ _ _ _ h]
 refine be (cE ?_)
 refine aq h ?_
 clear h; intro kb M h
 replace h : Hp R (P A l.length c s :: gp A c l :: pt kb [.int .u64 t, .int .u64 s, .int .i64 id] 203 :: L) M := h.sub bD
 refine h.bJ (A := A) Ja [(⟨t, s, id⟩ : bz)] rfl rfl (by simp only [List.length_singleton]; omega) ?_
 clear h; intro A' c' M h
 refine be ?_
 have hlen : (l ++ [(⟨t, s, id⟩ : bz)]).length = l.length + 1 := by simp
 refine D.ZD _ _ _ _ _ _ _ _ _ _ _ h.swap ?_
 clear h; intro M h
 rw [D.ldI _ _ _ _ _ _ _ h]
 refine cE ?_
 refine D.stI _ _ _ _ _ _ _ _ _ h ?_
 clear h; intro M h
 rw [D.Hq _ _ _ _ _ _ _ h]
 refine be ?_
 have e : IntKind.wrap .i64 (((l ++ [(⟨t, s, id⟩ : bz)]).length : Int) - 1) = ((l.length : Nat) : Int) := by
  rw [cT (by omega) (by omega)]; omega
 rw [e]
 refine Jc D (f := l.length) h (by omega) (by omega) (Nat.le_refl _) ?_
 clear h; intro M h
 refine ⟨rfl, ?_⟩
 rw [D.ldI _ _ _ _ _ _ _ h]
 refine cE ?_
 rw [hlen] at h
 exact k _ _ _ _ h
theorem Fi (D : S3 b o P) (h : Hp R (P A l.length c s :: gp A c l :: L) M) (hi : i < l.length) (hl : l.length ≤ 1000000)
  (k : ∀ M', Hp R (P A (l.length - 1) c s :: gp A c (dX l i) :: L) M' → K (.agg #[.int .u64 (nW l i).t, .int .u64 (nW l i).seq, .int .i64 (nW l i).id]) M') : aa Tryz.prog 117 #[.pointer (some ⟨b, o, none⟩), .int .i64 (i : Int)] M K Kp := by
 refine qZ ?_
 have hcap := h.jH A
 obtain ⟨q, rfl⟩ := h.bF (A := A) (by omega) (by decide)
 refine aq h ?_
 clear h; intro k1 M h
 have hs := h.src (A := some ⟨q, 0, none⟩)
 replace h : Hp R (P (some ⟨q, 0, none⟩) l.length c s :: gp (some ⟨q, 0, none⟩) c l :: pt k1 [.int .u64 0, .int .u64 0, .int .i64 0] 203 :: L) M := h.sub bD
 replace hs := h.src (A := some ⟨q, 0, none⟩)
 rw [D.Hq _ _ _ _ _ _ _ h]
 refine be ⟨by omega, by omega, bp ?_⟩
 refine lS h hs (mq hi) (by simp) (by simp) (by simp) ?_
 clear hs
 generalize hx : nW l i = x at k
 refine aq h ?_
 clear h; intro k2 M h
 refine au h ?_
 clear h; intro M h
 refine au h ?_
 clear h; intro M h
 refine au h ?_
 clear h; intro M h
 replace h : Hp R (P (some ⟨q, 0, none⟩) l.length c s :: gp (some ⟨q, 0, none⟩) c l :: pt k2 [.int .u64 x.t, .int .u64 x.seq, .int .i64 x.id] 203 :: pt k1 [.int .u64 0, .int .u64 0, .int .i64 0] 203 :: L) M := h.sub bD
 rw [D.Hq _ _ _ _ _ _ _ h]
 have e : IntKind.wrap .i64 ((l.length : Int) - 1) = ((l.length - 1 : Nat) : Int) := by
  rw [cT (by omega) (by omega)]; omega
 refine be ?_
 rw [e]
 refine wu D h hi (j := l.length - 1) (by omega) ?_
 clear h; intro M h
 refine ⟨rfl, ?_⟩
 rw [D.Hq _ _ _ _ _ _ _ h]
 refine be ⟨by omega, by omega, by omega, by omega, by omega, by omega, ?_⟩
 have e2 : lF (some ⟨q, 0, none⟩) 0 (Int.toNat (c : Int)) 3 = some ⟨q, 0, none⟩ := by
  unfold lF; rw [if_neg (by simp; omega)]; rfl
 rw [e2]
 simp only [Int.toNat_natCast, Nat.sub_zero]
 refine D.ZD _ _ _ _ _ _ _ _ _ _ _ h ?_
 clear h; intro M h
 have Xi : ((eG l i (l.length - 1)).take (l.length - 1)).length = l.length - 1 := by rw [List.length_take, fu]; omega
 have fin : ∀ (M : Mem) (Q : List HP), Hp R (P (some ⟨q, 0, none⟩) (l.length - 1) c s :: gp (some ⟨q, 0, none⟩) c (dX l i) :: pt k2 [.int .u64 x.t, .int .u64 x.seq, .int .i64 x.id] 203 :: pt k1 [.int .u64 0, .int .u64 0, .int .i64 0] 203 :: L) M →
   aJ (Mem.ld M ⟨k2, 0, none⟩) .u64 fun yb => aJ (Mem.ld M ⟨k2, (0 + 1), none⟩) .u64 fun GM => aJ (Mem.ld M ⟨k2, (0 + 2), none⟩) .i64 fun sk =>
   aK M ⟨k1, 0, none⟩ (.int .u64 yb) fun so => aK so ⟨k1, (0 + 1), none⟩ (.int .u64 GM) fun Ay => aK Ay ⟨k1, (0 + 2), none⟩ (.int .i64 sk) fun sr =>
   aJ (Mem.ld sr ⟨k1, 0, none⟩) .u64 fun LD => aJ (Mem.ld sr ⟨k1, (0 + 1), none⟩) .u64 fun yZ => aJ (Mem.ld sr ⟨k1, (0 + 2), none⟩) .i64 fun MQ =>
   K (.agg #[(.int .u64 LD), (.int .u64 yZ), (.int .i64 MQ)]) sr := by
  intro M _ h
  refine aH h (aH h (aH h ?_))
  refine au h ?_
  clear h; intro M h
  refine au h ?_
  clear h; intro M h
  refine au h ?_
  clear h; intro M h
  refine aH h (aH h (aH h ?_))
  exact k _ (h.sub bD)
 replace h : Hp R (P (some ⟨q, 0, none⟩) (l.length - 1) c s :: gp (some ⟨q, 0, none⟩) c ((eG l i (l.length - 1)).take (l.length - 1)) :: pt k2 [.int .u64 x.t, .int .u64 x.seq, .int .i64 x.id] 203 :: pt k1 [.int .u64 0, .int .u64 0, .int .i64 0] 203 :: L) M := (h.swap.MC (l.length - 1)).swap
 unfold dX at fin
 refine aM.2 ⟨fun hlt => ?_, fun hge => ?_⟩
 ·rw [if_pos (by omega)] at fin
  have h' : Hp R (P (some ⟨q, 0, none⟩) ((eG l i (l.length - 1)).take (l.length - 1)).length c s :: gp (some ⟨q, 0, none⟩) c ((eG l i (l.length - 1)).take (l.length - 1)) :: pt k2 [.int .u64 x.t, .int .u64 x.seq, .int .i64 x.id] 203 :: pt k1 [.int .u64 0, .int .u64 0, .int .i64 0] 203 :: L) M := by rw [Xi]; exact h
  clear h
  have h := h'
  clear h'
  refine KV D (f := l.length) h (by omega) (by omega) (by omega) ?_
  clear h; intro M h
  refine ⟨rfl, ?_⟩
  rw [show ((eG l i (l.length - 1)).take (l.length - 1)).length = (oz l.length i ((eG l i (l.length - 1)).take (l.length - 1))).length from jl.symm] at h
  refine Jc D (f := i) h (by rw [jl]; omega) (by rw [jl]; omega) (Nat.le_refl _) ?_
  clear h; intro M h
  refine ⟨rfl, ?_⟩
  rw [jl, Xi] at h
  exact fin M [] h
 ·rw [if_neg (by omega)] at fin
  exact fin M [] h
theorem KX (D : S3 b o P) {now : Int} (h : Hp R (P A l.length c s :: gp A c l :: L) M) (hl : l.length ≤ 1000000)
  (k : ∀ A' c' M', Hp R (P A (dM l.length l now).1.length c s :: gp A c (dM l.length l now).1 :: gp A' c' (dM l.length l now).2 :: L) M' → K (.slice A' (dM l.length l now).2.length c') M') :
  aa Tryz.prog 157 #[.pointer (some ⟨b, o, none⟩), .int .u64 now] M K Kp := by
 refine uB ?_
 have h0 := h.cz uA 203
 refine ⟨fun d vs M => ∃ (A' : Option Addr) (c' : Nat) (out l' : List bz), vs = [.slice A' out.length c'] ∧ d = l'.length ∧ l'.length + out.length = l.length ∧ (dM l'.length l' now).1 = (dM l.length l now).1 ∧ out ++ (dM l'.length l' now).2 = (dM l.length l now).2 ∧
   Hp R (P A l'.length c s :: gp A c l' :: gp A' c' out :: L) M, ⟨_, none, 0, [], l, rfl, rfl, rfl, rfl, rfl, h0.sub bD⟩, ?_⟩
 clear h h0
 rintro d _ A' n' c' M ⟨A2, c2, out, l', he, hd, Xi, e1, e2, h⟩
 simp only [List.cons.injEq, Value.slice.injEq, and_true, true_and] at he
 obtain ⟨rfl, rfl, rfl⟩ := he
 rw [D.Hq _ _ _ _ _ _ _ h]
 have stop : ¬ (0 < l'.length ∧ (nW l' 0).t ≤ now) → K (.slice A' out.length c') M := by
  intro hn
  have e : dM l'.length l' now = (l', []) := by
   cases hl' : l'.length with
   | zero => rfl
   | succ m => rw [zF]; rw [if_neg hn]
  rw [e] at e1 e2
  dsimp only at e1 e2
  rw [List.append_nil] at e2
  subst e1; subst e2
  exact k _ _ _ h
 refine be ?_
 refine aM.2 ⟨fun hgt => ?_, fun hle => stop (by omega)⟩
 have hcap := h.jH A
 obtain ⟨q, rfl⟩ := h.bF (A := A) (by omega) (by decide)
 have hs := h.src (A := some ⟨q, 0, none⟩)
 refine be ⟨by omega, by omega, bp ?_⟩
 refine aZ (Src.at hs h (i := 0) (j := 0) (mq (by omega)) rfl rfl) ?_
 clear hs
 refine aM.2 ⟨fun hle => ?_, fun hgt2 => stop (fun hn => hgt2 hn.2)⟩
 refine Fi D h (i := 0) (by omega) (by omega) ?_
 clear h stop; intro M h
 refine ⟨_, _, _, rfl, ?_⟩
 refine aq h ?_
 clear h; intro kb M h
 refine h.bJ (A := A') Ja [nW l' 0] rfl rfl (by simp only [List.length_singleton]; omega) ?_
 clear h; intro A3 c3 M h
 refine be ?_
 have jT : (dX l' 0).length = l'.length - 1 := Fh
 have hw : dM l'.length l' now = ((dM (dX l' 0).length (dX l' 0) now).1, nW l' 0 :: (dM (dX l' 0).length (dX l' 0) now).2) := by
  obtain ⟨m, hm⟩ : ∃ m, l'.length = m + 1 := ⟨l'.length - 1, by omega⟩
  rw [jT, hm]
  show dM (m + 1) l' now = _
  rw [zF]
  rw [if_pos ⟨by omega, hle⟩]; rfl
 rw [hw] at e1 e2
 rw [← jT] at h
 exact ⟨_, by omega, A3, c3, out ++ [nW l' 0], dX l' 0, rfl, rfl, by simp; omega, e1, by rw [List.append_assoc]; exact e2, h.sub bD⟩
end
def oR (x : Wd) (k : Int) : Lk := x.aL.getD k.toNat ⟨-1, []⟩
def Wd.gB (x : Wd) (k : Int) (c : Lk) : Wd := { x with aL := x.aL.set k.toNat c }
def Wd.lock (x : Wd) (g : Int) (i : cH) : Wd := if ((oR x i.a).take g).2 then x.gB i.a ((oR x i.a).take g).1 else (x.gB i.a ((oR x i.a).take g).1).block g i
def Wd.unlock (x : Wd) (g : Int) (i : cH) : Out Wd :=
 if ((oR x i.a).r8 g).2.2 ≠ 0 then .eD (-3) (x.gB i.a ((oR x i.a).r8 g).1)
 else if ((oR x i.a).r8 g).2.1 ≠ -1 then .on ((x.gB i.a ((oR x i.a).r8 g).1).eZ ((oR x i.a).r8 g).2.1) else .on (x.gB i.a ((oR x i.a).r8 g).1)
def Ds (x : Wd) (k : Int) : Prop := 0 ≤ k ∧ k < x.aL.length
instance (x : Wd) (k : Int) : Decidable (Ds x k) := by unfold Ds; infer_instance
def ng (x : Wd) (g : Int) (i : cH) : Prop := Ds x i.a ∧ (((oR x i.a).r8 g).2.1 ≠ -1 → 0 ≤ ((oR x i.a).r8 g).2.1 ∧ ((oR x i.a).r8 g).2.1 < x.gs.length)
instance (x : Wd) (g : Int) (i : cH) : Decidable (ng x g i) := by unfold ng; infer_instance
def Wd.rand (x : Wd) (g : Int) (i : cH) : jW → Out Wd
 | .num d => .on ((x.next g).bq g i.a d)
 | .cV l => .cV l x
def qi (x : Wd) (g : Int) (i : cH) : Int := if 1048576 < bt x g i.a then 1048576 else bt x g i.a
def Wd.sleep (x : Wd) (g : Int) (i : cH) : Wd :=
 if 0 < qi x g i then { x.bu g { aj x g with st := 3 } with hl := sA x.hl ⟨IntKind.wrap .u64 (x.clock + IntKind.wrap .u64 (qi x g i)), x.mO, g⟩, mO := IntKind.wrap .u64 (x.mO + 1) } else x
def Wd.tick (x : Wd) : Wd := if x.end_ ≠ 0 then { x with ready := [] } else
 let r := dM x.hl.length x.hl (IntKind.wrap .u64 (x.clock + 1))
 (r.2.map (·.id)).foldl Wd.eZ { x with clock := IntKind.wrap .u64 (x.clock + 1), hl := r.1, ready := [] }
section
variable {R : Mem} {L L' L2 : List HP} {M : Mem} {K : Value → Mem → Prop} {Kp : List PanicEntry → Mem → Prop} {pa : PA} {p : b6} {gg : List GA} {dr : Value} {b : Nat} {x : Wd} {g : Int} {i : cH}
theorem Rp (hg : bk x g) (hb : aU i.b) : gd R pa p dr 211 x g i (x.call g i) L L := by
 intro gg b bs c M K Kp Q h eF k
 refine rh ?_
 have AE := hg
 obtain ⟨h0, h1, h2, h3⟩ := AE
 unfold Wd.call at k
 refine aq h ?_
 clear h
 intro kb M h
 have hC := h
 have h' := gJ h (b := b) h0 h1 eF
 clear h
 obtain ⟨a, gb, hl, fQ, h⟩ := h'
 have hl' := hl
 obtain ⟨l1, l2, l3, l4⟩ := hl'
 repeat (first|(refine aq h ?_;clear h;intro kb M h)|(refine au h ?_;clear h;intro M h)|refine St.to h ?_|(apply Exists.intro;(repeat apply Exists.intro);refine And.intro rfl ?_)|refine av ?_|refine ae ?_|refine ai ?_)
 refine vq h fQ fun q hq => ?_
 repeat (first|(refine aq h ?_;clear h;intro kb M h)|(refine au h ?_;clear h;intro M h)|refine St.to h ?_|(apply Exists.intro;(repeat apply Exists.intro);refine And.intro rfl ?_)|refine av ?_|refine ae ?_|refine ai ?_)
 refine ⟨hb.1, hb.2, uR h (dW h2) hb rfl ?_⟩
 repeat (first|(refine aq h ?_;clear h;intro kb M h)|(refine au h ?_;clear h;intro M h)|refine St.to h ?_|(apply Exists.intro;(repeat apply Exists.intro);refine And.intro rfl ?_)|refine av ?_|refine ae ?_|refine ai ?_)
 refine G7 h h2 ?_ ?_
 ·intro uS
  rw [if_pos (by omega)] at k
  refine ⟨_, _, _, _, rfl, ae ?_⟩
  exact k _ _ (hC.sub bD)
 ·intro hlt b' c' M' h'
  clear h hC
  have h := h'
  clear h'
  rw [if_neg (by omega)] at k
  refine ⟨_, _, _, _, rfl, ai ?_⟩
  repeat (first|(refine aq h ?_;clear h;intro kb M h)|(refine au h ?_;clear h;intro M h)|refine St.to h ?_|(apply Exists.intro;(repeat apply Exists.intro);refine And.intro rfl ?_)|refine av ?_|refine ae ?_|refine ai ?_)
  refine vq h fQ fun q2 lO => ?_
  repeat (first|(refine aq h ?_;clear h;intro kb M h)|(refine au h ?_;clear h;intro M h)|refine St.to h ?_|(apply Exists.intro;(repeat apply Exists.intro);refine And.intro rfl ?_)|refine av ?_|refine ae ?_|refine ai ?_)
  have hlen : (aj x g).fs.length + 1 = ((aj x g).fs ++ [(⟨i.a, 0, [bt x g i.b, 0, 0, 0, 0, 0, 0, 0], i.c⟩ : gQ)]).length := by simp
  have h5 := m8 (A := some ⟨b', 0, none⟩) (fs := (aj x g).fs ++ [⟨i.a, 0, [bt x g i.b, 0, 0, 0, 0, 0, 0, 0], i.c⟩]) h gb hlen
  have hi := (List.getElem?_eq_some_iff.1 fQ).1
  have h6 := h5.dN fX gb fQ (by rw [List.length_zip]; omega)
  rw [zD] at h6
  have kW : eT (gg.set g.toNat (some ⟨b', 0, none⟩, c')) a (x.bu g ⟨(aj x g).st, (aj x g).fs ++ [⟨i.a, 0, [bt x g i.b, 0, 0, 0, 0, 0, 0, 0], i.c⟩], (aj x g).wt⟩) := ⟨by simpa [Wd.bu] using l1, by simpa [Wd.bu] using l2, l3, l4⟩
  have h7 := aW (a := a) (p := p) (pa := pa) (dr := dr) (gg := gg.set g.toNat (some ⟨b', 0, none⟩, c')) (x := x.bu g ⟨(aj x g).st, (aj x g).fs ++ [⟨i.a, 0, [bt x g i.b, 0, 0, 0, 0, 0, 0, 0], i.c⟩], (aj x g).wt⟩) kW h6 b
  exact k _ _ (h7.sub bD)
theorem Jd {a : WA} {k : Int} {c : Lk} (hl : eT gg a x) : eT gg a (x.gB k c) := by
 obtain ⟨l1, l2, l3, l4⟩ := hl
 exact ⟨l1, l2, l3, by simpa [Wd.gB] using l4⟩
theorem Rq (hg : bk x g) (hk : Ds x i.a) (hs : x.Sm) : gd R pa p dr 219 x g i (.on (x.lock g i)) L L := by
 intro gg b bs c M K Kp Q h eF k
 refine ru ?_
 replace k : ∀ lQ M', Hp R (az (br pa p lQ dr) b (x.lock g i) :: Q :: L) M' → K (.tuple #[]) M' := k
 unfold Wd.lock at k
 obtain ⟨s1, s2, s3, s4, s5, s6, s7, s8⟩ := hs
 obtain ⟨k0, k1⟩ := hk
 refine aq h ?_
 clear h
 intro kb M h
 have h' := cj h (b := b)
 clear h
 obtain ⟨a, hl, h⟩ := h'
 have hl' := hl
 obtain ⟨l1, l2, l3, l4⟩ := hl'
 refine aS h (aH h ⟨k0, by omega, ?_⟩)
 obtain ⟨lb, hlb⟩ := aP (l := a.lb) (i := i.a.toNat) (by omega)
 refine vq h hlb fun q hq => ?_
 obtain ⟨y, hy⟩ := aP (l := x.aL) (i := i.a.toNat) (by omega)
 have e : oR x i.a = y := by simp [oR, hy]
 rw [e] at k
 replace h := h.c6 fP hlb hy
 refine G8 h (Nat.le_trans (s6 y (List.mem_of_getElem? hy)) (by decide)) ?_
 clear h; intro M h
 replace h := h.dN fP lb hlb (by omega)
 replace h := aW (a := a) (p := p) (pa := pa) (dr := dr) (gg := gg) (x := x.gB i.a (y.take g).1) (Jd hl) h b
 refine ot ?_
 cases ht : (y.take g).2 with
 | true =>
  rw [ht] at k
  simp only [if_true] at k
  refine ai ?_
  exact k _ _ (h.sub bD)
 | false =>
  rw [ht] at k
  simp only [Bool.false_eq_true, if_false] at k
  refine ae ?_
  refine aH h (aH h (aH h (aH h ?_)))
  refine lN (b := b) (i := i) h hg.1 (show g < (x.gB i.a (y.take g).1).gs.length from hg.2.1) ?_
  clear h; intro M h
  exact ⟨rfl, k _ _ (h.sub bD)⟩
theorem KY (hk : ng x g i) (hs : x.Sm) : gd R pa p dr 220 x g i (x.unlock g i) L L := by
 intro gg b bs c M K Kp Q h eF k
 refine oI ?_
 unfold Wd.unlock at k
 obtain ⟨s1, s2, s3, s4, s5, s6, s7, s8⟩ := hs
 obtain ⟨⟨k0, k1⟩, hw⟩ := hk
 refine aq h ?_
 clear h
 intro kb M h
 have h' := cj h (b := b)
 clear h
 obtain ⟨a, hl, h⟩ := h'
 have hl' := hl
 obtain ⟨l1, l2, l3, l4⟩ := hl'
 refine aS h (aH h ⟨k0, by omega, ?_⟩)
 obtain ⟨lb, hlb⟩ := aP (l := a.lb) (i := i.a.toNat) (by omega)
 refine vq h hlb fun q hq => ?_
 obtain ⟨y, hy⟩ := aP (l := x.aL) (i := i.a.toNat) (by omega)
 have e : oR x i.a = y := by simp [oR, hy]
 rw [e] at k hw
 replace h := h.c6 fP hlb hy
 refine G9 h (Nat.le_trans (s6 y (List.mem_of_getElem? hy)) (by decide)) ?_
 clear h; intro M h
 replace h := h.dN fP lb hlb (by omega)
 replace h := aW (a := a) (p := p) (pa := pa) (dr := dr) (gg := gg) (x := x.gB i.a (y.r8 g).1) (Jd hl) h b
 refine ⟨_, _, rfl, ?_⟩
 refine eL.2 ⟨fun hn => ?_, fun hn => ?_⟩
 ·rw [if_pos hn] at k
  exact k _ _ (h.sub bD)
 rw [if_neg (by simpa using hn)] at k
 refine eL.2 ⟨fun xu => ?_, fun xu => ?_⟩
 ·rw [if_pos xu] at k
  obtain ⟨w0, w1⟩ := hw xu
  refine hO (b := b) h w0 (show _ < ((x.gB i.a (y.r8 g).1).gs.length : Int) from w1) (by show x.ready.length ≤ _; omega) ?_
  clear h; intro M h
  exact ⟨rfl, k _ _ (h.sub bD)⟩
 ·rw [if_neg (by simpa using xu)] at k
  exact k _ _ (h.sub bD)
theorem Rr : gd R pa p dr 222 x g i (.eD i.a x) L L := by
 intro gg b bs c M K Kp Q h eF k
 refine rz ?_
 refine aq h ?_
 clear h
 intro kb M h
 refine aH h ?_
 exact k _ _ (h.sub bD)
theorem OC : gd R pa p dr 214 x g i (.on x) L L := by
 intro gg b bs c M K Kp Q h eF k
 refine pS ?_
 refine aq h ?_
 clear h
 intro kb M h
 exact k _ _ (h.sub bD)
theorem Rs {d : jW} (hg : bk x g) (ha : aU i.a) (Bl : 0 ≤ (aj x g).top.pc ∧ (aj x g).top.pc < 1000000000) (hd : iT R dr 4 i.b d L L2) : gd R pa p dr 192 x g i (x.rand g i d) L L2 := by
 intro gg b bs c M K Kp Q h eF k
 refine qY ?_
 refine aq h ?_
 clear h
 intro kb M h
 have Bm : M.ld ⟨b, 0 + 14, none⟩ = some dr := by
  obtain ⟨a, hl, h9⟩ := cj h (b := b)
  exact bN h9
 rw [Bm]
 refine MA (aH h ?_)
 have h5 : Hp R (sep [az (br pa p gg dr) b x, pt kb [.int .i64 i.op, .int .i64 i.a, .int .i64 i.b, .int .i64 i.c] 27, Q] :: L) M := Hp.aX.2 (h.sub bD)
 refine hd _ _ _ _ h5 ?_
 clear h h5 Bm
 cases d with
 | cV l =>
  dsimp only at k ⊢
  intro M h5
  have h : Hp R (az (br pa p gg dr) b x :: pt kb [.int .i64 i.op, .int .i64 i.a, .int .i64 i.b, .int .i64 i.c] 27 :: Q :: L2) M := Hp.aX.1 h5
  exact k _ _ (h.sub bD)
 | num v =>
  dsimp only at k ⊢
  intro M h5
  have h : Hp R (az (br pa p gg dr) b x :: pt kb [.int .i64 i.op, .int .i64 i.a, .int .i64 i.b, .int .i64 i.c] 27 :: Q :: L2) M := Hp.aX.1 h5
  clear h5
  refine cE ?_
  refine HB (b := b) h hg eF rfl ?_
  rw [jk Bl.1 (by omega)]
  refine HA (b := b) h hg eF rfl rfl ?_
  clear h; intro M h
  refine aH h ⟨ha.1, ha.2, ?_⟩
  refine lP (b := b) h (tG hg) eF ha (by rw [Dp hg]) ?_
  clear h; intro M h
  exact k _ _ (h.sub bD)
abbrev Dt (pa : PA) (p : b6) (dr : Value) (a : WA) (x : Wd) (nr : Nat) (A : Option Addr) (n c : Nat) (s : Int) : List Value :=
 [.slice pa.f p.funcs.length pa.fc, .slice pa.c p.eJ.length pa.cc, .int .i64 p.aL, .slice pa.k p.cases.length pa.kc, .slice a.ag a.gb.length a.cg, .int .u64 x.clock,
  .slice a.ac a.cb.length a.cc, .slice a.al a.lb.length a.cl, .slice A n c, .int .u64 s, .slice a.ao x.out.length a.co, .int .i64 x.end_, .int .i64 x.code, .slice a.ar nr a.cr, dr]
theorem S4 {a : WA} {nr T : Nat} : S3 b (0 + 8) (fun A n c s => pt b (Dt pa p dr a x nr A n c s) T) :=
 ⟨fun R L M A n c s h => bN h, fun R L M A n c s h => bN h, fun R L M A A' n c n' c' s G h k => au h k, fun R L M A n c s s' G h k => au h k⟩
theorem OD (hg : bk x g) (ha : aU i.a) (hs : x.hl.length < 1000000) : gd R pa p dr 218 x g i (.on (x.sleep g i)) L L := by
 intro gg b bs c M K Kp Q h eF k
 refine pT ?_
 replace k : ∀ lQ M', Hp R (az (br pa p lQ dr) b (x.sleep g i) :: Q :: L) M' → K (.tuple #[]) M' := k
 have AE := hg
 obtain ⟨h0, h1, h2, h3⟩ := AE
 unfold Wd.sleep at k
 refine aq h ?_
 clear h
 intro kb M h
 refine aH h ⟨ha.1, ha.2, ?_⟩
 refine E2 (b := b) h hg eF ha rfl ?_
 have hC := h
 have h' := cj h (b := b)
 clear h
 obtain ⟨a, hl, h⟩ := h'
 have hl' := hl
 obtain ⟨l1, l2, l3, l4⟩ := hl'
 have e : (if (1048576 : Int) < bt x g i.a then 1048576 else bt x g i.a) = qi x g i := rfl
 rw [e]
 refine aM.2 ⟨fun hn => ?_, fun hn => ?_⟩
 ·rw [if_pos (by omega)] at k
  refine aH h ?_
  clear hC
  replace h : Hp R (pt b (Dt pa p dr a x x.ready.length a.ah x.hl.length a.ch x.mO) 161 :: gp a.ah a.ch x.hl :: bj fX a.gb (x.gs.zip gg) :: zo a.ag a.cg a.gb :: zp a.ac a.cc a.cb :: bj bE a.cb x.aD :: zq a.al a.cl a.lb :: bj fP a.lb x.aL :: yU a.ao a.co x.out :: lD a.ar a.cr x.ready :: Q :: L) M := h.sub bD
  refine KW (S4 (a := a) (x := x)) h hs ?_
  clear h; intro v A' c' M h
  refine cE ?_
  have h9 : Hp R (az (br pa p gg dr) b { x with hl := sA x.hl ⟨IntKind.wrap .u64 (x.clock + IntKind.wrap .u64 (qi x g i)), x.mO, g⟩, mO := IntKind.wrap .u64 (x.mO + 1) } :: Q :: L) M := by
   have := KU (l := x.hl) (x := ⟨IntKind.wrap .u64 (x.clock + IntKind.wrap .u64 (qi x g i)), x.mO, g⟩)
   rw [← this] at h
   exact jy (a := { a with ah := A', ch := c' }) (x := { x with hl := sA x.hl ⟨IntKind.wrap .u64 (x.clock + IntKind.wrap .u64 (qi x g i)), x.mO, g⟩, mO := IntKind.wrap .u64 (x.mO + 1) }) ⟨l1, l2, l3, l4⟩ (h.sub bD)
  clear h hl l1 l2 l3 l4
  have h := h9
  clear h9
  have h' := gJ (x := { x with hl := sA x.hl ⟨IntKind.wrap .u64 (x.clock + IntKind.wrap .u64 (qi x g i)), x.mO, g⟩, mO := IntKind.wrap .u64 (x.mO + 1) }) h (b := b) h0 h1 eF
  clear h
  obtain ⟨a2, gb, hl, fQ, h⟩ := h'
  have hl' := hl
  obtain ⟨l1, l2, l3, l4⟩ := hl'
  refine aS h ⟨h0, by dsimp only at l1; omega, ?_⟩
  refine vq h fQ fun q hq => ?_
  refine bp ?_
  refine au h ?_
  clear h; intro M h
  replace h := cO h gb hl fQ eF
  have kW := c7 (y := { aj x g with st := 3 }) (g := g) hl
  replace h := aW (a := a2) (p := p) (pa := pa) (dr := dr) (gg := gg) (x := { x.bu g { aj x g with st := 3 } with hl := sA x.hl ⟨IntKind.wrap .u64 (x.clock + IntKind.wrap .u64 (qi x g i)), x.mO, g⟩, mO := IntKind.wrap .u64 (x.mO + 1) }) kW h b
  exact k _ _ (h.sub bD)
 ·rw [if_neg (by omega)] at k
  exact k _ _ (hC.sub bD)
theorem Rt {l : List Int} : ∀ {x : Wd}, (l.foldl Wd.eZ x).gs.length = x.gs.length := by
 induction l with
 | nil => intro x; rfl
 | cons a l ih => intro x; rw [List.foldl_cons, ih]; simp [Wd.eZ, Wd.bu]
theorem HD {l : List Int} : ∀ {x : Wd}, (l.foldl Wd.eZ x).ready = x.ready ++ l := by
 induction l with
 | nil => intro x; simp
 | cons a l ih => intro x; rw [List.foldl_cons, ih]; simp [Wd.eZ]
theorem HE (h : Hp R L M) [o : I9 b L pa p x L'] (hs : x.hl.length ≤ 1000000) (hw : ∀ y ∈ (dM x.hl.length x.hl (IntKind.wrap .u64 (x.clock + 1))).2, 0 ≤ y.id ∧ y.id < x.gs.length)
  (k : ∀ R' A c M', R.le R' → RS bB R' A c x.tick.ready → Hp R' (az (bI pa p) b x.tick :: L') M' → K (.slice A x.tick.ready.length c) M') :
  aa Tryz.prog 120 #[.pointer (some ⟨b, 0, none⟩)] M K Kp := by
 refine qV ?_
 have h' := eo h (b := b)
 clear h
 obtain ⟨a, gg, dr, n, hl, h⟩ := h'
 have hl' := hl
 obtain ⟨l1, l2, l3, l4⟩ := hl'
 unfold Wd.tick at k
 dsimp only at k
 refine aH h ?_
 refine eL.2 ⟨fun he => ?_, fun he => ?_⟩
 ·rw [if_pos he] at k
  exact k R none 0 M (Mem.le_refl _) (RS.nil _ _) (lR (a := a) (gg := gg) (dr := dr) (n := n) (x := { x with ready := [] }) hl h)
 rw [if_neg (by simpa using he)] at k
 refine aH h ?_
 refine au h ?_
 clear h; intro M h
 refine au h ?_
 clear h; intro M h
 refine aH h ?_
 replace h : Hp R (pt b (Dt pa p dr { a with ar := none, cr := 0 } { x with clock := IntKind.wrap .u64 (x.clock + 1) } 0 a.ah x.hl.length a.ch x.mO) 161 :: gp a.ah a.ch x.hl :: bj fX a.gb (x.gs.zip gg) :: zo a.ag a.cg a.gb :: zp a.ac a.cc a.cb :: bj bE a.cb x.aD :: zq a.al a.cl a.lb :: bj fP a.lb x.aL :: yU a.ao a.co x.out :: L') M := h.sub (by repeat (first | exact .refl | refine .cons (by repeat (first | exact .here | apply cY.there)) ?_ | apply Sub.drop))
 refine KX (S4 (a := { a with ar := none, cr := 0 }) (x := { x with clock := IntKind.wrap .u64 (x.clock + 1) })) h hs ?_
 clear h; intro A' c' M h
 have hlen : (dM x.hl.length x.hl (IntKind.wrap .u64 (x.clock + 1))).2.length ≤ x.hl.length := by
  have : ∀ (f : Nat) (l : List bz) (now : Int), (dM f l now).2.length ≤ f := by
   intro f
   induction f with
   | zero => intro l now; exact Nat.le_refl _
   | succ f ih =>
    intro l now; unfold dM; split
    ·have := ih (dX l 0) now; simp; exact this
    ·exact Nat.zero_le _
  exact this _ _ _
 generalize dM x.hl.length x.hl (IntKind.wrap .u64 (x.clock + 1)) = r at h k hw hlen
 refine be ?_
 have h0 := h.cz bB 3
 have hW : Hp R (az (br pa p gg dr) b { x with clock := IntKind.wrap .u64 (x.clock + 1), hl := r.1, ready := [] } :: gp A' c' r.2 :: L') M :=
  jy (a := { a with ar := none, cr := 0 }) (x := { x with clock := IntKind.wrap .u64 (x.clock + 1), hl := r.1, ready := [] }) ⟨l1, l2, l3, l4⟩ (h0.sub (by repeat (first | exact .refl | refine .cons (by repeat (first | exact .here | apply cY.there)) ?_ | apply Sub.drop)))
 clear h h0
 generalize Dq : ({ x with clock := IntKind.wrap .u64 (x.clock + 1), hl := r.1, ready := [] } : Wd) = x1 at hW k
 have Wj : x1.gs.length = x.gs.length := by rw [← Dq]
 have hrd : x1.ready = [] := by rw [← Dq]
 refine ⟨fun d vs M => ∃ j : Nat, vs = [.int .i64 (j : Int)] ∧ d = r.2.length - j ∧ j ≤ r.2.length ∧ Hp R (az (br pa p gg dr) b (((r.2.take j).map (·.id)).foldl Wd.eZ x1) :: gp A' c' r.2 :: L') M, ⟨_, 0, rfl, rfl, by omega, hW⟩, ?_⟩
 clear hW
 rintro d _ nn M ⟨j, tC, hd, hj, h⟩
 simp only [List.cons.injEq, Value.int.injEq, and_true, true_and] at tC
 subst tC
 refine aM.2 ⟨fun hlt => ?_, fun hge => ?_⟩
 ·obtain ⟨w, hww⟩ := aP (l := r.2) (i := j) (by omega)
  have hwm := hw w (List.mem_of_getElem? hww)
  obtain ⟨q, rfl⟩ := h.bF (A := A') (by omega) (by decide)
  have Xj := h.src (A := some ⟨q, 0, none⟩)
  refine ⟨by omega, hlt, bp ?_⟩
  refine lS h Xj hww (by simp) (by simp) (by simp) ?_
  clear Xj
  refine aq h ?_
  clear h; intro kw M h
  refine au h ?_
  clear h; intro M h
  refine au h ?_
  clear h; intro M h
  refine au h ?_
  clear h; intro M h
  refine aH h ?_
  refine hO (b := b) h hwm.1 (by rw [Rt, Wj]; exact hwm.2) (by rw [HD, hrd]; simp; omega) ?_
  clear h; intro M h
  refine ⟨rfl, r.2.length - (j + 1), by omega, j + 1, by rw [aV (by omega)], rfl, by omega, ?_⟩
  rw [dD hww, List.map_append, List.foldl_append]
  exact h.sub (by repeat (first | exact .refl | refine .cons (by repeat (first | exact .here | apply cY.there)) ?_ | apply Sub.drop))
 ·have LA : j = r.2.length := by omega
  subst LA
  rw [List.take_length] at h
  generalize hz : (r.2.map (·.id)).foldl Wd.eZ x1 = z at h k
  have h' := cj h (b := b)
  clear h
  obtain ⟨a2, kW, h⟩ := h'
  refine aS h ?_
  obtain ⟨R', hle, yh, h6⟩ := h.gh a2.ar
  exact k R' _ _ _ hle yh (lR (a := a2) (n := z.ready.length) (gg := gg) (dr := dr) kW (h6.sub (by repeat (first | exact .refl | refine .cons (by repeat (first | exact .here | apply cY.there)) ?_ | apply Sub.drop))))
end
def u9 (x : Wd) (g : Int) (i : cH) : Out (Wd × Bool) → Prop
 | .on (y, false) => bk y g ∧ (aj y g).fs.length = (aj x g).fs.length ∧ zu y i.a
 | .on (_, true) => True
 | .eD _ _ => True
 | .cV _ _ => True
instance (x : Wd) (g : Int) (i : cH) (r : Out (Wd × Bool)) : Decidable (u9 x g i r) := match r with
 | .on (y, false) => by unfold u9; infer_instance
 | .on (_, true) => isTrue trivial
 | .eD _ _ => isTrue trivial
 | .cV _ _ => isTrue trivial
theorem KZ {p : b6} {x : Wd} {g : Int} {i : cH} (h : bk x g ∧ aU i.b ∧ oy p x i.a (bt x g i.b) ∧ u9 x g i (x.put p i.a (bt x g i.b))) : Hg p x g i := by
 obtain ⟨h1, h2, h3, h4⟩ := h
 refine ⟨h1, h2, h3, ?_⟩
 generalize x.put p i.a (bt x g i.b) = r at h4
 match r, h4 with
 | .on (y, false), h4 => exact h4
 | .on (y, true), _ => trivial
 | .eD _ _, _ => trivial
 | .cV _ _, _ => trivial
instance (x : Wd) (g : Int) (i : cH) : Decidable (wj x g i) := by unfold wj; infer_instance
instance (p : b6) (x : Wd) (i : cH) : Decidable (nU p x i) := by unfold nU; infer_instance
def zH (p : b6) (x : Wd) (g : Int) (i : cH) (k : Int) : Prop :=
 let c := (aC p i).getD k.toNat ⟨0, 0, 0⟩
 let x1 := x.next g
 0 ≤ k ∧ k < (aC p i).length ∧ aU c.bR ∧
  if c.way = 1 then oy p x1 c.ch (bt x1 g c.bR) ∧ (match x1.put p c.ch (bt x1 g c.bR) with
   | .on (y, _) => bk y g ∧ (aj y g).fs.length = (aj x g).fs.length
   | _ => True)
  else uW x1 c.ch ∧ bk (x1.get c.ch).1 g ∧ (aj (x1.get c.ch).1 g).fs.length = (aj x g).fs.length
instance (g : Int) (n : Nat) (r : Out (Wd × Bool)) : Decidable (match r with
   | .on (y, _) => bk y g ∧ (aj y g).fs.length = n
   | _ => True) := match r with
 | .on (y, _) => by dsimp only; infer_instance
 | .eD _ _ => isTrue trivial
 | .cV _ _ => isTrue trivial
instance (p : b6) (x : Wd) (g : Int) (i : cH) (k : Int) : Decidable (zH p x g i k) := by unfold zH; infer_instance
def nh (p : b6) (x : Wd) (g : Int) (i : cH) (d : jW) : Bool :=
 decide (bk x g ∧ u7 p i ∧ aU i.c ∧ x.Sm ∧ (aj x g).top.pc < 1000000000 ∧ 0 ≤ (aj x g).top.pc ∧ (∀ c ∈ aC p i, c.Ok x.aD.length)) &&
 (match d with
  | .cV _ => true
  | .num v => (enabled (aC p i) x.aD).isEmpty || decide (0 ≤ v ∧ v < (enabled (aC p i) x.aD).length ∧ zH p x g i ((enabled (aC p i) x.aD).getD v.toNat 0)))
theorem Fj {p : b6} {x : Wd} {g : Int} {i : cH} {d : jW} (h : nh p x g i d = true) : Ff p x g i d := by
 unfold nh at h
 rw [Bool.and_eq_true] at h
 obtain ⟨h1, h2⟩ := h
 obtain ⟨a1, a2, a3, a4, a5, a6, a7⟩ := of_decide_eq_true h1
 refine ⟨a1, a2, a3, a4, a5, a6, a7, ?_⟩
 cases d with
 | cV l => split <;> trivial
 | num v =>
  dsimp only at h2
  cases he : enabled (aC p i) x.aD with
  | nil => trivial
  | cons q l =>
   rw [he] at h2
   rw [List.isEmpty_cons, Bool.false_or] at h2
   have h3 := of_decide_eq_true h2
   exact h3
def nX (p : b6) (x : Wd) (g : Int) (i : cH) : Option (Out Wd) :=
 if i.op = 10 then (if bk x g ∧ aU i.a ∧ aU (aj x g).top.qU then some (.on (x.back g i)) else none)
 else if i.op = 11 then (if bk x g ∧ aU i.b ∧ aU i.c ∧ x.Sm then some (x.spawn g i) else none)
 else if i.op = 13 then (if (bk x g ∧ aU i.b ∧ oy p x i.a (bt x g i.b) ∧ u9 x g i (x.put p i.a (bt x g i.b))) ∧ x.Sm then some (x.send p g i) else none)
 else if i.op = 14 then (if wj x g i ∧ x.Sm then some (.on (x.recv g i)) else none)
 else if i.op = 15 then (if nU p x i ∧ x.Sm then some (x.shut p i) else none)
 else if i.op = 20 then (if bk x g ∧ aU i.a ∧ x.Sm then some (x.emit g i) else none)
 else if i.op = 9 then (if bk x g ∧ aU i.b then some (x.call g i) else none)
 else if i.op = 12 then some (.on x)
 else if i.op = 17 then (if bk x g ∧ aU i.a ∧ x.hl.length < 1000000 then some (.on (x.sleep g i)) else none)
 else if i.op = 18 then (if bk x g ∧ Ds x i.a ∧ x.Sm then some (.on (x.lock g i)) else none)
 else if i.op = 19 then (if ng x g i ∧ x.Sm then some (x.unlock g i) else none)
 else if i.op = 22 then some (.eD i.a x)
 else none
def Fk (p : b6) (x : Wd) (g : Int) : Option cH := match p.funcs[(aj x g).top.fn.toNat]? with
 | none => none
 | some code => code[(aj x g).top.pc.toNat]?
def xg (x : Wd) (g : Int) : Prop := 0 ≤ g ∧ g < x.gs.length ∧ x.end_ = 0 ∧ (aj x g).st = 1
instance (x : Wd) (g : Int) : Decidable (xg x g) := by unfold xg; infer_instance
def asks (p : b6) (x : Wd) (g : Int) : Option (Int × Int) :=
 if xg x g then match Fk p x g with
  | none => none
  | some i => if i.op = 21 then some (4, i.b) else if i.op = 16 then (if enabled (aC p i) x.aD = [] then none else some (3, (enabled (aC p i) x.aD).length)) else none
 else none
def xh (p : b6) (x0 : Wd) (g : Int) (d : jW) : Option (Out Wd × Bool) :=
 let x := { x0 with ready := [] }
 if xg x g then
  if bk x g ∧ 0 ≤ (aj x g).top.fn ∧ 0 ≤ (aj x g).top.pc ∧ (aj x g).top.pc < 1000000000 then
   match p.funcs[(aj x g).top.fn.toNat]? with
   | none => none
   | some code => match code[(aj x g).top.pc.toNat]? with
    | none => some (.eD (-7) x, false)
    | some i =>
     if 0 ≤ i.op ∧ i.op ≤ 8 then (if i.cv then some (.on (x.bu g ((aj x g).cI ((aj x g).top.next.pure i))), false) else none)
     else if i.op = 16 then (if nh p x g i d = true then (if g < (x.choose p g i d).fin.gs.length then some (x.choose p g i d, false) else none) else none)
     else if i.op = 21 then (if aU i.a then (if g < (x.rand g i d).fin.gs.length then some (x.rand g i d, false) else none) else none)
     else match nX p (x.next g) g i with
      | none => none
      | some r => if g < r.fin.gs.length then some (r, Hx i.op r) else none
  else none
 else some (.on x, true)
section
variable {R : Mem} {L L' L2 : List HP} {M : Mem} {K : Value → Mem → Prop} {Kp : List PanicEntry → Mem → Prop} {pa : PA} {p : b6} {gg : List GA} {dr : Value} {b : Nat} {x : Wd} {g : Int}
theorem cQ {α : Type} {c : Prop} [Decidable c] {a b : α} (h : (if c then some a else none) = some b) : c ∧ b = a := by
 split at h
 ·rename_i hc; cases h; exact ⟨hc, rfl⟩
 ·cases h
theorem K0 {i : cH} {r : Out Wd} (hp : oQ R pa p) (h : nX p x g i = some r) : ∃ fn, Bk We i.op = some (.func (.func fn) #[] #[]) ∧ (1 < fn ∧ fn < 255) ∧ i.op ≠ 16 ∧ i.op ≠ 21 ∧ 8 < i.op ∧ ∀ L, gd R pa p dr fn x g i r L L := by
 unfold nX at h
 by_cases e : i.op = 10
 ·rw [if_pos e] at h
  obtain ⟨hc, rfl⟩ := cQ h
  exact ⟨212, by rw [e]; rfl, by decide, by omega, by omega, by omega, fun L => Rk hc.1 hc.2.1 hc.2.2⟩
 rw [if_neg e] at h
 clear e
 by_cases e : i.op = 11
 ·rw [if_pos e] at h
  obtain ⟨hc, rfl⟩ := cQ h
  exact ⟨213, by rw [e]; rfl, by decide, by omega, by omega, by omega, fun L => Ov hc.1 hc.2.1 hc.2.2.1 hc.2.2.2⟩
 rw [if_neg e] at h
 clear e
 by_cases e : i.op = 13
 ·rw [if_pos e] at h
  obtain ⟨hc, rfl⟩ := cQ h
  exact ⟨215, by rw [e]; rfl, by decide, by omega, by omega, by omega, fun L => Rf hp (KZ hc.1) hc.2⟩
 rw [if_neg e] at h
 clear e
 by_cases e : i.op = 14
 ·rw [if_pos e] at h
  obtain ⟨hc, rfl⟩ := cQ h
  exact ⟨216, by rw [e]; rfl, by decide, by omega, by omega, by omega, fun L => Rh hc.1 hc.2⟩
 rw [if_neg e] at h
 clear e
 by_cases e : i.op = 15
 ·rw [if_pos e] at h
  obtain ⟨hc, rfl⟩ := cQ h
  exact ⟨217, by rw [e]; rfl, by decide, by omega, by omega, by omega, fun L => Rj hp hc.1 hc.2⟩
 rw [if_neg e] at h
 clear e
 by_cases e : i.op = 20
 ·rw [if_pos e] at h
  obtain ⟨hc, rfl⟩ := cQ h
  exact ⟨221, by rw [e]; rfl, by decide, by omega, by omega, by omega, fun L => Ri hc.1 hc.2.1 hc.2.2⟩
 rw [if_neg e] at h
 clear e
 by_cases e : i.op = 9
 ·rw [if_pos e] at h
  obtain ⟨hc, rfl⟩ := cQ h
  exact ⟨211, by rw [e]; rfl, by decide, by omega, by omega, by omega, fun L => Rp hc.1 hc.2⟩
 rw [if_neg e] at h
 clear e
 by_cases e : i.op = 12
 ·rw [if_pos e] at h
  cases h
  exact ⟨214, by rw [e]; rfl, by decide, by omega, by omega, by omega, fun L => OC⟩
 rw [if_neg e] at h
 clear e
 by_cases e : i.op = 17
 ·rw [if_pos e] at h
  obtain ⟨hc, rfl⟩ := cQ h
  exact ⟨218, by rw [e]; rfl, by decide, by omega, by omega, by omega, fun L => OD hc.1 hc.2.1 hc.2.2⟩
 rw [if_neg e] at h
 clear e
 by_cases e : i.op = 18
 ·rw [if_pos e] at h
  obtain ⟨hc, rfl⟩ := cQ h
  exact ⟨219, by rw [e]; rfl, by decide, by omega, by omega, by omega, fun L => Rq hc.1 hc.2.1 hc.2.2⟩
 rw [if_neg e] at h
 clear e
 by_cases e : i.op = 19
 ·rw [if_pos e] at h
  obtain ⟨hc, rfl⟩ := cQ h
  exact ⟨220, by rw [e]; rfl, by decide, by omega, by omega, by omega, fun L => KY hc.1 hc.2⟩
 rw [if_neg e] at h
 clear e
 by_cases e : i.op = 22
 ·rw [if_pos e] at h
  cases h
  exact ⟨222, by rw [e]; rfl, by decide, by omega, by omega, by omega, fun L => Rr⟩
 rw [if_neg e] at h
 clear e
 cases h
theorem HF {l : List Int} (h : Hp R (az (bI pa p) b x :: L) M) : Hp R (az (bI pa p) b { x with ready := l } :: L) M := by
 obtain ⟨a, gg, dr, n, hl, h⟩ := eo h (b := b)
 exact lR (a := a) (gg := gg) (dr := dr) (n := n) (x := { x with ready := l }) hl h
theorem iT.cons {kind n : Int} {d : jW} {Q : HP} (h : iT R dr kind n d L L2) : iT R dr kind n d (Q :: L) (Q :: L2) := by
 intro Q' M K Kp hM k
 refine h (sep [Q', Q]) M K Kp (Hp.aX.2 hM) ?_
 cases d with
 | num v => exact fun M' h' => k M' (Hp.aX.1 h')
 | cV l => exact fun M' h' => k M' (Hp.aX.1 h')
theorem K2 {d : jW} {r : Out Wd} {rest : Bool} (h : Hp R L M) [o : I9 b L pa p x L'] (hp : oQ R pa p) (Bm : ∃ f c d, dr = .func f c d) (he : xh p x g d = some (r, rest))
  (hd : match asks p { x with ready := [] } g with | none => L2 = L' | some (kd, n) => iT R dr kd n d L' L2) (k : qN R pa p b g L2 K Kp r rest) :
  aa Tryz.prog 121 #[.pointer (some ⟨b, 0, none⟩), .int .i64 g, dr] M K Kp := by
 unfold xh at he
 dsimp only at he
 split at he
 ·rename_i hg
  have AE := hg
  obtain ⟨h0, h1, Xk, xd⟩ := AE
  split at he
  ·rename_i Bl
   obtain ⟨OE, hf0, hp0, SS⟩ := Bl
   split at he
   ·cases he
   ·rename_i code m9
    have done : ∀ (r : Out Wd) (rest : Bool), qN R pa p b g L2 K Kp r rest → (∀ Q, Step R pa p dr { x with ready := [] } g code r rest (Q :: L') (Q :: L2)) → g < r.fin.gs.length → aa Tryz.prog 121 #[.pointer (some ⟨b, 0, none⟩), .int .i64 g, dr] M K Kp := by
     intro r rest k hs hl
     exact Hy (x := x) h hp (show bk x g from OE) Xk xd hf0 m9 ⟨hp0, SS⟩ Bm hs hl k
    have jN : ∀ i, code[(aj x g).top.pc.toNat]? = some i → asks p { x with ready := [] } g = if i.op = 21 then some (4, i.b) else if i.op = 16 then (if enabled (aC p i) x.aD = [] then none else some (3, ((enabled (aC p i) x.aD).length : Int))) else none := by
     intro i hi
     unfold asks
     rw [if_pos hg]
     unfold Fk
     rw [show p.funcs[(aj { x with ready := [] } g).top.fn.toNat]? = some code from m9]
     dsimp only
     rw [show code[(aj { x with ready := [] } g).top.pc.toNat]? = some i from hi]
    split at he
    ·rename_i hnone
     cases he
     have e : asks p { x with ready := [] } g = none := by
      unfold asks
      rw [if_pos hg]
      unfold Fk
      rw [show p.funcs[(aj { x with ready := [] } g).top.fn.toNat]? = some code from m9]
      dsimp only
      rw [hnone]
     rw [e] at hd
     dsimp only at hd
     subst hd
     refine done (.eD (-7) { x with ready := [] }) false k (fun Q => .out ?_) h1
     have := List.getElem?_eq_none_iff.1 hnone
     omega
    ·rename_i i hi
     have e := jN i hi
     rw [e] at hd
     clear e jN
     split at he
     ·rename_i h8
      split at he
      ·rename_i hok
       cases he
       rw [if_neg (by omega), if_neg (by omega)] at hd
       dsimp only at hd
       subst hd
       exact done (.on _) false k (fun Q => .pure i hi h8.1 h8.2 hok) (by simpa [Out.fin, Wd.bu] using h1)
      ·cases he
     split at he
     ·rename_i IV
      split at he
      ·rename_i hok
       split at he
       ·rename_i hl
        cases he
        rw [if_neg (by omega), if_pos IV] at hd
        refine done _ false k (fun Q => .Dl i hi IV (KR hp (Fj hok) ?_)) hl
        split at hd
        ·rename_i hq
         split at hq
         ·rename_i lO
          rw [if_pos (by exact lO), hd]
         ·cases hq
        ·rename_i kd n hq
         split at hq
         ·cases hq
         ·rename_i lO
          cases hq
          rw [if_neg (by exact lO)]
          exact hd.cons
       ·cases he
      ·cases he
     split at he
     ·rename_i Xg
      split at he
      ·rename_i hok
       split at he
       ·rename_i hl
        cases he
        rw [if_pos Xg] at hd
        exact done _ false k (fun Q => .Wf i hi Xg (Rs OE hok ⟨hp0, SS⟩ (iT.cons hd))) hl
       ·cases he
      ·cases he
     split at he
     ·cases he
     ·rename_i IV Xg _ r' jO
      split at he
      ·rename_i hl
       cases he
       rw [if_neg Xg, if_neg IV] at hd
       dsimp only at hd
       subst hd
       obtain ⟨fn, f1, f2, f3, f4, f5, f6⟩ := K0 (R := R) (pa := pa) (dr := dr) hp jO
       exact done _ _ k (fun Q => .dflt i fn hi f5 f3 f4 f1 f2 (f6 _)) hl
      ·cases he
  ·cases he
 ·rename_i hr
  cases he
  have e : asks p { x with ready := [] } g = none := by
   unfold asks
   rw [if_neg hr]
  rw [e] at hd
  dsimp only at hd
  subst hd
  refine jV ?_
  refine aq h ?_
  clear h
  intro kb M h
  have hC := h
  have h' := eo h (b := b)
  clear h
  obtain ⟨a, gg, dr0, n0, hl, h⟩ := h'
  have hl' := hl
  obtain ⟨l1, l2, l3, l4⟩ := hl'
  have fin : aK M ⟨kb, 0, none⟩ (.bool false) fun sr => aK sr ⟨kb, (0 + 1), none⟩ (.slice none 0 0) fun AX =>
    de (Mem.ld AX ⟨kb, 0, none⟩) fun t36 => aB (Mem.ld AX ⟨kb, (0 + 1), none⟩) fun Nq iD xB => K (.agg #[(.bool t36), (.slice Nq iD xB)]) AX := by
   have h := hC
   clear hC
   refine au h ?_
   clear h; intro M h
   refine au h ?_
   clear h; intro M h
   refine Is h (aS h ?_)
   have k2 := k R none 0 M (Mem.le_refl _) (RS.nil _ _) (HF (h.drop.pick o.pick))
   exact k2
  refine aM.2 ⟨fun hn => fin, fun h0 => ?_⟩
  refine aS h ?_
  refine aM.2 ⟨fun hn => fin, fun h1 => ?_⟩
  refine aH h ?_
  refine eL.2 ⟨fun hn => fin, fun he0 => ?_⟩
  refine aS h ?_
  refine ⟨by omega, by omega, ?_⟩
  obtain ⟨gb, fQ⟩ := aP (l := a.gb) (i := g.toNat) (by omega)
  refine vq h fQ fun q hq => ?_
  obtain ⟨ga, Wh⟩ := aP (l := gg) (i := g.toNat) (by omega)
  obtain ⟨z, hy⟩ := aP (l := x.gs) (i := g.toNat) (by omega)
  have ey : aj x g = z := by simp [aj, hy]
  refine bp ?_
  have Oy : M.ld ⟨gb, 0, none⟩ = some (.int .i64 z.st) := by
   have h9 := m7 (b := gb) (h.c6 fX fQ (nT hy Wh))
   exact bN h9
  rw [Oy]
  refine cE ?_
  refine eL.2 ⟨fun hn => fin, fun hn => ?_⟩
  exact absurd ⟨by omega, by show g < (x.gs.length : Int); omega, he0, by show (aj x g).st = 1; rw [ey]; exact hn⟩ hr
end
def HG (y : jo) : Bool := y.st == 1 || y.st == 3
def Wd.stuck (x : Wd) : Bool := x.end_ == 0 && !(x.gs.any HG)
section
variable {R : Mem} {L L' L2 : List HP} {M : Mem} {K : Value → Mem → Prop} {Kp : List PanicEntry → Mem → Prop} {pa : PA} {p : b6} {b : Nat} {x : Wd} {g : Int}
theorem Fl (h : Hp R L M) [o : I9 b L pa p x L'] (hs : x.gs.length ≤ 1000000) (k : K (.bool x.stuck) M) : aa Tryz.prog 65 #[.pointer (some ⟨b, 0, none⟩)] M K Kp := by
 refine pU ?_
 unfold Wd.stuck at k
 have h' := eo h (b := b)
 clear h
 obtain ⟨a, gg, dr, n, hl, h⟩ := h'
 have hl' := hl
 obtain ⟨l1, l2, l3, l4⟩ := hl'
 refine aH h ?_
 refine eL.2 ⟨fun he => ?_, fun he => ?_⟩
 ·rw [show (x.end_ == 0) = false from by simpa using he, Bool.false_and] at k
  exact k
 rw [show (x.end_ == 0) = true from by simpa using he, Bool.true_and] at k
 refine aS h ?_
 refine ⟨fun d vs M' => ∃ j : Nat, vs = [.int .i64 (j : Int)] ∧ d = x.gs.length - j ∧ j ≤ x.gs.length ∧ (x.gs.take j).any HG = false ∧ M' = M, ⟨_, 0, rfl, rfl, by omega, rfl, rfl⟩, ?_⟩
 rintro d _ nn M' ⟨j, tC, hd, hj, ha, rfl⟩
 simp only [List.cons.injEq, Value.int.injEq, and_true, true_and] at tC
 subst tC
 refine aM.2 ⟨fun hlt => ?_, fun hge => ?_⟩
 ·obtain ⟨gb, fQ⟩ := aP (l := a.gb) (i := j) (by omega)
  obtain ⟨ga, Wh⟩ := aP (l := gg) (i := j) (by omega)
  obtain ⟨y, hy⟩ := aP (l := x.gs) (i := j) (by omega)
  have Oy : M'.ld ⟨gb, 0, none⟩ = some (.int .i64 y.st) := by
   have h9 := m7 (b := gb) (h.c6 fX fQ (nT hy Wh))
   exact bN h9
  refine ⟨by omega, by omega, ?_⟩
  refine vq h fQ fun q hq => ?_
  refine bp ?_
  rw [Oy]
  refine cE ?_
  have hym := List.mem_of_getElem? hy
  refine aR.2 ⟨fun e1 => ?_, fun e1 => ?_⟩
  ·have : x.gs.any HG = true := List.any_eq_true.2 ⟨y, hym, by simp [HG, e1]⟩
   rw [this] at k
   exact k
  refine bp ?_
  rw [Oy]
  refine cE ?_
  refine aR.2 ⟨fun e3 => ?_, fun e3 => ?_⟩
  ·have : x.gs.any HG = true := List.any_eq_true.2 ⟨y, hym, by simp [HG, e3]⟩
   rw [this] at k
   exact k
  refine ⟨x.gs.length - (j + 1), by omega, j + 1, by rw [aV (by omega)], rfl, by omega, ?_, rfl⟩
  rw [dD hy, List.any_append, ha]
  simp [HG, e1, e3]
 ·have LA : j = x.gs.length := by omega
  subst LA
  rw [List.take_length] at ha
  rw [ha] at k
  exact k
end
def Du : iY (Int × Int) := ⟨2, fun w => [.int .i64 w.1, .int .u64 w.2], fun _ => rfl, fun w v hv => by
 simp only [List.mem_cons, List.not_mem_nil, or_false] at hv; obtain rfl | rfl := hv <;> rfl⟩
inductive gX where
 | lE (l : List Int) (at_ : Nat)
 | tape (l : List (Int × Int)) (at_ : Nat)
structure jB where
 k : gX
 taken : List (Int × Int)
def K3 : List PanicEntry := [{ v := .iface 240 (.agg #[]), recovered := false }]
def Xl (at_ kind n k v : Int) : List PanicEntry := [{ v := .iface 97 (.agg #[.int .i64 at_, .int .i64 kind, .int .i64 n, .int .i64 k, .int .u64 v]), recovered := false }]
def gY (n : Int) : Int := if 1 > n then 1 else n
def gX.next (k : gX) (kind m : Int) : gX × jW := match k with
 | .lE l i => match l[i]? with
  | none => (.lE l i, .cV K3)
  | some v => (.lE l (i + 1), .num (Int.tmod v m))
 | .tape l i => match l[i]? with
  | none => (.tape l i, .cV K3)
  | some (q, v) => if q ≠ kind then (.tape l i, .cV (Xl i kind m q v)) else if v ≥ m then (.tape l i, .cV (Xl i kind m q v)) else (.tape l (i + 1), .num v)
def jB.draw (x : jB) (kind n : Int) : jB × jW := match x.k.next kind (gY n) with
 | (k', .num v) => (⟨k', x.taken ++ [(kind, v)]⟩, .num v)
 | (k', .cV l) => (⟨k', x.taken⟩, .cV l)
def gX.Ok : gX → Prop
 | .lE l i => l.length ≤ 1000000000 ∧ i ≤ l.length ∧ ∀ v ∈ l, 0 ≤ v ∧ v < 18446744073709551616
 | .tape l i => l.length ≤ 1000000000 ∧ i ≤ l.length ∧ ∀ v ∈ l, 0 ≤ v.2 ∧ v.2 < 18446744073709551616
def jB.Ok (x : jB) : Prop := x.k.Ok ∧ x.taken.length ≤ 1000000000
abbrev my (A : Option Addr) (c : Nat) (l : List (Int × Int)) : HP := bO Du 95 A c l
abbrev ZJ (A : Option Addr) (c : Nat) (l : List Int) : HP := bO Es 32 A c l
def kR : sH gX := ⟨fun b k => match k with
 | .lE l i => exs fun A : Option Addr => exs fun c : Nat => sep [pt b [.slice A l.length c, .int .i64 (i : Int)] 147, ZJ A c l]
 | .tape l i => exs fun A : Option Addr => exs fun c : Nat => sep [pt b [.slice A l.length c, .int .i64 (i : Int)] 354, my A c l]⟩
def xj : gX → Nat → Value
 | .lE _ _, b => .func (.func 59) #[.pointer (some ⟨b, 0, none⟩)] #[]
 | .tape _ _, b => .func (.func 198) #[.pointer (some ⟨b, 0, none⟩)] #[]
def zI : gX → Nat → Value
 | .lE _ _, b => .func (.func 60) #[.pointer (some ⟨b, 0, none⟩)] #[]
 | .tape _ _, b => .func (.func 199) #[.pointer (some ⟨b, 0, none⟩)] #[]
def cJ (K4 : Value) : sH jB := ⟨fun b x => exs fun A : Option Addr => exs fun c : Nat => exs fun kb : Nat =>
 sep [pt b [xj x.k kb, zI x.k kb, .slice A x.taken.length c, K4] 152, my A c x.taken, az kR kb x.k]⟩
theorem OF : bn Tryz.prog 149 95 2 16 [.int .i64 0, .int .u64 0] := bn.mk' (zv := .agg #[.int .i64 0, .int .u64 0]) (by kernel_rfl) (by kernel_rfl) rfl (by omega)
theorem HH : bn Tryz.prog 31 32 1 8 [.int .u64 0] := bn.mk' (zv := .int .u64 0) (by kernel_rfl) (by kernel_rfl) rfl (by omega)
theorem qj {C : Ctx} {g : Nat} {first : Array Value} {args : List Value} {M : Mem} {K : Value → Mem → Prop} {Kp : List PanicEntry → Mem → Prop} (hg : 1 < g ∧ g < C.ok) (h : aa C.P g (first.toList ++ args).toArray M K Kp) : iF C (.func (.func g) first #[]) args M K Kp := by
 unfold iF
 simp only
 rw [if_pos hg]
 simpa using h
theorem zJ (n : Int) : 1 ≤ gY n := by unfold gY; split <;> omega
theorem zK {z : Int} (h0 : 0 ≤ z) (h : z < 18446744073709551616) : IntKind.wrap .u64 z = z := by
 obtain ⟨n, rfl⟩ := Int.eq_ofNat_of_zero_le h0
 rw [IntKind.wrap_u64]; omega
section
variable {R : Mem} {L L' L2 : List HP} {M : Mem} {K : Value → Mem → Prop} {Kp : List PanicEntry → Mem → Prop} {b : Nat} {x : jB} {K4 : Value}
theorem zL {k : gX} {kind m : Int} (hok : k.Ok) (hm : 1 ≤ m) {k' : gX} {v : Int} (h : k.next kind m = (k', .num v)) : 0 ≤ v ∧ v < m := by
 cases k with
 | lE l i =>
  unfold gX.next at h
  dsimp only at h
  split at h
  ·cases h
  ·rename_i w hw
   cases h
   have := hok.2.2 w (List.mem_of_getElem? hw)
   exact ⟨Int.tmod_nonneg _ this.1, Int.tmod_lt_of_pos _ (by omega)⟩
 | tape l i =>
  unfold gX.next at h
  dsimp only at h
  split at h
  ·cases h
  ·rename_i q w hw
   have := hok.2.2 _ (List.mem_of_getElem? hw)
   split at h
   ·cases h
   ·split at h
    ·cases h
    ·cases h
     exact ⟨this.1, by omega⟩
theorem Ru {k : gX} {kind m : Int} (hok : k.Ok) : (k.next kind m).1.Ok := by
 cases k with
 | lE l i =>
  unfold gX.next
  dsimp only
  split
  ·exact hok
  ·rename_i w hw
   have := (List.getElem?_eq_some_iff.1 hw).1
   exact ⟨hok.1, by omega, hok.2.2⟩
 | tape l i =>
  unfold gX.next
  dsimp only
  split
  ·exact hok
  ·rename_i q w hw
   have := (List.getElem?_eq_some_iff.1 hw).1
   split
   ·exact hok
   ·split
    ·exact hok
    ·exact ⟨hok.1, by omega, hok.2.2⟩
theorem HI {k : gX} {kind m : Int} {kb : Nat} : xj (k.next kind m).1 kb = xj k kb ∧ zI (k.next kind m).1 kb = zI k kb := by
 cases k with
 | lE l i => unfold gX.next; dsimp only; split <;> exact ⟨rfl, rfl⟩
 | tape l i =>
  unfold gX.next; dsimp only; split
  ·exact ⟨rfl, rfl⟩
  ·split
   ·exact ⟨rfl, rfl⟩
   ·split <;> exact ⟨rfl, rfl⟩
theorem Wl {k : gX} {kb : Nat} {kind m : Int} (h : Hp R (az kR kb k :: L) M) (hok : k.Ok) (hm : 1 ≤ m) (Rv : m < 9223372036854775808)
  (g : match (k.next kind m).2 with
   | .num v => ∀ M', Hp R (az kR kb (k.next kind m).1 :: L) M' → K (.int .u64 v) M'
   | .cV l => ∀ M', Hp R (az kR kb (k.next kind m).1 :: L) M' → Kp l M') :
  iF Cx (xj k kb) [.int .i64 kind, .int .i64 m] M K Kp := by
 cases k with
 | lE l i =>
  refine qj ⟨by decide, by show _ < 255; decide⟩ ?_
  refine oM ?_
  obtain ⟨o1, o2, o3⟩ := hok
  unfold gX.next at g
  dsimp only at g
  have h2 := h.obj kR kb
  simp only [kR, Hp.di, Hp.aX, List.cons_append, List.nil_append] at h2
  obtain ⟨A, c, h2⟩ := h2
  clear h
  have h := h2
  clear h2
  have mk : ∀ {M : Mem} {i : Nat}, Hp R (pt kb [.slice A l.length c, .int .i64 (i : Int)] 147 :: ZJ A c l :: L) M → Hp R (az kR kb (.lE l i) :: L) M := by
   intro M i h
   refine Hp.vL ?_
   simp only [kR, Hp.di, Hp.aX, List.cons_append, List.nil_append]
   exact ⟨_, _, h⟩
  refine aH h (aS h ?_)
  refine aM.2 ⟨fun hge => ?_, fun hlt => ?_⟩
  ·have e : l[i]? = none := List.getElem?_eq_none_iff.2 (by omega)
   rw [e] at g
   exact g _ (mk h)
  ·obtain ⟨w, hw⟩ := aP (l := l) (i := i) (by omega)
   rw [hw] at g
   have hwb := o3 w (List.mem_of_getElem? hw)
   refine aH h ?_
   rw [aV (by omega)]
   refine au h ?_
   clear h; intro M h
   refine aS h (aH h ?_)
   have e : IntKind.wrap .i64 (((i + 1 : Nat) : Int) - 1) = (i : Int) := by rw [cT (by omega) (by omega)]; omega
   rw [e]
   obtain ⟨q, rfl⟩ := h.bF (A := A) (by omega) (by decide)
   refine ⟨by omega, by omega, bp ?_⟩
   refine aZ (Src.at (h.src (A := some ⟨q, 0, none⟩)) h (i := i) (j := 0) hw rfl (by simp [Es])) ?_
   rw [zK (by omega) (by omega)]
   exact ⟨by omega, g _ (mk h)⟩
 | tape l i =>
  refine qj ⟨by decide, by show _ < 255; decide⟩ ?_
  refine rJ ?_
  obtain ⟨o1, o2, o3⟩ := hok
  unfold gX.next at g
  dsimp only at g
  have h2 := h.obj kR kb
  simp only [kR, Hp.di, Hp.aX, List.cons_append, List.nil_append] at h2
  obtain ⟨A, c, h2⟩ := h2
  clear h
  have h := h2
  clear h2
  have mk : ∀ {M : Mem} {i : Nat}, Hp R (pt kb [.slice A l.length c, .int .i64 (i : Int)] 354 :: my A c l :: L) M → Hp R (az kR kb (.tape l i) :: L) M := by
   intro M i h
   refine Hp.vL ?_
   simp only [kR, Hp.di, Hp.aX, List.cons_append, List.nil_append]
   exact ⟨_, _, h⟩
  refine aH h (aS h ?_)
  refine aM.2 ⟨fun hge => ?_, fun hlt => ?_⟩
  ·have e : l[i]? = none := List.getElem?_eq_none_iff.2 (by omega)
   rw [e] at g
   exact g _ (mk h)
  ·obtain ⟨⟨q, w⟩, hw⟩ := aP (l := l) (i := i) (by omega)
   rw [hw] at g
   dsimp only at g
   have hwb := o3 _ (List.mem_of_getElem? hw)
   dsimp only at hwb
   refine aS h (aH h ?_)
   obtain ⟨q0, rfl⟩ := h.bF (A := A) (by omega) (by decide)
   refine ⟨by omega, by omega, bp ?_⟩
   refine aZ (Src.at (h.src (A := some ⟨q0, 0, none⟩)) h (i := i) (j := 0) hw rfl (by simp [Du])) ?_
   refine aZ (Src.at (h.src (A := some ⟨q0, 0, none⟩)) h (i := i) (j := 1) hw rfl (by simp [Du])) ?_
   refine aq h ?_
   clear h; intro kk M h
   refine au h ?_
   clear h; intro M h
   refine au h ?_
   clear h; intro M h
   refine aH h ?_
   refine eL.2 ⟨fun hne => ?_, fun heq => ?_⟩
   ·rw [if_pos hne] at g
    refine aH h (aH h (aH h ?_))
    exact g _ (mk (h.sub bD))
   ·rw [if_neg (by simpa using heq)] at g
    refine aH h ?_
    rw [zK (by omega) (by omega)]
    refine aM.2 ⟨fun hge => ?_, fun HJ => ?_⟩
    ·rw [if_pos hge] at g
     refine aH h (aH h (aH h ?_))
     exact g _ (mk (h.sub bD))
    ·rw [if_neg HJ] at g
     refine aH h ?_
     rw [aV (by omega)]
     refine au h ?_
     clear h; intro M h
     refine aH h ?_
     exact g _ (mk (h.sub bD))
theorem Fm (h : Hp R L M) [o : bY (cJ K4) b L x L'] : ∃ A c kb, Hp R (pt b [xj x.k kb, zI x.k kb, .slice A x.taken.length c, K4] 152 :: my A c x.taken :: az kR kb x.k :: L') M := by
 have := h.obj (cJ K4) b
 simpa only [cJ, Hp.di, Hp.aX, List.cons_append, List.nil_append] using this
theorem Dv {A : Option Addr} {c kb : Nat} (h : Hp R (pt b [xj x.k kb, zI x.k kb, .slice A x.taken.length c, K4] 152 :: my A c x.taken :: az kR kb x.k :: L) M) : Hp R (az (cJ K4) b x :: L) M := by
 refine Hp.vL ?_
 simp only [cJ, Hp.di, Hp.aX, List.cons_append, List.nil_append]
 exact ⟨_, _, _, h⟩
theorem qk {kind n : Int} (h : Hp R L M) [o : bY (cJ .nilFunc) b L x L'] (hok : x.Ok) (hn : n < 9223372036854775808) (ht : x.taken.length < 100000000)
  (g : match (x.draw kind n).2 with
   | .num v => ∀ M', Hp R (az (cJ .nilFunc) b (x.draw kind n).1 :: L') M' → K (.int .i64 v) M'
   | .cV l => ∀ M', Hp R (az (cJ .nilFunc) b (x.draw kind n).1 :: L') M' → Kp l M') :
  aa Tryz.prog 107 #[.pointer (some ⟨b, 0, none⟩), .int .i64 kind, .int .i64 n] M K Kp := by
 refine oN ?_
 have h' := Fm (K4 := .nilFunc) h (b := b)
 clear h
 obtain ⟨A, c, kb, h⟩ := h'
 refine yM h ?_
 have em : (if (1 : Int) > n then 1 else n) = gY n := rfl
 rw [em]
 have S5 := zJ n
 have Rv : gY n < 9223372036854775808 := by unfold gY; split <;> omega
 have hnv := HI (k := x.k) (kind := kind) (m := gY n) (kb := kb)
 obtain ⟨Rb, xu⟩ := hnv
 have HK := fun k' v => zL (k := x.k) (kind := kind) hok.1 S5 (k' := k') (v := v)
 unfold jB.draw at g
 replace h : Hp R (az kR kb x.k :: pt b [xj x.k kb, zI x.k kb, .slice A x.taken.length c, .nilFunc] 152 :: my A c x.taken :: L') M := h.sub bD
 refine Wl (kind := kind) h hok.1 S5 Rv ?_
 clear h
 generalize hr : x.k.next kind (gY n) = r at g Rb xu HK
 obtain ⟨k', d⟩ := r
 dsimp only at Rb xu ⊢
 rw [← Rb, ← xu]
 cases d with
 | cV l =>
  dsimp only at g ⊢
  intro M h
  exact g _ (Dv (x := ⟨k', x.taken⟩) (h.sub bD))
 | num v =>
  dsimp only at g ⊢
  obtain ⟨v0, v1⟩ := HK k' v rfl
  intro M h
  refine cE ?_
  refine aq h ?_
  clear h; intro k5 M h
  refine au h ?_
  clear h; intro M h
  refine au h ?_
  clear h; intro M h
  refine aS h (aH h (aH h ?_))
  refine aq h ?_
  clear h; intro jJ M h
  refine h.bJ (A := A) OF [(kind, v)] rfl rfl (by simp only [List.length_singleton]; omega) ?_
  clear h; intro A' c' M h
  refine be ?_
  refine au h ?_
  clear h; intro M h
  refine yM h ?_
  unfold Ig
  dsimp only
  refine ai (aH h ?_)
  rw [cT (by omega) (by omega)]
  exact g _ (Dv (x := ⟨k', x.taken ++ [(kind, v)]⟩) (h.sub bD))
theorem Dw (h : Hp R L M) [o : bY (cJ K4) b L x L'] (ht : x.taken.length ≤ 100000000) (g : ∀ A c M', Hp R (my A c x.taken :: az (cJ K4) b x :: L') M' → K (.slice A x.taken.length c) M') :
  aa Tryz.prog 76 #[.pointer (some ⟨b, 0, none⟩)] M K Kp := by
 refine nN ?_
 have h' := Fm (K4 := K4) h (b := b)
 clear h
 obtain ⟨A, c, kb, h⟩ := h'
 refine aq h ?_
 clear h; intro k1 M h
 refine aS h ?_
 refine h.j7 Du OF x.taken (h.src (A := A)) rfl (by omega) ?_
 clear h; intro A' c' M h
 refine be ?_
 exact g _ _ _ ((Dv (x := x) (A := A) (c := c) (kb := kb) (h.sub bD)).swap)
theorem Bn {B : Option Addr} {m cb : Nat} {l : List Int} (h : Hp R L M) (hB : Src R L B (Es.cells l)) (hm : m = l.length) (hl : l.length ≤ 1000000000)
  (g : ∀ b M', Hp R (az (cJ .nilFunc) b ⟨.lE l 0, []⟩ :: L) M' → K (.pointer (some ⟨b, 0, none⟩)) M') :
  aa Tryz.prog 16 #[.slice B m cb] M K Kp := by
 refine vU ?_
 refine aq h ?_
 clear h; intro k1 M h
 refine h.j7 Es HH l hB.cons hm (by omega) ?_
 clear h; intro A' c' M h
 refine be ?_
 refine aq h ?_
 clear h; intro k8 M h
 refine aq h ?_
 clear h; intro gn M h
 have h2 := h.cz Du 95
 refine g gn _ (Dv (x := ⟨.lE l 0, []⟩) (A := none) (c := 0) (kb := k8) ?_)
 have h3 : Hp R (az kR k8 (.lE l 0) :: my none 0 [] :: pt gn [xj (.lE l 0) k8, zI (.lE l 0) k8, .slice none 0 0, .nilFunc] 152 :: L) M := by
  refine Hp.vL ?_
  simp only [kR, Hp.di, Hp.aX, List.cons_append, List.nil_append]
  exact ⟨A', c', h2.sub bD⟩
 exact h3.sub bD
theorem K5 {kind n : Int} (hok : x.Ok) (hn : n < 9223372036854775808) (ht : x.taken.length < 100000000) :
  iT R (.func (.func 107) #[.pointer (some ⟨b, 0, none⟩)] #[]) kind n (x.draw kind n).2 (az (cJ .nilFunc) b x :: L) (az (cJ .nilFunc) b (x.draw kind n).1 :: L) := by
 intro Q M K Kp h k
 refine qj ⟨by decide, by show _ < 255; decide⟩ ?_
 refine qk h hok hn ht ?_
 cases hd : (x.draw kind n).2 with
 | num v => rw [hd] at k; exact fun M' h' => k M' h'.swap
 | cV l => rw [hd] at k; exact fun M' h' => k M' h'.swap
end
structure dm where
 q : Loc
 turns : Int
 eV : Int
structure va where
 p : Int
 g : Int
 left : Int
 deriving DecidableEq
structure OG where
 P : Int
 M : Int
 R : Int
 S : Int
structure Sc where
 w : Wd
 c : OG
 ps : List dm
 ms : List va
 gl : List Int
 d : jB
 steps : Int
structure Ev where
 kind : Int
 m : Int
 g : Int
 ready : List Int
def ql : iY (Nat × Int × Int) := ⟨3, fun w => [.pointer (some ⟨w.1, 0, none⟩), .int .i64 w.2.1, .int .i64 w.2.2], fun _ => rfl, fun w v hv => by
 simp only [List.mem_cons, List.not_mem_nil, or_false] at hv; obtain rfl | rfl | rfl := hv <;> rfl⟩
def lT : iY va := ⟨3, fun w => [.int .i64 w.p, .int .i64 w.g, .int .i64 w.left], fun _ => rfl, fun w v hv => by
 simp only [List.mem_cons, List.not_mem_nil, or_false] at hv; obtain rfl | rfl | rfl := hv <;> rfl⟩
def bS (bs : List Nat) (ps : List dm) : List (Nat × Int × Int) := List.zipWith (fun b (p : dm) => (b, p.turns, p.eV)) bs ps
def ax (x : Sc) (m : Int) : va := x.ms.getD m.toNat ⟨-1, -1, 0⟩
def ay (x : Sc) (i : Int) : dm := x.ps.getD i.toNat ⟨⟨-1, 0, []⟩, 0, -1⟩
def Sc.gZ (x : Sc) (m : Int) (y : va) : Sc := { x with ms := x.ms.set m.toNat y }
def Sc.bT (x : Sc) (i : Int) (y : dm) : Sc := { x with ps := x.ps.set i.toNat y }
structure SA where
 ap : Option Addr
 cp : Nat
 lb : List Nat
 am : Option Addr
 cm : Nat
abbrev bZ (A : Option Addr) (c : Nat) (l : List (Nat × Int × Int)) : HP := bO ql 141 A c l
abbrev cn (A : Option Addr) (c : Nat) (l : List va) : HP := bO lT 143 A c l
abbrev dY (wb db : Nat) (a : SA) (x : Sc) (A : Option Addr) (n c : Nat) : List Value :=
 [.pointer (some ⟨wb, 0, none⟩), .int .i64 x.c.P, .int .i64 x.c.M, .int .i64 x.c.R, .int .i64 x.c.S, .slice a.ap x.ps.length a.cp, .slice a.am x.ms.length a.cm, .slice A n c, .pointer (some ⟨db, 0, none⟩), .int .i64 x.steps]
abbrev dQ (b wb db : Nat) (a : SA) (x : Sc) : Option Addr → Nat → Nat → HP := fun A n c => pt b (dY wb db a x A n c) 137
theorem zM {b wb db : Nat} {a : SA} {x : Sc} : SR b (0 + 7) (dQ b wb db a x) :=
 ⟨fun R L M A n c h => bN h, fun R L M A A' n c n' c' G h k => au h k⟩
abbrev iU (a : SA) (x : Sc) (L : List HP) : List HP := bZ a.ap a.cp (bS a.lb x.ps) :: bj bK a.lb (x.ps.map dm.q) :: cn a.am a.cm x.ms :: L
def e8 (pa : PA) (p : b6) (wb db : Nat) : sH Sc := ⟨fun b x => exs fun a : SA =>
 sep (gL (dQ b wb db a x) x.gl :: az (bI pa p) wb x.w :: az (cJ .nilFunc) db x.d :: fact (a.lb.length = x.ps.length) :: iU a x [])⟩
class qm (b : Nat) (L : List HP) (pa : outParam PA) (p : outParam b6) (wb db : outParam Nat) (x : outParam Sc) (L' : outParam (List HP)) : Prop where
 pick : cY L (az (e8 pa p wb db) b x) L'
instance qm.here {pa : PA} {p : b6} {wb db b : Nat} {x : Sc} {L : List HP} : qm b (az (e8 pa p wb db) b x :: L) pa p wb db x L := ⟨.here⟩
instance (priority := low) qm.there {pa : PA} {p : b6} {wb db b : Nat} {x : Sc} {Q : HP} {L L' : List HP} [h : qm b L pa p wb db x L'] : qm b (Q :: L) pa p wb db x (Q :: L') := ⟨.there h.pick⟩
section
variable {R : Mem} {L L' L2 : List HP} {M : Mem} {K : Value → Mem → Prop} {Kp : List PanicEntry → Mem → Prop} {pa : PA} {p : b6} {b wb db : Nat} {x : Sc} {m i : Int}
theorem fx (h : Hp R L M) [o : qm b L pa p wb db x L'] : ∃ a : SA, a.lb.length = x.ps.length ∧ Hp R (gL (dQ b wb db a x) x.gl :: az (bI pa p) wb x.w :: az (cJ .nilFunc) db x.d :: iU a x L') M := by
 have := h.pick o.pick
 unfold az at this
 simp only [e8, iU, Hp.di, Hp.aX, List.cons_append, List.nil_append] at this
 obtain ⟨a, h⟩ := this
 refine ⟨a, ?_⟩
 have h2 := h.pick (P := fact (a.lb.length = x.ps.length)) (.there (.there (.there .here)))
 obtain ⟨e, h3⟩ := Hp.fO.1 h2
 exact ⟨e, h3⟩
theorem ia {a : SA} (hl : a.lb.length = x.ps.length) (h : Hp R (gL (dQ b wb db a x) x.gl :: az (bI pa p) wb x.w :: az (cJ .nilFunc) db x.d :: iU a x L) M) : Hp R (az (e8 pa p wb db) b x :: L) M := by
 refine Hp.vL ?_
 simp only [e8, iU, Hp.di, Hp.aX, List.cons_append, List.nil_append]
 refine ⟨a, ?_⟩
 have h2 : Hp R (fact (a.lb.length = x.ps.length) :: gL (dQ b wb db a x) x.gl :: az (bI pa p) wb x.w :: az (cJ .nilFunc) db x.d :: iU a x L) M := Hp.fO.2 ⟨hl, h⟩
 exact h2.nB (.there (.there (.there .here)))
theorem nY {a : SA} (h : Hp R (gL (dQ b wb db a x) x.gl :: L) M) : ∃ A c, Hp R (pt b (dY wb db a x A x.gl.length c) 137 :: lD A c x.gl :: L) M := jr (P := dQ b wb db a x) h
theorem yj {a : SA} {A : Option Addr} {c n : Nat} {l : List Int} (h : Hp R (pt b (dY wb db a x A n c) 137 :: lD A c l :: L) M) (e : n = l.length := by first | rfl | simp) : Hp R (gL (dQ b wb db a x) l :: L) M := I0 (P := dQ b wb db a x) h e
theorem Rw {bs : List Nat} {ps : List dm} {i lb : Nat} {pr : dm} (h1 : bs[i]? = some lb) (h2 : ps[i]? = some pr) : (bS bs ps)[i]? = some (lb, pr.turns, pr.eV) := GH h1 h2
theorem zN {bs : List Nat} {ps : List dm} {i lb : Nat} {pr : dm} (h1 : bs[i]? = some lb) : (bS bs ps).set i (lb, pr.turns, pr.eV) = bS bs (ps.set i pr) := nJ (f := fun b (p : dm) => (b, p.turns, p.eV)) h1
theorem kY {bs : List Nat} {ps : List dm} (h : bs.length = ps.length) : (bS bs ps).length = ps.length := by simp [bS, h]
theorem qn (h : Hp R L M) [o : qm b L pa p wb db x L'] (k : K (.pointer (some ⟨wb, 0, none⟩)) M) : aa Tryz.prog 18 #[.pointer (some ⟨b, 0, none⟩)] M K Kp := by
 refine pY ?_
 obtain ⟨a, hl, h⟩ := fx h (b := b)
 obtain ⟨A, c, h⟩ := nY h
 exact kQ h k
theorem qo (h : Hp R L M) [o : qm b L pa p wb db x L'] (k : K (.int .i64 x.steps) M) : aa Tryz.prog 35 #[.pointer (some ⟨b, 0, none⟩)] M K Kp := by
 refine pZ ?_
 obtain ⟨a, hl, h⟩ := fx h (b := b)
 obtain ⟨A, c, h⟩ := nY h
 exact aH h k
def Sc.status (x : Sc) : Int := if x.w.end_ = 1 then 1 else if x.w.end_ = 2 then 2 else if x.w.stuck then 3 else 0
theorem vb (h : Hp R L M) [o : qm b L pa p wb db x L'] (hs : x.w.gs.length ≤ 1000000) (k : K (.int .i64 x.status) M) : aa Tryz.prog 22 #[.pointer (some ⟨b, 0, none⟩)] M K Kp := by
 refine oO ?_
 have h' := fx h (b := b)
 clear h
 obtain ⟨a, hl, h⟩ := h'
 have h' := nY h
 clear h
 obtain ⟨A, c, h⟩ := h'
 unfold Sc.status at k
 refine kQ h ?_
 refine KO h ?_
 refine ⟨_, _, rfl, ?_⟩
 refine aR.2 ⟨fun e => ?_, fun e => ?_⟩
 ·rw [if_pos e] at k; exact k
 rw [if_neg e] at k
 refine aR.2 ⟨fun e => ?_, fun e => ?_⟩
 ·rw [if_pos e] at k; exact k
 rw [if_neg e] at k
 refine kQ h ?_
 refine Fl h hs ?_
 refine ot ?_
 cases hst : x.w.stuck with
 | true => rw [hst] at k; exact ae k
 | false => rw [hst] at k; exact ai k
def Sc.tick (x : Sc) : Sc × Ev := ({ x with w := x.w.tick, gl := x.gl ++ x.w.tick.ready }, ⟨1, -1, -1, x.w.tick.ready⟩)
def K6 (e : Ev) (A : Option Addr) (c : Nat) : Value := .agg #[.int .i64 e.kind, .int .i64 e.m, .int .i64 e.g, .slice A e.ready.length c]
theorem qp {k1 T n : Nat} {v1 v2 v3 v4 : Value} {e1 e2 e3 : Int} {A : Option Addr} {c : Nat} {G : Mem → Prop} (h : Hp R L M) [q : kU k1 L [v1, v2, v3, v4] T L']
  (k : ∀ M', Hp R (pt k1 [.int .i64 e1, .int .i64 e2, .int .i64 e3, .slice A n c] T :: L') M' → G M') :
  aK M ⟨k1, 0, none⟩ (.int .i64 e1) fun M1 => aK M1 ⟨k1, (0 + 1), none⟩ (.int .i64 e2) fun M2 => aK M2 ⟨k1, (0 + 2), none⟩ (.int .i64 e3) fun M3 => aK M3 ⟨k1, (0 + 3), none⟩ (.slice A n c) G := by
 have h := h.pick q.pick
 refine au h ?_
 clear h; intro M h
 refine au h ?_
 clear h; intro M h
 refine au h ?_
 clear h; intro M h
 refine au h ?_
 clear h; intro M h
 exact k _ h
theorem qq {k1 T n : Nat} {e1 e2 e3 : Int} {A : Option Addr} {c : Nat} {G : Int → Int → Int → Option Addr → Nat → Nat → Prop} (h : Hp R L M) [q : kU k1 L [.int .i64 e1, .int .i64 e2, .int .i64 e3, .slice A n c] T L'] (g : G e1 e2 e3 A n c) :
  aJ (Mem.ld M ⟨k1, 0, none⟩) .i64 fun n1 => aJ (Mem.ld M ⟨k1, (0 + 1), none⟩) .i64 fun n2 => aJ (Mem.ld M ⟨k1, (0 + 2), none⟩) .i64 fun n3 => aB (Mem.ld M ⟨k1, (0 + 3), none⟩) fun A k l => G n1 n2 n3 A k l := by
 have h := h.pick q.pick
 exact aH h (aH h (aH h (aS h g)))
def zO (x : Sc) : Prop := x.w.hl.length ≤ 1000000 ∧ (∀ y ∈ (dM x.w.hl.length x.w.hl (IntKind.wrap .u64 (x.w.clock + 1))).2, 0 ≤ y.id ∧ y.id < x.w.gs.length) ∧ x.gl.length + x.w.tick.ready.length ≤ 1000000
instance (x : Sc) : Decidable (zO x) := by unfold zO; infer_instance
theorem HL (h : Hp R L M) [o : qm b L pa p wb db x L'] (hk : zO x)
  (k : ∀ R' A c M', R.le R' → RS bB R' A c x.tick.2.ready → Hp R' (az (e8 pa p wb db) b x.tick.1 :: L') M' → K (K6 x.tick.2 A c) M') : aa Tryz.prog 108 #[.pointer (some ⟨b, 0, none⟩)] M K Kp := by
 refine rQ ?_
 refine aq h ?_
 clear h
 intro k1 M h
 have h' := fx h (b := b)
 clear h
 obtain ⟨a, hl, h⟩ := h'
 have h' := nY h
 clear h
 obtain ⟨A, c, h⟩ := h'
 refine kQ h ?_
 refine HE h hk.1 hk.2.1 ?_
 clear h; intro R2 Ar cr M hle yh h
 refine be ?_
 replace h : Hp R2 (pt b (dY wb db a x A x.gl.length c) 137 :: lD A c x.gl :: az (bI pa p) wb x.w.tick :: az (cJ .nilFunc) db x.d :: bZ a.ap a.cp (bS a.lb x.ps) :: bj bK a.lb (x.ps.map dm.q) :: cn a.am a.cm x.ms :: pt k1 [.int .i64 0, .int .i64 0, .int .i64 0, .slice none 0 0] 43 :: L') M := h.sub bD
 replace h := yj h
 refine nV (P := dQ b wb db a x) zM h (yh.src) rfl (by have := hk.2.2; omega) ?_
 clear h; intro M h
 refine ⟨rfl, ?_⟩
 refine qp h ?_
 clear h; intro M h
 refine qq h ?_
 exact k R2 Ar cr _ hle yh (ia (a := a) (x := x.tick.1) hl (h.sub bD))
end
def nZ (q : Loc) : Bool := q.next != -1 || !q.l.isEmpty
def gf (q : Loc) (turns : Int) (gl : List Int) : Loc × List Int × Int × Bool :=
 let a := q.dO gl
 if Int.tmod turns 7 = 6 ∧ 0 < a.2.1.length then (a.1, a.2.1.drop 1, a.2.1.headD 0, true)
 else if nZ a.1 then (a.1.get.1, a.2.1, a.1.get.2, true)
 else ((a.1.get.1.ee a.2.1 0).1, (a.1.get.1.ee a.2.1 0).2.1, (a.1.get.1.ee a.2.1 0).2.2, !a.2.1.isEmpty)
def fS (f : Loc) (v : Int) : Bool := v != -1 || !f.l.isEmpty
theorem OH {q : Loc} {gl : List Int} : (q.dO gl).2.1.length ≤ gl.length + q.l.length + 1 := by
 unfold Loc.dO
 split
 ·simp; omega
 ·unfold Loc.put
  split
  ·simp; omega
  ·simp; omega
section
variable {R : Mem} {L L' L2 : List HP} {M : Mem} {K : Value → Mem → Prop} {Kp : List PanicEntry → Mem → Prop} {pa : PA} {p : b6} {b wb db : Nat} {x : Sc} {m i : Int}
def Sc.hold (x : Sc) (m : Int) : Sc × Ev := match x.ps.findIdx? (fun pr => pr.eV == -1) with
 | some i => (((x.bT (i : Int) { ay x (i : Int) with eV := m }).gZ m { ax x m with p := (i : Int) }), ⟨2, m, -1, []⟩)
 | none => (x, ⟨3, m, -1, []⟩)
theorem zP {a : SA} {y : dm} : dQ b wb db a (x.bT i y) = dQ b wb db a x := by
 unfold dQ dY Sc.bT; simp
theorem zQ {a : SA} {y : va} : dQ b wb db a (x.gZ i y) = dQ b wb db a x := by
 unfold dQ dY Sc.gZ; simp
theorem qt {a : SA} (hl : a.lb.length = x.ps.length) (h0 : 0 ≤ i) (h1 : i < x.ps.length) : ∃ lb, a.lb[i.toNat]? = some lb ∧ x.ps[i.toNat]? = some (ay x i) ∧ (bS a.lb x.ps)[i.toNat]? = some (lb, (ay x i).turns, (ay x i).eV) := by
 obtain ⟨lb, hlb⟩ := aP (l := a.lb) (i := i.toNat) (by omega)
 obtain ⟨y, hy⟩ := aP (l := x.ps) (i := i.toNat) (by omega)
 have e : ay x i = y := by simp [ay, hy]
 rw [e]
 exact ⟨lb, hlb, hy, Rw hlb hy⟩
theorem qu (h0 : 0 ≤ m) (h1 : m < x.ms.length) : x.ms[m.toNat]? = some (ax x m) := by
 obtain ⟨y, hy⟩ := aP (l := x.ms) (i := m.toNat) (by omega)
 have e : ax x m = y := by simp [ax, hy]
 rw [e]; exact hy
theorem wv {ps : List dm} {j : Nat} {pr y : dm} (h : ps[j]? = some pr) (e : y.q = pr.q) : (ps.set j y).map dm.q = ps.map dm.q := by
 obtain ⟨hj, rfl⟩ := List.getElem?_eq_some_iff.1 h
 rw [List.map_set, e]
 have h2 : (ps.map dm.q)[j]'(by simpa using hj) = ps[j].q := by simp
 rw [← h2]
 exact List.set_getElem_self _
theorem wz {a : SA} {A : Option Addr} {c : Nat} {cs : List Value} {l : List Int} {pw : List (Nat × Int × Int)} {qs : List Loc} {ms : List va} {L0 L1 L2 L3 L4 L5 L6 : List HP} (h : Hp R L M) (b : Nat)
  [p0 : kU b L cs 137 L0] [p1 : cG A L0 Int bB 3 c l L1] [p2 : I9 wb L1 pa p x.w L2] [p3 : bY (cJ .nilFunc) db L2 x.d L3] [p4 : cG a.ap L3 (Nat × Int × Int) ql 141 a.cp pw L4]
  [p5 : fG bK L4 a.lb qs L5] [p6 : cG a.am L5 va lT 143 a.cm ms L6] (hc : cs = dY wb db a x A x.gl.length c) (hg : l = x.gl) (hl : a.lb.length = x.ps.length) (hp : pw = bS a.lb x.ps) (hq : x.ps.map dm.q = qs) (hm : ms = x.ms) : Hp R (az (e8 pa p wb db) b x :: L6) M := by
 subst hc; subst hg; subst hp; subst hq; subst hm
 have h2 : Hp R (pt b (dY wb db a x A x.gl.length c) 137 :: lD A c x.gl :: az (bI pa p) wb x.w :: az (cJ .nilFunc) db x.d :: iU a x L6) M :=
  h.sub (.cons p0.pick (.cons p1.pick (.cons p2.pick (.cons p3.pick (.cons p4.pick (.cons p5.pick (.cons p6.pick .refl)))))))
 exact ia (a := a) hl (yj h2)
theorem HM (h : Hp R L M) [o : qm b L pa p wb db x L'] (h0 : 0 ≤ m) (h1 : m < x.ms.length) (hs : x.ps.length ≤ 1000000)
  (k : ∀ M', Hp R (az (e8 pa p wb db) b (x.hold m).1 :: L') M' → K (K6 (x.hold m).2 none 0) M') : aa Tryz.prog 109 #[.pointer (some ⟨b, 0, none⟩), .int .i64 m] M K Kp := by
 refine rR ?_
 refine aq h ?_
 clear h
 intro k1 M h
 have h' := fx h (b := b)
 clear h
 obtain ⟨a, hl, h⟩ := h'
 have h' := nY h
 clear h
 obtain ⟨A, c, h⟩ := h'
 refine aS h ?_
 unfold Sc.hold at k
 have hprl := kY hl
 refine ⟨fun d vs M => ∃ j : Nat, vs = [.int .i64 (j : Int)] ∧ d = x.ps.length - j ∧ j ≤ x.ps.length ∧ (∀ q pr, q < j → x.ps[q]? = some pr → pr.eV ≠ -1) ∧
   Hp R (pt b (dY wb db a x A x.gl.length c) 137 :: lD A c x.gl :: pt k1 [.int .i64 0, .int .i64 0, .int .i64 0, .slice none 0 0] 43 :: az (bI pa p) wb x.w :: az (cJ .nilFunc) db x.d :: iU a x L') M,
  ⟨_, 0, rfl, rfl, by omega, fun q pr hq => by omega, h.sub bD⟩, ?_⟩
 clear h
 rintro d _ nn M ⟨j, he, hd, hj, hp, h⟩
 simp only [List.cons.injEq, Value.int.injEq, and_true, true_and] at he
 subst he
 refine aM.2 ⟨fun hlt => ?_, fun hge => ?_⟩
 ·obtain ⟨lb, hlb, jE, hrow⟩ := qt (i := (j : Int)) hl (by omega) hlt
  simp only [Int.toNat_natCast] at hlb jE hrow
  obtain ⟨q, hq⟩ := h.bF (A := a.ap) (l := bS a.lb x.ps) (by omega) (by decide)
  have Xj := h.src (A := a.ap)
  rw [hq] at Xj
  refine aS h ⟨by omega, hlt, ?_⟩
  rw [hq]
  refine bp ?_
  refine aZ (Src.at Xj h (i := j) (j := 2) hrow rfl (by show _ = 0 + (j * 3 + 2); simp)) ?_
  refine aR.2 ⟨fun e => ?_, fun e => ?_⟩
  ·have X1 : x.ps.findIdx? (fun pr => pr.eV == -1) = some j := by
    refine List.findIdx?_eq_some_iff_getElem.2 ⟨by omega, ?_, fun q hq => ?_⟩
    ·have := (List.getElem?_eq_some_iff.1 jE).2
     rw [this]; simpa using e
    ·have := hp q _ hq (List.getElem?_eq_getElem (by omega))
     simpa using this
   rw [X1] at k
   dsimp only at k
   clear Xj
   obtain ⟨q2, lO⟩ := h.bF (A := a.am) (l := x.ms) (by omega) (by decide)
   have ea := bN h (b := b) (o := 0 + 5) (v := .slice a.ap x.ps.length a.cp)
   rw [hq] at ea
   refine (show ∀ {G}, G (some ⟨q, 0, none⟩) x.ps.length a.cp → aB (M.ld ⟨b, 0 + 5, none⟩) G from fun g => by rw [ea]; exact be g) ?_
   refine aS h ⟨by omega, hlt, bp ?_⟩
   have hap : a.ap = some ⟨q, 0, none⟩ := hq
   have Je : a.am = some ⟨q2, 0, none⟩ := lO
   obtain ⟨ap, cp, vr, am, cm⟩ := a
   dsimp only at hap Je hrow hlb hl hprl h
   subst hap; subst Je
   refine gK (E := ql) (a' := (lb, (ay x (j : Int)).turns, m)) j 2 h hrow (by decide) rfl (by show _ = j * 3 + 2; simp) ?_
   clear h; intro M h
   refine ⟨h0, h1, bp ?_⟩
   refine gK (E := lT) (a' := { ax x m with p := (j : Int) }) m.toNat 0 h (qu h0 h1) (by decide) rfl (by show _ = m.toNat * 3 + 0; simp) ?_
   clear h; intro M h
   refine qp h ?_
   clear h; intro M h
   refine qq h ?_
   rw [zN (pr := { ay x (j : Int) with eV := m }) hlb] at h
   have e3 := wv (y := { ay x (j : Int) with eV := m }) jE rfl
   exact k _ (Hp.bV (wz (A := A) (c := c) (a := ⟨some ⟨q, 0, none⟩, cp, vr, some ⟨q2, 0, none⟩, cm⟩) (x := (x.bT (j : Int) { ay x (j : Int) with eV := m }).gZ m { ax x m with p := (j : Int) }) h b (by simp [Sc.bT, Sc.gZ, dY]) (by rfl) (by simpa [Sc.bT, Sc.gZ] using hl) (by rfl) (by exact e3) (by rfl)))
  ·refine ⟨x.ps.length - (j + 1), by omega, j + 1, by rw [aV (by omega)], rfl, by omega, fun q' S6 hq' Wm => ?_, h⟩
   rcases Nat.lt_or_ge q' j with h8 | h8
   ·exact hp q' S6 h8 Wm
   ·have : q' = j := by omega
    subst this
    rw [jE] at Wm; cases Wm; exact e
 ·have X1 : x.ps.findIdx? (fun pr => pr.eV == -1) = none := by
   refine List.findIdx?_eq_none_iff.2 fun pr jE => ?_
   obtain ⟨q, hq, e⟩ := List.getElem_of_mem jE
   have := hp q pr (by omega) (by rw [← e]; exact List.getElem?_eq_getElem hq)
   simpa using this
  rw [X1] at k
  dsimp only at k
  refine qp h ?_
  clear h; intro M h
  refine qq h ?_
  refine k _ (ia (a := a) hl ?_)
  have h2 := yj (h.sub (show Sub _ (pt b (dY wb db a x A x.gl.length c) 137 :: lD A c x.gl :: az (bI pa p) wb x.w :: az (cJ .nilFunc) db x.d :: iU a x L') from bD))
  exact h2
theorem zR {bs : List Nat} {ps : List dm} {j : Nat} {pr y : dm} (h : ps[j]? = some pr) (e1 : y.turns = pr.turns) (e2 : y.eV = pr.eV) : bS bs (ps.set j y) = bS bs ps := by
 obtain ⟨hj, rfl⟩ := List.getElem?_eq_some_iff.1 h
 unfold bS
 refine List.ext_getElem (by simp) fun n h1 h2 => ?_
 simp only [List.getElem_zipWith, List.getElem_set]
 split
 ·rename_i he
  subst he
  rw [e1, e2]
 ·rfl
def Sc.own (x : Sc) (i : Int) : Sc × Int × Bool :=
 let r := gf (ay x i).q (ay x i).turns x.gl
 ({ x.bT i { ay x i with q := r.1 } with gl := r.2.1 }, r.2.2.1, r.2.2.2)
theorem K7 {q : Nat} {a : SA} (h : Hp R L M) [o : tD (dQ b wb db a x) L x.gl L'] [o2 : cG (some ⟨q, 0, none⟩) L' (Nat × Int × Int) ql 141 a.cp (bS a.lb x.ps) L2] {L3 : List HP} [o3 : fG bK L2 a.lb (x.ps.map dm.q) L3]
  (hap : a.ap = some ⟨q, 0, none⟩) (hl : a.lb.length = x.ps.length) (h0 : 0 ≤ i) (h1 : i < x.ps.length) (hs : x.gl.length ≤ 1000000) (ht : 0 ≤ (ay x i).turns)
  (k : ∀ M', Hp R (gL (dQ b wb db a x) (x.own i).1.gl :: bZ (some ⟨q, 0, none⟩) a.cp (bS a.lb x.ps) :: bj bK a.lb ((x.own i).1.ps.map dm.q) :: L3) M' → K (.tuple #[.int .i64 (x.own i).2.1, .bool (x.own i).2.2]) M') :
  aa Tryz.prog 150 #[.pointer (some ⟨b, 0, none⟩), .pointer (some ⟨q, i.toNat * 3, none⟩)] M K Kp := by
 refine tu ?_
 obtain ⟨lb, hlb, jE, hrow⟩ := qt (i := i) hl h0 h1
 have h2 : Hp R (gL (dQ b wb db a x) x.gl :: bZ (some ⟨q, 0, none⟩) a.cp (bS a.lb x.ps) :: bj bK a.lb (x.ps.map dm.q) :: L3) M := h.sub (.cons o.pick (.cons o2.pick (.cons o3.pick .refl)))
 clear h
 have h := h2
 clear h2
 have hq : (x.ps.map dm.q)[i.toNat]? = some (ay x i).q := by rw [List.getElem?_map, jE]; rfl
 unfold Sc.own at k
 dsimp only at k
 have zl : ∀ q', (x.bT i { ay x i with q := q' }).ps.map dm.q = (x.ps.map dm.q).set i.toNat q' := fun q' => by simp [Sc.bT, List.map_set]
 simp only [zl] at k
 unfold gf at k
 dsimp only at k
 refine mI (Src.at (Src.row (A := some ⟨q, 0, none⟩) : Src R _ _ (ql.cells (bS a.lb x.ps))) h (i := i.toNat) (j := 0) hrow rfl (by show _ = 0 + (i.toNat * 3 + 0); simp)) ?_
 replace h := h.c6 bK hlb hq
 replace h : Hp R (az bK lb (ay x i).q :: gL (dQ b wb db a x) x.gl :: lM bK a.lb (x.ps.map dm.q) i.toNat :: bZ (some ⟨q, 0, none⟩) a.cp (bS a.lb x.ps) :: L3) M := h.sub bD
 have hbd := wm h (b := lb)
 refine Ht (P := dQ b wb db a x) zM h (by omega) ?_
 clear h; intro M h
 have Xf := OH (q := (ay x i).q) (gl := x.gl)
 refine cE ?_
 generalize htr : (ay x i).q.dO x.gl = r at h k Xf
 obtain ⟨q1, g1, n1⟩ := r
 dsimp only at h k Xf
 have KS : g1.length ≤ 100000000 := by obtain ⟨a1, a2, a3⟩ := hbd; omega
 refine aZ (Src.at (h.src (A := some ⟨q, 0, none⟩)) h (i := i.toNat) (j := 1) hrow rfl (by show _ = 0 + (i.toNat * 3 + 1); omega)) ?_
 refine ⟨by decide, ?_⟩
 have rest : ∀ {M : Mem}, (Hp R (az bK lb q1 :: gL (dQ b wb db a x) g1 :: lM bK a.lb (x.ps.map dm.q) i.toNat :: bZ (some ⟨q, 0, none⟩) a.cp (bS a.lb x.ps) :: L3) M) → ¬ (Int.tmod (ay x i).turns 7 = 6 ∧ 0 < g1.length) →
   cw (Mem.ld M ⟨q, i.toNat * 3, none⟩) fun oX =>
    aa Tryz.prog 149 #[(.pointer oX)] M (fun C1 fz =>
    ∃ iW : Int, ∃ t18 : Bool, (C1 = (.tuple #[(.int .i64 iW), (.bool t18)])) ∧
    aO t18
     (K (.tuple #[(.int .i64 iW), (.bool true)]) fz)
     (cw (Mem.ld fz ⟨q, i.toNat * 3, none⟩) fun DP =>
     aa Tryz.prog 180 #[(.pointer DP), (.pointer (some ⟨b, (0 + 7), none⟩)), (.int .i64 0)] fz (fun v20 oB =>
     ∃ wX : Int, ∃ t23 : Bool, (v20 = (.tuple #[(.int .i64 wX), (.bool t23)])) ∧
     K (.tuple #[(.int .i64 wX), (.bool t23)]) oB) Kp)) Kp := by
  intro M h hno
  rw [if_neg hno] at k
  refine mI (Src.at (h.src (A := some ⟨q, 0, none⟩)) h (i := i.toNat) (j := 0) hrow rfl (by show _ = 0 + (i.toNat * 3 + 0); simp)) ?_
  refine Cf h (b := lb) ?_
  clear h; intro t M S7 S8 h
  refine ⟨_, _, rfl, ?_⟩
  by_cases hh : nZ q1 = true
  ·rw [if_pos hh] at k
   have : t = true := S8 (by unfold nZ at hh; simpa using hh)
   subst this
   refine ae ?_
   replace h := h.dN bK lb hlb (by rw [List.length_map]; omega)
   exact k _ (h.sub bD)
  ·rw [if_neg hh] at k
   have hn : q1.next = -1 ∧ q1.l = [] := by
    unfold nZ at hh
    rw [Bool.or_eq_true] at hh
    constructor
    ·exact Decidable.byContradiction fun e => hh (.inl (by simpa using e))
    ·cases ZK : q1.l with
     | nil => rfl
     | cons _ _ => exact absurd (.inr (by rw [ZK]; rfl)) hh
   have hg : q1.get.2 = -1 := by unfold Loc.get; rw [if_neg (by simpa using hn.1), hn.2]
   have : t = false := S7 hg hn.1 hn.2
   subst this
   refine ai ?_
   refine mI (Src.at (h.src (A := some ⟨q, 0, none⟩)) h (i := i.toNat) (j := 0) hrow rfl (by show _ = 0 + (i.toNat * 3 + 0); simp)) ?_
   replace h : Hp R (az bK lb q1.get.1 :: gL (dQ b wb db a x) g1 :: lM bK a.lb (x.ps.map dm.q) i.toNat :: bZ (some ⟨q, 0, none⟩) a.cp (bS a.lb x.ps) :: L3) M := h.sub bD
   refine E8 (P := dQ b wb db a x) zM h KS (by decide) ?_
   clear h; intro t2 M ht3 ht4 h
   refine ⟨_, _, rfl, ?_⟩
   have ht5 : t2 = !g1.isEmpty := by
    cases g1 with
    | nil => exact ht3 (by unfold Loc.ee; simp) rfl
    | cons _ _ => exact ht4 (by simp)
   subst ht5
   replace h := h.dN bK lb hlb (by rw [List.length_map]; omega)
   exact k _ (h.sub bD)
 refine aR.2 ⟨fun e6 => ?_, fun e6 => ?_⟩
 ·replace h : Hp R (gL (dQ b wb db a x) g1 :: az bK lb q1 :: lM bK a.lb (x.ps.map dm.q) i.toNat :: bZ (some ⟨q, 0, none⟩) a.cp (bS a.lb x.ps) :: L3) M := h.sub bD
  refine qg (P := dQ b wb db a x) (n := 1) zM h (by omega) ?_
  clear h; intro A2 c2 M h
  refine be ?_
  have e1 : (1 : Int).toNat = 1 := rfl
  rw [e1] at h ⊢
  by_cases hg : 0 < g1.length
  ·rw [if_pos ⟨e6, hg⟩] at k
   have hlen : (g1.take 1).length = 1 := by rw [List.length_take]; omega
   rw [hlen]
   refine ae ⟨by omega, by omega, ?_⟩
   obtain ⟨q9, rfl⟩ := h.bF (A := A2) (by omega) (by decide)
   refine bp ?_
   obtain ⟨v, hv⟩ := aP (l := g1) (i := 0) hg
   have Ly : (g1.take 1)[0]? = some v := by rw [List.getElem?_take, if_pos (by omega)]; exact hv
   refine aZ (Src.at (h.src (A := some ⟨q9, 0, none⟩)) h (i := 0) (j := 0) Ly rfl rfl) ?_
   have ZL : g1.headD 0 = v := by
    cases g1 with
    | nil => simp at hg
    | cons w _ => simp at hv; simpa using hv
   rw [ZL] at k
   replace h : Hp R (az bK lb q1 :: lM bK a.lb (x.ps.map dm.q) i.toNat :: gL (dQ b wb db a x) (g1.drop 1) :: bZ (some ⟨q, 0, none⟩) a.cp (bS a.lb x.ps) :: L3) M := h.sub bD
   replace h := h.dN bK lb hlb (by rw [List.length_map]; omega)
   exact k _ (h.sub bD)
  ·have KJ : g1 = [] := List.eq_nil_of_length_eq_zero (by omega)
   subst KJ
   refine ai ?_
   exact rest (h.sub bD) (fun hc => by simp at hc)
 ·exact rest (h.sub bD) (fun hc => e6 hc.1)
end
inductive g6 where
 | ev (e : Ev)
 | cV (l : List PanicEntry)
def Sc.bg (x : Sc) (m i kind g : Int) (ok : Bool) : Sc × Ev :=
 if ok then ((x.bT i { ay x i with turns := (ay x i).turns + 1 }).gZ m ⟨(ax x m).p, g, x.c.S⟩, ⟨kind, m, g, []⟩)
 else ((x.bT i { ay x i with eV := -1 }).gZ m ⟨-1, -1, 0⟩, ⟨6, m, -1, []⟩)
def Sc.find (x : Sc) (m : Int) : Sc × g6 :=
 let i := (ax x m).p
 if 0 < (ax x m).left ∧ (ay x i).q.next ≠ -1 then
  ((x.bT i { ay x i with q := (ay x i).q.get.1 }).gZ m { ax x m with g := (ay x i).q.get.2 }, .ev ⟨4, m, (ay x i).q.get.2, []⟩)
 else
  let y := (x.own i).1
  if (x.own i).2.2 = false ∧ 1 < x.c.P then match y.d.draw 2 x.c.P with
   | (d', .cV l) => ({ y with d := d' }, .cV l)
   | (d', .num v) =>
    let y := { y with d := d' }
    if v = i then ((y.bg m i 5 (-1) false).1, .ev (y.bg m i 5 (-1) false).2)
    else
     let s := (ay y i).q.c9 (ay y v).q
     let z := (y.bT i { ay y i with q := s.1 }).bT v { ay y v with q := s.2.1 }
     ((z.bg m i 5 s.2.2 (fS (ay y v).q s.2.2)).1, .ev (z.bg m i 5 s.2.2 (fS (ay y v).q s.2.2)).2)
  else ((y.bg m i 4 (x.own i).2.1 (x.own i).2.2).1, .ev (y.bg m i 4 (x.own i).2.1 (x.own i).2.2).2)
section
variable {R : Mem} {L L' L2 : List HP} {M : Mem} {K : Value → Mem → Prop} {Kp : List PanicEntry → Mem → Prop} {pa : PA} {p : b6} {b wb db : Nat} {x : Sc} {m i : Int}
theorem wA {lb : Nat} (k : K (.tuple #[.int .i64 (-1), .bool false]) M) : aa Tryz.prog 151 #[.pointer (some ⟨lb, 0, none⟩), .pointer (some ⟨lb, 0, none⟩)] M K Kp := by
 refine jx ?_
 exact ⟨fun _ => ae k, fun hne => absurd rfl hne⟩
theorem qv {y : dm} : (x.bT i y).ps.length = x.ps.length := by simp [Sc.bT]
theorem K8 {a : SA} {q q2 k1 : Nat} {kind g : Int} {t : Bool}
  (h : Hp R (gL (dQ b wb db a x) x.gl :: az (bI pa p) wb x.w :: az (cJ .nilFunc) db x.d :: bZ (some ⟨q, 0, none⟩) a.cp (bS a.lb x.ps) :: bj bK a.lb (x.ps.map dm.q) :: cn (some ⟨q2, 0, none⟩) a.cm x.ms :: pt k1 [.int .i64 0, .int .i64 0, .int .i64 0, .slice none 0 0] 43 :: L') M)
  (hap : a.ap = some ⟨q, 0, none⟩) (Je : a.am = some ⟨q2, 0, none⟩) (hl : a.lb.length = x.ps.length) (m0 : 0 ≤ m) (m1 : m < x.ms.length) (i0 : 0 ≤ i) (i1 : i < x.ps.length) (ht : 0 ≤ (ay x i).turns ∧ (ay x i).turns < 1000000000)
  (k : ∀ M', Hp R (az (e8 pa p wb db) b (x.bg m i kind g t).1 :: L') M' → K (K6 (x.bg m i kind g t).2 none 0) M') :
  aO (!t)
   (aB (Mem.ld M ⟨b, (0 + 6), none⟩) fun QB Kn y7 =>
   aK M ⟨q, ((i.toNat * 3) + 2), none⟩ (.int .i64 (-1)) fun Nw =>
   ((0 : Int) ≤ m) ∧
   ((m : Int) < ((Kn : Nat) : Int)) ∧
   aF QB fun LI ND =>
   aK Nw ⟨LI, (ND + ((Int.toNat m) * 3)), none⟩ (.int .i64 (-1)) fun IM =>
   aK IM ⟨LI, ((ND + ((Int.toNat m) * 3)) + 1), none⟩ (.int .i64 (-1)) fun DS =>
   aK DS ⟨LI, ((ND + ((Int.toNat m) * 3)) + 2), none⟩ (.int .i64 0) fun EI =>
   aK EI ⟨k1, 0, none⟩ (.int .i64 6) fun YC =>
   aK YC ⟨k1, (0 + 1), none⟩ (.int .i64 m) fun lu =>
   aK lu ⟨k1, (0 + 2), none⟩ (.int .i64 (-1)) fun YD =>
   aK YD ⟨k1, (0 + 3), none⟩ (.slice none 0 0) fun EO =>
   aJ (Mem.ld EO ⟨k1, 0, none⟩) .i64 fun MZ =>
   aJ (Mem.ld EO ⟨k1, (0 + 1), none⟩) .i64 fun GB =>
   aJ (Mem.ld EO ⟨k1, (0 + 2), none⟩) .i64 fun FR =>
   aB (Mem.ld EO ⟨k1, (0 + 3), none⟩) fun YE YF Xd =>
   K (.agg #[(.int .i64 MZ), (.int .i64 GB), (.int .i64 FR), (.slice YE YF Xd)]) EO)
   (aJ (Mem.ld M ⟨q, ((i.toNat * 3) + 1), none⟩) .i64 fun qS =>
   aK M ⟨q, ((i.toNat * 3) + 1), none⟩ (.int .i64 (IntKind.wrap .i64 (qS + 1))) fun ji =>
   aB (Mem.ld ji ⟨b, (0 + 6), none⟩) fun za m5 EP =>
   aB (Mem.ld ji ⟨b, (0 + 6), none⟩) fun Dd xE Ku =>
   aJ (Mem.ld ji ⟨b, ((0 + 1) + 3), none⟩) .i64 fun Da =>
   ((0 : Int) ≤ m) ∧
   ((m : Int) < ((m5 : Nat) : Int)) ∧
   aF za fun GS Kv =>
   aK ji ⟨GS, ((Kv + ((Int.toNat m) * 3)) + 1), none⟩ (.int .i64 g) fun nQ =>
   ((0 : Int) ≤ m) ∧
   ((m : Int) < ((xE : Nat) : Int)) ∧
   aF Dd fun NF GU =>
   aK nQ ⟨NF, ((GU + ((Int.toNat m) * 3)) + 2), none⟩ (.int .i64 Da) fun AZ =>
   aK AZ ⟨k1, 0, none⟩ (.int .i64 kind) fun GV =>
   aK GV ⟨k1, (0 + 1), none⟩ (.int .i64 m) fun xG =>
   aK xG ⟨k1, (0 + 2), none⟩ (.int .i64 g) fun GQ =>
   aK GQ ⟨k1, (0 + 3), none⟩ (.slice none 0 0) fun nO =>
   aJ (Mem.ld nO ⟨k1, 0, none⟩) .i64 fun NG =>
   aJ (Mem.ld nO ⟨k1, (0 + 1), none⟩) .i64 fun y8 =>
   aJ (Mem.ld nO ⟨k1, (0 + 2), none⟩) .i64 fun y9 =>
   aB (Mem.ld nO ⟨k1, (0 + 3), none⟩) fun NH GW GR =>
   K (.agg #[(.int .i64 NG), (.int .i64 y8), (.int .i64 y9), (.slice NH GW GR)]) nO) := by
 obtain ⟨lb, hlb, jE, hrow⟩ := qt (i := i) hl i0 i1
 have jF := qu m0 m1
 have m2 : m.toNat < x.ms.length := by omega
 obtain ⟨ap, cp, vr, am, cm⟩ := a
 dsimp only at hap Je hl hlb hrow h
 subst hap; subst Je
 obtain ⟨A, c, h2⟩ := nY h
 clear h
 have h := h2
 clear h2
 unfold Sc.bg at k
 cases t with
 | false =>
  simp only [Bool.false_eq_true, if_false] at k
  refine ae ?_
  refine aS h ?_
  refine gK (E := ql) (a' := (lb, (ay x i).turns, -1)) i.toNat 2 h hrow (by decide) rfl rfl ?_
  clear h; intro M h
  refine ⟨m0, m1, bp ?_⟩
  refine gK (E := lT) (a' := ⟨-1, (ax x m).g, (ax x m).left⟩) m.toNat 0 h jF (by decide) rfl (by show _ = m.toNat * 3 + 0; omega) ?_
  clear h; intro M h
  refine gK (E := lT) (a := ⟨-1, (ax x m).g, (ax x m).left⟩) (a' := ⟨-1, -1, (ax x m).left⟩) m.toNat 1 h (by simp [m2]) (by decide) rfl (by show _ = m.toNat * 3 + 1; omega) ?_
  clear h; intro M h
  refine gK (E := lT) (a := ⟨-1, -1, (ax x m).left⟩) (a' := ⟨-1, -1, 0⟩) m.toNat 2 h (by simp [m2]) (by decide) rfl (by show _ = m.toNat * 3 + 2; omega) ?_
  clear h; intro M h
  rw [iO, iO, zN (pr := { ay x i with eV := -1 }) hlb] at h
  refine qp h ?_
  clear h; intro M h
  refine qq h ?_
  have e3 := wv (y := { ay x i with eV := -1 }) jE rfl
  exact k _ (Hp.bV (wz (A := A) (c := c) (a := ⟨some ⟨q, 0, none⟩, cp, vr, some ⟨q2, 0, none⟩, cm⟩) (x := (x.bT i { ay x i with eV := -1 }).gZ m ⟨-1, -1, 0⟩) h b (by simp [Sc.bT, Sc.gZ, dY]) (by rfl) (by simpa [Sc.bT, Sc.gZ] using hl) (by rfl) (by exact e3) (by rfl)))
 | true =>
  simp only [if_true] at k
  refine ai ?_
  refine aZ (Src.at (h.src (A := some ⟨q, 0, none⟩)) h (i := i.toNat) (j := 1) hrow rfl (by show _ = 0 + (i.toNat * 3 + 1); omega)) ?_
  rw [jk ht.1 (by omega)]
  refine gK (E := ql) (a' := (lb, (ay x i).turns + 1, (ay x i).eV)) i.toNat 1 h hrow (by decide) rfl rfl ?_
  clear h; intro M h
  refine aS h (aS h (aH h ⟨m0, m1, bp ?_⟩))
  refine gK (E := lT) (a' := ⟨(ax x m).p, g, (ax x m).left⟩) m.toNat 1 h jF (by decide) rfl (by show _ = m.toNat * 3 + 1; omega) ?_
  clear h; intro M h
  refine ⟨m0, m1, bp ?_⟩
  refine gK (E := lT) (a := ⟨(ax x m).p, g, (ax x m).left⟩) (a' := ⟨(ax x m).p, g, x.c.S⟩) m.toNat 2 h (by simp [m2]) (by decide) rfl (by show _ = m.toNat * 3 + 2; omega) ?_
  clear h; intro M h
  rw [iO, zN (pr := { ay x i with turns := (ay x i).turns + 1 }) hlb] at h
  refine qp h ?_
  clear h; intro M h
  refine qq h ?_
  have e3 := wv (y := { ay x i with turns := (ay x i).turns + 1 }) jE rfl
  exact k _ (Hp.bV (wz (A := A) (c := c) (a := ⟨some ⟨q, 0, none⟩, cp, vr, some ⟨q2, 0, none⟩, cm⟩) (x := (x.bT i { ay x i with turns := (ay x i).turns + 1 }).gZ m ⟨(ax x m).p, g, x.c.S⟩) h b (by simp [Sc.bT, Sc.gZ, dY]) (by rfl) (by simpa [Sc.bT, Sc.gZ] using hl) (by rfl) (by exact e3) (by rfl)))
def wB (x : Sc) (m : Int) : Prop := 0 ≤ m ∧ m < x.ms.length ∧ 0 ≤ (ax x m).p ∧ (ax x m).p < x.ps.length ∧ x.gl.length ≤ 1000000 ∧ 0 ≤ (ay x (ax x m).p).turns ∧ (ay x (ax x m).p).turns < 1000000000 ∧ x.d.taken.length < 100000000 ∧ x.c.P ≤ x.ps.length ∧ x.c.P < 1000000
instance (x : Sc) (m : Int) : Decidable (wB x m) := by unfold wB; infer_instance
theorem K9 {j : Int} (h0 : 0 ≤ i) (hi : i < x.ps.length) (hj : 0 ≤ j) : (ay (x.own i).1 j).turns = (ay x j).turns := by
 unfold Sc.own Sc.bT ay
 dsimp only
 by_cases e : i.toNat = j.toNat
 ·rw [e]
  rw [List.getD_eq_getElem?_getD, List.getElem?_set_self (by omega)]; rfl
 ·rw [List.getD_eq_getElem?_getD, List.getElem?_set_ne e, ← List.getD_eq_getElem?_getD]
end
section
variable {R : Mem} {L L' L2 : List HP} {M : Mem} {K : Value → Mem → Prop} {Kp : List PanicEntry → Mem → Prop} {pa : PA} {p : b6} {b wb db : Nat} {x : Sc} {m i : Int} {a : SA} {g : List Int}
theorem OI (h : Hp R (gL (dQ b wb db a x) g :: L) M) : M.ld ⟨b, 0 + 5, none⟩ = some (.slice a.ap x.ps.length a.cp) := by
 obtain ⟨A, c, h9⟩ := jr (P := dQ b wb db a x) h; exact bN h9
theorem zS (h : Hp R (gL (dQ b wb db a x) g :: L) M) : M.ld ⟨b, 0 + 6, none⟩ = some (.slice a.am x.ms.length a.cm) := by
 obtain ⟨A, c, h9⟩ := jr (P := dQ b wb db a x) h; exact bN h9
theorem sc_P (h : Hp R (gL (dQ b wb db a x) g :: L) M) : M.ld ⟨b, 0 + 1, none⟩ = some (.int .i64 x.c.P) := by
 obtain ⟨A, c, h9⟩ := jr (P := dQ b wb db a x) h; exact bN h9
theorem ZM (h : Hp R (gL (dQ b wb db a x) g :: L) M) : M.ld ⟨b, (0 + 1) + 1, none⟩ = some (.int .i64 x.c.M) := by
 obtain ⟨A, c, h9⟩ := jr (P := dQ b wb db a x) h; exact bN h9
theorem Wn (h : Hp R (gL (dQ b wb db a x) g :: L) M) : M.ld ⟨b, 0 + 8, none⟩ = some (.pointer (some ⟨db, 0, none⟩)) := by
 obtain ⟨A, c, h9⟩ := jr (P := dQ b wb db a x) h; exact bN h9
theorem ZN (h : Hp R (gL (dQ b wb db a x) g :: L) M) : M.ld ⟨b, 0, none⟩ = some (.pointer (some ⟨wb, 0, none⟩)) := by
 obtain ⟨A, c, h9⟩ := jr (P := dQ b wb db a x) h; exact bN h9
theorem Rx : dQ b wb db a (x.own i).1 = dQ b wb db a x := by
 unfold Sc.own dQ dY Sc.bT; simp
def Rdy (R : Mem) (pa : PA) (p : b6) (b wb db : Nat) (a : SA) (L' : List HP) (K : Value → Mem → Prop) (m i : Int) (q q2 k1 : Nat) (z : Sc) (kind g : Int) (t : Bool) (M : Mem) : Prop :=
 Hp R (gL (dQ b wb db a z) z.gl :: az (bI pa p) wb z.w :: az (cJ .nilFunc) db z.d :: bZ (some ⟨q, 0, none⟩) a.cp (bS a.lb z.ps) :: bj bK a.lb (z.ps.map dm.q) :: cn (some ⟨q2, 0, none⟩) a.cm z.ms :: pt k1 [.int .i64 0, .int .i64 0, .int .i64 0, .slice none 0 0] 43 :: L') M ∧
 a.lb.length = z.ps.length ∧ m < z.ms.length ∧ i < z.ps.length ∧ (0 ≤ (ay z i).turns ∧ (ay z i).turns < 1000000000) ∧
 (∀ M', Hp R (az (e8 pa p wb db) b (z.bg m i kind g t).1 :: L') M' → K (K6 (z.bg m i kind g t).2 none 0) M')
theorem Fo {y : dm} {j : Int} (hi : 0 ≤ i) (h1 : i < x.ps.length) (hj : 0 ≤ j) : ay (x.bT i y) j = if i = j then y else ay x j := by
 unfold ay Sc.bT
 dsimp only
 by_cases e : i = j
 ·subst e
  rw [if_pos rfl, List.getD_eq_getElem?_getD, List.getElem?_set_self (by omega)]; rfl
 ·rw [if_neg e, List.getD_eq_getElem?_getD, List.getElem?_set_ne (by omega), ← List.getD_eq_getElem?_getD]
theorem Cl {q q2 k1 : Nat}
  (h : Hp R (gL (dQ b wb db a x) x.gl :: az (bI pa p) wb x.w :: az (cJ .nilFunc) db x.d :: bZ (some ⟨q, 0, none⟩) a.cp (bS a.lb x.ps) :: bj bK a.lb (x.ps.map dm.q) :: cn (some ⟨q2, 0, none⟩) a.cm x.ms :: pt k1 [.int .i64 0, .int .i64 0, .int .i64 0, .slice none 0 0] 43 :: L') M)
  (hap : a.ap = some ⟨q, 0, none⟩) (Je : a.am = some ⟨q2, 0, none⟩) (hl : a.lb.length = x.ps.length) (hk : wB x m) (hi : i = (ax x m).p) (hd : x.d.Ok)
  (k : let y := (x.own i).1
   if (x.own i).2.2 = false ∧ 1 < x.c.P then match y.d.draw 2 x.c.P with
    | (d', .cV l) => ∀ M', Hp R (az (e8 pa p wb db) b { y with d := d' } :: L') M' → Kp l M'
    | (d', .num v) =>
     let y := { y with d := d' }
     let s := (ay y i).q.c9 (ay y v).q
     let z := if v = i then y else (y.bT i { ay y i with q := s.1 }).bT v { ay y v with q := s.2.1 }
     let r := if v = i then (-1, false) else (s.2.2, fS (ay y v).q s.2.2)
     ∀ M', Hp R (az (e8 pa p wb db) b (z.bg m i 5 r.1 r.2).1 :: L') M' → K (K6 (z.bg m i 5 r.1 r.2).2 none 0) M'
   else ∀ M', Hp R (az (e8 pa p wb db) b (y.bg m i 4 (x.own i).2.1 (x.own i).2.2).1 :: L') M' → K (K6 (y.bg m i 4 (x.own i).2.1 (x.own i).2.2).2 none 0) M') :
  aa Tryz.prog 150 #[(.pointer (some ⟨b, 0, none⟩)), (.pointer (some ⟨q, (i.toNat * 3), none⟩))] M (fun NB vX =>
 ∃ IL : Int, ∃ t57 : Bool, (NB = (.tuple #[(.int .i64 IL), (.bool t57)])) ∧
 aO (!t57)
  (aJ (Mem.ld vX ⟨b, (0 + 1), none⟩) .i64 fun FP =>
  ∃ Uw : List Value → Mem → Prop, (aO (decide ((FP : Int) > 1))
   (cw (Mem.ld vX ⟨b, (0 + 8), none⟩) fun A60 =>
    aJ (Mem.ld vX ⟨b, (0 + 1), none⟩) .i64 fun Kf =>
    aa Tryz.prog 107 #[(.pointer A60), (.int .i64 2), (.int .i64 Kf)] vX (fun T4 CY =>
    aJ (some T4) .i64 fun n64 =>
    cw (Mem.ld CY ⟨q, (i.toNat * 3), none⟩) fun QH =>
    aB (Mem.ld CY ⟨b, (0 + 5), none⟩) fun NC vp DR =>
    ((0 : Int) ≤ n64) ∧
    ((n64 : Int) < ((vp : Nat) : Int)) ∧
    aF NC fun YA EH =>
    cw (Mem.ld CY ⟨YA, (EH + ((Int.toNat n64) * 3)), none⟩) fun Ui =>
    aa Tryz.prog 151 #[(.pointer QH), (.pointer Ui)] CY (fun YB AD =>
    ∃ QI : Int, ∃ t75 : Bool, (YB = (.tuple #[(.int .i64 QI), (.bool t75)])) ∧
    Uw [(.int .i64 5), (.int .i64 QI), (.bool t75)] AD) Kp) Kp)
   (Uw [(.int .i64 4), (.int .i64 IL), (.bool t57)] vX)) ∧
  ∀ Ux : Nat → Value, ∀ EB : Int, ∀ EN : Int, ∀ t79 : Bool, ∀ xD : Mem, (Uw [(.int .i64 EB), (.int .i64 EN), (.bool t79)] xD) → aO (!t79)
   (aB (Mem.ld xD ⟨b, (0 + 6), none⟩) fun QB Kn y7 =>
   aK xD ⟨q, ((i.toNat * 3) + 2), none⟩ (.int .i64 (-1)) fun Nw =>
   ((0 : Int) ≤ m) ∧
   ((m : Int) < ((Kn : Nat) : Int)) ∧
   aF QB fun LI ND =>
   aK Nw ⟨LI, (ND + ((Int.toNat m) * 3)), none⟩ (.int .i64 (-1)) fun IM =>
   aK IM ⟨LI, ((ND + ((Int.toNat m) * 3)) + 1), none⟩ (.int .i64 (-1)) fun DS =>
   aK DS ⟨LI, ((ND + ((Int.toNat m) * 3)) + 2), none⟩ (.int .i64 0) fun EI =>
   aK EI ⟨k1, 0, none⟩ (.int .i64 6) fun YC =>
   aK YC ⟨k1, (0 + 1), none⟩ (.int .i64 m) fun lu =>
   aK lu ⟨k1, (0 + 2), none⟩ (.int .i64 (-1)) fun YD =>
   aK YD ⟨k1, (0 + 3), none⟩ (.slice none 0 0) fun EO =>
   aJ (Mem.ld EO ⟨k1, 0, none⟩) .i64 fun MZ =>
   aJ (Mem.ld EO ⟨k1, (0 + 1), none⟩) .i64 fun GB =>
   aJ (Mem.ld EO ⟨k1, (0 + 2), none⟩) .i64 fun FR =>
   aB (Mem.ld EO ⟨k1, (0 + 3), none⟩) fun YE YF Xd =>
   K (.agg #[(.int .i64 MZ), (.int .i64 GB), (.int .i64 FR), (.slice YE YF Xd)]) EO)
   (aJ (Mem.ld xD ⟨q, ((i.toNat * 3) + 1), none⟩) .i64 fun qS =>
   aK xD ⟨q, ((i.toNat * 3) + 1), none⟩ (.int .i64 (IntKind.wrap .i64 (qS + 1))) fun ji =>
   aB (Mem.ld ji ⟨b, (0 + 6), none⟩) fun za m5 EP =>
   aB (Mem.ld ji ⟨b, (0 + 6), none⟩) fun Dd xE Ku =>
   aJ (Mem.ld ji ⟨b, ((0 + 1) + 3), none⟩) .i64 fun Da =>
   ((0 : Int) ≤ m) ∧
   ((m : Int) < ((m5 : Nat) : Int)) ∧
   aF za fun GS Kv =>
   aK ji ⟨GS, ((Kv + ((Int.toNat m) * 3)) + 1), none⟩ (.int .i64 EN) fun nQ =>
   ((0 : Int) ≤ m) ∧
   ((m : Int) < ((xE : Nat) : Int)) ∧
   aF Dd fun NF GU =>
   aK nQ ⟨NF, ((GU + ((Int.toNat m) * 3)) + 2), none⟩ (.int .i64 Da) fun AZ =>
   aK AZ ⟨k1, 0, none⟩ (.int .i64 EB) fun GV =>
   aK GV ⟨k1, (0 + 1), none⟩ (.int .i64 m) fun xG =>
   aK xG ⟨k1, (0 + 2), none⟩ (.int .i64 EN) fun GQ =>
   aK GQ ⟨k1, (0 + 3), none⟩ (.slice none 0 0) fun nO =>
   aJ (Mem.ld nO ⟨k1, 0, none⟩) .i64 fun NG =>
   aJ (Mem.ld nO ⟨k1, (0 + 1), none⟩) .i64 fun y8 =>
   aJ (Mem.ld nO ⟨k1, (0 + 2), none⟩) .i64 fun y9 =>
   aB (Mem.ld nO ⟨k1, (0 + 3), none⟩) fun NH GW GR =>
   K (.agg #[(.int .i64 NG), (.int .i64 y8), (.int .i64 y9), (.slice NH GW GR)]) nO))
  (∃ NI : List Value → Mem → Prop, (NI [(.int .i64 4), (.int .i64 IL), (.bool t57)] vX) ∧
  ∀ QL : Nat → Value, ∀ De : Int, ∀ xH : Int, ∀ t129 : Bool, ∀ rV : Mem, (NI [(.int .i64 De), (.int .i64 xH), (.bool t129)] rV) → aO (!t129)
   (aB (Mem.ld rV ⟨b, (0 + 6), none⟩) fun EK EL Ks =>
   aK rV ⟨q, ((i.toNat * 3) + 2), none⟩ (.int .i64 (-1)) fun Ny =>
   ((0 : Int) ≤ m) ∧
   ((m : Int) < ((EL : Nat) : Int)) ∧
   aF EK fun Ba rX =>
   aK Ny ⟨Ba, (rX + ((Int.toNat m) * 3)), none⟩ (.int .i64 (-1)) fun Kt =>
   aK Kt ⟨Ba, ((rX + ((Int.toNat m) * 3)) + 1), none⟩ (.int .i64 (-1)) fun Uy =>
   aK Uy ⟨Ba, ((rX + ((Int.toNat m) * 3)) + 2), none⟩ (.int .i64 0) fun Dc =>
   aK Dc ⟨k1, 0, none⟩ (.int .i64 6) fun Uz =>
   aK Uz ⟨k1, (0 + 1), none⟩ (.int .i64 m) fun Kw =>
   aK Kw ⟨k1, (0 + 2), none⟩ (.int .i64 (-1)) fun NJ =>
   aK NJ ⟨k1, (0 + 3), none⟩ (.slice none 0 0) fun zb =>
   aJ (Mem.ld zb ⟨k1, 0, none⟩) .i64 fun NK =>
   aJ (Mem.ld zb ⟨k1, (0 + 1), none⟩) .i64 fun NL =>
   aJ (Mem.ld zb ⟨k1, (0 + 2), none⟩) .i64 fun NM =>
   aB (Mem.ld zb ⟨k1, (0 + 3), none⟩) fun UA NN UB =>
   K (.agg #[(.int .i64 NK), (.int .i64 NL), (.int .i64 NM), (.slice UA NN UB)]) zb)
   (aJ (Mem.ld rV ⟨q, ((i.toNat * 3) + 1), none⟩) .i64 fun Nz =>
   aK rV ⟨q, ((i.toNat * 3) + 1), none⟩ (.int .i64 (IntKind.wrap .i64 (Nz + 1))) fun zc =>
   aB (Mem.ld zc ⟨b, (0 + 6), none⟩) fun NO NP NA =>
   aB (Mem.ld zc ⟨b, (0 + 6), none⟩) fun UC UD UE =>
   aJ (Mem.ld zc ⟨b, ((0 + 1) + 3), none⟩) .i64 fun UF =>
   ((0 : Int) ≤ m) ∧
   ((m : Int) < ((NP : Nat) : Int)) ∧
   aF NO fun UG UH =>
   aK zc ⟨UG, ((UH + ((Int.toNat m) * 3)) + 1), none⟩ (.int .i64 xH) fun vY =>
   ((0 : Int) ≤ m) ∧
   ((m : Int) < ((UD : Nat) : Int)) ∧
   aF UC fun NQ NR =>
   aK vY ⟨NQ, ((NR + ((Int.toNat m) * 3)) + 2), none⟩ (.int .i64 UF) fun NS =>
   aK NS ⟨k1, 0, none⟩ (.int .i64 De) fun NT =>
   aK NT ⟨k1, (0 + 1), none⟩ (.int .i64 m) fun NU =>
   aK NU ⟨k1, (0 + 2), none⟩ (.int .i64 xH) fun Kx =>
   aK Kx ⟨k1, (0 + 3), none⟩ (.slice none 0 0) fun zd =>
   aJ (Mem.ld zd ⟨k1, 0, none⟩) .i64 fun NV =>
   aJ (Mem.ld zd ⟨k1, (0 + 1), none⟩) .i64 fun NW =>
   aJ (Mem.ld zd ⟨k1, (0 + 2), none⟩) .i64 fun NX =>
   aB (Mem.ld zd ⟨k1, (0 + 3), none⟩) fun UI Ky UJ =>
   K (.agg #[(.int .i64 NV), (.int .i64 NW), (.int .i64 NX), (.slice UI Ky UJ)]) zd))) Kp := by
 obtain ⟨m0, m1, i0, i1, Xm, ht0, S7, Ry, hP, hP2⟩ := hk
 rw [← hi] at i0 i1 ht0 S7
 have go : ∀ (z : Sc) (kind g : Int) (t : Bool) (M : Mem), Rdy R pa p b wb db a L' K m i q q2 k1 z kind g t M → _ := fun z kind g t M ⟨h, a1, a2, a3, a4, a5⟩ => K8 h hap Je a1 m0 a2 i0 a3 a4 a5
 refine K7 (i := i) (q := q) (a := a) (x := x) (b := b) (wb := wb) (db := db) h hap hl i0 i1 Xm ht0 ?_
 clear h; intro M h
 refine ⟨_, _, rfl, ?_⟩
 dsimp only at k
 have ey : dQ b wb db a (x.own i).1 = dQ b wb db a x := Rx
 have ep : bS a.lb (x.own i).1.ps = bS a.lb x.ps := by
  obtain ⟨lb, hlb, jE, hrow⟩ := qt (i := i) hl i0 i1
  exact zR jE rfl rfl
 have el : (x.own i).1.ps.length = x.ps.length := by simp [Sc.own, Sc.bT]
 have et : ∀ j, 0 ≤ j → (ay (x.own i).1 j).turns = (ay x j).turns := fun j hj => K9 i0 i1 hj
 have em : (x.own i).1.ms = x.ms := rfl
 have ew : (x.own i).1.w = x.w := rfl
 have ed : (x.own i).1.d = x.d := rfl
 rw [← ey, ← ep] at h
 have hR : Hp R (gL (dQ b wb db a (x.own i).1) (x.own i).1.gl :: az (bI pa p) wb (x.own i).1.w :: az (cJ .nilFunc) db (x.own i).1.d :: bZ (some ⟨q, 0, none⟩) a.cp (bS a.lb (x.own i).1.ps) :: bj bK a.lb ((x.own i).1.ps.map dm.q) :: cn (some ⟨q2, 0, none⟩) a.cm (x.own i).1.ms :: pt k1 [.int .i64 0, .int .i64 0, .int .i64 0, .slice none 0 0] 43 :: L') M := h.sub bD
 clear h
 have h := hR
 clear hR
 have ec : (x.own i).1.c = x.c := rfl
 generalize hy : x.own i = r at h k ey ep el et em ew ed ec
 obtain ⟨y, v1, t1⟩ := r
 dsimp only at h k ey ep el et em ew ed ec ⊢
 have PR := et i i0
 have S9 : ∀ M, Hp R (gL (dQ b wb db a y) y.gl :: az (bI pa p) wb y.w :: az (cJ .nilFunc) db y.d :: bZ (some ⟨q, 0, none⟩) a.cp (bS a.lb y.ps) :: bj bK a.lb (y.ps.map dm.q) :: cn (some ⟨q2, 0, none⟩) a.cm y.ms :: pt k1 [.int .i64 0, .int .i64 0, .int .i64 0, .slice none 0 0] 43 :: L') M → ¬ (t1 = false ∧ 1 < x.c.P) → Rdy R pa p b wb db a L' K m i q q2 k1 y 4 v1 t1 M := by
  intro M h hno
  rw [if_neg hno] at k
  exact ⟨h, by omega, by rw [em]; exact m1, by omega, by omega, k⟩
 cases t1 with
 | true =>
  refine ai ?_
  refine ⟨fun vs M => ∃ (z : Sc) (kind g : Int) (t : Bool), vs = [.int .i64 kind, .int .i64 g, .bool t] ∧ Rdy R pa p b wb db a L' K m i q q2 k1 z kind g t M, ⟨y, 4, v1, true, rfl, S9 M h (fun hc => by cases hc.1)⟩, ?_⟩
  clear h
  rintro _ n1 n2 t3 M ⟨z, kind, g, t, he, hz⟩
  simp only [List.cons.injEq, Value.int.injEq, Value.bool.injEq, and_true, true_and] at he
  obtain ⟨rfl, rfl, rfl⟩ := he
  exact go z n1 n2 t3 M hz
 | false =>
  refine ae ?_
  rw [sc_P h]
  refine cE ?_
  refine ⟨fun vs M => ∃ (z : Sc) (kind g : Int) (t : Bool), vs = [.int .i64 kind, .int .i64 g, .bool t] ∧ Rdy R pa p b wb db a L' K m i q q2 k1 z kind g t M, ?_, ?_⟩
  ·rw [ec]
   refine aM.2 ⟨fun hgt => ?_, fun hle => ?_⟩
   ·rw [if_pos ⟨rfl, hgt⟩] at k
    rw [Wn h]
    refine ju ?_
    refine cE ?_
    rw [ed] at k h
    replace h : Hp R (az (cJ .nilFunc) db x.d :: gL (dQ b wb db a y) y.gl :: az (bI pa p) wb y.w :: bZ (some ⟨q, 0, none⟩) a.cp (bS a.lb y.ps) :: bj bK a.lb (y.ps.map dm.q) :: cn (some ⟨q2, 0, none⟩) a.cm y.ms :: pt k1 [.int .i64 0, .int .i64 0, .int .i64 0, .slice none 0 0] 43 :: L') M := h.sub bD
    refine qk h hd (by omega) Ry ?_
    clear h
    have HK := fun k' v => zL (k := x.d.k) (kind := 2) hd.1 (zJ x.c.P) (k' := k') (v := v)
    have Bm : ∀ v, (x.d.draw 2 x.c.P).2 = .num v → 0 ≤ v ∧ v < x.c.P := by
     intro v hv
     unfold jB.draw at hv
     split at hv
     ·rename_i k' v' hn
      cases hv
      have := HK k' _ hn
      have e : gY x.c.P = x.c.P := by unfold gY; rw [if_neg (by omega)]
      rw [e] at this
      exact this
     ·cases hv
    generalize jO : x.d.draw 2 x.c.P = dd at k Bm
    obtain ⟨d', o⟩ := dd
    cases o with
    | cV l =>
     dsimp only at k Bm ⊢
     intro M h
     have hsc : dQ b wb db a y = dQ b wb db a { y with d := d' } := rfl
     rw [hsc] at h
     have h9 : Hp R (gL (dQ b wb db a { y with d := d' }) y.gl :: az (bI pa p) wb y.w :: az (cJ .nilFunc) db d' :: bZ a.ap a.cp (bS a.lb y.ps) :: bj bK a.lb (y.ps.map dm.q) :: cn a.am a.cm y.ms :: pt k1 [.int .i64 0, .int .i64 0, .int .i64 0, .slice none 0 0] 43 :: L') M := by
      rw [show bZ a.ap a.cp (bS a.lb y.ps) = bZ (some ⟨q, 0, none⟩) a.cp (bS a.lb y.ps) from by rw [hap], show cn a.am a.cm y.ms = cn (some ⟨q2, 0, none⟩) a.cm y.ms from by rw [Je]]
      exact h.sub bD
     exact k M (Hp.bV (ia (a := a) (x := { y with d := d' }) (by rw [el]; exact hl) h9))
    | num v =>
     dsimp only at k Bm ⊢
     obtain ⟨v0, v1'⟩ := Bm v rfl
     intro M h
     refine cE ?_
     have hsc : dQ b wb db a y = dQ b wb db a { y with d := d' } := rfl
     rw [hsc] at h
     generalize hyz : ({ y with d := d' } : Sc) = y2 at h k
     have p1 : y2.ps = y.ps := by rw [← hyz]
     have p2 : y2.ms = y.ms := by rw [← hyz]
     have p3 : y2.gl = y.gl := by rw [← hyz]
     have p4 : y2.w = y.w := by rw [← hyz]
     have p5 : y2.d = d' := by rw [← hyz]
     rw [← p1, ← p2, ← p3, ← p4, ← p5] at h
     replace h : Hp R (gL (dQ b wb db a y2) y2.gl :: az (bI pa p) wb y2.w :: az (cJ .nilFunc) db y2.d :: bZ (some ⟨q, 0, none⟩) a.cp (bS a.lb y2.ps) :: bj bK a.lb (y2.ps.map dm.q) :: cn (some ⟨q2, 0, none⟩) a.cm y2.ms :: pt k1 [.int .i64 0, .int .i64 0, .int .i64 0, .slice none 0 0] 43 :: L') M := h.sub bD
     have kW : a.lb.length = y2.ps.length := by rw [p1, el]; exact hl
     have KB : i < y2.ps.length := by rw [p1, el]; exact i1
     have Ly : v < y2.ps.length := by rw [p1, el]; omega
     have Rv : m < y2.ms.length := by rw [p2, em]; exact m1
     have S8 : ∀ j, ay y2 j = ay y j := fun j => by unfold ay; rw [p1]
     obtain ⟨lbi, ZO, ZP, ZQ⟩ := qt (i := i) kW i0 KB
     obtain ⟨lbv, Wo, HN, ZR⟩ := qt (i := v) kW v0 Ly
     refine mI (Src.at (Src.row (A := some ⟨q, 0, none⟩) : Src R _ _ (ql.cells (bS a.lb y2.ps))) h (i := i.toNat) (j := 0) ZQ rfl (by show _ = 0 + (i.toNat * 3 + 0); simp)) ?_
     rw [OI h]
     refine be ⟨v0, Ly, ?_⟩
     rw [hap]
     refine bp ?_
     rw [Nat.zero_add]
     refine mI (Src.at (Src.row (A := some ⟨q, 0, none⟩) : Src R _ _ (ql.cells (bS a.lb y2.ps))) h (i := v.toNat) (j := 0) ZR rfl (by show _ = 0 + (v.toNat * 3 + 0); simp)) ?_
     by_cases ZS : v = i
     ·subst ZS
      rw [ZO] at Wo
      cases Wo
      refine wA ?_
      refine ⟨_, _, rfl, ?_⟩
      simp only [if_true] at k
      exact ⟨y2, 5, -1, false, rfl, h, kW, Rv, KB, by rw [S8]; omega, k⟩
     ·simp only [if_neg ZS] at k
      have Ta : (y2.ps.map dm.q)[i.toNat]? = some (ay y2 i).q := by rw [List.getElem?_map, ZP]; rfl
      have hqv : (y2.ps.map dm.q)[v.toNat]? = some (ay y2 v).q := by rw [List.getElem?_map, HN]; rfl
      obtain ⟨X, hX, Cm⟩ := h.N6 bK (i := i.toNat) (j := v.toNat) (by omega) ZO Ta Wo hqv
      clear h
      refine E9 hX ?_
      clear hX; intro t M g1 g2 h
      refine ⟨_, _, rfl, ?_⟩
      have hte : t = fS (ay y2 v).q ((ay y2 i).q.c9 (ay y2 v).q).2.2 := by
       unfold fS
       by_cases hc : ((ay y2 i).q.c9 (ay y2 v).q).2.2 ≠ -1 ∨ (ay y2 v).q.l ≠ []
       ·rw [g2 hc]
        rcases hc with hc | hc
        ·simp [hc]
        ·cases hq : (ay y2 v).q.l with
         | nil => exact absurd hq hc
         | cons _ _ => simp
       ·have Xn : ((ay y2 i).q.c9 (ay y2 v).q).2.2 = -1 := Decidable.byContradiction fun e => hc (.inl e)
        have PG : (ay y2 v).q.l = [] := by
         cases hq : (ay y2 v).q.l with
         | nil => rfl
         | cons _ _ => exact absurd (.inr (by rw [hq]; simp)) hc
        rw [g1 Xn PG, Xn, PG]; rfl
      subst hte
      replace h := Cm (L2 := _) h
      generalize hs : (ay y2 i).q.c9 (ay y2 v).q = s at h k ⊢
      obtain ⟨s1, s2, s3⟩ := s
      dsimp only at h k ⊢
      have e1 : bS a.lb ((y2.bT i { ay y2 i with q := s1 }).bT v { ay y2 v with q := s2 }).ps = bS a.lb y2.ps := by
       show bS a.lb ((y2.ps.set i.toNat _).set v.toNat _) = _
       rw [zR (ps := y2.ps.set i.toNat { ay y2 i with q := s1 }) (j := v.toNat) (pr := ay y2 v) (y := { ay y2 v with q := s2 }) (by rw [List.getElem?_set_ne (by omega)]; exact HN) rfl rfl]
       exact zR ZP rfl rfl
      have e2 : ((y2.bT i { ay y2 i with q := s1 }).bT v { ay y2 v with q := s2 }).ps.map dm.q = ((y2.ps.map dm.q).set i.toNat s1).set v.toNat s2 := by
       simp [Sc.bT, List.map_set]
      have e3 : dQ b wb db a ((y2.bT i { ay y2 i with q := s1 }).bT v { ay y2 v with q := s2 }) = dQ b wb db a y2 := by rw [zP, zP]
      rw [← e1, ← e2, ← e3] at h
      have e4 : (ay ((y2.bT i { ay y2 i with q := s1 }).bT v { ay y2 v with q := s2 }) i).turns = (ay y2 i).turns := by
       rw [Fo v0 (by rw [qv]; exact Ly) i0, if_neg ZS, Fo i0 KB i0, if_pos rfl]
      refine ⟨(y2.bT i { ay y2 i with q := s1 }).bT v { ay y2 v with q := s2 }, 5, s3, _, rfl, h.sub bD, ?_, Rv, ?_, ?_, k⟩
      ·rw [qv, qv]; exact kW
      ·rw [qv, qv]; exact KB
      ·rw [e4, S8]; omega
   ·exact ⟨y, 4, v1, false, rfl, S9 M h (fun hc => hle hc.2)⟩
  ·clear h
   rintro _ n1 n2 t3 M ⟨z, kind, g, t, he, hz⟩
   simp only [List.cons.injEq, Value.int.injEq, Value.bool.injEq, and_true, true_and] at he
   obtain ⟨rfl, rfl, rfl⟩ := he
   exact go z n1 n2 t3 M hz
end
def xM (l : List PanicEntry) : List PanicEntry := l ++ l.map fun e => { e with recovered := true }
theorem Cn : Ci K3 (xM K3) := fun b v M K Kp h => KE h
theorem Fp {a k n q v : Int} : Ci (Xl a k n q v) (xM (Xl a k n q v)) := fun b w M K Kp h => Df h
theorem OJ {k k' : gX} {kind m : Int} {l : List PanicEntry} (h : k.next kind m = (k', .cV l)) : k' = k ∧ Ci l (xM l) := by
 cases k with
 | lE l i =>
  unfold gX.next at h
  dsimp only at h
  split at h
  ·cases h; exact ⟨rfl, Cn⟩
  ·cases h
 | tape l i =>
  unfold gX.next at h
  dsimp only at h
  split at h
  ·cases h; exact ⟨rfl, Cn⟩
  ·split at h
   ·cases h; exact ⟨rfl, Fp⟩
   ·split at h
    ·cases h; exact ⟨rfl, Fp⟩
    ·cases h
theorem qw {x x' : jB} {kind n : Int} {l : List PanicEntry} (h : x.draw kind n = (x', .cV l)) : x' = x ∧ Ci l (xM l) := by
 unfold jB.draw at h
 split at h
 ·cases h
 ·rename_i k' l' hn
  cases h
  obtain ⟨e, h2⟩ := OJ hn
  subst e
  exact ⟨rfl, h2⟩
theorem lU {x : jB} {kind n : Int} (h : x.k.Ok) : (x.draw kind n).1.k.Ok := by
 unfold jB.draw
 have := Ru (kind := kind) (m := gY n) h
 split
 ·rename_i k' v hn; rw [hn] at this; exact this
 ·rename_i k' v hn; rw [hn] at this; exact this
theorem eH {x x' : jB} {kind n v : Int} (hok : x.k.Ok) (h : x.draw kind n = (x', .num v)) : 0 ≤ v ∧ v < gY n ∧ x'.taken = x.taken ++ [(kind, v)] := by
 unfold jB.draw at h
 split at h
 ·rename_i k' v' hn
  cases h
  have := zL hok (zJ n) hn
  exact ⟨this.1, this.2, rfl⟩
 ·cases h
def aE (m : Int) (x : Sc) (r : Int) : Sc :=
 let i := (ax x m).p
 { x.bT i { ay x i with q := ((ay x i).q.ready r x.gl).1 } with gl := ((ay x i).q.ready r x.gl).2.1 }
def Sc.gP (x : Sc) (m g : Int) (keep : Bool) (ready : List Int) : Sc × Ev :=
 if keep = true ∧ (ax x m).left - 1 ≠ 0 then (x.gZ m { ax x m with left := (ax x m).left - 1 }, ⟨7, m, g, ready⟩)
 else ({ x.gZ m { ax x m with left := (ax x m).left - 1, g := -1 } with gl := if (aj x.w g).st = 1 then x.gl ++ [g] else x.gl }, ⟨7, m, g, ready⟩)
def wC (p : b6) (x : Sc) (m : Int) : Prop := 0 ≤ m ∧ m < x.ms.length ∧ 0 ≤ (ax x m).p ∧ (ax x m).p < x.ps.length ∧ x.gl.length ≤ 1000000 ∧ x.d.taken.length < 100000000 ∧ 1 ≤ (ax x m).left ∧ (ax x m).left < 1000000000 ∧ 0 ≤ (ax x m).g
instance (p : b6) (x : Sc) (m : Int) : Decidable (wC p x m) := by unfold wC; infer_instance
def Tb : Option (Int × Int) → Bool
 | none => true
 | some (_, n) => decide (n < 9223372036854775808)
def fy (x : Sc) (m g : Int) (d : jB) (y : Wd) (rest : Bool) : Option (Sc × g6) :=
 if y.ready.length ≤ 10000 ∧ g < y.gs.length then
  some (((y.ready.foldl (aE m) { x with w := y, d := d }).gP m g (hU y g rest) y.ready).1, .ev ((y.ready.foldl (aE m) { x with w := y, d := d }).gP m g (hU y g rest) y.ready).2)
 else none
def dh (d : jB) : Option (Int × Int) → jB × jW
 | none => (d, .num 0)
 | some (k, n) => d.draw k n
def Sc.run (p : b6) (x : Sc) (m : Int) : Option (Sc × g6) :=
 if wC p x m then
  if Tb (asks p { x.w with ready := [] } (ax x m).g) then
   match xh p x.w (ax x m).g (dh x.d (asks p { x.w with ready := [] } (ax x m).g)).2 with
   | none => none
   | some (.cV l y, _) => some ({ x with w := y, d := (dh x.d (asks p { x.w with ready := [] } (ax x m).g)).1 }, .cV (xM l))
   | some (.on y, rest) => fy x m (ax x m).g (dh x.d (asks p { x.w with ready := [] } (ax x m).g)).1 y rest
   | some (.eD n y, rest) => fy x m (ax x m).g (dh x.d (asks p { x.w with ready := [] } (ax x m).g)).1 { y with end_ := 2, code := n } rest
  else none
 else none
def ie : Sc × g6 → Sc × g6
 | (x, .ev e) => ({ x with steps := x.steps + 1 }, .ev e)
 | (x, .cV l) => (x, .cV l)
def yl (x : Sc) : Prop := x.w.gs.length ≤ 1000000 ∧ x.c.M = x.ms.length ∧ x.ps.length ≤ 1000000 ∧ x.ms.length ≤ 1000000 ∧ x.d.taken.length < 10000000 ∧ 0 ≤ x.steps ∧ x.steps < 1000000000
instance (x : Sc) : Decidable (yl x) := by unfold yl; infer_instance
def Sc.act (p : b6) (x : Sc) (m : Int) : Option (Sc × g6) :=
 if m = x.c.M then (if zO x then some (x.tick.1, .ev x.tick.2) else none)
 else if (ax x m).p = -1 then some ((x.hold m).1, .ev (x.hold m).2)
 else if (ax x m).g = -1 then (if wB x m then some (x.find m) else none)
 else x.run p m
def Sc.step (p : b6) (x : Sc) : Option (Sc × g6) :=
 if yl x then
  if x.status ≠ 0 then some (x, .ev ⟨0, 0, 0, []⟩)
  else match x.d.draw 1 (x.c.M + 1) with
   | (d', .cV l) => some ({ x with d := d' }, .cV l)
   | (d', .num m) => (Sc.act p { x with d := d' } m).map ie
 else none
section
variable {R : Mem} {L L' L2 : List HP} {M : Mem} {K : Value → Mem → Prop} {Kp : List PanicEntry → Mem → Prop} {pa : PA} {p : b6} {b wb db : Nat} {x : Sc} {m i : Int}
theorem HO (h : Hp R L M) [o : qm b L pa p wb db x L'] (hk : wB x m) (hd : x.d.k.Ok)
  (k : match (x.find m).2 with
   | .ev e => ∀ M', Hp R (az (e8 pa p wb db) b (x.find m).1 :: L') M' → K (K6 e none 0) M'
   | .cV l => ∀ M', Hp R (az (e8 pa p wb db) b (x.find m).1 :: L') M' → Kp l M') : aa Tryz.prog 110 #[.pointer (some ⟨b, 0, none⟩), .int .i64 m] M K Kp := by
 refine rT ?_
 have hk' := hk
 obtain ⟨m0, m1, i0, i1, Xm, ht0, S7, Ry, hP, hP2⟩ := hk'
 have zT : x.d.Ok := ⟨hd, by omega⟩
 refine aq h ?_
 clear h
 intro k1 M h
 have h' := fx h (b := b)
 clear h
 obtain ⟨a, hl, h⟩ := h'
 obtain ⟨lb, hlb, jE, hrow⟩ := qt (i := (ax x m).p) hl i0 i1
 have jF := qu m0 m1
 have m2 : m.toNat < x.ms.length := by omega
 obtain ⟨q, hq⟩ := h.bF (A := a.ap) (l := bS a.lb x.ps) (by rw [kY hl]; omega) (by decide)
 obtain ⟨q2, lO⟩ := h.bF (A := a.am) (l := x.ms) (by omega) (by decide)
 replace h : Hp R (gL (dQ b wb db a x) x.gl :: az (bI pa p) wb x.w :: az (cJ .nilFunc) db x.d :: bZ (some ⟨q, 0, none⟩) a.cp (bS a.lb x.ps) :: bj bK a.lb (x.ps.map dm.q) :: cn (some ⟨q2, 0, none⟩) a.cm x.ms :: pt k1 [.int .i64 0, .int .i64 0, .int .i64 0, .slice none 0 0] 43 :: L') M := by
  unfold iU at h
  rw [show bZ a.ap a.cp (bS a.lb x.ps) = bZ (some ⟨q, 0, none⟩) a.cp (bS a.lb x.ps) from by rw [hq], show cn a.am a.cm x.ms = cn (some ⟨q2, 0, none⟩) a.cm x.ms from by rw [lO]] at h
  exact h.sub (by repeat (first | exact .refl | refine .cons (by repeat (first | exact .here | apply cY.there)) ?_ | apply Sub.drop))
 rw [OI h]
 refine be ?_
 rw [zS h]
 refine be ⟨m0, m1, ?_⟩
 rw [lO]
 refine bp ?_
 refine aZ (Src.at (h.src (A := some ⟨q2, 0, none⟩)) h (i := m.toNat) (j := 0) jF rfl (by show _ = 0 + (m.toNat * 3 + 0); simp)) ?_
 refine ⟨i0, i1, ?_⟩
 rw [hq]
 refine bp ?_
 refine be ⟨m0, m1, bp ?_⟩
 refine aZ (Src.at (h.src (A := some ⟨q2, 0, none⟩)) h (i := m.toNat) (j := 2) jF rfl (by show _ = 0 + (m.toNat * 3 + 2); omega)) ?_
 simp only [Nat.zero_add]
 have hno : ¬ (0 < (ax x m).left ∧ (ay x (ax x m).p).q.next ≠ -1) → (let y := (x.own (ax x m).p).1
   if (x.own (ax x m).p).2.2 = false ∧ 1 < x.c.P then match y.d.draw 2 x.c.P with
    | (d', .cV l) => ∀ M', Hp R (az (e8 pa p wb db) b { y with d := d' } :: L') M' → Kp l M'
    | (d', .num v) =>
     let y := { y with d := d' }
     let s := (ay y (ax x m).p).q.c9 (ay y v).q
     let z := if v = (ax x m).p then y else (y.bT (ax x m).p { ay y (ax x m).p with q := s.1 }).bT v { ay y v with q := s.2.1 }
     let r := if v = (ax x m).p then (-1, false) else (s.2.2, fS (ay y v).q s.2.2)
     ∀ M', Hp R (az (e8 pa p wb db) b (z.bg m (ax x m).p 5 r.1 r.2).1 :: L') M' → K (K6 (z.bg m (ax x m).p 5 r.1 r.2).2 none 0) M'
   else ∀ M', Hp R (az (e8 pa p wb db) b (y.bg m (ax x m).p 4 (x.own (ax x m).p).2.1 (x.own (ax x m).p).2.2).1 :: L') M' → K (K6 (y.bg m (ax x m).p 4 (x.own (ax x m).p).2.1 (x.own (ax x m).p).2.2).2 none 0) M') := by
  intro hn
  unfold Sc.find at k
  dsimp only at k ⊢
  rw [if_neg hn] at k
  split
  ·rename_i hc
   rw [if_pos hc] at k
   split
   ·rename_i d' l jO
    rw [jO] at k
    exact k
   ·rename_i d' v jO
    rw [jO] at k
    dsimp only at k ⊢
    by_cases hv : v = (ax x m).p
    ·simp only [if_pos hv] at k ⊢
     exact k
    ·simp only [if_neg hv] at k ⊢
     exact k
  ·rename_i hc
   rw [if_neg hc] at k
   exact k
 refine aM.2 ⟨fun hgt => ?_, fun hle => ?_⟩
 ·refine mI (Src.at (h.src (A := some ⟨q, 0, none⟩)) h (i := (ax x m).p.toNat) (j := 0) hrow rfl (by show _ = 0 + ((ax x m).p.toNat * 3 + 0); simp)) ?_
  have Ta : (x.ps.map dm.q)[(ax x m).p.toNat]? = some (ay x (ax x m).p).q := by rw [List.getElem?_map, jE]; rfl
  have h3 := h.c6 bK hlb Ta
  refine Hr h3 ?_
  refine cE ?_
  refine ⟨fun vs M => vs = [] ∧ (ay x (ax x m).p).q.next = -1 ∧ Hp R (gL (dQ b wb db a x) x.gl :: az (bI pa p) wb x.w :: az (cJ .nilFunc) db x.d :: bZ (some ⟨q, 0, none⟩) a.cp (bS a.lb x.ps) :: bj bK a.lb (x.ps.map dm.q) :: cn (some ⟨q2, 0, none⟩) a.cm x.ms :: pt k1 [.int .i64 0, .int .i64 0, .int .i64 0, .slice none 0 0] 43 :: L') M, ?_, ?_⟩
  ·refine eL.2 ⟨fun hne => ?_, fun heq => ⟨rfl, by simpa using heq, h⟩⟩
   clear h3
   unfold Sc.find at k
   dsimp only at k
   rw [if_pos ⟨by omega, hne⟩] at k
   dsimp only at k
   refine mI (Src.at (h.src (A := some ⟨q, 0, none⟩)) h (i := (ax x m).p.toNat) (j := 0) hrow rfl (by show _ = 0 + ((ax x m).p.toNat * 3 + 0); simp)) ?_
   rw [show M.ld ⟨b, 6, none⟩ = some (.slice a.am x.ms.length a.cm) from zS h]
   refine be ?_
   replace h := h.c6 bK hlb Ta
   refine Cf h (b := lb) ?_
   clear h; intro t M _ _ h
   refine ⟨_, _, rfl, ?_⟩
   replace h := h.dN bK lb hlb (by rw [List.length_map]; omega)
   replace h : Hp R (gL (dQ b wb db a x) x.gl :: az (bI pa p) wb x.w :: az (cJ .nilFunc) db x.d :: bZ (some ⟨q, 0, none⟩) a.cp (bS a.lb x.ps) :: bj bK a.lb ((x.ps.map dm.q).set (ax x m).p.toNat (ay x (ax x m).p).q.get.1) :: cn (some ⟨q2, 0, none⟩) a.cm x.ms :: pt k1 [.int .i64 0, .int .i64 0, .int .i64 0, .slice none 0 0] 43 :: L') M := h.sub (by repeat (first | exact .refl | refine .cons (by repeat (first | exact .here | apply cY.there)) ?_ | apply Sub.drop))
   refine ⟨zS h, m0, m1, ?_⟩
   rw [lO]
   refine bp ?_
   refine gK (E := lT) (a' := ⟨(ax x m).p, (ay x (ax x m).p).q.get.2, (ax x m).left⟩) m.toNat 1 h jF (by decide) rfl (by show _ = m.toNat * 3 + 1; omega) ?_
   clear h; intro M h
   replace h : Hp R (gL (dQ b wb db a x) x.gl :: az (bI pa p) wb x.w :: az (cJ .nilFunc) db x.d :: bZ (some ⟨q, 0, none⟩) a.cp (bS a.lb x.ps) :: bj bK a.lb ((x.ps.map dm.q).set (ax x m).p.toNat (ay x (ax x m).p).q.get.1) :: cn (some ⟨q2, 0, none⟩) a.cm (x.ms.set m.toNat ⟨(ax x m).p, (ay x (ax x m).p).q.get.2, (ax x m).left⟩) :: pt k1 [.int .i64 0, .int .i64 0, .int .i64 0, .slice none 0 0] 43 :: L') M := h.sub (by repeat (first | exact .refl | refine .cons (by repeat (first | exact .here | apply cY.there)) ?_ | apply Sub.drop))
   refine ⟨by have := zS h; rw [lO] at this; exact this, ?_⟩
   rw [show M.ld ⟨b, 6, none⟩ = some (.slice a.am x.ms.length a.cm) from zS h, lO]
   refine be ⟨m0, m1, bp ?_⟩
   refine aZ (Src.at (h.src (A := some ⟨q2, 0, none⟩)) h (i := m.toNat) (j := 1) (a := ⟨(ax x m).p, (ay x (ax x m).p).q.get.2, (ax x m).left⟩) (by simp [m2]) rfl (by show _ = 0 + (m.toNat * 3 + 1); omega)) ?_
   dsimp only
   refine qp h ?_
   clear h; intro M h
   refine qq h ?_
   have e1 : bS a.lb (x.bT (ax x m).p { ay x (ax x m).p with q := (ay x (ax x m).p).q.get.1 }).ps = bS a.lb x.ps := zR jE rfl rfl
   have e2 : ((x.bT (ax x m).p { ay x (ax x m).p with q := (ay x (ax x m).p).q.get.1 }).ps).map dm.q = (x.ps.map dm.q).set (ax x m).p.toNat (ay x (ax x m).p).q.get.1 := by simp [Sc.bT, List.map_set]
   have h9 : Hp R (gL (dQ b wb db a ((x.bT (ax x m).p { ay x (ax x m).p with q := (ay x (ax x m).p).q.get.1 }).gZ m { ax x m with g := (ay x (ax x m).p).q.get.2 })) x.gl :: az (bI pa p) wb x.w :: az (cJ .nilFunc) db x.d :: bZ a.ap a.cp (bS a.lb ((x.bT (ax x m).p { ay x (ax x m).p with q := (ay x (ax x m).p).q.get.1 }).gZ m { ax x m with g := (ay x (ax x m).p).q.get.2 }).ps) :: bj bK a.lb (((x.bT (ax x m).p { ay x (ax x m).p with q := (ay x (ax x m).p).q.get.1 }).gZ m { ax x m with g := (ay x (ax x m).p).q.get.2 }).ps.map dm.q) :: cn a.am a.cm (x.ms.set m.toNat ⟨(ax x m).p, (ay x (ax x m).p).q.get.2, (ax x m).left⟩) :: L') M := by
    rw [zQ, zP]
    show Hp R (_ :: _ :: _ :: bZ a.ap a.cp (bS a.lb (x.bT (ax x m).p { ay x (ax x m).p with q := (ay x (ax x m).p).q.get.1 }).ps) :: bj bK a.lb ((x.bT (ax x m).p { ay x (ax x m).p with q := (ay x (ax x m).p).q.get.1 }).ps.map dm.q) :: _) M
    rw [e1, e2, hq, lO]
    exact h.sub (by repeat (first | exact .refl | refine .cons (by repeat (first | exact .here | apply cY.there)) ?_ | apply Sub.drop))
   exact k _ (ia (a := a) (x := (x.bT (ax x m).p { ay x (ax x m).p with q := (ay x (ax x m).p).q.get.1 }).gZ m { ax x m with g := (ay x (ax x m).p).q.get.2 }) (by simpa [Sc.bT, Sc.gZ] using hl) h9)
  ·clear h h3
   rintro _ M ⟨_, ZT, h⟩
   exact Cl h hq lO hl hk rfl zT (hno (fun hc => hc.2 ZT))
 ·refine ⟨fun vs M => vs = [] ∧ Hp R (gL (dQ b wb db a x) x.gl :: az (bI pa p) wb x.w :: az (cJ .nilFunc) db x.d :: bZ (some ⟨q, 0, none⟩) a.cp (bS a.lb x.ps) :: bj bK a.lb (x.ps.map dm.q) :: cn (some ⟨q2, 0, none⟩) a.cm x.ms :: pt k1 [.int .i64 0, .int .i64 0, .int .i64 0, .slice none 0 0] 43 :: L') M, ⟨rfl, h⟩, ?_⟩
  clear h
  rintro _ M ⟨_, h⟩
  exact Cl h hq lO hl hk rfl zT (hno (fun hc => hle (by omega)))
end
theorem Co {p : b6} {x : Wd} {k v : Int} {l : List PanicEntry} {y : Wd} : x.put p k v ≠ .cV l y := by
 unfold Wd.put; dsimp only; split <;> simp
theorem HQ {p : b6} {x : Wd} {g : Int} {i : cH} {l : List PanicEntry} {y : Wd} (h : nX p x g i = some (.cV l y)) : False := by
 unfold nX at h
 by_cases e : i.op = 10
 ·rw [if_pos e] at h; obtain ⟨_, h⟩ := cQ h; cases h
 rw [if_neg e] at h; clear e
 by_cases e : i.op = 11
 ·rw [if_pos e] at h; obtain ⟨_, h⟩ := cQ h; unfold Wd.spawn at h; split at h <;> cases h
 rw [if_neg e] at h; clear e
 by_cases e : i.op = 13
 ·rw [if_pos e] at h; obtain ⟨_, h⟩ := cQ h
  unfold Wd.send at h
  split at h
  ·cases h
  ·rename_i hp; exact Co hp
  ·cases h
  ·cases h
 rw [if_neg e] at h; clear e
 by_cases e : i.op = 14
 ·rw [if_pos e] at h; obtain ⟨_, h⟩ := cQ h; cases h
 rw [if_neg e] at h; clear e
 by_cases e : i.op = 15
 ·rw [if_pos e] at h; obtain ⟨_, h⟩ := cQ h; unfold Wd.shut at h; dsimp only at h; split at h
  ·cases h
  ·split at h <;> cases h
 rw [if_neg e] at h; clear e
 by_cases e : i.op = 20
 ·rw [if_pos e] at h; obtain ⟨_, h⟩ := cQ h; unfold Wd.emit at h; split at h <;> cases h
 rw [if_neg e] at h; clear e
 by_cases e : i.op = 9
 ·rw [if_pos e] at h; obtain ⟨_, h⟩ := cQ h; unfold Wd.call at h; split at h <;> cases h
 rw [if_neg e] at h; clear e
 by_cases e : i.op = 12
 ·rw [if_pos e] at h; cases h
 rw [if_neg e] at h; clear e
 by_cases e : i.op = 17
 ·rw [if_pos e] at h; obtain ⟨_, h⟩ := cQ h; cases h
 rw [if_neg e] at h; clear e
 by_cases e : i.op = 18
 ·rw [if_pos e] at h; obtain ⟨_, h⟩ := cQ h; cases h
 rw [if_neg e] at h; clear e
 by_cases e : i.op = 19
 ·rw [if_pos e] at h; obtain ⟨_, h⟩ := cQ h; unfold Wd.unlock at h; split at h
  ·cases h
  ·split at h <;> cases h
 rw [if_neg e] at h; clear e
 by_cases e : i.op = 22
 ·rw [if_pos e] at h; cases h
 rw [if_neg e] at h; cases h
theorem Cp {p : b6} {x : Wd} {g : Int} {d : jW} {l : List PanicEntry} {y : Wd} {rest : Bool} (h : xh p x g d = some (.cV l y, rest)) : d = .cV l ∧ y = { x with ready := [] } := by
 unfold xh at h
 dsimp only at h
 split at h
 ·split at h
  ·split at h
   ·cases h
   ·split at h
    ·cases h
    ·split at h
     ·split at h <;> cases h
     ·split at h
      ·split at h
       ·split at h
        ·rename_i hc
         simp only [Option.some.injEq, Prod.mk.injEq] at h
         obtain ⟨h, _⟩ := h
         unfold Wd.choose at h
         split at h
         ·cases h
         ·cases d with
          | cV l' => cases h; exact ⟨rfl, rfl⟩
          | num v =>
           dsimp only at h
           unfold Wd.qh at h
           dsimp only at h
           split at h
           ·split at h
            ·cases h
            ·rename_i hp; exact absurd hp Co
            ·cases h
           ·cases h
        ·cases h
       ·cases h
      ·split at h
       ·split at h
        ·split at h
         ·simp only [Option.some.injEq, Prod.mk.injEq] at h
          obtain ⟨h, _⟩ := h
          cases d with
          | cV l' => cases h; exact ⟨rfl, rfl⟩
          | num v => cases h
         ·cases h
        ·cases h
       ·split at h
        ·cases h
        ·rename_i r hd
         split at h
         ·simp only [Option.some.injEq, Prod.mk.injEq] at h
          obtain ⟨h, _⟩ := h
          subst h
          exact (HQ hd).elim
         ·cases h
  ·cases h
 ·cases h
theorem La {q : Loc} {r : Int} {gl : List Int} : (q.ready r gl).2.1.length ≤ gl.length + q.l.length + 1 := by
 unfold Loc.ready
 split
 ·dsimp only; omega
 ·unfold Loc.put
  dsimp only
  split
  ·dsimp only; omega
  ·dsimp only; simp; omega
section
variable {R : Mem} {L L' L2 : List HP} {M : Mem} {K : Value → Mem → Prop} {Kp : List PanicEntry → Mem → Prop} {pa : PA} {p : b6} {b wb db : Nat} {x : Sc} {m i : Int} {a : SA}
abbrev zU (fB : Nat) (kp : Bool) (A : Option Addr) (n c : Nat) : HP := pt fB [.bool kp, .slice A n c] 250
theorem Fq {q2 k1 fB c : Nat} {g : Int} {kp : Bool} {A : Option Addr} {rd : List Int}
  (h : Hp R (gL (dQ b wb db a x) x.gl :: az (bI pa p) wb x.w :: az (cJ .nilFunc) db x.d :: bZ a.ap a.cp (bS a.lb x.ps) :: bj bK a.lb (x.ps.map dm.q) :: cn (some ⟨q2, 0, none⟩) a.cm (x.ms.set m.toNat { ax x m with left := (ax x m).left - 1 }) :: zU fB kp A rd.length c :: pt k1 [.int .i64 0, .int .i64 0, .int .i64 0, .slice none 0 0] 43 :: L') M)
  (Je : a.am = some ⟨q2, 0, none⟩) (hl : a.lb.length = x.ps.length) (m0 : 0 ≤ m) (m1 : m < x.ms.length) (g0 : 0 ≤ g) (g1 : g < x.w.gs.length) (Xm : x.gl.length ≤ 100000000)
  (k : ∀ M', Hp R (az (e8 pa p wb db) b { x.gZ m { ax x m with left := (ax x m).left - 1, g := -1 } with gl := if (aj x.w g).st = 1 then x.gl ++ [g] else x.gl } :: L') M' → K (K6 ⟨7, m, g, rd⟩ A c) M') :
  aK M ⟨q2, ((m.toNat * 3) + 1), none⟩ (.int .i64 (-1)) fun w7 =>
  cw (Mem.ld w7 ⟨b, 0, none⟩) fun Nv =>
  aa Tryz.prog 119 #[(.pointer Nv), (.int .i64 g)] w7 (fun Kd xZ =>
  aJ (some Kd) .i64 fun GL =>
  aO (GL == 1)
   (bh xZ (.cells #[(.int .i64 g)] 3 (0, 0)) fun qG GN =>
   aa Tryz.prog 58 #[(.pointer (some ⟨b, (0 + 7), none⟩)), (.slice (some ⟨qG, 0, none⟩) 1 1)] GN (fun NB vX =>
   (NB = (.tuple #[])) ∧
   aB (Mem.ld vX ⟨fB, (0 + 1), none⟩) fun QX C5 DO =>
   aK vX ⟨k1, 0, none⟩ (.int .i64 7) fun AB =>
   aK AB ⟨k1, (0 + 1), none⟩ (.int .i64 m) fun pI =>
   aK pI ⟨k1, (0 + 2), none⟩ (.int .i64 g) fun Au =>
   aK Au ⟨k1, (0 + 3), none⟩ (.slice QX C5 DO) fun vo =>
   aJ (Mem.ld vo ⟨k1, 0, none⟩) .i64 fun Gy =>
   aJ (Mem.ld vo ⟨k1, (0 + 1), none⟩) .i64 fun n64 =>
   aJ (Mem.ld vo ⟨k1, (0 + 2), none⟩) .i64 fun AP =>
   aB (Mem.ld vo ⟨k1, (0 + 3), none⟩) fun NC vp DR =>
   K (.agg #[(.int .i64 Gy), (.int .i64 n64), (.int .i64 AP), (.slice NC vp DR)]) vo) Kp)
   (aB (Mem.ld xZ ⟨fB, (0 + 1), none⟩) fun PL EH Km =>
   aK xZ ⟨k1, 0, none⟩ (.int .i64 7) fun SB =>
   aK SB ⟨k1, (0 + 1), none⟩ (.int .i64 m) fun AD =>
   aK AD ⟨k1, (0 + 2), none⟩ (.int .i64 g) fun EG =>
   aK EG ⟨k1, (0 + 3), none⟩ (.slice PL EH Km) fun AY =>
   aJ (Mem.ld AY ⟨k1, 0, none⟩) .i64 fun MY =>
   aJ (Mem.ld AY ⟨k1, (0 + 1), none⟩) .i64 fun EB =>
   aJ (Mem.ld AY ⟨k1, (0 + 2), none⟩) .i64 fun EN =>
   aB (Mem.ld AY ⟨k1, (0 + 3), none⟩) fun Ud Nu Ue =>
   K (.agg #[(.int .i64 MY), (.int .i64 EB), (.int .i64 EN), (.slice Ud Nu Ue)]) AY)) Kp := by
 have jF := qu m0 m1
 have m2 : m.toNat < x.ms.length := by omega
 refine gK (E := lT) (a := { ax x m with left := (ax x m).left - 1 }) (a' := ⟨(ax x m).p, -1, (ax x m).left - 1⟩) m.toNat 1 h (by simp [m2]) (by decide) rfl (by show _ = m.toNat * 3 + 1; omega) ?_
 clear h; intro M h
 rw [iO] at h
 replace h : Hp R (gL (dQ b wb db a x) x.gl :: az (bI pa p) wb x.w :: az (cJ .nilFunc) db x.d :: bZ a.ap a.cp (bS a.lb x.ps) :: bj bK a.lb (x.ps.map dm.q) :: cn (some ⟨q2, 0, none⟩) a.cm (x.ms.set m.toNat ⟨(ax x m).p, -1, (ax x m).left - 1⟩) :: zU fB kp A rd.length c :: pt k1 [.int .i64 0, .int .i64 0, .int .i64 0, .slice none 0 0] 43 :: L') M := h.sub bD
 rw [ZN h]
 refine ju ?_
 refine u5 h g0 g1 ?_
 refine cE ?_
 have fin : ∀ (Dx : List Int) (M : Mem), Dx = (if (aj x.w g).st = 1 then x.gl ++ [g] else x.gl) → Hp R (gL (dQ b wb db a x) Dx :: az (bI pa p) wb x.w :: az (cJ .nilFunc) db x.d :: bZ a.ap a.cp (bS a.lb x.ps) :: bj bK a.lb (x.ps.map dm.q) :: cn (some ⟨q2, 0, none⟩) a.cm (x.ms.set m.toNat ⟨(ax x m).p, -1, (ax x m).left - 1⟩) :: zU fB kp A rd.length c :: pt k1 [.int .i64 0, .int .i64 0, .int .i64 0, .slice none 0 0] 43 :: L') M →
   aB (Mem.ld M ⟨fB, (0 + 1), none⟩) fun QX C5 DO => aK M ⟨k1, 0, none⟩ (.int .i64 7) fun AB => aK AB ⟨k1, (0 + 1), none⟩ (.int .i64 m) fun pI => aK pI ⟨k1, (0 + 2), none⟩ (.int .i64 g) fun Au => aK Au ⟨k1, (0 + 3), none⟩ (.slice QX C5 DO) fun vo =>
   aJ (Mem.ld vo ⟨k1, 0, none⟩) .i64 fun Gy => aJ (Mem.ld vo ⟨k1, (0 + 1), none⟩) .i64 fun n64 => aJ (Mem.ld vo ⟨k1, (0 + 2), none⟩) .i64 fun AP => aB (Mem.ld vo ⟨k1, (0 + 3), none⟩) fun NC vp DR =>
   K (.agg #[(.int .i64 Gy), (.int .i64 n64), (.int .i64 AP), (.slice NC vp DR)]) vo := by
  intro Dx M hgl' h
  refine aS h ?_
  refine qp h ?_
  clear h; intro M h
  refine qq h ?_
  refine k _ (ia (a := a) (x := { x.gZ m { ax x m with left := (ax x m).left - 1, g := -1 } with gl := if (aj x.w g).st = 1 then x.gl ++ [g] else x.gl }) hl ?_)
  rw [← hgl']
  have e1 : dQ b wb db a { x.gZ m { ax x m with left := (ax x m).left - 1, g := -1 } with gl := Dx } = dQ b wb db a x := zQ (x := x)
  rw [e1]
  show Hp R (_ :: _ :: _ :: _ :: _ :: cn a.am a.cm (x.ms.set m.toNat ⟨(ax x m).p, -1, (ax x m).left - 1⟩) :: _) M
  rw [Je]
  exact h.sub bD
 refine aR.2 ⟨fun e1 => ?_, fun e1 => ?_⟩
 ·refine aq h ?_
  clear h; intro qG M h
  replace h := (h.pt qG).kT (E := bB) (l := [g]) rfl
  replace h : Hp R (gL (dQ b wb db a x) x.gl :: lD (some ⟨qG, 0, none⟩) 1 [g] :: az (bI pa p) wb x.w :: az (cJ .nilFunc) db x.d :: bZ a.ap a.cp (bS a.lb x.ps) :: bj bK a.lb (x.ps.map dm.q) :: cn (some ⟨q2, 0, none⟩) a.cm (x.ms.set m.toNat ⟨(ax x m).p, -1, (ax x m).left - 1⟩) :: zU fB kp A rd.length c :: pt k1 [.int .i64 0, .int .i64 0, .int .i64 0, .slice none 0 0] 43 :: L') M := h.sub bD
  refine nV (P := dQ b wb db a x) zM h (Src.row (A := some ⟨qG, 0, none⟩)) rfl (by simp; omega) ?_
  clear h; intro M h
  refine ⟨rfl, ?_⟩
  exact fin _ M (by rw [if_pos e1]) (h.sub bD)
 ·exact fin _ M (by rw [if_neg e1]) h
theorem fI {m : Int} : ∀ (l : List Int) (z : Sc), 0 ≤ (ax z m).p → (ax z m).p < z.ps.length → (l.foldl (aE m) z).ms = z.ms ∧ (l.foldl (aE m) z).ps.length = z.ps.length ∧ (l.foldl (aE m) z).w = z.w ∧ (l.foldl (aE m) z).d = z.d ∧ (l.foldl (aE m) z).c = z.c ∧ (l.foldl (aE m) z).steps = z.steps ∧ ∀ bs, bS bs (l.foldl (aE m) z).ps = bS bs z.ps
 | [], z, _, _ => ⟨rfl, rfl, rfl, rfl, rfl, rfl, fun _ => rfl⟩
 | r :: l, z, h0, h1 => by
  have hp : z.ps[(ax z m).p.toNat]? = some (ay z (ax z m).p) := by
   obtain ⟨y, hy⟩ := aP (l := z.ps) (i := (ax z m).p.toNat) (by omega)
   have e : ay z (ax z m).p = y := by simp [ay, hy]
   rw [e]; exact hy
  have PT : (aE m z r).ms = z.ms := rfl
  have hps : (aE m z r).ps.length = z.ps.length := by simp [aE, Sc.bT]
  have jF : ax (aE m z r) m = ax z m := rfl
  obtain ⟨a1, a2, a3, a4, a5, a6, a7⟩ := fI l (aE m z r) (by rw [jF]; exact h0) (by rw [jF, hps]; exact h1)
  refine ⟨a1, by rw [List.foldl_cons, a2, hps], a3, a4, a5, a6, fun bs => ?_⟩
  rw [List.foldl_cons, a7]
  exact zR hp rfl rfl
end
end Go.Proofs
