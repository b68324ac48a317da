/- A part of proofs about one program. -/
import Derived.Test.YtnnlgknlialpmaaGreatZSnapAlike2
import Derived.Test.YtnnlgknlialpmaaGreatZSnapAlike3
set_option linter.unusedVariables false
namespace Go.Proofs
open Go.AF
set_option maxRecDepth 100000
set_option maxHeartbeats 1000000
attribute [local irreducible] aK dH fa cw az fk aE aP aX be bK aS
def zx : fO (Option Addr × Nat × Nat) := ⟨1, fun t => [.slice t.1 t.2.1 t.2.2], fun _ => rfl, fun w v hv => by simp only [List.mem_singleton] at hv; subst hv; rfl⟩
structure lB (R : Mem) (pa : PA) (p : cv) : Prop where
 funcs : ∃ ts : List (Option Addr × Nat × Nat), RS zx R pa.f pa.fc ts ∧ ts.length = p.funcs.length ∧ ∀ (i : Nat) t f, ts[i]? = some t → p.funcs[i]? = some f → RS jI R t.1 t.2.2 f ∧ t.2.1 = f.length
 cases : RS iD R pa.k pa.kc p.cases
theorem lB.le {R R' : Mem} {pa : PA} {p : cv} (h : lB R pa p) (hle : R.le R') : lB R' pa p := by
 obtain ⟨⟨ts, h1, h2, h3⟩, h4⟩ := h
 exact ⟨⟨ts, h1.le hle, h2, fun i t f a b => ⟨(h3 i t f a b).1.le hle, (h3 i t f a b).2⟩⟩, h4.le hle⟩
def Wd.next (x : Wd) (g : Int) : Wd := x.bG g ((aq x g).cW (aq x g).top.next)
def Vh (n : Int) : List PanicEntry := [{ v := .iface 340 (.int .i64 n), recovered := false }]
def gC (R : Mem) (pa : PA) (p : cv) (dr : Value) (fnum : Nat) (x : Wd) (g : Int) (i : cQ) (r : Out Wd) (L L2 : List HP) : Prop :=
 ∀ (gg : List GA) (b bs c : Nat) (M : Mem) (K : Value → Mem → Prop) (Kp : List PanicEntry → Mem → Prop) (Q : HP), Hp R (ay (bC pa p gg dr) b x :: Q :: L) M → gg[g.toNat]? = some (some ⟨bs, 0, none⟩, c) →
  Out.Ok r (fun y => ∀ mJ M', Hp R (ay (bC pa p mJ dr) b y :: Q :: L2) M' → K (.tuple #[]) M') (fun n y => ∀ mJ M', Hp R (ay (bC pa p mJ dr) b y :: Q :: L2) M' → Kp (Vh n) M') (fun l y => ∀ mJ M', Hp R (ay (bC pa p mJ dr) b y :: Q :: L2) M' → Kp l M') →
  aa Tryz.prog fnum #[.pointer (some ⟨b, 0, none⟩), .int .i64 g, .pointer (some ⟨bs, ((aq x g).fs.length - 1) * 11, none⟩), .agg #[.int .i64 i.op, .int .i64 i.a, .int .i64 i.b, .int .i64 i.c]] M K Kp
theorem Out.Ok.mono {α : Type} {r : Out α} {k1 k1' : α → Prop} {k2 k2' : Int → Wd → Prop} {k3 : List PanicEntry → Wd → Prop} (h : r.Ok k1 k2 k3) (h1 : ∀ y, k1 y → k1' y) (h2 : ∀ n y, k2 n y → k2' n y) : r.Ok k1' k2' := by
 cases r with
 | on y => exact h1 y h
 | fM n y => exact h2 n y h
 | dY l y => trivial
section
variable {R : Mem} {L L' L2 : List HP} {M : Mem} {K : Value → Mem → Prop} {Kp : List PanicEntry → Mem → Prop} {pa : PA} {p : cv} {gg : List GA} {dr : Value} {b : Nat} {x : Wd} {g : Int} {i : cQ}
theorem TD (hp : lB R pa p) (hk : JK p x g i) (hs : x.Sm) : gC R pa p dr 215 x g i (x.send p g i) L L := fun gg b bs c M K Kp Q h fu k =>
 JL h hp.cases fu hk hs (k.mono (fun y hy M' h' => hy gg M' h') (fun n y hy M' h' => hy gg M' h'))
theorem TE (hk : xU x g i) (hs : x.Sm) : gC R pa p dr 216 x g i (.on (x.recv g i)) L L := fun gg b bs c M K Kp Q h fu k =>
 JM h fu hk hs fun M' h' => k gg M' h'
theorem TF (hg : br x g) (ha : bj i.a) (hs : x.Sm) : gC R pa p dr 221 x g i (x.emit g i) L L := fun gg b bs c M K Kp Q h fu k =>
 JN h fu hg ha hs (k.mono (fun y hy M' h' => hy gg M' h') (fun n y hy M' h' => hy gg M' h'))
theorem QL (hg : br x g) (hb : bj i.b) (hc : bj i.c) (hs : x.Sm) : gC R pa p dr 213 x g i (x.spawn g i) L L := fun gg b bs c M K Kp Q h fu k =>
 GY h fu hg hb hc hs (k.mono (fun y hy => hy) (fun n y hy M' h' => hy gg M' h'))
theorem TG (hp : lB R pa p) (hk : oO p x i) (hs : x.Sm) : gC R pa p dr 217 x g i (x.shut p i) L L := fun gg b bs c M K Kp Q h fu k =>
 JP (f := .nilFunc) h hp.cases hk hs (k.mono (fun y hy M' h' => hy gg M' h') (fun n y hy M' h' => hy gg M' h'))
def YM : AL := [(9, .func (.func 211) #[] #[]), (10, .func (.func 212) #[] #[]), (11, .func (.func 213) #[] #[]), (12, .func (.func 214) #[] #[]), (13, .func (.func 215) #[] #[]), (14, .func (.func 216) #[] #[]), (15, .func (.func 217) #[] #[]), (17, .func (.func 218) #[] #[]), (18, .func (.func 219) #[] #[]), (19, .func (.func 220) #[] #[]), (20, .func (.func 221) #[] #[]), (22, .func (.func 222) #[] #[])]
theorem Hf (h : Hp R L M) (k : ∀ m M', Hp R (ob m (mB YM) :: L) M' → K (.map (some m)) M') : aa Tryz.prog 193 #[] M K Kp := by
 refine AJ ?_
 refine UF h ?_
 clear h
 intro m M h
 replace h : Hp R (ob m (mB []) :: L) M := h
 have hu : Tryz.prog.underlying 345 = some (.map 25 344) := by kernel_rfl
 have hk : Tryz.prog.underlying 25 = some (.int .i64) := by kernel_rfl
 iterate 12
  refine yM h hu hk ?_
  clear h
  intro M h
 exact k _ _ h
end
theorem Bl {α β : Type} : ∀ {l : List α} {m : List β} {i : Nat} {u : α} {v : β}, (l.zip m).set i (u, v) = (l.set i u).zip (m.set i v)
 | [], _, _, _, _ => by simp
 | a :: l, [], i, u, v => by simp
 | a :: l, w :: m, 0, u, v => rfl
 | a :: l, w :: m, i + 1, u, v => by
  have := Bl (l := l) (m := m) (i := i) (u := u) (v := v)
  simp [this]
theorem sx {x : Wd} {g : Int} (h0 : 0 ≤ g) (h1 : g < x.gs.length) : x.bG g (aq x g) = x := by
 obtain ⟨y, hy⟩ := aM (l := x.gs) (i := g.toNat) (by omega)
 have e : aq x g = y := by simp [aq, hy]
 rw [e]
 obtain ⟨hi, rfl⟩ := List.getElem?_eq_some_iff.1 hy
 simp [Wd.bG]
section
variable {R : Mem} {L L' L2 : List HP} {M : Mem} {K : Value → Mem → Prop} {Kp : List PanicEntry → Mem → Prop} {pa : PA} {p : cv} {gg : List GA} {dr : Value} {b : Nat} {x : Wd} {g : Int} {i : cQ}
theorem TH (hg : br x g) (ha : bj i.a) (hin : bj (aq x g).top.pF) : gC R pa p dr 212 x g i (.on (x.back g i)) L L := by
 intro gg b bs c M K Kp Q h fu k
 refine sP ?_
 replace k : ∀ mJ M', Hp R (ay (bC pa p mJ dr) b (x.back g i) :: Q :: L) M' → K (.tuple #[]) M' := k
 have ET := hg
 obtain ⟨h0, h1, h2, h3⟩ := ET
 unfold Wd.back at k
 refine ae h ?_
 clear h
 intro kb M h
 have h' := hG h (b := b) h0 h1 fu
 clear h
 obtain ⟨a, gb, hl, gd, h⟩ := h'
 have hl' := hl
 obtain ⟨l1, l2, l3, l4⟩ := hl'
 repeat (first|(refine ae h ?_;clear h;intro kb M h)|(refine au h ?_;clear h;intro M h)|refine St.to h ?_|(apply Exists.intro;(repeat apply Exists.intro);refine And.intro rfl ?_)|refine av ?_|refine ai ?_|refine aj ?_)
 refine uZ h gd fun q hq => ?_
 repeat (first|(refine ae h ?_;clear h;intro kb M h)|(refine au h ?_;clear h;intro M h)|refine St.to h ?_|(apply Exists.intro;(repeat apply Exists.intro);refine And.intro rfl ?_)|refine av ?_|refine ai ?_|refine aj ?_)
 refine ⟨ha.1, ha.2, wF h (eX h2) ha rfl ?_⟩
 refine ES h h2 (by omega) (eX h2) hin ?_ ?_
 ·intro hlt
  rw [if_neg (by omega)] at k
  refine ⟨_, _, _, _, rfl, aj ?_⟩
  repeat (first|(refine ae h ?_;clear h;intro kb M h)|(refine au h ?_;clear h;intro M h)|refine St.to h ?_|(apply Exists.intro;(repeat apply Exists.intro);refine And.intro rfl ?_)|refine av ?_|refine ai ?_|refine aj ?_)
  refine uZ h gd fun q2 oa => ?_
  repeat (first|(refine ae h ?_;clear h;intro kb M h)|(refine au h ?_;clear h;intro M h)|refine St.to h ?_|(apply Exists.intro;(repeat apply Exists.intro);refine And.intro rfl ?_)|refine av ?_|refine ai ?_|refine aj ?_)
  refine bh.2 ⟨fun e0 => ?_, fun e0 => ?_⟩
  ·rw [if_pos e0] at k
   repeat (first|(refine ae h ?_;clear h;intro kb M h)|(refine au h ?_;clear h;intro M h)|refine St.to h ?_|(apply Exists.intro;(repeat apply Exists.intro);refine And.intro rfl ?_)|refine av ?_|refine ai ?_|refine aj ?_)
   replace h := dh h gb hl gd fu
   have kM := dK (y := { aq x g with st := 4 }) (g := g) hl
   replace h := bk (a := a) (p := p) (pa := pa) (dr := dr) (gg := gg) (x := { x.bG g { aq x g with st := 4 } with end_ := 1 }) kM h b
   exact k _ _ h.ck
  ·rw [if_neg e0] at k
   replace h := dh h gb hl gd fu
   have kM := dK (y := { aq x g with st := 4 }) (g := g) hl
   replace h := bk (a := a) (p := p) (pa := pa) (dr := dr) (gg := gg) (x := x.bG g { aq x g with st := 4 }) kM h b
   exact k _ _ h.ck
 ·intro hge b' c' M' fr hfr h'
  clear h
  have h := h'
  clear h'
  rw [if_pos hge] at k
  refine ⟨_, _, _, _, rfl, ai ?_⟩
  repeat (first|(refine ae h ?_;clear h;intro kb M h)|(refine au h ?_;clear h;intro M h)|refine St.to h ?_|(apply Exists.intro;(repeat apply Exists.intro);refine And.intro rfl ?_)|refine av ?_|refine ai ?_|refine aj ?_)
  refine uZ h gd fun q2 oa => ?_
  repeat (first|(refine ae h ?_;clear h;intro kb M h)|(refine au h ?_;clear h;intro M h)|refine St.to h ?_|(apply Exists.intro;(repeat apply Exists.intro);refine And.intro rfl ?_)|refine av ?_|refine ai ?_|refine aj ?_)
  have hlen : (aq x g).fs.length - 1 = (((aq x g).fs.take ((aq x g).fs.length - 1)).set ((aq x g).fs.length - 2) (fr.set (aq x g).top.pF (bD x g i.a))).length := by simp
  have hfr2 : (aq x g).fs.getD ((aq x g).fs.length - 2) ⟨0, 0, [], 0⟩ = fr := by rw [List.getD_eq_getElem?_getD, hfr]; rfl
  have h5 := nI (A := some ⟨b', 0, none⟩) (fs := ((aq x g).fs.take ((aq x g).fs.length - 1)).set ((aq x g).fs.length - 2) (fr.set (aq x g).top.pF (bD x g i.a))) h gb hlen
  have hi := (List.getElem?_eq_some_iff.1 gd).1
  have h6 := h5.eF fY gb gd (by rw [List.length_zip]; omega)
  rw [Bl] at h6
  have kM : fG (gg.set g.toNat (some ⟨b', 0, none⟩, c')) a (x.bG g ((aq x g).back (bD x g i.a))) := ⟨by simpa [Wd.bG] using l1, by simpa [Wd.bG] using l2, l3, l4⟩
  have e : (aq x g).back (bD x g i.a) = ⟨(aq x g).st, ((aq x g).fs.take ((aq x g).fs.length - 1)).set ((aq x g).fs.length - 2) (fr.set (aq x g).top.pF (bD x g i.a)), (aq x g).wt⟩ := by
   unfold jt.back; rw [hfr2]
  rw [e] at kM k
  have h7 := bk (a := a) (p := p) (pa := pa) (dr := dr) (gg := gg.set g.toNat (some ⟨b', 0, none⟩, c')) (x := x.bG g ⟨(aq x g).st, ((aq x g).fs.take ((aq x g).fs.length - 1)).set ((aq x g).fs.length - 2) (fr.set (aq x g).top.pF (bD x g i.a)), (aq x g).wt⟩) kM h6 b
  exact k _ _ (h7.sub bu)
end
def Out.fin : Out Wd → Wd
 | .on y => y
 | .fM n y => { y with end_ := 2, code := n }
 | .dY _ y => y
def JX (op : Int) : Out Wd → Bool
 | .on _ => op == 12 || op == 17
 | .fM _ _ => false
 | .dY _ _ => false
inductive Step (R : Mem) (pa : PA) (p : cv) (dr : Value) (x : Wd) (g : Int) (code : List cQ) : Out Wd → Bool → List HP → List HP → Prop where
 | out {L : List HP} (h : (code.length : Int) ≤ (aq x g).top.pc) : Step R pa p dr x g code (.fM (-7) x) false L L
 | pure {L : List HP} (i : cQ) (h : code[(aq x g).top.pc.toNat]? = some i) (h0 : 0 ≤ i.op) (h8 : i.op ≤ 8) (hk : i.cN) : Step R pa p dr x g code (.on (x.bG g ((aq x g).cW ((aq x g).top.next.pure i)))) false L L
 | EZ {L L2 : List HP} {r : Out Wd} (i : cQ) (h : code[(aq x g).top.pc.toNat]? = some i) (wG : i.op = 16) (hs : gC R pa p dr 191 x g i r L L2) : Step R pa p dr x g code r false L L2
 | YN {L L2 : List HP} {r : Out Wd} (i : cQ) (h : code[(aq x g).top.pc.toNat]? = some i) (h21 : i.op = 21) (hs : gC R pa p dr 192 x g i r L L2) : Step R pa p dr x g code r false L L2
 | dflt {L L2 : List HP} {r : Out Wd} (i : cQ) (fn : Nat) (h : code[(aq x g).top.pc.toNat]? = some i) (h8 : 8 < i.op) (wG : i.op ≠ 16) (h21 : i.op ≠ 21) (hf : CF YM i.op = some (.func (.func fn) #[] #[])) (hn : 1 < fn ∧ fn < 255)
   (hs : gC R pa p dr fn (x.next g) g i r L L2) : Step R pa p dr x g code r (JX i.op r) L L2
section
variable {R : Mem} {L L' L2 : List HP} {M : Mem} {K : Value → Mem → Prop} {Kp : List PanicEntry → Mem → Prop} {pa : PA} {p : cv} {gg : List GA} {dr : Value} {b : Nat} {x : Wd} {g : Int} {i : cQ}
theorem YO {c bs j : Nat} {l : List gH} {f : gH} {G : Int → Prop} (h : Hp R L M) [q : cJ (some ⟨bs, 0, none⟩) L gH fF 275 c l L'] (hi : l[j]? = some f) (g : G f.fn) : aK (M.ld ⟨bs, j * 11, none⟩) .i64 G := by
 refine aR (Src.at (h.src (A := some ⟨bs, 0, none⟩)) h (i := j) (j := 0) hi rfl ?_) g
 show _ = 0 + (j * 11 + 0); omega
theorem E0 {n : Int} {v : Value} {Q : HP} (h : Hp R (ay (bC pa p gg dr) b x :: Q :: L) M) (k : ∀ M', Hp R (ay (bC pa p gg dr) b { x with end_ := 2, code := n } :: L) M' → K v M') :
  cL Tryz.prog 188 (.pointer (some ⟨b, 0, none⟩)) K Kp v (.panicking (Vh n)) M := by
 refine JB ?_
 have h' := cG h (b := b)
 clear h
 obtain ⟨a, hl, h⟩ := h'
 repeat (first|(refine ae h ?_;clear h;intro kb M h)|(refine au h ?_;clear h;intro M h)|refine St.to h ?_|(apply Exists.intro;(repeat apply Exists.intro);refine And.intro rfl ?_)|refine av ?_|refine ai ?_|refine aj ?_)
 exact k _ (kj (a := a) (x := { x with end_ := 2, code := n }) hl (h.sub bu))
theorem zT {k : Nat} {bw : Nat} (h : Hp R L M) [o : jV k L [.int .i64 i.op, .int .i64 i.a, .int .i64 i.b, .int .i64 i.c] 27 L'] (g : K (.bool (i.op == 12 || i.op == 17)) M) :
  aK (M.ld ⟨k, 0, none⟩) .i64 fun n => aS (n == 12) (cL Tryz.prog 188 (.pointer (some ⟨bw, 0, none⟩)) K Kp (.bool true) .returning M)
   (aK (M.ld ⟨k, 0, none⟩) .i64 fun n => cL Tryz.prog 188 (.pointer (some ⟨bw, 0, none⟩)) K Kp (.bool (n == 17)) .returning M) := by
 have hp := h.pick o.pick
 refine aF hp ?_
 refine bh.2 ⟨fun e => ?_, fun e => ?_⟩
 ·rw [e] at g; exact GK g
 ·refine aF hp ?_
  have : (i.op == 12) = false := by simpa using e
  rw [this, Bool.false_or] at g
  exact GK g
def QM (R : Mem) (pa : PA) (p : cv) (dr : Value) (b : Nat) (L2 : List HP) (K : Value → Mem → Prop) (Kp : List PanicEntry → Mem → Prop) (r : Out Wd) (rest : Bool) : Prop := match r with
 | .dY l y => ∀ mJ M', Hp R (ay (bC pa p mJ dr) b y :: L2) M' → cL Tryz.prog 188 (.pointer (some ⟨b, 0, none⟩)) K Kp (.bool false) (.panicking l) M'
 | .on y => ∀ mJ M', Hp R (ay (bC pa p mJ dr) b y :: L2) M' → K (.bool rest) M'
 | .fM n y => ∀ mJ M', Hp R (ay (bC pa p mJ dr) b { y with end_ := 2, code := n } :: L2) M' → K (.bool rest) M'
theorem Hg {code : List cQ} {r : Out Wd} {rest : Bool} (h : Hp R L M) [o : xS b L pa p gg dr x L'] (hp : lB R pa p) (hg : br x g) (hfn : 0 ≤ (aq x g).top.fn) (nJ : p.funcs[(aq x g).top.fn.toNat]? = some code)
  (CG : 0 ≤ (aq x g).top.pc ∧ (aq x g).top.pc < 1000000000) (hs : Step R pa p dr x g code r rest L' L2)
  (k : QM R pa p dr b L2 K Kp r rest) : aa Tryz.prog 159 #[.pointer (some ⟨b, 0, none⟩), .int .i64 g] M K Kp := by
 refine wC ?_
 have ET := hg
 obtain ⟨h0, h1, h2, h3⟩ := ET
 have h' := ko h (b := b) h0 h1
 clear h
 obtain ⟨a, gb, A, c, hl, gd, fu, h⟩ := h'
 have hl' := hl
 obtain ⟨l1, l2, l3, l4⟩ := hl'
 obtain ⟨bs, rfl⟩ := h.bF (A := A) h2 (by decide)
 have QN : ∀ {M : Mem}, Hp R (pt gb (qU (aq x g) (some ⟨bs, 0, none⟩) c) 229 :: tO (some ⟨bs, 0, none⟩) c (aq x g).fs :: pt b (mX pa p dr a x) 161 :: mF fY a.gb (x.gs.zip gg) g.toNat :: tX a x L') M → Hp R (ay (bC pa p gg dr) b x :: L') M := by
  intro M h
  replace h := dh h gb hl gd fu
  have kM := dK (y := aq x g) (g := g) hl
  replace h := bk (a := a) (p := p) (pa := pa) (dr := dr) (gg := gg) (x := x.bG g (aq x g)) kM h b
  rwa [sx h0 h1] at h
 repeat (first|(refine ae h ?_;clear h;intro kb M h)|(refine au h ?_;clear h;intro M h)|refine St.to h ?_|(apply Exists.intro;(repeat apply Exists.intro);refine And.intro rfl ?_)|refine av ?_|refine ai ?_|refine aj ?_)
 refine uZ h gd fun q hq => ?_
 repeat (first|(refine ae h ?_;clear h;intro kb M h)|(refine au h ?_;clear h;intro M h)|refine St.to h ?_|(apply Exists.intro;(repeat apply Exists.intro);refine And.intro rfl ?_)|refine av ?_|refine ai ?_|refine aj ?_)
 refine nH h2 (by omega) ?_
 repeat (first|(refine ae h ?_;clear h;intro kb M h)|(refine au h ?_;clear h;intro M h)|refine St.to h ?_|(apply Exists.intro;(repeat apply Exists.intro);refine And.intro rfl ?_)|refine av ?_|refine ai ?_|refine aj ?_)
 refine YO h (eX h2) ?_
 obtain ⟨ts, hts, htl, hrow⟩ := hp.funcs
 have hfl := (List.getElem?_eq_some_iff.1 nJ).1
 obtain ⟨t, ht⟩ := aM (l := ts) (i := (aq x g).top.fn.toNat) (by omega)
 obtain ⟨CH, ZN⟩ := hrow _ t code ht nJ
 obtain ⟨tA, tn, tc⟩ := t
 dsimp only at CH ZN
 subst ZN
 refine ⟨hfn, by omega, ?_⟩
 obtain ⟨fb, fo, hfb⟩ := hts.some (by omega) (by decide)
 rw [hfb] at hts ⊢
 refine bg ?_
 refine Ef (Src.at (hts.src (L := _)) h (i := (aq x g).top.fn.toNat) (j := 0) ht rfl (by simp [zx])) ?_
 dsimp only
 refine bg ?_
 refine Bc h (eX h2) rfl ?_
 refine aJ.2 ⟨fun hge => ?_, fun hlt => ?_⟩
 ·cases hs with
  | out _ =>
   have h5 : Hp R (ay (bC pa p gg dr) b x :: fact True :: L') M := (Hp.gv.2 ⟨trivial, QN h⟩).swap
   exact E0 h5 fun M' h' => k gg M' h'
  | pure i hi => have := (List.getElem?_eq_some_iff.1 hi).1; omega
  | EZ i hi => have := (List.getElem?_eq_some_iff.1 hi).1; omega
  | YN i hi => have := (List.getElem?_eq_some_iff.1 hi).1; omega
  | dflt i fn hi => have := (List.getElem?_eq_some_iff.1 hi).1; omega
 refine bg ?_
 refine Bc h (eX h2) rfl ?_
 refine ⟨CG.1, by omega, ?_⟩
 obtain ⟨i, hi⟩ := aM (l := code) (i := (aq x g).top.pc.toNat) (by omega)
 obtain ⟨ib, io, rfl⟩ := CH.some (by omega) (by decide)
 refine bg ?_
 refine aR (Src.at (CH.src (L := _)) h (i := (aq x g).top.pc.toNat) (j := 0) hi rfl (by simp [jI])) ?_
 refine aR (Src.at (CH.src (L := _)) h (i := (aq x g).top.pc.toNat) (j := 1) hi rfl (by show _ = io + (_ * 4 + 1); omega)) ?_
 refine aR (Src.at (CH.src (L := _)) h (i := (aq x g).top.pc.toNat) (j := 2) hi rfl (by show _ = io + (_ * 4 + 2); omega)) ?_
 refine aR (Src.at (CH.src (L := _)) h (i := (aq x g).top.pc.toNat) (j := 3) hi rfl (by show _ = io + (_ * 4 + 3); omega)) ?_
 have hpure : i.cN ∧ 0 ≤ i.op ∨ 8 < i.op := by
  cases hs with
  | out h => omega
  | pure j hj a1 a2 a3 => rw [hi] at hj; cases hj; exact .inl ⟨a3, a1⟩
  | EZ j hj a1 => rw [hi] at hj; cases hj; exact .inr (by omega)
  | YN j hj a1 => rw [hi] at hj; cases hj; exact .inr (by omega)
  | dflt j fn hj a1 => rw [hi] at hj; cases hj; exact .inr a1
 have hok : i.cN ∧ 0 ≤ i.op := by
  rcases hpure with h | h
  ·exact h
  ·exact ⟨⟨fun h => by simp at h; omega, fun h => by omega, fun h => by simp at h; omega⟩, by omega⟩
 refine ae h ?_
 clear h; intro ki M h
 refine au h ?_
 clear h; intro M h
 refine au h ?_
 clear h; intro M h
 refine au h ?_
 clear h; intro M h
 refine au h ?_
 clear h; intro M h
 refine aF h (aF h (aF h (aF h ?_)))
 refine JE h (eX h2) hok.1 hok.2 CG ?_ ?_
 ·intro h8 M' h'
  clear h
  have h := h'
  clear h'
  refine o6 (ai ?_)
  cases hs with
  | out h => omega
  | EZ j hj a1 => rw [hi] at hj; cases hj; omega
  | YN j hj a1 => rw [hi] at hj; cases hj; omega
  | dflt j fn hj a1 => rw [hi] at hj; cases hj; omega
  | pure j hj a1 a2 a3 =>
   rw [hi] at hj; cases hj
   replace h := dh h gb hl gd fu (by simp)
   have kM := dK (y := (aq x g).cW ((aq x g).top.next.pure i)) (g := g) hl
   have h5 := bk (a := a) (p := p) (pa := pa) (dr := dr) (gg := gg) (x := x.bG g ((aq x g).cW ((aq x g).top.next.pure i))) kM h b
   refine zT h5 ?_
   have e1 : (i.op == 12) = false := by simp; omega
   have e2 : (i.op == 17) = false := by simp; omega
   rw [e1, e2]
   exact k gg _ h5.ck
 ·intro h8 M' h'
  clear h
  have h := h'
  clear h'
  refine o6 (aj ?_)
  refine aF h ?_
  refine bh.2 ⟨fun K9 => ?_, fun K9 => ?_⟩
  ·refine aF h (aF h (aF h (aF h ?_)))
   cases hs with
   | out h => omega
   | pure j hj a1 a2 a3 => rw [hi] at hj; cases hj; omega
   | dflt j fn hj a1 a2 => rw [hi] at hj; cases hj; omega
   | YN j hj a1 => rw [hi] at hj; cases hj; omega
   | EZ j hj a1 hop =>
    rw [hi] at hj; cases hj
    replace h := dh h gb hl gd fu
    have kM := dK (y := aq x g) (g := g) hl
    replace h := bk (a := a) (p := p) (pa := pa) (dr := dr) (gg := gg) (x := x.bG g (aq x g)) kM h b
    rw [sx h0 h1] at h
    refine hop gg b bs c M' _ _ _ h fu ?_
    cases r with
    | on y =>
     intro mJ M2 h
     refine ⟨rfl, zT h ?_⟩
     have e1 : (i.op == 12) = false := by simp; omega
     have e2 : (i.op == 17) = false := by simp; omega
     rw [e1, e2]
     exact k mJ _ h.ck
    | fM n y =>
     intro mJ M2 h
     exact E0 h fun M3 h3 => k mJ M3 h3
    | dY l y =>
     intro mJ M2 h
     exact k mJ M2 h.ck
  ·refine aF h ?_
   refine bh.2 ⟨fun ZO => ?_, fun ZO => ?_⟩
   ·refine aF h (aF h (aF h (aF h ?_)))
    cases hs with
    | out h => omega
    | pure j hj a1 a2 a3 => rw [hi] at hj; cases hj; omega
    | EZ j hj a1 => rw [hi] at hj; cases hj; omega
    | dflt j fn hj a1 a2 a3 => rw [hi] at hj; cases hj; omega
    | YN j hj a1 hop =>
     rw [hi] at hj; cases hj
     replace h := dh h gb hl gd fu
     have kM := dK (y := aq x g) (g := g) hl
     replace h := bk (a := a) (p := p) (pa := pa) (dr := dr) (gg := gg) (x := x.bG g (aq x g)) kM h b
     rw [sx h0 h1] at h
     refine hop gg b bs c M' _ _ _ h fu ?_
     cases r with
     | on y =>
      intro mJ M2 h
      refine ⟨rfl, zT h ?_⟩
      have e1 : (i.op == 12) = false := by simp; omega
      have e2 : (i.op == 17) = false := by simp; omega
      rw [e1, e2]
      exact k mJ _ h.ck
     | fM n y =>
      intro mJ M2 h
      exact E0 h fun M3 h3 => k mJ M3 h3
     | dY l y =>
      intro mJ M2 h
      exact k mJ M2 h.ck
   cases hs with
   | out h => omega
   | pure j hj a1 a2 a3 => rw [hi] at hj; cases hj; omega
   | EZ j hj a1 => rw [hi] at hj; cases hj; omega
   | YN j hj a1 => rw [hi] at hj; cases hj; omega
   | dflt j fn hj a1 a2 a3 hf hn hop =>
    rw [hi] at hj; cases hj
    refine bg ?_
    refine Bc h (eX h2) rfl ?_
    refine bg ?_
    rw [jJ CG.1 (by omega)]
    refine Bd h (eX h2) rfl ?_
    clear h; intro M h
    refine aF h (aF h (aF h (aF h (aF h ?_))))
    refine Hf h ?_
    clear h; intro mp M h
    refine ⟨jU (bN h) (jU (bN h) (jU (bN h) (jU (bN h) vI))), bN h, ?_⟩
    have hu : Tryz.prog.underlying 345 = some (.map 25 344) := by kernel_rfl
    have hkk : Tryz.prog.underlying 25 = some (.int .i64) := by kernel_rfl
    obtain ⟨ti, hti, htz⟩ : ∃ ti, Tryz.prog.info? 344 = some ti ∧ ti.zero = some .nilFunc := ⟨_, rfl, rfl⟩
    refine Qr h hu hkk hti htz ?_
    rw [hf]
    refine ⟨jU (bN h) (jU (bN h) (jU (bN h) (jU (bN h) vI))), bN h, ?_⟩
    refine GR hn ?_
    replace h := dh h gb hl gd fu (by simp)
    have kM := dK (y := (aq x g).cW (aq x g).top.next) (g := g) hl
    have h5 := bk (a := a) (p := p) (pa := pa) (dr := dr) (gg := gg) (x := x.next g) kM h b
    have h6 : Hp R (ay (bC pa p gg dr) b (x.next g) :: pt ki [.int .i64 i.op, .int .i64 i.a, .int .i64 i.b, .int .i64 i.c] 27 :: L') M := h5.sub bu
    clear h h5
    have hfl : (aq (x.next g) g).fs.length = (aq x g).fs.length := by
     unfold Wd.next; rw [g9 h0 h1]; simp [jt.cW]
    have hc := hop gg b bs c M (fun PD mh => (PD = (.tuple #[])) ∧ ((Mem.fN mh ⟨ki, 0, none⟩ 0 4) = some [(.int .i64 i.op), (.int .i64 i.a), (.int .i64 i.b), (.int .i64 i.c)]) ∧ ((Mem.ld mh ⟨ki, 0, none⟩) = (some (.int .i64 i.op))) ∧
     aK (mh.ld ⟨ki, 0, none⟩) .i64 fun n => aS (n == 12) (cL Tryz.prog 188 (.pointer (some ⟨b, 0, none⟩)) K Kp (.bool true) .returning mh)
      (aK (mh.ld ⟨ki, 0, none⟩) .i64 fun n => cL Tryz.prog 188 (.pointer (some ⟨b, 0, none⟩)) K Kp (.bool (n == 17)) .returning mh))
     (fun l M => cL Tryz.prog 188 (.pointer (some ⟨b, 0, none⟩)) K Kp (.bool false) (.panicking l) M) _ h6 fu ?_
    ·rw [hfl] at hc
     exact hc
    cases r with
    | on y =>
     intro mJ M2 h
     exact ⟨rfl, jU (bN h) (jU (bN h) (jU (bN h) (jU (bN h) vI))), bN h, zT h (k mJ _ h.ck)⟩
    | fM n y =>
     intro mJ M2 h
     exact E0 h fun M3 h3 => k mJ M3 h3
    | dY l y =>
     intro mJ M2 h
     exact k mJ M2 h.ck
end
abbrev oQ (pa : PA) (p : cv) (dr : Value) (a : WA) (x : Wd) (n : Nat) : List Value :=
 [.slice pa.f p.funcs.length pa.fc, .slice pa.c p.dS.length pa.cc, .int .i64 p.aI, .slice pa.k p.cases.length pa.kc, .slice a.ag a.gb.length a.cg, .int .u64 x.clock,
  .slice a.ac a.cb.length a.cc, .slice a.al a.lb.length a.cl, .slice a.ah x.hl.length a.ch, .int .u64 x.lz, .slice a.ao x.out.length a.co, .int .i64 x.end_, .int .i64 x.code, .slice a.ar n a.cr, dr]
abbrev u7 (a : WA) (x : Wd) (L : List HP) : List HP :=
 yN a.ag a.cg a.gb :: yO a.ac a.cc a.cb :: bp bI a.cb x.aB :: yP a.al a.cl a.lb :: bp eT a.lb x.aI :: eu a.ah a.ch x.hl :: jz a.ao a.co x.out :: L
def bn (pa : PA) (p : cv) : um Wd := ⟨fun b x => exs fun q : WA × List GA × Value × Nat =>
 sep (pt b (oQ pa p q.2.2.1 q.1 x q.2.2.2) 161 :: bp fY q.1.gb (x.gs.zip q.2.1) :: fact (fG q.2.1 q.1 x) :: u7 q.1 x [])⟩
section
variable {R : Mem} {L L' L2 : List HP} {M : Mem} {K : Value → Mem → Prop} {Kp : List PanicEntry → Mem → Prop} {pa : PA} {p : cv} {gg : List GA} {dr : Value} {b : Nat} {x : Wd} {g : Int}
class CI (b : Nat) (L : List HP) (pa : outParam PA) (p : outParam cv) (x : outParam Wd) (L' : outParam (List HP)) : Prop where
 pick : cZ L (ay (bn pa p) b x) L'
instance CI.here : CI b (ay (bn pa p) b x :: L) pa p x L := ⟨.here⟩
instance (priority := low) CI.there {Q : HP} [h : CI b L pa p x L'] : CI b (Q :: L) pa p x (Q :: L') := ⟨.there h.pick⟩
theorem cR (h : Hp R L M) [o : CI b L pa p x L'] : ∃ (a : WA) (gg : List GA) (dr : Value) (n : Nat), fG gg a x ∧ Hp R (pt b (oQ pa p dr a x n) 161 :: bp fY a.gb (x.gs.zip gg) :: u7 a x L') M := by
 have := h.pick o.pick
 unfold ay at this
 simp only [bn, u7, Hp.dU, Hp.bl, List.cons_append, List.nil_append] at this
 obtain ⟨⟨a, gg, dr, n⟩, h⟩ := this
 have h2 := h.pick (P := fact (fG gg a x)) (.there (.there .here))
 exact ⟨a, gg, dr, n, (Hp.gv.1 h2).1, (Hp.gv.1 h2).2⟩
theorem jn {a : WA} {n : Nat} (hl : fG gg a x) (h : Hp R (pt b (oQ pa p dr a x n) 161 :: bp fY a.gb (x.gs.zip gg) :: u7 a x L) M) : Hp R (ay (bn pa p) b x :: L) M := by
 refine Hp.xw ?_
 simp only [bn, u7, Hp.dU, Hp.bl, List.cons_append, List.nil_append]
 refine ⟨(a, gg, dr, n), ?_⟩
 have h2 : Hp R (fact (fG gg a x) :: pt b (oQ pa p dr a x n) 161 :: bp fY a.gb (x.gs.zip gg) :: u7 a x L) M := Hp.gv.2 ⟨hl, h⟩
 exact h2.ov (.there (.there .here))
def jo (x : Wd) (g : Int) (rest : Bool) : Bool := !rest && x.end_ == 0 && (aq x g).st == 1
def DF (l l' : List PanicEntry) : Prop := ∀ (b : Nat) (v : Value) (M : Mem) (K : Value → Mem → Prop) (Kp : List PanicEntry → Mem → Prop), Kp l' M → cL Tryz.prog 188 (.pointer (some ⟨b, 0, none⟩)) K Kp v (.panicking l) M
def so (R : Mem) (pa : PA) (p : cv) (b : Nat) (g : Int) (L2 : List HP) (K : Value → Mem → Prop) (Kp : List PanicEntry → Mem → Prop) (r : Out Wd) (rest : Bool) : Prop := match r with
 | .dY l y => ∃ l', DF l l' ∧ ∀ M', Hp R (ay (bn pa p) b y :: L2) M' → Kp l' M'
 | .on y => ∀ R' A c M', R.le R' → RS aZ R' A c y.ready → Hp R' (ay (bn pa p) b y :: L2) M' → K (.agg #[.bool (jo y g rest), .slice A y.ready.length c]) M'
 | .fM n y => ∀ R' A c M', R.le R' → RS aZ R' A c y.ready → Hp R' (ay (bn pa p) b { y with end_ := 2, code := n } :: L2) M' → K (.agg #[.bool (jo { y with end_ := 2, code := n } g rest), .slice A y.ready.length c]) M'
theorem QM.of {r : Out Wd} {rest : Bool} (hd : ¬ ∃ l y, r = .dY l y) (k : ∀ mJ M', Hp R (ay (bC pa p mJ dr) b r.fin :: L2) M' → K (.bool rest) M') : QM R pa p dr b L2 K Kp r rest := by
 cases r with
 | on y => exact k
 | fM n y => exact k
 | dY l y => exact absurd ⟨l, y, rfl⟩ hd
theorem so.get {r : Out Wd} {rest : Bool} (hd : ¬ ∃ l y, r = .dY l y) (k : so R pa p b g L2 K Kp r rest) :
  ∀ R' A c M', R.le R' → RS aZ R' A c r.fin.ready → Hp R' (ay (bn pa p) b r.fin :: L2) M' → K (.agg #[.bool (jo r.fin g rest), .slice A r.fin.ready.length c]) M' := by
 cases r with
 | on y => exact k
 | fM n y => exact k
 | dY l y => exact absurd ⟨l, y, rfl⟩ hd
theorem JY {code : List cQ} {r : Out Wd} {rest : Bool} (h : Hp R L M) [o : CI b L pa p x L'] (hp : lB R pa p) (hg : br x g) (he : x.end_ = 0) (hst : (aq x g).st = 1)
  (hfn : 0 ≤ (aq x g).top.fn) (nJ : p.funcs[(aq x g).top.fn.toNat]? = some code)
  (CG : 0 ≤ (aq x g).top.pc ∧ (aq x g).top.pc < 1000000000) (CJ : ∃ f c d, dr = .func f c d) (hs : ∀ Q, Step R pa p dr { x with ready := [] } g code r rest (Q :: L') (Q :: L2)) (hlen : g < r.fin.gs.length)
  (k : so R pa p b g L2 K Kp r rest) :
  aa Tryz.prog 121 #[.pointer (some ⟨b, 0, none⟩), .int .i64 g, dr] M K Kp := by
 refine kV ?_
 have ET := hg
 obtain ⟨h0, h1, h2, h3⟩ := ET
 refine ae h ?_
 clear h
 intro kb M h
 have h' := cR h (b := b)
 clear h
 obtain ⟨a, gg, dr0, n0, hl, h⟩ := h'
 have hl' := hl
 obtain ⟨l1, l2, l3, l4⟩ := hl'
 refine aJ.2 ⟨fun hn => by omega, fun _ => ?_⟩
 refine aL h ?_
 refine aJ.2 ⟨fun hn => by omega, fun _ => ?_⟩
 refine aF h ?_
 refine fj.2 ⟨fun hn => absurd he hn, fun _ => ?_⟩
 refine aL h ?_
 refine ⟨h0, by omega, ?_⟩
 obtain ⟨gb, gd⟩ := aM (l := a.gb) (i := g.toNat) (by omega)
 refine uZ h gd fun q hq => ?_
 obtain ⟨ga, TI⟩ := aM (l := gg) (i := g.toNat) (by omega)
 obtain ⟨y, hy⟩ := aM (l := x.gs) (i := g.toNat) (by omega)
 have ey : aq x g = y := by simp [aq, hy]
 rw [ey] at hst
 refine bg ?_
 have QO : M.ld ⟨gb, 0, none⟩ = some (.int .i64 y.st) := by
  have h9 := lW (b := gb) (h.cK fY gd (mG hy TI))
  exact bN h9
 rw [QO]
 refine cz ?_
 refine fj.2 ⟨fun hn => absurd hst hn, fun _ => ?_⟩
 refine au h ?_
 clear h QO; intro M h
 have hpc2 : ∀ X : Prop, X → CS dr X := by
  obtain ⟨f, c, d, rfl⟩ := CJ
  intro X hX; exact hX
 refine hpc2 _ ?_
 refine au h ?_
 clear h; intro M h
 have h4 := h.bP aZ 3
 have h5 : Hp R (ay (bC pa p gg dr) b { x with ready := [] } :: pt kb [.bool false, .slice none 0 0] 250 :: L') M := kj (a := { a with ar := none, cr := 0 }) (x := { x with ready := [] }) hl (h4.sub bu)
 clear h h4
 by_cases JZ : ∃ l y, r = .dY l y
 ·obtain ⟨l, y, rfl⟩ := JZ
  refine Hg (b := b) (x := { x with ready := [] }) h5 hp hg hfn nJ CG (hs _) ?_
  clear h5
  intro mJ M h
  obtain ⟨l', hdr2, k⟩ := k
  refine hdr2 _ _ _ _ _ (k _ ?_)
  have h' := cG h (b := b)
  clear h
  obtain ⟨a2, kM, h⟩ := h'
  exact jn (a := a2) (n := y.ready.length) (gg := mJ) (dr := dr) kM (h.sub bu)
 refine Hg (b := b) (x := { x with ready := [] }) h5 hp hg hfn nJ CG (hs _) (.of JZ ?_)
 clear h5
 intro mJ M h
 replace k := so.get JZ k
 generalize r.fin = z at h k hlen
 have h' := cG h (b := b)
 clear h
 obtain ⟨a2, kM, h⟩ := h'
 have YF := kM
 obtain ⟨m1, m2, m3, m4⟩ := YF
 have fin : ∀ t : Bool, t = jo z g rest → aP M ⟨kb, 0, none⟩ (.bool t) fun U0 =>
    aP U0 ⟨kb, (0 + 1), none⟩ (.slice a2.ar z.ready.length a2.cr) fun B7 =>
    dH (Mem.ld B7 ⟨kb, 0, none⟩) fun t60 =>
    az (Mem.ld B7 ⟨kb, (0 + 1), none⟩) fun Wl SL N9 =>
    K (.agg #[(.bool t60), (.slice Wl SL N9)]) B7 := by
  intro t ht
  refine au h ?_
  clear h; intro M h
  refine au h ?_
  clear h; intro M h
  refine F6 h (aL h ?_)
  obtain ⟨R', hle, oR, h6⟩ := h.dO a2.ar
  subst ht
  exact k R' _ _ _ hle oR (jn (a := a2) (n := z.ready.length) (gg := mJ) (dr := dr) kM (h6.sub bu))
 refine o6 ?_
 cases rest with
 | true =>
  refine aj ?_
  refine aL h ?_
  exact fin false (by simp [jo])
 | false =>
  refine ai ?_
  refine aF h ?_
  refine bh.2 ⟨fun e0 => ?_, fun e0 => ?_⟩
  ·refine aL h ?_
   refine ⟨h0, by omega, ?_⟩
   obtain ⟨gb2, hgb2⟩ := aM (l := a2.gb) (i := g.toNat) (by omega)
   refine uZ h hgb2 fun q2 oa => ?_
   obtain ⟨ga2, hga2⟩ := aM (l := mJ) (i := g.toNat) (by omega)
   obtain ⟨y2, hy2⟩ := aM (l := z.gs) (i := g.toNat) (by omega)
   have ey2 : aq z g = y2 := by simp [aq, hy2]
   refine bg ?_
   have QO : M.ld ⟨gb2, 0, none⟩ = some (.int .i64 y2.st) := by
    have h9 := lW (b := gb2) (h.cK fY hgb2 (mG hy2 hga2))
    exact bN h9
   rw [QO]
   refine cz ?_
   refine aL h ?_
   exact fin (y2.st == 1) (by simp [jo, e0, ey2])
  ·refine aL h ?_
   have : (z.end_ == 0) = false := by simpa using e0
   exact fin false (by simp [jo, this])
end
section
variable {R : Mem} {L L' L2 : List HP} {M : Mem} {K : Value → Mem → Prop} {Kp : List PanicEntry → Mem → Prop} {pa : PA} {p : cv} {gg : List GA} {dr : Value} {b : Nat} {x : Wd} {g : Int}
theorem DG (h : Hp R L M) [o : CI b L pa p x L'] (k : K (.int .i64 (x.gs.length : Int)) M) : aa Tryz.prog 73 #[.pointer (some ⟨b, 0, none⟩)] M K Kp := by
 refine uC ?_
 have h' := cR h (b := b)
 clear h
 obtain ⟨a, gg, dr, n, hl, h⟩ := h'
 refine aL h ?_
 rw [hl.1]
 exact k
theorem DH (h : Hp R L M) [o : CI b L pa p x L'] (k : K (.tuple #[.int .i64 x.end_, .int .i64 x.code]) M) : aa Tryz.prog 28 #[.pointer (some ⟨b, 0, none⟩)] M K Kp := by
 refine uD ?_
 have h' := cR h (b := b)
 clear h
 obtain ⟨a, gg, dr, n, hl, h⟩ := h'
 refine aF h (aF h ?_)
 exact k
theorem wO (h : Hp R L M) [o : CI b L pa p x L'] (h0 : 0 ≤ g) (h1 : g < x.gs.length) (k : K (.int .i64 (aq x g).st) M) : aa Tryz.prog 119 #[.pointer (some ⟨b, 0, none⟩), .int .i64 g] M K Kp := by
 refine pG ?_
 have h' := cR h (b := b)
 clear h
 obtain ⟨a, gg, dr, n, hl, h⟩ := h'
 have hl' := hl
 obtain ⟨l1, l2, l3, l4⟩ := hl'
 refine aJ.2 ⟨fun hn => by omega, fun _ => ?_⟩
 refine aL h ?_
 refine aJ.2 ⟨fun hn => by omega, fun _ => ?_⟩
 refine aL h ?_
 refine ⟨h0, by omega, ?_⟩
 obtain ⟨gb, gd⟩ := aM (l := a.gb) (i := g.toNat) (by omega)
 refine uZ h gd fun q hq => ?_
 obtain ⟨ga, TI⟩ := aM (l := gg) (i := g.toNat) (by omega)
 obtain ⟨y, hy⟩ := aM (l := x.gs) (i := g.toNat) (by omega)
 have ey : aq x g = y := by simp [aq, hy]
 rw [ey] at k
 refine bg ?_
 have QO : M.ld ⟨gb, 0, none⟩ = some (.int .i64 y.st) := by
  have h9 := lW (b := gb) (h.cK fY gd (mG hy TI))
  exact bN h9
 rw [QO]
 exact cz k
theorem Hh (h : Hp R L M) [o : CI b L pa p x L'] (hg : br x g)
  (k : ∀ bs c M', Hp R (tO (some ⟨bs, 0, none⟩) c (aq x g).fs :: L) M' → K (.slice (some ⟨bs, 0, none⟩) (aq x g).fs.length c) M') : aa Tryz.prog 132 #[.pointer (some ⟨b, 0, none⟩), .int .i64 g] M K Kp := by
 refine qy ?_
 obtain ⟨h0, h1, h2, h3⟩ := hg
 have hC := h
 have h' := cR h (b := b)
 clear h
 obtain ⟨a, gg, dr, n, hl, h⟩ := h'
 have hl' := hl
 obtain ⟨l1, l2, l3, l4⟩ := hl'
 refine aJ.2 ⟨fun hn => by omega, fun _ => ?_⟩
 refine aL h ?_
 refine aJ.2 ⟨fun hn => by omega, fun _ => ?_⟩
 refine aL h ?_
 refine ⟨h0, by omega, ?_⟩
 obtain ⟨gb, gd⟩ := aM (l := a.gb) (i := g.toNat) (by omega)
 refine uZ h gd fun q hq => ?_
 obtain ⟨⟨A, c⟩, TI⟩ := aM (l := gg) (i := g.toNat) (by omega)
 obtain ⟨y, hy⟩ := aM (l := x.gs) (i := g.toNat) (by omega)
 have ey : aq x g = y := by simp [aq, hy]
 rw [ey] at k h2 h3
 refine bg ?_
 have h9 := lW (b := gb) (h.cK fY gd (mG hy TI))
 refine aL h9 ?_
 have hsrc : Sl M A (fF.cells y.fs) := (h9.src (A := A)) M h9
 clear h9 h
 have hs2 : Src R (fact (Sl M A (fF.cells y.fs)) :: L) A (fF.cells y.fs) → True := fun _ => trivial
 refine qz ?_
 have YP := hC.bP fF 275
 refine Hp.uY YP (l := []) JD hsrc rfl (by simp; omega) ?_
 clear hC YP hsrc
 intro A' c' M h
 refine aO (aO ?_)
 obtain ⟨bs, rfl⟩ := h.bF (A := A') (by simpa using h2) (by decide)
 exact k _ _ _ h
theorem Nq (h : Hp R L M) [o : CI b L pa p x L'] (hs : x.out.length ≤ 1000000) (k : ∀ A c M', Hp R (jz A c x.out :: L) M' → K (.slice A x.out.length c) M') : aa Tryz.prog 23 #[.pointer (some ⟨b, 0, none⟩)] M K Kp := by
 refine uE ?_
 refine ae h ?_
 clear h; intro kb M h
 have hC := h
 have h' := cR h (b := b)
 clear h
 obtain ⟨a, gg, dr, n, hl, h⟩ := h'
 refine aL h ?_
 have hsrc : Sl M a.ao (aZ.cells x.out) := (h.src (A := a.ao)) M h
 clear h
 have YP : Hp R (bE aZ 2 (some ⟨kb, 0, none⟩) ([] : List Int).length [] :: L) M := hC.fQ rfl
 refine Hp.uY YP (l := []) xD hsrc rfl (by simp; omega) ?_
 clear hC YP hsrc
 intro A' c' M h
 exact aO (k _ _ _ h)
end
def Wd.new (p : cv) : Wd := ⟨[⟨1, [gH.begin 0 0], .zero⟩], 0, p.dS.map aV.new, List.replicate p.aI.toNat ⟨-1, []⟩, [], 0, [], 0, 0, []⟩
theorem Vi : aY Tryz.prog 156 230 1 8 [.pointer none] := aY.mk' (zv := .pointer none) (by kernel_rfl) (by kernel_rfl) rfl (by omega)
theorem Vj : aY Tryz.prog 157 232 1 8 [.pointer none] := aY.mk' (zv := .pointer none) (by kernel_rfl) (by kernel_rfl) rfl (by omega)
section
variable {R : Mem} {L L' L2 : List HP} {M : Mem} {K : Value → Mem → Prop} {Kp : List PanicEntry → Mem → Prop} {pa : PA} {p : cv} {gg : List GA} {dr : Value} {b : Nat} {x : Wd} {g : Int}
theorem J0 {i : Int} (h : Hp R L M) [o : CI b L pa p x L'] (hk : u5 x i) (hs : (dg x.aB i).Small 1000000)
  (k : ∀ A ca B cb D cd M', Hp R (ay (bn pa p) b x :: ny D cd (dg x.aB i).dF :: ny B cb (dg x.aB i).snd :: jz A ca (dg x.aB i).buf :: L') M' →
   K (.agg #[.slice A (dg x.aB i).buf.length ca, .slice B (dg x.aB i).snd.length cb, .slice D (dg x.aB i).dF.length cd, .bool (dg x.aB i).closed]) M') :
  aa Tryz.prog 89 #[.pointer (some ⟨b, 0, none⟩), .int .i64 i] M K Kp := by
 refine sI ?_
 obtain ⟨k0, k1⟩ := hk
 refine ae h ?_
 clear h
 intro kb M h
 have h' := cR h (b := b)
 clear h
 obtain ⟨a, gg, dr, n, hl, h⟩ := h'
 have hl' := hl
 obtain ⟨l1, l2, l3, l4⟩ := hl'
 refine aJ.2 ⟨fun hn => by omega, fun _ => ?_⟩
 refine aL h ?_
 refine aJ.2 ⟨fun hn => by omega, fun _ => ?_⟩
 refine aL h ?_
 refine ⟨k0, by omega, ?_⟩
 obtain ⟨cb, hcb⟩ := aM (l := a.cb) (i := i.toNat) (by omega)
 refine uZ h hcb fun q hq => ?_
 obtain ⟨y, hy⟩ := aM (l := x.aB) (i := i.toNat) (by omega)
 have e : dg x.aB i = y := by simp [dg, hy]
 rw [e] at k hs
 replace h := h.cK bI hcb hy
 refine Gh h (hs.mono (by omega)) ?_
 clear h
 intro A ca B cb' D cd M h
 repeat (first|(refine ae h ?_;clear h;intro kb M h)|(refine au h ?_;clear h;intro M h)|refine St.to h ?_|(apply Exists.intro;(repeat apply Exists.intro);refine And.intro rfl ?_)|refine av ?_|refine ai ?_|refine aj ?_)
 replace h := h.lH bI cb hcb hy
 exact k _ _ _ _ _ _ _ (jn (a := a) (gg := gg) (dr := dr) (n := n) hl (h.sub bu))
theorem QS {j : Nat} {q A' : Nat} {c' : Nat} {v : Int} {a : WA} {n k : Nat} {Ac : Option Addr} {Q : List HP} (hl : fG gg a x)
  (h : Hp R (pt b (oQ pa p dr { a with ac := Ac, cc := c', cb := a.cb ++ [k] } x n) 161 :: yO Ac c' (a.cb ++ [k]) :: ay bI k (aV.new v) :: bp bI a.cb x.aB :: bp fY a.gb (x.gs.zip gg) :: yN a.ag a.cg a.gb :: yP a.al a.cl a.lb :: bp eT a.lb x.aI :: eu a.ah a.ch x.hl :: jz a.ao a.co x.out :: Q) M) :
  Hp R (ay (bn pa p) b { x with aB := x.aB ++ [aV.new v] } :: Q) M := by
 obtain ⟨l1, l2, l3, l4⟩ := hl
 have h2 := h.lI bI k l3
 exact jn (a := { a with ac := Ac, cc := c', cb := a.cb ++ [k] }) (gg := gg) (dr := dr) (n := n) (x := { x with aB := x.aB ++ [aV.new v] }) ⟨l1, l2, by simp [l3], l4⟩ (h2.sub bu)
theorem QT {c' : Nat} {a : WA} {n k : Nat} {Ac : Option Addr} {Q : List HP} (hl : fG gg a x)
  (h : Hp R (pt b (oQ pa p dr { a with al := Ac, cl := c', lb := a.lb ++ [k] } x n) 161 :: yP Ac c' (a.lb ++ [k]) :: ay eT k ⟨-1, []⟩ :: bp eT a.lb x.aI :: bp fY a.gb (x.gs.zip gg) :: yN a.ag a.cg a.gb :: yO a.ac a.cc a.cb :: bp bI a.cb x.aB :: eu a.ah a.ch x.hl :: jz a.ao a.co x.out :: Q) M) :
  Hp R (ay (bn pa p) b { x with aI := x.aI ++ [⟨-1, []⟩] } :: Q) M := by
 obtain ⟨l1, l2, l3, l4⟩ := hl
 have h2 := h.lI eT k l4
 exact jn (a := { a with al := Ac, cl := c', lb := a.lb ++ [k] }) (gg := gg) (dr := dr) (n := n) (x := { x with aI := x.aI ++ [⟨-1, []⟩] }) ⟨l1, l2, l3, by simp [l4]⟩ (h2.sub bu)
theorem Nr (h : Hp R L M) (zR : RS aZ R pa.c pa.cc p.dS) (hc : p.dS.length ≤ 1000000) (hk : 0 ≤ p.aI ∧ p.aI ≤ 1000000)
  (k : ∀ b M', Hp R (ay (bn pa p) b (Wd.new p) :: L) M' → K (.pointer (some ⟨b, 0, none⟩)) M') :
  aa Tryz.prog 56 #[.agg #[.slice pa.f p.funcs.length pa.fc, .slice pa.c p.dS.length pa.cc, .int .i64 p.aI, .slice pa.k p.cases.length pa.kc]] M K Kp := by
 refine Ew ?_
 repeat (first|(refine ae h ?_;clear h;intro kb M h)|(refine au h ?_;clear h;intro M h)|refine St.to h ?_|(apply Exists.intro;(repeat apply Exists.intro);refine And.intro rfl ?_)|refine av ?_|refine ai ?_|refine aj ?_)
 refine qT h ?_
 clear h
 intro bs M h
 repeat (first|(refine ae h ?_;clear h;intro kb M h)|(refine au h ?_;clear h;intro M h)|refine St.to h ?_|(apply Exists.intro;(repeat apply Exists.intro);refine And.intro rfl ?_)|refine av ?_|refine ai ?_|refine aj ?_)
 rename_i kp _ _ kr _ kw _
 replace h := nI h kr
 replace h := (h.vV fY).lI fY kr rfl
 replace h := (h.pt kw).fQ (E := mU) (l := [kr]) rfl
 replace h := (h.bP mU 230).vV bI
 replace h := (h.bP mU 232).vV eT
 replace h := (h.bP kU 203).bP aZ 2
 have base : Hp R (ay (bn pa p) kb { Wd.new p with aB := (p.dS.take 0).map aV.new, aI := [] } :: pt kp [.slice pa.f p.funcs.length pa.fc, .slice pa.c p.dS.length pa.cc, .int .i64 p.aI, .slice pa.k p.cases.length pa.kc] 39 :: L) _ :=
  jn (a := ⟨some ⟨kw, 0, none⟩, 1, [kr], none, 0, [], none, 0, [], none, 0, none, 0, none, 0⟩) (gg := [(some ⟨bs, 0, none⟩, 1)]) (dr := .nilFunc) (n := 0) (x := { Wd.new p with aB := [], aI := [] }) ⟨rfl, rfl, rfl, rfl⟩ (h.sub bu)
 clear h
 refine ⟨fun d vs M => ∃ j : Nat, vs = [.int .i64 (j : Int)] ∧ d = p.dS.length - j ∧ j ≤ p.dS.length ∧ Hp R (ay (bn pa p) kb { Wd.new p with aB := (p.dS.take j).map aV.new, aI := [] } :: pt kp [.slice pa.f p.funcs.length pa.fc, .slice pa.c p.dS.length pa.cc, .int .i64 p.aI, .slice pa.k p.cases.length pa.kc] 39 :: L) M,
  ⟨_, 0, rfl, rfl, by omega, base⟩, ?_⟩
 clear base
 rintro d _ nn M ⟨j, he, hd, hj, h⟩
 simp only [List.cons.injEq, Value.int.injEq, and_true, true_and] at he
 subst he
 refine aJ.2 ⟨fun hlt => ?_, fun hge => ?_⟩
 ·obtain ⟨v, hv⟩ := aM (l := p.dS) (i := j) (by omega)
  have hsn : (p.dS.take (j + 1)).map aV.new = (p.dS.take j).map aV.new ++ [aV.new v] := by rw [bx hv, List.map_append]; rfl
  have De : ((p.dS.take j).map aV.new).length ≤ 1000000 := by simp; omega
  rw [aQ (by omega)]
  refine ⟨by omega, hlt, ?_⟩
  obtain ⟨cb, co, hcb⟩ := zR.some (by omega) (by decide)
  have hch2 := zR
  rw [hcb] at hch2 ⊢
  refine bg ?_
  simp only [Int.toNat_natCast]
  refine aR (Src.at (hch2.src (L := _)) h (i := j) (j := 0) hv rfl (by simp [aZ])) ?_
  refine ⟨fun _ M => Hp R (ay (bn pa p) kb { Wd.new p with aB := (p.dS.take j).map aV.new ++ [aV.new v], aI := [] } :: pt kp [.slice pa.f p.funcs.length pa.fc, .slice pa.c p.dS.length pa.cc, .int .i64 p.aI, .slice pa.k p.cases.length pa.kc] 39 :: L) M, ⟨?_, ?_, trivial⟩, ?_⟩
  ·have h' := cR h (b := kb)
   clear h
   obtain ⟨a, gg, dr, n, hl, h⟩ := h'
   have TJ : a.cb.length = ((p.dS.take j).map aV.new).length := hl.2.2.1
   refine aL h ?_
   refine Dj h ?_
   clear h
   intro kc M h
   repeat (first|(refine ae h ?_;clear h;intro kb M h)|(refine au h ?_;clear h;intro M h)|refine St.to h ?_|(apply Exists.intro;(repeat apply Exists.intro);refine And.intro rfl ?_)|refine av ?_|refine ai ?_|refine aj ?_)
   refine h.bL Vi [kc] rfl rfl (by simp only [List.length_singleton]; omega) ?_
   clear h
   intro A' c' M h
   repeat (first|(refine ae h ?_;clear h;intro kb M h)|(refine au h ?_;clear h;intro M h)|refine St.to h ?_|(apply Exists.intro;(repeat apply Exists.intro);refine And.intro rfl ?_)|refine av ?_|refine ai ?_|refine aj ?_)
   exact QS (j := j) (q := j) (A' := j) (a := a) (x := { Wd.new p with aB := (p.dS.take j).map aV.new, aI := [] }) hl (h.sub bu)
  ·have h' := cR h (b := kb)
   clear h
   obtain ⟨a, gg, dr, n, hl, h⟩ := h'
   have TJ : a.cb.length = ((p.dS.take j).map aV.new).length := hl.2.2.1
   refine Dj h ?_
   clear h
   intro kc M h
   repeat (first|(refine ae h ?_;clear h;intro kb M h)|(refine au h ?_;clear h;intro M h)|refine St.to h ?_|(apply Exists.intro;(repeat apply Exists.intro);refine And.intro rfl ?_)|refine av ?_|refine ai ?_|refine aj ?_)
   refine h.bL Vi [kc] rfl rfl (by simp only [List.length_singleton]; omega) ?_
   clear h
   intro A' c' M h
   repeat (first|(refine ae h ?_;clear h;intro kb M h)|(refine au h ?_;clear h;intro M h)|refine St.to h ?_|(apply Exists.intro;(repeat apply Exists.intro);refine And.intro rfl ?_)|refine av ?_|refine ai ?_|refine aj ?_)
   exact QS (j := j) (q := j) (A' := j) (a := a) (x := { Wd.new p with aB := (p.dS.take j).map aV.new, aI := [] }) hl (h.sub bu)
  ·clear h
   intro _ M h
   refine ⟨p.dS.length - (j + 1), by omega, j + 1, rfl, rfl, by omega, ?_⟩
   rw [hsn, ← hcb]; exact h
 ·obtain rfl : j = p.dS.length := by omega
  rw [List.take_length] at h
  refine aF h ?_
  obtain ⟨nl, hnl⟩ := Int.eq_ofNat_of_zero_le hk.1
  refine ⟨fun d vs M => ∃ j : Nat, vs = [.int .i64 (j : Int)] ∧ d = nl - j ∧ j ≤ nl ∧ Hp R (ay (bn pa p) kb { Wd.new p with aI := List.replicate j ⟨-1, []⟩ } :: pt kp [.slice pa.f p.funcs.length pa.fc, .slice pa.c p.dS.length pa.cc, .int .i64 p.aI, .slice pa.k p.cases.length pa.kc] 39 :: L) M,
   ⟨_, 0, rfl, rfl, by omega, h⟩, ?_⟩
  clear h
  rintro d _ nn M ⟨j, he, hd, hj, h⟩
  simp only [List.cons.injEq, Value.int.injEq, and_true, true_and] at he
  subst he
  refine aJ.2 ⟨fun hlt => ?_, fun hge => ?_⟩
  ·have hsn : List.replicate (j + 1) (⟨-1, []⟩ : Lk) = List.replicate j ⟨-1, []⟩ ++ [⟨-1, []⟩] := List.replicate_succ'
   rw [aQ (by omega)]
   refine ⟨fun _ M => Hp R (ay (bn pa p) kb { Wd.new p with aI := List.replicate j ⟨-1, []⟩ ++ [⟨-1, []⟩] } :: pt kp [.slice pa.f p.funcs.length pa.fc, .slice pa.c p.dS.length pa.cc, .int .i64 p.aI, .slice pa.k p.cases.length pa.kc] 39 :: L) M, ⟨?_, ?_, trivial⟩, ?_⟩
   ·have h' := cR h (b := kb)
    clear h
    obtain ⟨a, gg, dr, n, hl, h⟩ := h'
    have TJ : a.lb.length = (List.replicate j (⟨-1, []⟩ : Lk)).length := hl.2.2.2
    rw [List.length_replicate] at TJ
    refine aL h ?_
    refine Ds h ?_
    clear h
    intro kc M h
    repeat (first|(refine ae h ?_;clear h;intro kb M h)|(refine au h ?_;clear h;intro M h)|refine St.to h ?_|(apply Exists.intro;(repeat apply Exists.intro);refine And.intro rfl ?_)|refine av ?_|refine ai ?_|refine aj ?_)
    refine h.bL Vj [kc] rfl rfl (by simp only [List.length_singleton]; omega) ?_
    clear h
    intro A' c' M h
    repeat (first|(refine ae h ?_;clear h;intro kb M h)|(refine au h ?_;clear h;intro M h)|refine St.to h ?_|(apply Exists.intro;(repeat apply Exists.intro);refine And.intro rfl ?_)|refine av ?_|refine ai ?_|refine aj ?_)
    exact QT (a := a) (x := { Wd.new p with aI := List.replicate j ⟨-1, []⟩ }) hl (h.sub bu)
   ·have h' := cR h (b := kb)
    clear h
    obtain ⟨a, gg, dr, n, hl, h⟩ := h'
    have TJ : a.lb.length = (List.replicate j (⟨-1, []⟩ : Lk)).length := hl.2.2.2
    rw [List.length_replicate] at TJ
    refine Ds h ?_
    clear h
    intro kc M h
    repeat (first|(refine ae h ?_;clear h;intro kb M h)|(refine au h ?_;clear h;intro M h)|refine St.to h ?_|(apply Exists.intro;(repeat apply Exists.intro);refine And.intro rfl ?_)|refine av ?_|refine ai ?_|refine aj ?_)
    refine h.bL Vj [kc] rfl rfl (by simp only [List.length_singleton]; omega) ?_
    clear h
    intro A' c' M h
    repeat (first|(refine ae h ?_;clear h;intro kb M h)|(refine au h ?_;clear h;intro M h)|refine St.to h ?_|(apply Exists.intro;(repeat apply Exists.intro);refine And.intro rfl ?_)|refine av ?_|refine ai ?_|refine aj ?_)
    exact QT (a := a) (x := { Wd.new p with aI := List.replicate j ⟨-1, []⟩ }) hl (h.sub bu)
   ·clear h
    intro _ M h
    refine ⟨nl - (j + 1), by omega, j + 1, rfl, rfl, by omega, ?_⟩
    rw [hsn]; exact h
  ·obtain rfl : j = nl := by omega
   have e : Wd.new p = { Wd.new p with aI := List.replicate j ⟨-1, []⟩ } := by unfold Wd.new; rw [hnl]; rfl
   rw [← e] at h
   exact k _ _ h.ck
end
def aD (p : cv) (i : cQ) : List po := (p.cases.drop i.a.toNat).take i.b.toNat
def wP (f : gH) : List Int := [f.r.getD 0 0, f.r.getD 1 0, f.r.getD 2 0, f.r.getD 3 0, f.r.getD 4 0, f.r.getD 5 0, f.r.getD 6 0, f.r.getD 7 0]
inductive kW where
 | num (d : Int)
 | dY (l : List PanicEntry)
def jq (R : Mem) (dr : Value) (kind n : Int) (d : kW) (L L2 : List HP) : Prop := ∀ (Q : HP) (M : Mem) (K : Value → Mem → Prop) (Kp : List PanicEntry → Mem → Prop), Hp R (Q :: L) M →
 (match d with
  | .num v => ∀ M', Hp R (Q :: L2) M' → K (.int .i64 v) M'
  | .dY l => ∀ M', Hp R (Q :: L2) M' → Kp l M') → gr Cx dr [.int .i64 kind, .int .i64 n] M K Kp
def Wd.qY (p : cv) (x : Wd) (g : Int) (i : cQ) (k : Int) : Out Wd :=
 let c := (aD p i).getD k.toNat ⟨0, 0, 0⟩
 let x1 := x.next g
 if c.way = 1 then match x1.put p c.ch (bD x1 g c.bS) with
  | .fM n y => .fM n y
  | .dY l y => .dY l y
  | .on (y, _) => .on (y.bB g i.c k)
 else .on (((x1.get c.ch).1.bB g c.bS (x1.get c.ch).2.1).bB g i.c k)
def Wd.u9 (p : cv) (x : Wd) (g : Int) (i : cQ) : Wd :=
 let x1 := x.next g
 match els (aD p i) with
  | some k => x1.bB g i.c (k : Int)
  | none => Wd.block { x1 with aB := eO g (wP (aq x1 g).top) (aD p i) x1.aB (aD p i).length } g i
def Wd.choose (p : cv) (x : Wd) (g : Int) (i : cQ) (d : kW) : Out Wd :=
 if enabled (aD p i) x.aB = [] then .on (x.u9 p g i)
 else match d with
  | .num v => x.qY p g i ((enabled (aD p i) x.aB).getD v.toNat 0)
  | .dY l => .dY l x
section
variable {R : Mem} {L L' L2 : List HP} {M : Mem} {K : Value → Mem → Prop} {Kp : List PanicEntry → Mem → Prop} {pa : PA} {p : cv} {gg : List GA} {dr : Value} {b : Nat} {x : Wd} {g : Int} {i : cQ}
def wQ (p : cv) (i : cQ) : Prop := 0 ≤ i.a ∧ 0 ≤ i.b ∧ i.a + i.b ≤ p.cases.length ∧ p.cases.length ≤ 1000
instance (p : cv) (i : cQ) : Decidable (wQ p i) := by unfold wQ; infer_instance
theorem Hi (h : Hp R L M) [o : xS b L pa p gg dr x L'] (hp : lB R pa p) (hk : wQ p i)
  (k : ∀ A c M', RS iD R A c (aD p i) → Hp R (ay (bC pa p gg dr) b x :: L') M' → K (.slice A (aD p i).length c) M') :
  aa Tryz.prog 204 #[.pointer (some ⟨b, 0, none⟩), .agg #[.int .i64 i.op, .int .i64 i.a, .int .i64 i.b, .int .i64 i.c]] M K Kp := by
 refine qA ?_
 obtain ⟨a0, b0, hab, hl⟩ := hk
 have hcap := hp.cases.2
 refine ae h ?_
 clear h; intro kb M h
 have hC := h.drop.pick o.pick
 have h' := cG h (b := b)
 clear h
 obtain ⟨a, kM, h⟩ := h'
 refine aL h (aF h (aF h (aF h ?_)))
 rw [dm (by omega) (by omega)]
 refine ⟨by omega, by omega, by omega, by omega, by omega, by omega, ?_⟩
 have e : (aD p i).length = (i.a + i.b).toNat - i.a.toNat := by
  unfold aD
  rw [List.length_take, List.length_drop]; omega
 rw [← e]
 simp only [Int.toNat_natCast]
 exact k _ _ _ ((hp.cases.drop i.a.toNat (by omega)).take i.b.toNat) hC
theorem QU {bs j : Nat} {l : List gH} {f : gH} (hs : Src R L (some ⟨bs, 0, none⟩) (fF.cells l)) (hi : l[j]? = some f) : Src R L (kP (some ⟨bs, j * 11 + 2, none⟩) 0 8 1) (aZ.cells (wP f)) := by
 intro M h
 have e : kP (some ⟨bs, j * 11 + 2, none⟩) 0 8 1 = some ⟨bs, j * 11 + 2, none⟩ := by
  unfold kP; rw [if_neg (by omega)]; rfl
 rw [e]
 intro q hq
 have hq8 : q < 8 := by simpa [aZ, fO.cells, wP] using hq
 have e2 : j * 11 + 2 + q = 0 + (j * fF.z + (2 + q)) := by show _ = 0 + (j * 11 + (2 + q)); omega
 obtain rfl | rfl | rfl | rfl | rfl | rfl | rfl | rfl : q = 0 ∨ q = 1 ∨ q = 2 ∨ q = 3 ∨ q = 4 ∨ q = 5 ∨ q = 6 ∨ q = 7 := by omega
 all_goals exact Src.at hs h (i := j) hi rfl e2
theorem J1 {bs c oo : Nat} {v : Int} {G : Mem → Prop} (h : Hp R L M) [o : xS b L pa p gg dr x L'] (hg : br x g) (fu : gg[g.toNat]? = some (some ⟨bs, 0, none⟩, c)) (e : oo = ((aq x g).fs.length - 1) * 11 + 1) (hv : v = (aq x g).top.pc + 1)
  (k : ∀ M', Hp R (ay (bC pa p gg dr) b (x.next g) :: L') M' → G M') : aP M ⟨bs, oo, none⟩ (.int .i64 v) G := by
 subst hv
 obtain ⟨h0, h1, h2, h3⟩ := hg
 obtain ⟨a, gb, hl, gd, h4⟩ := hG h (b := b) h0 h1 fu
 refine Bd h4 (eX h2) e fun M' h5 => ?_
 replace h5 := dh h5 gb hl gd fu (by simp)
 exact k M' (bk (a := a) (p := p) (pa := pa) (dr := dr) (gg := gg) (x := x.next g) (dK hl) h5 b)
theorem J2 {bs c oo : Nat} {G : Int → Prop} (h : Hp R L M) [o : xS b L pa p gg dr x L'] (hg : br x g) (fu : gg[g.toNat]? = some (some ⟨bs, 0, none⟩, c)) (e : oo = ((aq x g).fs.length - 1) * 11 + 1)
  (k : G (aq x g).top.pc) : aK (M.ld ⟨bs, oo, none⟩) .i64 G := by
 obtain ⟨h0, h1, h2, h3⟩ := hg
 obtain ⟨a, gb, hl, gd, h4⟩ := hG h (b := b) h0 h1 fu
 exact Bc h4 (eX h2) e k
theorem Bm (hg : br x g) : aq (x.next g) g = (aq x g).cW (aq x g).top.next := g9 hg.1 hg.2.1
theorem va (hg : br x g) : br (x.next g) g := by
 have e := Bm hg
 obtain ⟨h0, h1, h2, h3⟩ := hg
 refine ⟨h0, by simpa [Wd.next, Wd.bG] using h1, ?_, ?_⟩ <;> rw [e] <;> simpa [jt.cW]
theorem E1 (hg : br x g) : (aq (x.next g) g).fs.length = (aq x g).fs.length := by rw [Bm hg]; simp [jt.cW]
theorem Ns {q v : Int} (hg : br x g) : (aq (x.bB g q v) g).fs.length = (aq x g).fs.length := by rw [jh hg]; simp [jt.cW]
theorem TK (hs : x.Sm) : (x.next g).Sm := K8 hs
def Hj (p : cv) (x : Wd) (g : Int) (i : cQ) (d : kW) : Prop := br x g ∧ wQ p i ∧ bj i.c ∧ x.Sm ∧ (aq x g).top.pc < 1000000000 ∧ 0 ≤ (aq x g).top.pc ∧ (∀ c ∈ aD p i, c.Ok x.aB.length) ∧
 match enabled (aD p i) x.aB, d with
 | [], _ => True
 | _, .dY _ => True
 | can, .num v => 0 ≤ v ∧ v < can.length ∧
  let k := can.getD v.toNat 0
  let c := (aD p i).getD k.toNat ⟨0, 0, 0⟩
  let x1 := x.next g
  0 ≤ k ∧ k < (aD p i).length ∧ bj c.bS ∧
  if c.way = 1 then pq p x1 c.ch (bD x1 g c.bS) ∧ (match x1.put p c.ch (bD x1 g c.bS) with
   | .on (y, _) => br y g ∧ (aq y g).fs.length = (aq x g).fs.length
   | _ => True)
  else wJ x1 c.ch ∧ br (x1.get c.ch).1 g ∧ (aq (x1.get c.ch).1 g).fs.length = (aq x g).fs.length
theorem Nt {d : kW} (hp : lB R pa p) (hk : Hj p x g i d) (hd : if enabled (aD p i) x.aB = [] then L2 = L else jq R dr 3 ((enabled (aD p i) x.aB).length : Int) d L L2) :
  gC R pa p dr 191 x g i (x.choose p g i d) L L2 := by
 intro gg b bs c M K Kp Q h fu k
 obtain ⟨hg, hcs, J3, hs, CG, TL, hok, hk⟩ := hk
 have ET := hg
 obtain ⟨h0, h1, h2, h3⟩ := ET
 have hs' := hs
 obtain ⟨s1, s2, s3, s4, s5, s6, s7, s8⟩ := hs'
 have QN : (aD p i).length ≤ 1000 := by
  obtain ⟨_, _, _, hl⟩ := hcs
  unfold aD
  rw [List.length_take, List.length_drop]; omega
 refine pH ?_
 refine ae h ?_
 clear h; intro k1 M h
 refine aF h (aF h (aF h (aF h ?_)))
 refine Hi (b := b) h hp hcs ?_
 clear h; intro A ca M hA h
 refine aO ?_
 unfold Wd.choose at k
 have hen : ∀ {X : HP} {M : Mem} {L3 : List HP}, Hp R (ay (bC pa p gg dr) b x :: L3) M → ∀ (K1 : Value → Mem → Prop), (∀ A' c' M', Hp R (jg A' c' (enabled (aD p i) x.aB) :: ay (bC pa p gg dr) b x :: L3) M' → K1 (.slice A' (enabled (aD p i) x.aB).length c') M') →
   az (M.ld ⟨b, 0 + 6, none⟩) fun nx de eH => aa Tryz.prog 205 #[.slice A (aD p i).length ca, .slice nx de eH] M K1 Kp := by
  intro X M L3 h K1 k1
  have h' := cG h (b := b)
  clear h
  obtain ⟨a, hl, h⟩ := h'
  have hl' := hl
  obtain ⟨l1, l2, l3, l4⟩ := hl'
  refine aL h ?_
  refine Cq h (hA.src) (Src.row (A := a.ac)) rfl rfl (by omega) l3 hok ?_
  clear h; intro A' c' M h
  exact k1 _ _ _ ((bk (a := a) (p := p) (pa := pa) (dr := dr) (gg := gg) (x := x) hl h b).swap)
 refine hen (X := Q) h _ ?_
 clear h hen; intro A2 c2 M h
 refine aO ?_
 by_cases hcan : enabled (aD p i) x.aB = []
 ·rw [if_pos hcan] at k hd
  subst hd
  rw [hcan] at h ⊢
  refine ai ?_
  unfold Wd.u9 at k
  dsimp only at k
  refine J2 (b := b) h hg fu rfl ?_
  rw [jJ TL (by omega)]
  refine J1 (b := b) h hg fu rfl rfl ?_
  clear h; intro M h
  have Nu := va hg
  have Mc := E1 hg
  refine I7 h hA.src rfl (by omega) ?_
  clear h; intro M h
  refine ⟨_, _, rfl, ?_⟩
  cases he : els (aD p i) with
  | some q =>
   rw [he] at k
   dsimp only at k ⊢
   refine ai ?_
   refine aF h ?_
   refine ⟨J3.1, J3.2, ?_⟩
   refine mI (b := b) h Nu fu J3 (by rw [Mc]) ?_
   clear h; intro M h
   exact k _ _ (h.sub bu)
  | none =>
   rw [he] at k
   dsimp only at k ⊢
   refine aj ⟨by decide, by decide, by decide, by decide, by decide, by decide, ?_⟩
   have B4 := Nu
   obtain ⟨g0, g1, g2, g3⟩ := B4
   have h' := hG h (b := b) g0 g1 fu
   clear h
   obtain ⟨a, gb, hl, gd, h⟩ := h'
   have hl' := hl
   obtain ⟨l1, l2, l3, l4⟩ := hl'
   refine aL h ?_
   refine Ja (gm := wP (aq (x.next g) g).top) h hA.src (Src.row (A := a.ac)) ?_ rfl rfl rfl rfl (by omega) l3 hok (fun c hc => s1 c hc) ?_
   ·have e9 : ∀ {L9 : List HP}, Src R L9 (some ⟨bs, 0, none⟩) (fF.cells (aq (x.next g) g).fs) → Src R L9 (kP (some ⟨bs, ((aq x g).fs.length - 1) * 11 + 2, none⟩) 0 8 1) (aZ.cells (wP (aq (x.next g) g).top)) := fun hs => by
     have := QU hs (eX g2)
     rwa [Mc] at this
    exact e9 Src.row
   clear h; intro M h
   refine ⟨rfl, ?_⟩
   refine aF h (aF h (aF h (aF h ?_)))
   replace h := dh h gb hl gd fu
   have kM := dK (y := aq (x.next g) g) (g := g) hl
   have hcl2 : ∀ x' : Wd, x' = { (x.next g).bG g (aq (x.next g) g) with aB := eO g (wP (aq (x.next g) g).top) (aD p i) x.aB (aD p i).length } → fG gg a x' := by
    rintro _ rfl
    obtain ⟨m1, m2, m3, m4⟩ := kM
    exact ⟨m1, m2, by show _ = List.length _; rw [lV]; exact l3, m4⟩
   replace h := bk (a := a) (p := p) (pa := pa) (dr := dr) (gg := gg) (x := { (x.next g).bG g (aq (x.next g) g) with aB := eO g (wP (aq (x.next g) g).top) (aD p i) x.aB (aD p i).length }) (hcl2 _ rfl) h b
   rw [sx g0 g1] at h
   refine mH (b := b) (i := i) (x := { x.next g with aB := eO g (wP (aq (x.next g) g).top) (aD p i) x.aB (aD p i).length }) h g0 g1 ?_
   clear h; intro M h
   exact ⟨rfl, k _ _ (h.sub bu)⟩
 rw [if_neg hcan] at k hd
 have hcl0 : 0 < (enabled (aD p i) x.aB).length := by
  cases hh : enabled (aD p i) x.aB with
  | nil => exact absurd hh hcan
  | cons _ _ => simp
 refine Aw (by simp; omega) ?_
 have CJ : M.ld ⟨b, 0 + 14, none⟩ = some dr := by
  obtain ⟨a, hl, h9⟩ := cG h (b := b)
  exact bN h9
 rw [CJ]
 refine OW ?_
 have h5 : Hp R (sep [jg A2 c2 (enabled (aD p i) x.aB), ay (bC pa p gg dr) b x, pt k1 [.int .i64 i.op, .int .i64 i.a, .int .i64 i.b, .int .i64 i.c] 27, Q] :: L) M := Hp.bl.2 (h.sub bu)
 refine hd _ _ _ _ h5 ?_
 clear h h5 CJ
 cases d with
 | dY l =>
  dsimp only at k ⊢
  intro M h5
  have h : Hp R (jg A2 c2 (enabled (aD p i) x.aB) :: ay (bC pa p gg dr) b x :: pt k1 [.int .i64 i.op, .int .i64 i.a, .int .i64 i.b, .int .i64 i.c] 27 :: Q :: L2) M := Hp.bl.1 h5
  exact k _ _ (h.sub bu)
 | num v =>
  dsimp only at k ⊢
  intro M h5
  have h : Hp R (jg A2 c2 (enabled (aD p i) x.aB) :: ay (bC pa p gg dr) b x :: pt k1 [.int .i64 i.op, .int .i64 i.a, .int .i64 i.b, .int .i64 i.c] 27 :: Q :: L2) M := Hp.bl.1 h5
  clear h5
  have hk2 : 0 ≤ v ∧ v < (enabled (aD p i) x.aB).length ∧
    0 ≤ (enabled (aD p i) x.aB).getD v.toNat 0 ∧ (enabled (aD p i) x.aB).getD v.toNat 0 < (aD p i).length ∧ bj ((aD p i).getD ((enabled (aD p i) x.aB).getD v.toNat 0).toNat ⟨0, 0, 0⟩).bS ∧
    if ((aD p i).getD ((enabled (aD p i) x.aB).getD v.toNat 0).toNat ⟨0, 0, 0⟩).way = 1 then pq p (x.next g) ((aD p i).getD ((enabled (aD p i) x.aB).getD v.toNat 0).toNat ⟨0, 0, 0⟩).ch (bD (x.next g) g ((aD p i).getD ((enabled (aD p i) x.aB).getD v.toNat 0).toNat ⟨0, 0, 0⟩).bS) ∧
     (match (x.next g).put p ((aD p i).getD ((enabled (aD p i) x.aB).getD v.toNat 0).toNat ⟨0, 0, 0⟩).ch (bD (x.next g) g ((aD p i).getD ((enabled (aD p i) x.aB).getD v.toNat 0).toNat ⟨0, 0, 0⟩).bS) with
      | .on (y, _) => br y g ∧ (aq y g).fs.length = (aq x g).fs.length
      | _ => True)
    else wJ (x.next g) ((aD p i).getD ((enabled (aD p i) x.aB).getD v.toNat 0).toNat ⟨0, 0, 0⟩).ch ∧ br ((x.next g).get ((aD p i).getD ((enabled (aD p i) x.aB).getD v.toNat 0).toNat ⟨0, 0, 0⟩).ch).1 g ∧ (aq ((x.next g).get ((aD p i).getD ((enabled (aD p i) x.aB).getD v.toNat 0).toNat ⟨0, 0, 0⟩).ch).1 g).fs.length = (aq x g).fs.length := by
   revert hk
   cases hh : enabled (aD p i) x.aB with
   | nil => exact absurd hh hcan
   | cons a l => exact fun hk => hk
  clear hk hcan hd
  generalize hcane : enabled (aD p i) x.aB = can at h k hk2 hcl0 ⊢
  obtain ⟨v0, v1, q0, q1, Vk, YQ⟩ := hk2
  refine cz ⟨v0, v1, ?_⟩
  obtain ⟨ab, rfl⟩ := h.bF (A := A2) hcl0 (by decide)
  refine bg ?_
  obtain ⟨q, hq⟩ := aM (l := can) (i := v.toNat) (by omega)
  have hqe : can.getD v.toNat 0 = q := by simp [hq]
  rw [hqe] at k q0 q1 Vk YQ
  refine aR (Src.at (h.src (A := some ⟨ab, 0, none⟩)) h (i := v.toNat) (j := 0) hq rfl (by simp [aZ])) ?_
  unfold Wd.qY at k
  dsimp only at k
  obtain ⟨cc, RV⟩ := aM (l := aD p i) (i := q.toNat) (by omega)
  have hce : (aD p i).getD q.toNat ⟨0, 0, 0⟩ = cc := by simp [RV]
  rw [hce] at k Vk YQ
  refine J2 (b := b) h hg fu rfl ?_
  rw [jJ TL (by omega)]
  refine J1 (b := b) h hg fu rfl rfl ?_
  clear h; intro M h
  have Nu := va hg
  have Mc := E1 hg
  have wZ : (x.next g).Sm := TK hs
  generalize E2 : x.next g = x1 at h k YQ Nu Mc wZ
  refine ⟨q0, q1, ?_⟩
  obtain ⟨cb, co, rfl⟩ := hA.some (by omega) (by decide)
  refine bg ?_
  refine aR (Src.at (hA.src (L := _)) h (i := q.toNat) (j := 0) RV rfl (by simp [iD])) ?_
  refine aR (Src.at (hA.src (L := _)) h (i := q.toNat) (j := 1) RV rfl (by show _ = co + (_ * 3 + 1); omega)) ?_
  refine aR (Src.at (hA.src (L := _)) h (i := q.toNat) (j := 2) RV rfl (by show _ = co + (_ * 3 + 2); omega)) ?_
  refine ae h ?_
  clear h; intro kc M h
  refine au h ?_
  clear h; intro M h
  refine au h ?_
  clear h; intro M h
  refine au h ?_
  clear h; intro M h
  refine aF h ?_
  refine bh.2 ⟨fun e1 => ?_, fun e1 => ?_⟩
  ·rw [if_pos e1] at k YQ
   obtain ⟨hput, hy⟩ := YQ
   refine aF h (aF h ⟨Vk.1, Vk.2, ?_⟩)
   refine GW (b := b) h Nu fu Vk (by rw [Mc]) ?_
   refine Dt (b := b) h hp.cases hput wZ ?_ ?_
   ·clear h
    intro y ok M e h
    rw [e] at k hy
    dsimp only at k hy
    refine o6 ?_
    refine aF h ⟨J3.1, J3.2, ?_⟩
    refine mI (b := b) h hy.1 fu J3 (by rw [hy.2]) ?_
    clear h; intro M h
    exact k _ _ (h.sub bu)
   ·clear h
    intro y n M e h
    rw [e] at k
    exact k _ _ (h.sub bu)
  ·rw [if_neg e1] at k YQ
   obtain ⟨YE, GX, hfl⟩ := YQ
   refine aF h (aF h ?_)
   refine Du (b := b) h YE wZ ?_
   clear h; intro M h
   generalize x1.get cc.ch = r at h k GX hfl
   obtain ⟨y, w, sm, ok⟩ := r
   dsimp only at h k GX hfl ⊢
   refine ⟨_, _, _, rfl, bN h, Vk.1, Vk.2, ?_⟩
   refine mI (b := b) h GX fu Vk (by rw [hfl]) ?_
   clear h; intro M h
   refine ⟨bN h, aF h ⟨J3.1, J3.2, ?_⟩⟩
   refine mI (b := b) h (ji GX) fu J3 (by rw [Ns GX, hfl]) ?_
   clear h; intro M h
   exact k _ _ (h.sub bu)
end
def bA.before (a b : bA) : Bool := decide (a.t < b.t) || (a.t == b.t && decide (a.seq < b.seq))
def mN (l : List bA) (i : Nat) : bA := l.getD i ⟨0, 0, 0⟩
def fy (l : List bA) (i j : Nat) : List bA := (l.set i (mN l j)).set j (mN l i)
def Nv : Nat → Nat → List bA → List bA
 | 0, _, l => l
 | f + 1, i, l => if 0 < i ∧ (mN l i).before (mN l ((i - 1) / 4)) = true then Nv f ((i - 1) / 4) (fy l i ((i - 1) / 4)) else l
def gT (l : List bA) : Nat → Nat → Nat → Nat
 | 0, _, out => out
 | n + 1, k, out => if k < l.length then gT l n (k + 1) (if (mN l k).before (mN l out) then k else out) else out
def ig (l : List bA) (i : Nat) : Nat := gT l 4 (4 * i + 1) i
def pz : Nat → Nat → List bA → List bA
 | 0, _, l => l
 | f + 1, i, l => if ig l i = i then l else pz f (ig l i) (fy l i (ig l i))
def ua (l : List bA) (x : bA) : List bA := Nv l.length l.length (l ++ [x])
def c7 (l : List bA) (i : Nat) : List bA :=
 if i < l.length - 1 then Nv i i (pz l.length i ((fy l i (l.length - 1)).take (l.length - 1))) else (fy l i (l.length - 1)).take (l.length - 1)
def eC : Nat → List bA → Int → List bA × List bA
 | 0, l, _ => (l, [])
 | f + 1, l, now => if 0 < l.length ∧ (mN l 0).t ≤ now then ((eC f (c7 l 0) now).1, mN l 0 :: (eC f (c7 l 0) now).2) else (l, [])
def dy : Nat → List bA → List bA
 | 0, _ => []
 | f + 1, l => if 0 < l.length then mN l 0 :: dy f (c7 l 0) else []
theorem Hl {f i : Nat} {l : List bA} : Nv (f + 1) i l = if 0 < i ∧ (mN l i).before (mN l ((i - 1) / 4)) = true then Nv f ((i - 1) / 4) (fy l i ((i - 1) / 4)) else l := rfl
theorem zy {l : List bA} {n k out : Nat} : gT l (n + 1) k out = if k < l.length then gT l n (k + 1) (if (mN l k).before (mN l out) then k else out) else out := rfl
theorem J4 {f i : Nat} {l : List bA} : pz (f + 1) i l = if ig l i = i then l else pz f (ig l i) (fy l i (ig l i)) := rfl
theorem Bn {f : Nat} {l : List bA} {now : Int} : eC (f + 1) l now = if 0 < l.length ∧ (mN l 0).t ≤ now then ((eC f (c7 l 0) now).1, mN l 0 :: (eC f (c7 l 0) now).2) else (l, []) := rfl
theorem wR {f : Nat} {l : List bA} : dy (f + 1) l = if 0 < l.length then mN l 0 :: dy f (c7 l 0) else [] := rfl
theorem fX {l : List bA} {i j : Nat} : (fy l i j).length = l.length := by simp [fy]
theorem E3 : ∀ {f i : Nat} {l : List bA}, (Nv f i l).length = l.length
 | 0, _, _ => rfl
 | f + 1, i, l => by unfold Nv; split; rw [E3, fX]; rfl
theorem jL : ∀ {f i : Nat} {l : List bA}, (pz f i l).length = l.length
 | 0, _, _ => rfl
 | f + 1, i, l => by unfold pz; split; rfl; rw [jL, fX]
theorem yT {l : List bA} {i : Nat} : (c7 l i).length = l.length - 1 := by
 unfold c7; split
 ·rw [E3, jL, List.length_take, fX]; omega
 ·rw [List.length_take, fX]; omega
theorem Nw {l : List bA} {x : bA} : (ua l x).length = l.length + 1 := by unfold ua; rw [E3]; simp
theorem mY {l : List bA} {i : Nat} (h : i < l.length) : l[i]? = some (mN l i) := by
 unfold mN; rw [List.getD_eq_getElem?_getD, List.getElem?_eq_getElem h]; rfl
theorem mZ {l : List bA} : ∀ (n k out : Nat), out < l.length → out < k → gT l n k out < l.length ∧ (out ≤ gT l n k out)
 | 0, _, _, h, _ => ⟨h, Nat.le_refl _⟩
 | n + 1, k, out, h, hk => by
  unfold gT; split
  ·rename_i hl
   split
   ·have := mZ n (k + 1) k hl (by omega); omega
   ·exact mZ n (k + 1) out h (by omega)
  ·exact ⟨h, Nat.le_refl _⟩
theorem DI {l : List bA} {i : Nat} (h : i < l.length) : ig l i < l.length ∧ i ≤ ig l i := mZ 4 _ i h (by omega)
structure RW (b o : Nat) (P : Option Addr → Nat → Nat → Int → HP) : Prop where
 G1 : ∀ (R : Mem) (L : List HP) (M : Mem) (A : Option Addr) (n c : Nat) (s : Int), Hp R (P A n c s :: L) M → M.ld ⟨b, o, none⟩ = some (.slice A n c)
 ldI : ∀ (R : Mem) (L : List HP) (M : Mem) (A : Option Addr) (n c : Nat) (s : Int), Hp R (P A n c s :: L) M → M.ld ⟨b, o + 1, none⟩ = some (.int .u64 s)
 stS : ∀ (R : Mem) (L : List HP) (M : Mem) (A A' : Option Addr) (n c n' c' : Nat) (s : Int) (G : Mem → Prop), Hp R (P A n c s :: L) M → (∀ M', Hp R (P A' n' c' s :: L) M' → G M') → aP M ⟨b, o, none⟩ (.slice A' n' c') G
 stI : ∀ (R : Mem) (L : List HP) (M : Mem) (A : Option Addr) (n c : Nat) (s s' : Int) (G : Mem → Prop), Hp R (P A n c s :: L) M → (∀ M', Hp R (P A n c s' :: L) M' → G M') → aP M ⟨b, o + 1, none⟩ (.int .u64 s') G
theorem zU : aY Tryz.prog 46 203 3 24 [.int .u64 0, .int .u64 0, .int .i64 0] := aY.mk' (zv := .agg #[.int .u64 0, .int .u64 0, .int .i64 0]) (by kernel_rfl) (by kernel_rfl) rfl (by omega)
section
variable {R : Mem} {L L' : List HP} {M : Mem} {K : Value → Mem → Prop} {Kp : List PanicEntry → Mem → Prop} {b o : Nat} {P : Option Addr → Nat → Nat → Int → HP} {A : Option Addr} {c : Nat} {s : Int} {l : List bA} {i j : Nat}
theorem mO {q o0 o1 o2 o3 : Nat} {x : bA} {G : Int → Int → Int → Prop} (h : Hp R L M) (hs : Src R L (some ⟨q, o0, none⟩) (kU.cells l)) (hi : l[i]? = some x) (e1 : o1 = o0 + i * 3) (e2 : o2 = o0 + i * 3 + 1) (e3 : o3 = o0 + i * 3 + 2) (g : G x.t x.seq x.id) :
  aK (M.ld ⟨q, o1, none⟩) .u64 fun a => aK (M.ld ⟨q, o2, none⟩) .u64 fun b => aK (M.ld ⟨q, o3, none⟩) .i64 fun d => G a b d := by
 refine aR (Src.at hs h (i := i) (j := 0) hi rfl (by rw [e1]; rfl)) ?_
 refine aR (Src.at hs h (i := i) (j := 1) hi rfl (by rw [e2]; show _ = o0 + (i * 3 + 1); omega)) ?_
 exact aR (Src.at hs h (i := i) (j := 2) hi rfl (by rw [e3]; show _ = o0 + (i * 3 + 2); omega)) g
theorem Lm {q o1 o2 o3 : Nat} {x y : bA} {G : Mem → Prop} (h : Hp R L M) [r : cJ (some ⟨q, 0, none⟩) L bA kU 203 c l L'] (hi : l[i]? = some x) (e1 : o1 = i * 3) (e2 : o2 = i * 3 + 1) (e3 : o3 = i * 3 + 2)
  (k : ∀ M', Hp R (eu (some ⟨q, 0, none⟩) c (l.set i y) :: L') M' → G M') :
  aP M ⟨q, o1, none⟩ (.int .u64 y.t) fun M1 => aP M1 ⟨q, o2, none⟩ (.int .u64 y.seq) fun M2 => aP M2 ⟨q, o3, none⟩ (.int .i64 y.id) G := by
 have hl := (List.getElem?_eq_some_iff.1 hi).1
 refine iL (E := kU) (a := x) (a' := ⟨y.t, x.seq, x.id⟩) i 0 h hi (by decide) rfl e1 ?_
 clear h; intro M h
 refine iL (E := kU) (a := ⟨y.t, x.seq, x.id⟩) (a' := ⟨y.t, y.seq, x.id⟩) i 1 h (by simp [hl]) (by decide) rfl e2 ?_
 clear h; intro M h
 refine iL (E := kU) (a := ⟨y.t, y.seq, x.id⟩) (a' := y) i 2 h (by simp [hl]) (by decide) rfl e3 ?_
 clear h; intro M h
 rw [jf, jf] at h
 exact k _ h
theorem yU {x y : bA} (h : Hp R L M) (k : ∀ M', Hp R L M' → K (.bool (x.before y)) M') : aa Tryz.prog 187 #[.agg #[.int .u64 x.t, .int .u64 x.seq, .int .i64 x.id], .agg #[.int .u64 y.t, .int .u64 y.seq, .int .i64 y.id]] M K Kp := by
 refine AM ?_
 repeat (first|(refine ae h ?_;clear h;intro kb M h)|(refine au h ?_;clear h;intro M h)|refine St.to h ?_|(apply Exists.intro;(repeat apply Exists.intro);refine And.intro rfl ?_)|refine av ?_|refine ai ?_|refine aj ?_)
 unfold bA.before at k
 refine aJ.2 ⟨fun h1 => ?_, fun h1 => ?_⟩
 ·have := k _ h.oy
  rwa [decide_eq_true h1, Bool.true_or] at this
 ·repeat (first|(refine ae h ?_;clear h;intro kb M h)|(refine au h ?_;clear h;intro M h)|refine St.to h ?_|(apply Exists.intro;(repeat apply Exists.intro);refine And.intro rfl ?_)|refine av ?_|refine ai ?_|refine aj ?_)
  refine bh.2 ⟨fun h2 => ?_, fun h2 => ?_⟩
  ·repeat (first|(refine ae h ?_;clear h;intro kb M h)|(refine au h ?_;clear h;intro M h)|refine St.to h ?_|(apply Exists.intro;(repeat apply Exists.intro);refine And.intro rfl ?_)|refine av ?_|refine ai ?_|refine aj ?_)
   have := k _ h.oy
   rwa [decide_eq_false h1, Bool.false_or, beq_iff_eq.2 h2, Bool.true_and] at this
  ·have := k _ h.oy
   rwa [decide_eq_false h1, Bool.false_or, show (x.t == y.t) = false from by simpa using h2, Bool.false_and] at this
theorem xY (D : RW b o P) (h : Hp R (P A l.length c s :: eu A c l :: L) M) (hi : i < l.length) (hj : j < l.length)
  (k : ∀ M', Hp R (P A l.length c s :: eu A c (fy l i j) :: L) M' → K (.tuple #[]) M') : aa Tryz.prog 154 #[.pointer (some ⟨b, o, none⟩), .int .i64 (i : Int), .int .i64 (j : Int)] M K Kp := by
 refine we ?_
 obtain ⟨q, rfl⟩ := h.bF (A := A) (by omega) (by decide)
 have hs := h.src (A := some ⟨q, 0, none⟩)
 rw [D.G1 _ _ _ _ _ _ _ h]
 refine aO (aO (aO ⟨by omega, by omega, bg ?_⟩))
 refine mO h hs (mY hj) (by simp) (by simp) (by simp) ?_
 refine aO ⟨by omega, by omega, bg ?_⟩
 refine mO h hs (mY hi) (by simp) (by simp) (by simp) ?_
 clear hs
 refine ⟨by omega, by omega, bg ?_⟩
 refine Lm (y := mN l j) h (mY hi) (by simp) (by simp) (by simp) ?_
 clear h; intro M h
 refine ⟨by omega, by omega, bg ?_⟩
 have KI : (l.set i (mN l j))[j]? = some (mN l j) := by
  rw [List.getElem?_set]
  split
  ·rfl
  ·exact mY hj
 refine Lm (y := mN l i) h KI (by simp) (by simp) (by simp) ?_
 clear h; intro M h
 exact k _ (h.sub bu)
theorem Bo (D : RW b o P) (h : Hp R (P A l.length c s :: eu A c l :: L) M) (hi : i < l.length) (hl : l.length ≤ 1000000)
  (k : ∀ M', Hp R (P A l.length c s :: eu A c l :: L) M' → K (.int .i64 (ig l i : Int)) M') : aa Tryz.prog 186 #[.pointer (some ⟨b, o, none⟩), .int .i64 (i : Int)] M K Kp := by
 refine uO ?_
 have e1 : IntKind.wrap .i64 (IntKind.wrap .i64 (4 * (i : Int)) + 1) = ((4 * i + 1 : Nat) : Int) := by
  rw [dm (z := 4 * (i : Int)) (by omega) (by omega), dm (by omega) (by omega)]; omega
 have e4 : IntKind.wrap .i64 (IntKind.wrap .i64 (4 * (i : Int)) + 4) = ((4 * i + 4 : Nat) : Int) := by
  rw [dm (z := 4 * (i : Int)) (by omega) (by omega), dm (by omega) (by omega)]; omega
 rw [e1, e4]
 refine ⟨fun d vs M => ∃ kk out : Nat, vs = [.int .i64 (out : Int), .int .i64 (kk : Int)] ∧ d = 4 * i + 5 - kk ∧ kk ≤ 4 * i + 5 ∧ out < l.length ∧ out < kk ∧ gT l (4 * i + 5 - kk) kk out = ig l i ∧ Hp R (P A l.length c s :: eu A c l :: L) M,
  ⟨_, 4 * i + 1, i, rfl, rfl, by omega, hi, by omega, by rw [show 4 * i + 5 - (4 * i + 1) = 4 from by omega]; rfl, h⟩, ?_⟩
 clear h
 rintro d _ n5 n6 M ⟨kk, out, he, hd, hkk, ho, hok, hf, h⟩
 simp only [List.cons.injEq, Value.int.injEq, and_true, true_and] at he
 obtain ⟨rfl, rfl⟩ := he
 refine aJ.2 ⟨fun hle => ?_, fun hgt => ?_⟩
 ·rw [D.G1 _ _ _ _ _ _ _ h]
  obtain ⟨n, hn⟩ : ∃ n, 4 * i + 5 - kk = n + 1 := ⟨4 * i + 4 - kk, by omega⟩
  rw [hn] at hf
  rw [zy] at hf
  refine aO ?_
  refine aJ.2 ⟨fun hlt => ?_, fun hge => ?_⟩
  ·rw [if_pos (by omega)] at hf
   obtain ⟨q, rfl⟩ := h.bF (A := A) (by omega) (by decide)
   have hs := h.src (A := some ⟨q, 0, none⟩)
   refine aO ⟨by omega, by omega, bg ?_⟩
   refine mO h hs (mY (i := kk) (by omega)) (by simp) (by simp) (by simp) ?_
   refine aO ⟨by omega, by omega, bg ?_⟩
   refine mO h hs (mY (i := out) (by omega)) (by simp) (by simp) (by simp) ?_
   refine yU h ?_
   clear h hs; intro M h
   refine o6 ?_
   have e : IntKind.wrap .i64 ((kk : Int) + 1) = ((kk + 1 : Nat) : Int) := by rw [dm (by omega) (by omega)]; omega
   rw [e]
   cases hb : (mN l kk).before (mN l out) with
   | true =>
    rw [hb] at hf
    exact ai ⟨n, by omega, kk + 1, kk, rfl, by omega, by omega, by omega, by omega, by rw [show 4 * i + 5 - (kk + 1) = n from by omega]; exact hf, h⟩
   | false =>
    rw [hb] at hf
    exact aj ⟨n, by omega, kk + 1, out, rfl, by omega, by omega, by omega, by omega, by rw [show 4 * i + 5 - (kk + 1) = n from by omega]; exact hf, h⟩
  ·rw [if_neg (by omega)] at hf
   subst hf
   exact k _ h
 ·have : 4 * i + 5 - kk = 0 := by omega
  rw [this] at hf
  have FR : out = ig l i := hf
  subst FR
  exact k _ h
theorem Nx (D : RW b o P) {f : Nat} (h : Hp R (P A l.length c s :: eu A c l :: L) M) (hi : i < l.length) (hl : l.length ≤ 1000000) (hf : l.length ≤ f + i)
  (k : ∀ M', Hp R (P A l.length c s :: eu A c (pz f i l) :: L) M' → K (.tuple #[]) M') : aa Tryz.prog 155 #[.pointer (some ⟨b, o, none⟩), .int .i64 (i : Int)] M K Kp := by
 refine wg ?_
 refine Bo D h hi hl ?_
 clear h; intro M h
 refine cz ?_
 refine ⟨fun d vs M => ∃ (f' i' : Nat) (l' : List bA), vs = [.int .i64 (i' : Int), .int .i64 (ig l' i' : Int)] ∧ d = l.length - i' ∧ i' < l.length ∧ l'.length = l.length ∧ l.length ≤ f' + i' ∧ pz f' i' l' = pz f i l ∧ Hp R (P A l.length c s :: eu A c l' :: L) M,
  ⟨_, f, i, l, rfl, rfl, hi, rfl, hf, rfl, h⟩, ?_⟩
 clear h
 rintro d _ n5 n6 M ⟨f', i', l', he, hd, hi', hl', Iq, DJ, h⟩
 simp only [List.cons.injEq, Value.int.injEq, and_true, true_and] at he
 obtain ⟨rfl, rfl⟩ := he
 obtain ⟨g, rfl⟩ : ∃ g, f' = g + 1 := ⟨f' - 1, by omega⟩
 rw [J4] at DJ
 obtain ⟨m1, m2⟩ := DI (l := l') (i := i') (by omega)
 rw [← hl'] at h
 refine fj.2 ⟨fun hne => ?_, fun heq => ?_⟩
 ·rw [if_neg (by intro e; apply hne; rw [e])] at DJ
  refine xY D h (i := i') (j := ig l' i') (by omega) (by omega) ?_
  clear h; intro M h
  refine ⟨rfl, ?_⟩
  have RX : (fy l' i' (ig l' i')).length = l'.length := fX
  rw [← RX] at h
  refine Bo D h (by omega) (by omega) ?_
  clear h; intro M h
  rw [RX] at h
  refine cz ?_
  exact ⟨l.length - ig l' i', by omega, g, ig l' i', _, rfl, rfl, by omega, by omega, by omega, DJ, by rw [← hl']; exact h⟩
 ·rw [if_pos (by omega)] at DJ
  subst DJ
  rw [hl'] at h
  exact k _ h
theorem Ln (D : RW b o P) {f : Nat} (h : Hp R (P A l.length c s :: eu A c l :: L) M) (hi : i < l.length) (hl : l.length ≤ 1000000) (hf : i ≤ f)
  (k : ∀ M', Hp R (P A l.length c s :: eu A c (Nv f i l) :: L) M' → K (.tuple #[]) M') : aa Tryz.prog 156 #[.pointer (some ⟨b, o, none⟩), .int .i64 (i : Int)] M K Kp := by
 refine zm ?_
 refine ⟨fun d vs M => ∃ (f' i' : Nat) (l' : List bA), vs = [.int .i64 (i' : Int)] ∧ d = i' ∧ i' < l.length ∧ l'.length = l.length ∧ i' ≤ f' ∧ Nv f' i' l' = Nv f i l ∧ Hp R (P A l.length c s :: eu A c l' :: L) M,
  ⟨_, f, i, l, rfl, rfl, hi, rfl, hf, rfl, h⟩, ?_⟩
 clear h
 rintro d _ n5 M ⟨f', i', l', he, hd, hi', hl', Iq, DJ, h⟩
 simp only [List.cons.injEq, Value.int.injEq, and_true, true_and] at he
 subst he
 refine aJ.2 ⟨fun hgt => ?_, fun hle => ?_⟩
 ·obtain ⟨g, rfl⟩ : ∃ g, f' = g + 1 := ⟨f' - 1, by omega⟩
  rw [Hl] at DJ
  have ep : IntKind.wrap .i64 (Int.tdiv (IntKind.wrap .i64 ((i' : Int) - 1)) 4) = (((i' - 1) / 4 : Nat) : Int) := by
   rw [dm (z := (i' : Int) - 1) (by omega) (by omega), show ((i' : Int) - 1) = ((i' - 1 : Nat) : Int) from by omega, show (4 : Int) = ((4 : Nat) : Int) from rfl, ← Int.ofNat_tdiv, dm (by omega) (by omega)]
  have hp : (i' - 1) / 4 < i' := by omega
  generalize hpe : (i' - 1) / 4 = p at ep DJ hp
  rw [ep, D.G1 _ _ _ _ _ _ _ h]
  obtain ⟨q, rfl⟩ := h.bF (A := A) (by omega) (by decide)
  have hs := h.src (A := some ⟨q, 0, none⟩)
  refine ⟨by omega, aO ⟨by omega, by omega, bg ?_⟩⟩
  refine mO h hs (mY (i := i') (by omega)) (by simp) (by simp) (by simp) ?_
  refine aO ⟨by omega, by omega, bg ?_⟩
  refine mO h hs (mY (i := p) (by omega)) (by simp) (by simp) (by simp) ?_
  refine yU h ?_
  clear h hs; intro M h
  refine o6 ?_
  cases hb : (mN l' i').before (mN l' p) with
  | true =>
   rw [if_pos ⟨by omega, hb⟩] at DJ
   refine ai ⟨by omega, ?_⟩
   rw [← hl'] at h
   refine xY D h (i := i') (j := p) (by omega) (by omega) ?_
   clear h; intro M h
   rw [hl'] at h
   exact ⟨rfl, by omega, p, by omega, g, p, _, rfl, rfl, by omega, by rw [fX]; exact hl', by omega, DJ, h⟩
  | false =>
   rw [if_neg (by rintro ⟨_, h2⟩; rw [hb] at h2; cases h2)] at DJ
   refine aj ?_
   subst DJ
   exact k _ h
 ·have : Nv f' i' l' = l' := by
   have h0 : i' = 0 := by omega
   subst h0
   cases f' with
   | zero => rfl
   | succ g => rw [Hl]; rw [if_neg (by omega)]
  rw [this] at DJ
  subst DJ
  exact k _ h
theorem Ny (D : RW b o P) {t id : Int} (h : Hp R (P A l.length c s :: eu A c l :: L) M) (hl : l.length < 1000000)
  (k : ∀ v A' c' M', Hp R (P A' (l.length + 1) c' (IntKind.wrap .u64 (s + 1)) :: eu A' c' (ua l ⟨t, s, id⟩) :: L) M' → K (.int .u64 v) M') : aa Tryz.prog 244 #[.pointer (some ⟨b, o, none⟩), .int .u64 t, .int .i64 id] M K Kp := by
 refine wh ?_
 rw [D.G1 _ _ _ _ _ _ _ h, D.ldI _ _ _ _ _ _ _ h]
 refine aO (cz ?_)
 refine ae h ?_
 clear h; intro kb M h
 replace h : Hp R (P A l.length c s :: eu A c l :: pt kb [.int .u64 t, .int .u64 s, .int .i64 id] 203 :: L) M := h.sub bu
 refine h.bL (A := A) zU [(⟨t, s, id⟩ : bA)] rfl rfl (by simp only [List.length_singleton]; omega) ?_
 clear h; intro A' c' M h
 refine aO ?_
 have hlen : (l ++ [(⟨t, s, id⟩ : bA)]).length = l.length + 1 := by simp
 refine D.stS _ _ _ _ _ _ _ _ _ _ _ h.swap ?_
 clear h; intro M h
 rw [D.ldI _ _ _ _ _ _ _ h]
 refine cz ?_
 refine D.stI _ _ _ _ _ _ _ _ _ h ?_
 clear h; intro M h
 rw [D.G1 _ _ _ _ _ _ _ h]
 refine aO ?_
 have e : IntKind.wrap .i64 (((l ++ [(⟨t, s, id⟩ : bA)]).length : Int) - 1) = ((l.length : Nat) : Int) := by
  rw [dm (by omega) (by omega)]; omega
 rw [e]
 refine Ln D (f := l.length) h (by omega) (by omega) (Nat.le_refl _) ?_
 clear h; intro M h
 refine ⟨rfl, ?_⟩
 rw [D.ldI _ _ _ _ _ _ _ h]
 refine cz ?_
 rw [hlen] at h
 exact k _ _ _ _ h
theorem yV (D : RW b o P) (h : Hp R (P A l.length c s :: eu A c l :: L) M) (hi : i < l.length) (hl : l.length ≤ 1000000)
  (k : ∀ M', Hp R (P A (l.length - 1) c s :: eu A c (c7 l i) :: L) M' → K (.agg #[.int .u64 (mN l i).t, .int .u64 (mN l i).seq, .int .i64 (mN l i).id]) M') : aa Tryz.prog 117 #[.pointer (some ⟨b, o, none⟩), .int .i64 (i : Int)] M K Kp := by
 refine sN ?_
 have hcap := h.kH A
 obtain ⟨q, rfl⟩ := h.bF (A := A) (by omega) (by decide)
 refine ae h ?_
 clear h; intro k1 M h
 have hs := h.src (A := some ⟨q, 0, none⟩)
 replace h : Hp R (P (some ⟨q, 0, none⟩) l.length c s :: eu (some ⟨q, 0, none⟩) c l :: pt k1 [.int .u64 0, .int .u64 0, .int .i64 0] 203 :: L) M := h.sub bu
 replace hs := h.src (A := some ⟨q, 0, none⟩)
 rw [D.G1 _ _ _ _ _ _ _ h]
 refine aO ⟨by omega, by omega, bg ?_⟩
 refine mO h hs (mY hi) (by simp) (by simp) (by simp) ?_
 clear hs
 generalize hx : mN l i = x at k
 refine ae h ?_
 clear h; intro k2 M h
 refine au h ?_
 clear h; intro M h
 refine au h ?_
 clear h; intro M h
 refine au h ?_
 clear h; intro M h
 replace h : Hp R (P (some ⟨q, 0, none⟩) l.length c s :: eu (some ⟨q, 0, none⟩) c l :: pt k2 [.int .u64 x.t, .int .u64 x.seq, .int .i64 x.id] 203 :: pt k1 [.int .u64 0, .int .u64 0, .int .i64 0] 203 :: L) M := h.sub bu
 rw [D.G1 _ _ _ _ _ _ _ h]
 have e : IntKind.wrap .i64 ((l.length : Int) - 1) = ((l.length - 1 : Nat) : Int) := by
  rw [dm (by omega) (by omega)]; omega
 refine aO ?_
 rw [e]
 refine xY D h hi (j := l.length - 1) (by omega) ?_
 clear h; intro M h
 refine ⟨rfl, ?_⟩
 rw [D.G1 _ _ _ _ _ _ _ h]
 refine aO ⟨by omega, by omega, by omega, by omega, by omega, by omega, ?_⟩
 have e2 : kP (some ⟨q, 0, none⟩) 0 (Int.toNat (c : Int)) 3 = some ⟨q, 0, none⟩ := by
  unfold kP; rw [if_neg (by simp; omega)]; rfl
 rw [e2]
 simp only [Int.toNat_natCast, Nat.sub_zero]
 refine D.stS _ _ _ _ _ _ _ _ _ _ _ h ?_
 clear h; intro M h
 have RX : ((fy l i (l.length - 1)).take (l.length - 1)).length = l.length - 1 := by rw [List.length_take, fX]; omega
 have fin : ∀ (M : Mem) (Q : List HP), Hp R (P (some ⟨q, 0, none⟩) (l.length - 1) c s :: eu (some ⟨q, 0, none⟩) c (c7 l i) :: pt k2 [.int .u64 x.t, .int .u64 x.seq, .int .i64 x.id] 203 :: pt k1 [.int .u64 0, .int .u64 0, .int .i64 0] 203 :: L) M →
   aK (Mem.ld M ⟨k2, 0, none⟩) .u64 fun vW => aK (Mem.ld M ⟨k2, (0 + 1), none⟩) .u64 fun Dl => aK (Mem.ld M ⟨k2, (0 + 2), none⟩) .i64 fun vR =>
   aP M ⟨k1, 0, none⟩ (.int .u64 vW) fun oF => aP oF ⟨k1, (0 + 1), none⟩ (.int .u64 Dl) fun vq => aP vq ⟨k1, (0 + 2), none⟩ (.int .i64 vR) fun pE =>
   aK (Mem.ld pE ⟨k1, 0, none⟩) .u64 fun KY => aK (Mem.ld pE ⟨k1, (0 + 1), none⟩) .u64 fun w9 => aK (Mem.ld pE ⟨k1, (0 + 2), none⟩) .i64 fun Mu =>
   K (.agg #[(.int .u64 KY), (.int .u64 w9), (.int .i64 Mu)]) pE := by
  intro M _ h
  refine aF h (aF h (aF h ?_))
  refine au h ?_
  clear h; intro M h
  refine au h ?_
  clear h; intro M h
  refine au h ?_
  clear h; intro M h
  refine aF h (aF h (aF h ?_))
  exact k _ (h.sub bu)
 replace h : Hp R (P (some ⟨q, 0, none⟩) (l.length - 1) c s :: eu (some ⟨q, 0, none⟩) c ((fy l i (l.length - 1)).take (l.length - 1)) :: pt k2 [.int .u64 x.t, .int .u64 x.seq, .int .i64 x.id] 203 :: pt k1 [.int .u64 0, .int .u64 0, .int .i64 0] 203 :: L) M := (h.swap.OY (l.length - 1)).swap
 unfold c7 at fin
 refine aJ.2 ⟨fun hlt => ?_, fun hge => ?_⟩
 ·rw [if_pos (by omega)] at fin
  have h' : Hp R (P (some ⟨q, 0, none⟩) ((fy l i (l.length - 1)).take (l.length - 1)).length c s :: eu (some ⟨q, 0, none⟩) c ((fy l i (l.length - 1)).take (l.length - 1)) :: pt k2 [.int .u64 x.t, .int .u64 x.seq, .int .i64 x.id] 203 :: pt k1 [.int .u64 0, .int .u64 0, .int .i64 0] 203 :: L) M := by rw [RX]; exact h
  clear h
  have h := h'
  clear h'
  refine Nx D (f := l.length) h (by omega) (by omega) (by omega) ?_
  clear h; intro M h
  refine ⟨rfl, ?_⟩
  rw [show ((fy l i (l.length - 1)).take (l.length - 1)).length = (pz l.length i ((fy l i (l.length - 1)).take (l.length - 1))).length from jL.symm] at h
  refine Ln D (f := i) h (by rw [jL]; omega) (by rw [jL]; omega) (Nat.le_refl _) ?_
  clear h; intro M h
  refine ⟨rfl, ?_⟩
  rw [jL, RX] at h
  exact fin M [] h
 ·rw [if_neg (by omega)] at fin
  exact fin M [] h
theorem Nz (D : RW b o P) {now : Int} (h : Hp R (P A l.length c s :: eu A c l :: L) M) (hl : l.length ≤ 1000000)
  (k : ∀ A' c' M', Hp R (P A (eC l.length l now).1.length c s :: eu A c (eC l.length l now).1 :: eu A' c' (eC l.length l now).2 :: L) M' → K (.slice A' (eC l.length l now).2.length c') M') :
  aa Tryz.prog 157 #[.pointer (some ⟨b, o, none⟩), .int .u64 now] M K Kp := by
 refine vZ ?_
 have h0 := h.bP kU 203
 refine ⟨fun d vs M => ∃ (A' : Option Addr) (c' : Nat) (out l' : List bA), vs = [.slice A' out.length c'] ∧ d = l'.length ∧ l'.length + out.length = l.length ∧ (eC l'.length l' now).1 = (eC l.length l now).1 ∧ out ++ (eC l'.length l' now).2 = (eC l.length l now).2 ∧
   Hp R (P A l'.length c s :: eu A c l' :: eu A' c' out :: L) M, ⟨_, none, 0, [], l, rfl, rfl, rfl, rfl, rfl, h0.sub bu⟩, ?_⟩
 clear h h0
 rintro d _ A' n' c' M ⟨A2, c2, out, l', he, hd, RX, e1, e2, h⟩
 simp only [List.cons.injEq, Value.slice.injEq, and_true, true_and] at he
 obtain ⟨rfl, rfl, rfl⟩ := he
 rw [D.G1 _ _ _ _ _ _ _ h]
 have stop : ¬ (0 < l'.length ∧ (mN l' 0).t ≤ now) → K (.slice A' out.length c') M := by
  intro hn
  have e : eC l'.length l' now = (l', []) := by
   cases hl' : l'.length with
   | zero => rfl
   | succ m => rw [Bn]; rw [if_neg hn]
  rw [e] at e1 e2
  dsimp only at e1 e2
  rw [List.append_nil] at e2
  subst e1; subst e2
  exact k _ _ _ h
 refine aO ?_
 refine aJ.2 ⟨fun hgt => ?_, fun hle => stop (by omega)⟩
 have hcap := h.kH A
 obtain ⟨q, rfl⟩ := h.bF (A := A) (by omega) (by decide)
 have hs := h.src (A := some ⟨q, 0, none⟩)
 refine aO ⟨by omega, by omega, bg ?_⟩
 refine aR (Src.at hs h (i := 0) (j := 0) (mY (by omega)) rfl rfl) ?_
 clear hs
 refine aJ.2 ⟨fun hle => ?_, fun hgt2 => stop (fun hn => hgt2 hn.2)⟩
 refine yV D h (i := 0) (by omega) (by omega) ?_
 clear h stop; intro M h
 refine ⟨_, _, _, rfl, ?_⟩
 refine ae h ?_
 clear h; intro kb M h
 refine h.bL (A := A') zU [mN l' 0] rfl rfl (by simp only [List.length_singleton]; omega) ?_
 clear h; intro A3 c3 M h
 refine aO ?_
 have jv : (c7 l' 0).length = l'.length - 1 := yT
 have hw : eC l'.length l' now = ((eC (c7 l' 0).length (c7 l' 0) now).1, mN l' 0 :: (eC (c7 l' 0).length (c7 l' 0) now).2) := by
  obtain ⟨m, hm⟩ : ∃ m, l'.length = m + 1 := ⟨l'.length - 1, by omega⟩
  rw [jv, hm]
  show eC (m + 1) l' now = _
  rw [Bn]
  rw [if_pos ⟨by omega, hle⟩]; rfl
 rw [hw] at e1 e2
 rw [← jv] at h
 exact ⟨_, by omega, A3, c3, out ++ [mN l' 0], c7 l' 0, rfl, rfl, by simp; omega, e1, by rw [List.append_assoc]; exact e2, h.sub bu⟩
theorem YR {kb T : Nat} : RW kb 0 (fun A n c s => pt kb [.slice A n c, .int .u64 s] T) :=
 ⟨fun R L M A n c s h => bN h, fun R L M A n c s h => bN h, fun R L M A A' n c n' c' s G h k => au h k, fun R L M A n c s s' G h k => au h k⟩
theorem NA (D : RW b o P) (h : Hp R (P A l.length c s :: eu A c l :: L) M) (hl : l.length ≤ 1000000)
  (k : ∀ A' c' M', Hp R (eu A' c' (dy l.length l) :: P A l.length c s :: eu A c l :: L) M' → K (.slice A' (dy l.length l).length c') M') :
  aa Tryz.prog 63 #[.pointer (some ⟨b, o, none⟩)] M K Kp := by
 refine wc ?_
 refine ae h ?_
 clear h; intro kb M h
 replace h : Hp R (P A l.length c s :: eu A c l :: pt kb [] 203 :: L) M := h.sub (by repeat (first | exact .refl | refine .cons (by repeat (first | exact .here | apply cZ.there)) ?_ | apply Sub.drop))
 rw [D.G1 _ _ _ _ _ _ _ h]
 refine aO ?_
 refine h.gE kU (k := kb) zU l (h.src (A := A)) rfl (by omega) ?_
 clear h; intro A1 c1 M h
 refine aO ?_
 refine ae h ?_
 clear h; intro kc M h
 refine au h ?_
 clear h; intro M h
 refine au h ?_
 clear h; intro M h
 have h0 := h.bP kU 203
 refine ⟨fun d vs M => ∃ (A' : Option Addr) (c' : Nat) (out l' : List bA), vs = [.slice A' out.length c'] ∧ d = l'.length ∧ l'.length + out.length = l.length ∧ out ++ dy l'.length l' = dy l.length l ∧
   Hp R (pt kc [.slice A1 l'.length c1, .int .u64 0] 159 :: eu A1 c1 l' :: eu A' c' out :: P A l.length c s :: eu A c l :: L) M, ⟨_, none, 0, [], l, rfl, rfl, rfl, rfl, h0.sub (by repeat (first | exact .refl | refine .cons (by repeat (first | exact .here | apply cZ.there)) ?_ | apply Sub.drop))⟩, ?_⟩
 clear h h0
 rintro d _ A' n' c' M ⟨A2, c2, out, l', he, hd, RX, e2, h⟩
 simp only [List.cons.injEq, Value.slice.injEq, and_true, true_and] at he
 obtain ⟨rfl, rfl, rfl⟩ := he
 refine aL h ?_
 refine aJ.2 ⟨fun hgt => ?_, fun hle => ?_⟩
 ·refine yV YR h (i := 0) (by omega) (by omega) ?_
  clear h; intro M h
  refine ⟨_, _, _, rfl, ?_⟩
  refine ae h ?_
  clear h; intro kb2 M h
  refine h.bL (A := A') zU [mN l' 0] rfl rfl (by simp only [List.length_singleton]; omega) ?_
  clear h; intro A3 c3 M h
  refine aO ?_
  have jv : (c7 l' 0).length = l'.length - 1 := yT
  have hw : dy l'.length l' = mN l' 0 :: dy (c7 l' 0).length (c7 l' 0) := by
   obtain ⟨m, hm⟩ : ∃ m, l'.length = m + 1 := ⟨l'.length - 1, by omega⟩
   rw [jv, hm]
   show dy (m + 1) l' = _
   rw [wR]
   rw [if_pos (by omega)]; rfl
  rw [hw] at e2
  rw [← jv] at h
  exact ⟨_, by omega, A3, c3, out ++ [mN l' 0], c7 l' 0, rfl, rfl, by simp; omega, by rw [List.append_assoc]; exact e2, h.sub (by repeat (first | exact .refl | refine .cons (by repeat (first | exact .here | apply cZ.there)) ?_ | apply Sub.drop))⟩
 ·have hz : l'.length = 0 := by omega
  rw [hz] at e2
  have e3 : out = dy l.length l := by rw [← e2]; simp [dy]
  subst e3
  exact k _ _ _ (h.sub (by repeat (first | exact .refl | refine .cons (by repeat (first | exact .here | apply cZ.there)) ?_ | apply Sub.drop)))
end
def kq (x : Wd) (k : Int) : Lk := x.aI.getD k.toNat ⟨-1, []⟩
def Wd.gU (x : Wd) (k : Int) (c : Lk) : Wd := { x with aI := x.aI.set k.toNat c }
def Wd.lock (x : Wd) (g : Int) (i : cQ) : Wd := if ((kq x i.a).take g).2 then x.gU i.a ((kq x i.a).take g).1 else (x.gU i.a ((kq x i.a).take g).1).block g i
def Wd.unlock (x : Wd) (g : Int) (i : cQ) : Out Wd :=
 if ((kq x i.a).tP g).2.2 ≠ 0 then .fM (-3) (x.gU i.a ((kq x i.a).tP g).1)
 else if ((kq x i.a).tP g).2.1 ≠ -1 then .on ((x.gU i.a ((kq x i.a).tP g).1).fL ((kq x i.a).tP g).2.1) else .on (x.gU i.a ((kq x i.a).tP g).1)
def E4 (x : Wd) (k : Int) : Prop := 0 ≤ k ∧ k < x.aI.length
instance (x : Wd) (k : Int) : Decidable (E4 x k) := by unfold E4; infer_instance
def nK (x : Wd) (g : Int) (i : cQ) : Prop := E4 x i.a ∧ (((kq x i.a).tP g).2.1 ≠ -1 → 0 ≤ ((kq x i.a).tP g).2.1 ∧ ((kq x i.a).tP g).2.1 < x.gs.length)
instance (x : Wd) (g : Int) (i : cQ) : Decidable (nK x g i) := by unfold nK; infer_instance
def Wd.rand (x : Wd) (g : Int) (i : cQ) : kW → Out Wd
 | .num d => .on ((x.next g).bB g i.a d)
 | .dY l => .dY l x
def qZ (x : Wd) (g : Int) (i : cQ) : Int := if 1048576 < bD x g i.a then 1048576 else bD x g i.a
def Wd.sleep (x : Wd) (g : Int) (i : cQ) : Wd :=
 if 0 < qZ x g i then { x.bG g { aq x g with st := 3 } with hl := ua x.hl ⟨IntKind.wrap .u64 (x.clock + IntKind.wrap .u64 (qZ x g i)), x.lz, g⟩, lz := IntKind.wrap .u64 (x.lz + 1) } else x
def Wd.tick (x : Wd) : Wd := if x.end_ ≠ 0 then { x with ready := [] } else
 let r := eC x.hl.length x.hl (IntKind.wrap .u64 (x.clock + 1))
 (r.2.map (·.id)).foldl Wd.fL { x with clock := IntKind.wrap .u64 (x.clock + 1), hl := r.1, ready := [] }
section
variable {R : Mem} {L L' L2 : List HP} {M : Mem} {K : Value → Mem → Prop} {Kp : List PanicEntry → Mem → Prop} {pa : PA} {p : cv} {gg : List GA} {dr : Value} {b : Nat} {x : Wd} {g : Int} {i : cQ}
theorem TM (hg : br x g) (hb : bj i.b) : gC R pa p dr 211 x g i (x.call g i) L L := by
 intro gg b bs c M K Kp Q h fu k
 refine sO ?_
 have ET := hg
 obtain ⟨h0, h1, h2, h3⟩ := ET
 unfold Wd.call at k
 refine ae h ?_
 clear h
 intro kb M h
 have hC := h
 have h' := hG h (b := b) h0 h1 fu
 clear h
 obtain ⟨a, gb, hl, gd, h⟩ := h'
 have hl' := hl
 obtain ⟨l1, l2, l3, l4⟩ := hl'
 repeat (first|(refine ae h ?_;clear h;intro kb M h)|(refine au h ?_;clear h;intro M h)|refine St.to h ?_|(apply Exists.intro;(repeat apply Exists.intro);refine And.intro rfl ?_)|refine av ?_|refine ai ?_|refine aj ?_)
 refine uZ h gd fun q hq => ?_
 repeat (first|(refine ae h ?_;clear h;intro kb M h)|(refine au h ?_;clear h;intro M h)|refine St.to h ?_|(apply Exists.intro;(repeat apply Exists.intro);refine And.intro rfl ?_)|refine av ?_|refine ai ?_|refine aj ?_)
 refine ⟨hb.1, hb.2, wF h (eX h2) hb rfl ?_⟩
 repeat (first|(refine ae h ?_;clear h;intro kb M h)|(refine au h ?_;clear h;intro M h)|refine St.to h ?_|(apply Exists.intro;(repeat apply Exists.intro);refine And.intro rfl ?_)|refine av ?_|refine ai ?_|refine aj ?_)
 refine JF h h2 ?_ ?_
 ·intro wG
  rw [if_pos (by omega)] at k
  refine ⟨_, _, _, _, rfl, ai ?_⟩
  exact k _ _ (hC.sub bu)
 ·intro hlt b' c' M' h'
  clear h hC
  have h := h'
  clear h'
  rw [if_neg (by omega)] at k
  refine ⟨_, _, _, _, rfl, aj ?_⟩
  repeat (first|(refine ae h ?_;clear h;intro kb M h)|(refine au h ?_;clear h;intro M h)|refine St.to h ?_|(apply Exists.intro;(repeat apply Exists.intro);refine And.intro rfl ?_)|refine av ?_|refine ai ?_|refine aj ?_)
  refine uZ h gd fun q2 oa => ?_
  repeat (first|(refine ae h ?_;clear h;intro kb M h)|(refine au h ?_;clear h;intro M h)|refine St.to h ?_|(apply Exists.intro;(repeat apply Exists.intro);refine And.intro rfl ?_)|refine av ?_|refine ai ?_|refine aj ?_)
  have hlen : (aq x g).fs.length + 1 = ((aq x g).fs ++ [(⟨i.a, 0, [bD x g i.b, 0, 0, 0, 0, 0, 0, 0], i.c⟩ : gH)]).length := by simp
  have h5 := nI (A := some ⟨b', 0, none⟩) (fs := (aq x g).fs ++ [⟨i.a, 0, [bD x g i.b, 0, 0, 0, 0, 0, 0, 0], i.c⟩]) h gb hlen
  have hi := (List.getElem?_eq_some_iff.1 gd).1
  have h6 := h5.eF fY gb gd (by rw [List.length_zip]; omega)
  rw [Bl] at h6
  have kM : fG (gg.set g.toNat (some ⟨b', 0, none⟩, c')) a (x.bG g ⟨(aq x g).st, (aq x g).fs ++ [⟨i.a, 0, [bD x g i.b, 0, 0, 0, 0, 0, 0, 0], i.c⟩], (aq x g).wt⟩) := ⟨by simpa [Wd.bG] using l1, by simpa [Wd.bG] using l2, l3, l4⟩
  have h7 := bk (a := a) (p := p) (pa := pa) (dr := dr) (gg := gg.set g.toNat (some ⟨b', 0, none⟩, c')) (x := x.bG g ⟨(aq x g).st, (aq x g).fs ++ [⟨i.a, 0, [bD x g i.b, 0, 0, 0, 0, 0, 0, 0], i.c⟩], (aq x g).wt⟩) kM h6 b
  exact k _ _ (h7.sub bu)
theorem Lo {a : WA} {k : Int} {c : Lk} (hl : fG gg a x) : fG gg a (x.gU k c) := by
 obtain ⟨l1, l2, l3, l4⟩ := hl
 exact ⟨l1, l2, l3, by simpa [Wd.gU] using l4⟩
theorem TN (hg : br x g) (hk : E4 x i.a) (hs : x.Sm) : gC R pa p dr 219 x g i (.on (x.lock g i)) L L := by
 intro gg b bs c M K Kp Q h fu k
 refine sU ?_
 replace k : ∀ mJ M', Hp R (ay (bC pa p mJ dr) b (x.lock g i) :: Q :: L) M' → K (.tuple #[]) M' := k
 unfold Wd.lock at k
 obtain ⟨s1, s2, s3, s4, s5, s6, s7, s8⟩ := hs
 obtain ⟨k0, k1⟩ := hk
 refine ae h ?_
 clear h
 intro kb M h
 have h' := cG h (b := b)
 clear h
 obtain ⟨a, hl, h⟩ := h'
 have hl' := hl
 obtain ⟨l1, l2, l3, l4⟩ := hl'
 refine aL h (aF h ⟨k0, by omega, ?_⟩)
 obtain ⟨lb, hlb⟩ := aM (l := a.lb) (i := i.a.toNat) (by omega)
 refine uZ h hlb fun q hq => ?_
 obtain ⟨y, hy⟩ := aM (l := x.aI) (i := i.a.toNat) (by omega)
 have e : kq x i.a = y := by simp [kq, hy]
 rw [e] at k
 replace h := h.cK eT hlb hy
 refine JG h (Nat.le_trans (s6 y (List.mem_of_getElem? hy)) (by decide)) ?_
 clear h; intro M h
 replace h := h.eF eT lb hlb (by omega)
 replace h := bk (a := a) (p := p) (pa := pa) (dr := dr) (gg := gg) (x := x.gU i.a (y.take g).1) (Lo hl) h b
 refine o6 ?_
 cases ht : (y.take g).2 with
 | true =>
  rw [ht] at k
  simp only [if_true] at k
  refine aj ?_
  exact k _ _ (h.sub bu)
 | false =>
  rw [ht] at k
  simp only [Bool.false_eq_true, if_false] at k
  refine ai ?_
  refine aF h (aF h (aF h (aF h ?_)))
  refine mH (b := b) (i := i) h hg.1 (show g < (x.gU i.a (y.take g).1).gs.length from hg.2.1) ?_
  clear h; intro M h
  exact ⟨rfl, k _ _ (h.sub bu)⟩
theorem NB (hk : nK x g i) (hs : x.Sm) : gC R pa p dr 220 x g i (x.unlock g i) L L := by
 intro gg b bs c M K Kp Q h fu k
 refine pI ?_
 unfold Wd.unlock at k
 obtain ⟨s1, s2, s3, s4, s5, s6, s7, s8⟩ := hs
 obtain ⟨⟨k0, k1⟩, hw⟩ := hk
 refine ae h ?_
 clear h
 intro kb M h
 have h' := cG h (b := b)
 clear h
 obtain ⟨a, hl, h⟩ := h'
 have hl' := hl
 obtain ⟨l1, l2, l3, l4⟩ := hl'
 refine aL h (aF h ⟨k0, by omega, ?_⟩)
 obtain ⟨lb, hlb⟩ := aM (l := a.lb) (i := i.a.toNat) (by omega)
 refine uZ h hlb fun q hq => ?_
 obtain ⟨y, hy⟩ := aM (l := x.aI) (i := i.a.toNat) (by omega)
 have e : kq x i.a = y := by simp [kq, hy]
 rw [e] at k hw
 replace h := h.cK eT hlb hy
 refine JH h (Nat.le_trans (s6 y (List.mem_of_getElem? hy)) (by decide)) ?_
 clear h; intro M h
 replace h := h.eF eT lb hlb (by omega)
 replace h := bk (a := a) (p := p) (pa := pa) (dr := dr) (gg := gg) (x := x.gU i.a (y.tP g).1) (Lo hl) h b
 refine ⟨_, _, rfl, ?_⟩
 refine fj.2 ⟨fun hn => ?_, fun hn => ?_⟩
 ·rw [if_pos hn] at k
  exact k _ _ (h.sub bu)
 rw [if_neg (by simpa using hn)] at k
 refine fj.2 ⟨fun BZ => ?_, fun BZ => ?_⟩
 ·rw [if_pos BZ] at k
  obtain ⟨w0, w1⟩ := hw BZ
  refine iE (b := b) h w0 (show _ < ((x.gU i.a (y.tP g).1).gs.length : Int) from w1) (by show x.ready.length ≤ _; omega) ?_
  clear h; intro M h
  exact ⟨rfl, k _ _ (h.sub bu)⟩
 ·rw [if_neg (by simpa using BZ)] at k
  exact k _ _ (h.sub bu)
theorem TO : gC R pa p dr 222 x g i (.fM i.a x) L L := by
 intro gg b bs c M K Kp Q h fu k
 refine sW ?_
 refine ae h ?_
 clear h
 intro kb M h
 refine aF h ?_
 exact k _ _ (h.sub bu)
theorem QV : gC R pa p dr 214 x g i (.on x) L L := by
 intro gg b bs c M K Kp Q h fu k
 refine qD ?_
 refine ae h ?_
 clear h
 intro kb M h
 exact k _ _ (h.sub bu)
theorem TP {d : kW} (hg : br x g) (ha : bj i.a) (CG : 0 ≤ (aq x g).top.pc ∧ (aq x g).top.pc < 1000000000) (hd : jq R dr 4 i.b d L L2) : gC R pa p dr 192 x g i (x.rand g i d) L L2 := by
 intro gg b bs c M K Kp Q h fu k
 refine sM ?_
 refine ae h ?_
 clear h
 intro kb M h
 have CJ : M.ld ⟨b, 0 + 14, none⟩ = some dr := by
  obtain ⟨a, hl, h9⟩ := cG h (b := b)
  exact bN h9
 rw [CJ]
 refine OW (aF h ?_)
 have h5 : Hp R (sep [ay (bC pa p gg dr) b x, pt kb [.int .i64 i.op, .int .i64 i.a, .int .i64 i.b, .int .i64 i.c] 27, Q] :: L) M := Hp.bl.2 (h.sub bu)
 refine hd _ _ _ _ h5 ?_
 clear h h5 CJ
 cases d with
 | dY l =>
  dsimp only at k ⊢
  intro M h5
  have h : Hp R (ay (bC pa p gg dr) b x :: pt kb [.int .i64 i.op, .int .i64 i.a, .int .i64 i.b, .int .i64 i.c] 27 :: Q :: L2) M := Hp.bl.1 h5
  exact k _ _ (h.sub bu)
 | num v =>
  dsimp only at k ⊢
  intro M h5
  have h : Hp R (ay (bC pa p gg dr) b x :: pt kb [.int .i64 i.op, .int .i64 i.a, .int .i64 i.b, .int .i64 i.c] 27 :: Q :: L2) M := Hp.bl.1 h5
  clear h5
  refine cz ?_
  refine J2 (b := b) h hg fu rfl ?_
  rw [jJ CG.1 (by omega)]
  refine J1 (b := b) h hg fu rfl rfl ?_
  clear h; intro M h
  refine aF h ⟨ha.1, ha.2, ?_⟩
  refine mI (b := b) h (va hg) fu ha (by rw [E1 hg]) ?_
  clear h; intro M h
  exact k _ _ (h.sub bu)
abbrev zV (pa : PA) (p : cv) (dr : Value) (a : WA) (x : Wd) (nr : Nat) (A : Option Addr) (n c : Nat) (s : Int) : List Value :=
 [.slice pa.f p.funcs.length pa.fc, .slice pa.c p.dS.length pa.cc, .int .i64 p.aI, .slice pa.k p.cases.length pa.kc, .slice a.ag a.gb.length a.cg, .int .u64 x.clock,
  .slice a.ac a.cb.length a.cc, .slice a.al a.lb.length a.cl, .slice A n c, .int .u64 s, .slice a.ao x.out.length a.co, .int .i64 x.end_, .int .i64 x.code, .slice a.ar nr a.cr, dr]
theorem QW {a : WA} {nr T : Nat} : RW b (0 + 8) (fun A n c s => pt b (zV pa p dr a x nr A n c s) T) :=
 ⟨fun R L M A n c s h => bN h, fun R L M A n c s h => bN h, fun R L M A A' n c n' c' s G h k => au h k, fun R L M A n c s s' G h k => au h k⟩
theorem QX (hg : br x g) (ha : bj i.a) (hs : x.hl.length < 1000000) : gC R pa p dr 218 x g i (.on (x.sleep g i)) L L := by
 intro gg b bs c M K Kp Q h fu k
 refine qE ?_
 replace k : ∀ mJ M', Hp R (ay (bC pa p mJ dr) b (x.sleep g i) :: Q :: L) M' → K (.tuple #[]) M' := k
 have ET := hg
 obtain ⟨h0, h1, h2, h3⟩ := ET
 unfold Wd.sleep at k
 refine ae h ?_
 clear h
 intro kb M h
 refine aF h ⟨ha.1, ha.2, ?_⟩
 refine GW (b := b) h hg fu ha rfl ?_
 have hC := h
 have h' := cG h (b := b)
 clear h
 obtain ⟨a, hl, h⟩ := h'
 have hl' := hl
 obtain ⟨l1, l2, l3, l4⟩ := hl'
 have e : (if (1048576 : Int) < bD x g i.a then 1048576 else bD x g i.a) = qZ x g i := rfl
 rw [e]
 refine aJ.2 ⟨fun hn => ?_, fun hn => ?_⟩
 ·rw [if_pos (by omega)] at k
  refine aF h ?_
  clear hC
  replace h : Hp R (pt b (zV pa p dr a x x.ready.length a.ah x.hl.length a.ch x.lz) 161 :: eu a.ah a.ch x.hl :: bp fY a.gb (x.gs.zip gg) :: yN a.ag a.cg a.gb :: yO a.ac a.cc a.cb :: bp bI a.cb x.aB :: yP a.al a.cl a.lb :: bp eT a.lb x.aI :: jz a.ao a.co x.out :: jg a.ar a.cr x.ready :: Q :: L) M := h.sub bu
  refine Ny (QW (a := a) (x := x)) h hs ?_
  clear h; intro v A' c' M h
  refine cz ?_
  have h9 : Hp R (ay (bC pa p gg dr) b { x with hl := ua x.hl ⟨IntKind.wrap .u64 (x.clock + IntKind.wrap .u64 (qZ x g i)), x.lz, g⟩, lz := IntKind.wrap .u64 (x.lz + 1) } :: Q :: L) M := by
   have := Nw (l := x.hl) (x := ⟨IntKind.wrap .u64 (x.clock + IntKind.wrap .u64 (qZ x g i)), x.lz, g⟩)
   rw [← this] at h
   exact kj (a := { a with ah := A', ch := c' }) (x := { x with hl := ua x.hl ⟨IntKind.wrap .u64 (x.clock + IntKind.wrap .u64 (qZ x g i)), x.lz, g⟩, lz := IntKind.wrap .u64 (x.lz + 1) }) ⟨l1, l2, l3, l4⟩ (h.sub bu)
  clear h hl l1 l2 l3 l4
  have h := h9
  clear h9
  have h' := hG (x := { x with hl := ua x.hl ⟨IntKind.wrap .u64 (x.clock + IntKind.wrap .u64 (qZ x g i)), x.lz, g⟩, lz := IntKind.wrap .u64 (x.lz + 1) }) h (b := b) h0 h1 fu
  clear h
  obtain ⟨a2, gb, hl, gd, h⟩ := h'
  have hl' := hl
  obtain ⟨l1, l2, l3, l4⟩ := hl'
  refine aL h ⟨h0, by dsimp only at l1; omega, ?_⟩
  refine uZ h gd fun q hq => ?_
  refine bg ?_
  refine au h ?_
  clear h; intro M h
  replace h := dh h gb hl gd fu
  have kM := dK (y := { aq x g with st := 3 }) (g := g) hl
  replace h := bk (a := a2) (p := p) (pa := pa) (dr := dr) (gg := gg) (x := { x.bG g { aq x g with st := 3 } with hl := ua x.hl ⟨IntKind.wrap .u64 (x.clock + IntKind.wrap .u64 (qZ x g i)), x.lz, g⟩, lz := IntKind.wrap .u64 (x.lz + 1) }) kM h b
  exact k _ _ (h.sub bu)
 ·rw [if_neg (by omega)] at k
  exact k _ _ (hC.sub bu)
theorem TQ {l : List Int} : ∀ {x : Wd}, (l.foldl Wd.fL x).gs.length = x.gs.length := by
 induction l with
 | nil => intro x; rfl
 | cons a l ih => intro x; rw [List.foldl_cons, ih]; simp [Wd.fL, Wd.bG]
theorem J5 {l : List Int} : ∀ {x : Wd}, (l.foldl Wd.fL x).ready = x.ready ++ l := by
 induction l with
 | nil => intro x; simp
 | cons a l ih => intro x; rw [List.foldl_cons, ih]; simp [Wd.fL]
theorem J6 (h : Hp R L M) [o : CI b L pa p x L'] (hs : x.hl.length ≤ 1000000) (hw : ∀ y ∈ (eC x.hl.length x.hl (IntKind.wrap .u64 (x.clock + 1))).2, 0 ≤ y.id ∧ y.id < x.gs.length)
  (k : ∀ R' A c M', R.le R' → RS aZ R' A c x.tick.ready → Hp R' (ay (bn pa p) b x.tick :: L') M' → K (.slice A x.tick.ready.length c) M') :
  aa Tryz.prog 120 #[.pointer (some ⟨b, 0, none⟩)] M K Kp := by
 refine sJ ?_
 have h' := cR h (b := b)
 clear h
 obtain ⟨a, gg, dr, n, hl, h⟩ := h'
 have hl' := hl
 obtain ⟨l1, l2, l3, l4⟩ := hl'
 unfold Wd.tick at k
 dsimp only at k
 refine aF h ?_
 refine fj.2 ⟨fun he => ?_, fun he => ?_⟩
 ·rw [if_pos he] at k
  exact k R none 0 M (Mem.le_refl _) (RS.nil _ _) (jn (a := a) (gg := gg) (dr := dr) (n := n) (x := { x with ready := [] }) hl h)
 rw [if_neg (by simpa using he)] at k
 refine aF h ?_
 refine au h ?_
 clear h; intro M h
 refine au h ?_
 clear h; intro M h
 refine aF h ?_
 replace h : Hp R (pt b (zV pa p dr { a with ar := none, cr := 0 } { x with clock := IntKind.wrap .u64 (x.clock + 1) } 0 a.ah x.hl.length a.ch x.lz) 161 :: eu a.ah a.ch x.hl :: bp fY a.gb (x.gs.zip gg) :: yN a.ag a.cg a.gb :: yO a.ac a.cc a.cb :: bp bI a.cb x.aB :: yP a.al a.cl a.lb :: bp eT a.lb x.aI :: jz a.ao a.co x.out :: L') M := h.sub (by repeat (first | exact .refl | refine .cons (by repeat (first | exact .here | apply cZ.there)) ?_ | apply Sub.drop))
 refine Nz (QW (a := { a with ar := none, cr := 0 }) (x := { x with clock := IntKind.wrap .u64 (x.clock + 1) })) h hs ?_
 clear h; intro A' c' M h
 have hlen : (eC x.hl.length x.hl (IntKind.wrap .u64 (x.clock + 1))).2.length ≤ x.hl.length := by
  have : ∀ (f : Nat) (l : List bA) (now : Int), (eC f l now).2.length ≤ f := by
   intro f
   induction f with
   | zero => intro l now; exact Nat.le_refl _
   | succ f ih =>
    intro l now; unfold eC; split
    ·have := ih (c7 l 0) now; simp; exact this
    ·exact Nat.zero_le _
  exact this _ _ _
 generalize eC x.hl.length x.hl (IntKind.wrap .u64 (x.clock + 1)) = r at h k hw hlen
 refine aO ?_
 have h0 := h.bP aZ 3
 have hW : Hp R (ay (bC pa p gg dr) b { x with clock := IntKind.wrap .u64 (x.clock + 1), hl := r.1, ready := [] } :: eu A' c' r.2 :: L') M :=
  kj (a := { a with ar := none, cr := 0 }) (x := { x with clock := IntKind.wrap .u64 (x.clock + 1), hl := r.1, ready := [] }) ⟨l1, l2, l3, l4⟩ (h0.sub (by repeat (first | exact .refl | refine .cons (by repeat (first | exact .here | apply cZ.there)) ?_ | apply Sub.drop)))
 clear h h0
 generalize E2 : ({ x with clock := IntKind.wrap .u64 (x.clock + 1), hl := r.1, ready := [] } : Wd) = x1 at hW k
 have hgs : x1.gs.length = x.gs.length := by rw [← E2]
 have hrd : x1.ready = [] := by rw [← E2]
 refine ⟨fun d vs M => ∃ j : Nat, vs = [.int .i64 (j : Int)] ∧ d = r.2.length - j ∧ j ≤ r.2.length ∧ Hp R (ay (bC pa p gg dr) b (((r.2.take j).map (·.id)).foldl Wd.fL x1) :: eu A' c' r.2 :: L') M, ⟨_, 0, rfl, rfl, by omega, hW⟩, ?_⟩
 clear hW
 rintro d _ nn M ⟨j, yQ, hd, hj, h⟩
 simp only [List.cons.injEq, Value.int.injEq, and_true, true_and] at yQ
 subst yQ
 refine aJ.2 ⟨fun hlt => ?_, fun hge => ?_⟩
 ·obtain ⟨w, hww⟩ := aM (l := r.2) (i := j) (by omega)
  have hwm := hw w (List.mem_of_getElem? hww)
  obtain ⟨q, rfl⟩ := h.bF (A := A') (by omega) (by decide)
  have ZP := h.src (A := some ⟨q, 0, none⟩)
  refine ⟨by omega, hlt, bg ?_⟩
  refine mO h ZP hww (by simp) (by simp) (by simp) ?_
  clear ZP
  refine ae h ?_
  clear h; intro kw M h
  refine au h ?_
  clear h; intro M h
  refine au h ?_
  clear h; intro M h
  refine au h ?_
  clear h; intro M h
  refine aF h ?_
  refine iE (b := b) h hwm.1 (by rw [TQ, hgs]; exact hwm.2) (by rw [J5, hrd]; simp; omega) ?_
  clear h; intro M h
  refine ⟨rfl, r.2.length - (j + 1), by omega, j + 1, by rw [aQ (by omega)], rfl, by omega, ?_⟩
  rw [bx hww, List.map_append, List.foldl_append]
  exact h.sub (by repeat (first | exact .refl | refine .cons (by repeat (first | exact .here | apply cZ.there)) ?_ | apply Sub.drop))
 ·have De : j = r.2.length := by omega
  subst De
  rw [List.take_length] at h
  generalize hz : (r.2.map (·.id)).foldl Wd.fL x1 = z at h k
  have h' := cG h (b := b)
  clear h
  obtain ⟨a2, kM, h⟩ := h'
  refine aL h ?_
  obtain ⟨R', hle, oR, h6⟩ := h.dO a2.ar
  exact k R' _ _ _ hle oR (jn (a := a2) (n := z.ready.length) (gg := gg) (dr := dr) kM (h6.sub (by repeat (first | exact .refl | refine .cons (by repeat (first | exact .here | apply cZ.there)) ?_ | apply Sub.drop))))
theorem Bp (h : Hp R L M) [o : CI b L pa p x L'] (hs : x.hl.length ≤ 1000000)
  (k : ∀ A c M', Hp R (eu A c (dy x.hl.length x.hl) :: ay (bn pa p) b x :: L') M' → K (.slice A (dy x.hl.length x.hl).length c) M') :
  aa Tryz.prog 19 #[.pointer (some ⟨b, 0, none⟩)] M K Kp := by
 refine nB ?_
 have h' := cR h (b := b)
 clear h
 obtain ⟨a, gg, dr, n, hl, h⟩ := h'
 replace h : Hp R (pt b (zV pa p dr a x n a.ah x.hl.length a.ch x.lz) 161 :: eu a.ah a.ch x.hl :: bp fY a.gb (x.gs.zip gg) :: yN a.ag a.cg a.gb :: yO a.ac a.cc a.cb :: bp bI a.cb x.aB :: yP a.al a.cl a.lb :: bp eT a.lb x.aI :: jz a.ao a.co x.out :: L') M := h.sub bu
 refine NA (QW (a := a) (x := x)) h hs ?_
 clear h; intro A' c' M h
 refine aO ?_
 have h2 : Hp R (pt b (oQ pa p dr a x n) 161 :: bp fY a.gb (x.gs.zip gg) :: u7 a x (eu A' c' (dy x.hl.length x.hl) :: L')) M := h.sub bu
 have h3 := jn (a := a) (gg := gg) (dr := dr) (n := n) (x := x) hl h2
 exact k _ _ _ h3.swap
end
def wS (x : Wd) (g : Int) (i : cQ) : Out (Wd × Bool) → Prop
 | .on (y, false) => br y g ∧ (aq y g).fs.length = (aq x g).fs.length ∧ Be y i.a
 | .on (_, true) => True
 | .fM _ _ => True
 | .dY _ _ => True
instance (x : Wd) (g : Int) (i : cQ) (r : Out (Wd × Bool)) : Decidable (wS x g i r) := match r with
 | .on (y, false) => by unfold wS; infer_instance
 | .on (_, true) => isTrue trivial
 | .fM _ _ => isTrue trivial
 | .dY _ _ => isTrue trivial
theorem NC {p : cv} {x : Wd} {g : Int} {i : cQ} (h : br x g ∧ bj i.b ∧ pq p x i.a (bD x g i.b) ∧ wS x g i (x.put p i.a (bD x g i.b))) : JK p x g i := by
 obtain ⟨h1, h2, h3, h4⟩ := h
 refine ⟨h1, h2, h3, ?_⟩
 generalize x.put p i.a (bD x g i.b) = r at h4
 match r, h4 with
 | .on (y, false), h4 => exact h4
 | .on (y, true), _ => trivial
 | .fM _ _, _ => trivial
 | .dY _ _, _ => trivial
instance (x : Wd) (g : Int) (i : cQ) : Decidable (xU x g i) := by unfold xU; infer_instance
instance (p : cv) (x : Wd) (i : cQ) : Decidable (oO p x i) := by unfold oO; infer_instance
def Bq (p : cv) (x : Wd) (g : Int) (i : cQ) (k : Int) : Prop :=
 let c := (aD p i).getD k.toNat ⟨0, 0, 0⟩
 let x1 := x.next g
 0 ≤ k ∧ k < (aD p i).length ∧ bj c.bS ∧
  if c.way = 1 then pq p x1 c.ch (bD x1 g c.bS) ∧ (match x1.put p c.ch (bD x1 g c.bS) with
   | .on (y, _) => br y g ∧ (aq y g).fs.length = (aq x g).fs.length
   | _ => True)
  else wJ x1 c.ch ∧ br (x1.get c.ch).1 g ∧ (aq (x1.get c.ch).1 g).fs.length = (aq x g).fs.length
instance (g : Int) (n : Nat) (r : Out (Wd × Bool)) : Decidable (match r with
   | .on (y, _) => br y g ∧ (aq y g).fs.length = n
   | _ => True) := match r with
 | .on (y, _) => by dsimp only; infer_instance
 | .fM _ _ => isTrue trivial
 | .dY _ _ => isTrue trivial
instance (p : cv) (x : Wd) (g : Int) (i : cQ) (k : Int) : Decidable (Bq p x g i k) := by unfold Bq; infer_instance
def nL (p : cv) (x : Wd) (g : Int) (i : cQ) (d : kW) : Bool :=
 decide (br x g ∧ wQ p i ∧ bj i.c ∧ x.Sm ∧ (aq x g).top.pc < 1000000000 ∧ 0 ≤ (aq x g).top.pc ∧ (∀ c ∈ aD p i, c.Ok x.aB.length)) &&
 (match d with
  | .dY _ => true
  | .num v => (enabled (aD p i) x.aB).isEmpty || decide (0 ≤ v ∧ v < (enabled (aD p i) x.aB).length ∧ Bq p x g i ((enabled (aD p i) x.aB).getD v.toNat 0)))
theorem Ho {p : cv} {x : Wd} {g : Int} {i : cQ} {d : kW} (h : nL p x g i d = true) : Hj p x g i d := by
 unfold nL at h
 rw [Bool.and_eq_true] at h
 obtain ⟨h1, h2⟩ := h
 obtain ⟨a1, a2, a3, a4, a5, a6, a7⟩ := of_decide_eq_true h1
 refine ⟨a1, a2, a3, a4, a5, a6, a7, ?_⟩
 cases d with
 | dY l => split <;> trivial
 | num v =>
  dsimp only at h2
  cases he : enabled (aD p i) x.aB with
  | nil => trivial
  | cons q l =>
   rw [he] at h2
   rw [List.isEmpty_cons, Bool.false_or] at h2
   have h3 := of_decide_eq_true h2
   exact h3
def oS (p : cv) (x : Wd) (g : Int) (i : cQ) : Option (Out Wd) :=
 if i.op = 10 then (if br x g ∧ bj i.a ∧ bj (aq x g).top.pF then some (.on (x.back g i)) else none)
 else if i.op = 11 then (if br x g ∧ bj i.b ∧ bj i.c ∧ x.Sm then some (x.spawn g i) else none)
 else if i.op = 13 then (if (br x g ∧ bj i.b ∧ pq p x i.a (bD x g i.b) ∧ wS x g i (x.put p i.a (bD x g i.b))) ∧ x.Sm then some (x.send p g i) else none)
 else if i.op = 14 then (if xU x g i ∧ x.Sm then some (.on (x.recv g i)) else none)
 else if i.op = 15 then (if oO p x i ∧ x.Sm then some (x.shut p i) else none)
 else if i.op = 20 then (if br x g ∧ bj i.a ∧ x.Sm then some (x.emit g i) else none)
 else if i.op = 9 then (if br x g ∧ bj i.b then some (x.call g i) else none)
 else if i.op = 12 then some (.on x)
 else if i.op = 17 then (if br x g ∧ bj i.a ∧ x.hl.length < 1000000 then some (.on (x.sleep g i)) else none)
 else if i.op = 18 then (if br x g ∧ E4 x i.a ∧ x.Sm then some (.on (x.lock g i)) else none)
 else if i.op = 19 then (if nK x g i ∧ x.Sm then some (x.unlock g i) else none)
 else if i.op = 22 then some (.fM i.a x)
 else none
def Hq (p : cv) (x : Wd) (g : Int) : Option cQ := match p.funcs[(aq x g).top.fn.toNat]? with
 | none => none
 | some code => code[(aq x g).top.pc.toNat]?
def yW (x : Wd) (g : Int) : Prop := 0 ≤ g ∧ g < x.gs.length ∧ x.end_ = 0 ∧ (aq x g).st = 1
instance (x : Wd) (g : Int) : Decidable (yW x g) := by unfold yW; infer_instance
def asks (p : cv) (x : Wd) (g : Int) : Option (Int × Int) :=
 if yW x g then match Hq p x g with
  | none => none
  | some i => if i.op = 21 then some (4, i.b) else if i.op = 16 then (if enabled (aD p i) x.aB = [] then none else some (3, (enabled (aD p i) x.aB).length)) else none
 else none
def yX (p : cv) (x0 : Wd) (g : Int) (d : kW) : Option (Out Wd × Bool) :=
 let x := { x0 with ready := [] }
 if yW x g then
  if br x g ∧ 0 ≤ (aq x g).top.fn ∧ 0 ≤ (aq x g).top.pc ∧ (aq x g).top.pc < 1000000000 then
   match p.funcs[(aq x g).top.fn.toNat]? with
   | none => none
   | some code => match code[(aq x g).top.pc.toNat]? with
    | none => some (.fM (-7) x, false)
    | some i =>
     if 0 ≤ i.op ∧ i.op ≤ 8 then (if i.cN then some (.on (x.bG g ((aq x g).cW ((aq x g).top.next.pure i))), false) else none)
     else if i.op = 16 then (if nL p x g i d = true then (if g < (x.choose p g i d).fin.gs.length then some (x.choose p g i d, false) else none) else none)
     else if i.op = 21 then (if bj i.a then (if g < (x.rand g i d).fin.gs.length then some (x.rand g i d, false) else none) else none)
     else match oS p (x.next g) g i with
      | none => none
      | some r => if g < r.fin.gs.length then some (r, JX i.op r) else none
  else none
 else some (.on x, true)
section
variable {R : Mem} {L L' L2 : List HP} {M : Mem} {K : Value → Mem → Prop} {Kp : List PanicEntry → Mem → Prop} {pa : PA} {p : cv} {gg : List GA} {dr : Value} {b : Nat} {x : Wd} {g : Int}
theorem di {α : Type} {c : Prop} [Decidable c] {a b : α} (h : (if c then some a else none) = some b) : c ∧ b = a := by
 split at h
 ·rename_i hc; cases h; exact ⟨hc, rfl⟩
 ·cases h
theorem ND {i : cQ} {r : Out Wd} (hp : lB R pa p) (h : oS p x g i = some r) : ∃ fn, CF YM i.op = some (.func (.func fn) #[] #[]) ∧ (1 < fn ∧ fn < 255) ∧ i.op ≠ 16 ∧ i.op ≠ 21 ∧ 8 < i.op ∧ ∀ L, gC R pa p dr fn x g i r L L := by
 unfold oS at h
 by_cases e : i.op = 10
 ·rw [if_pos e] at h
  obtain ⟨hc, rfl⟩ := di h
  exact ⟨212, by rw [e]; rfl, by decide, by omega, by omega, by omega, fun L => TH hc.1 hc.2.1 hc.2.2⟩
 rw [if_neg e] at h
 clear e
 by_cases e : i.op = 11
 ·rw [if_pos e] at h
  obtain ⟨hc, rfl⟩ := di h
  exact ⟨213, by rw [e]; rfl, by decide, by omega, by omega, by omega, fun L => QL hc.1 hc.2.1 hc.2.2.1 hc.2.2.2⟩
 rw [if_neg e] at h
 clear e
 by_cases e : i.op = 13
 ·rw [if_pos e] at h
  obtain ⟨hc, rfl⟩ := di h
  exact ⟨215, by rw [e]; rfl, by decide, by omega, by omega, by omega, fun L => TD hp (NC hc.1) hc.2⟩
 rw [if_neg e] at h
 clear e
 by_cases e : i.op = 14
 ·rw [if_pos e] at h
  obtain ⟨hc, rfl⟩ := di h
  exact ⟨216, by rw [e]; rfl, by decide, by omega, by omega, by omega, fun L => TE hc.1 hc.2⟩
 rw [if_neg e] at h
 clear e
 by_cases e : i.op = 15
 ·rw [if_pos e] at h
  obtain ⟨hc, rfl⟩ := di h
  exact ⟨217, by rw [e]; rfl, by decide, by omega, by omega, by omega, fun L => TG hp hc.1 hc.2⟩
 rw [if_neg e] at h
 clear e
 by_cases e : i.op = 20
 ·rw [if_pos e] at h
  obtain ⟨hc, rfl⟩ := di h
  exact ⟨221, by rw [e]; rfl, by decide, by omega, by omega, by omega, fun L => TF hc.1 hc.2.1 hc.2.2⟩
 rw [if_neg e] at h
 clear e
 by_cases e : i.op = 9
 ·rw [if_pos e] at h
  obtain ⟨hc, rfl⟩ := di h
  exact ⟨211, by rw [e]; rfl, by decide, by omega, by omega, by omega, fun L => TM hc.1 hc.2⟩
 rw [if_neg e] at h
 clear e
 by_cases e : i.op = 12
 ·rw [if_pos e] at h
  cases h
  exact ⟨214, by rw [e]; rfl, by decide, by omega, by omega, by omega, fun L => QV⟩
 rw [if_neg e] at h
 clear e
 by_cases e : i.op = 17
 ·rw [if_pos e] at h
  obtain ⟨hc, rfl⟩ := di h
  exact ⟨218, by rw [e]; rfl, by decide, by omega, by omega, by omega, fun L => QX hc.1 hc.2.1 hc.2.2⟩
 rw [if_neg e] at h
 clear e
 by_cases e : i.op = 18
 ·rw [if_pos e] at h
  obtain ⟨hc, rfl⟩ := di h
  exact ⟨219, by rw [e]; rfl, by decide, by omega, by omega, by omega, fun L => TN hc.1 hc.2.1 hc.2.2⟩
 rw [if_neg e] at h
 clear e
 by_cases e : i.op = 19
 ·rw [if_pos e] at h
  obtain ⟨hc, rfl⟩ := di h
  exact ⟨220, by rw [e]; rfl, by decide, by omega, by omega, by omega, fun L => NB hc.1 hc.2⟩
 rw [if_neg e] at h
 clear e
 by_cases e : i.op = 22
 ·rw [if_pos e] at h
  cases h
  exact ⟨222, by rw [e]; rfl, by decide, by omega, by omega, by omega, fun L => TO⟩
 rw [if_neg e] at h
 clear e
 cases h
theorem J7 {l : List Int} (h : Hp R (ay (bn pa p) b x :: L) M) : Hp R (ay (bn pa p) b { x with ready := l } :: L) M := by
 obtain ⟨a, gg, dr, n, hl, h⟩ := cR h (b := b)
 exact jn (a := a) (gg := gg) (dr := dr) (n := n) (x := { x with ready := l }) hl h
theorem jq.cons {kind n : Int} {d : kW} {Q : HP} (h : jq R dr kind n d L L2) : jq R dr kind n d (Q :: L) (Q :: L2) := by
 intro Q' M K Kp hM k
 refine h (sep [Q', Q]) M K Kp (Hp.bl.2 hM) ?_
 cases d with
 | num v => exact fun M' h' => k M' (Hp.bl.1 h')
 | dY l => exact fun M' h' => k M' (Hp.bl.1 h')
theorem NF {d : kW} {r : Out Wd} {rest : Bool} (h : Hp R L M) [o : CI b L pa p x L'] (hp : lB R pa p) (CJ : ∃ f c d, dr = .func f c d) (he : yX p x g d = some (r, rest))
  (hd : match asks p { x with ready := [] } g with | none => L2 = L' | some (kd, n) => jq R dr kd n d L' L2) (k : so R pa p b g L2 K Kp r rest) :
  aa Tryz.prog 121 #[.pointer (some ⟨b, 0, none⟩), .int .i64 g, dr] M K Kp := by
 unfold yX at he
 dsimp only at he
 split at he
 ·rename_i hg
  have ET := hg
  obtain ⟨h0, h1, hr0, CH⟩ := ET
  split at he
  ·rename_i CG
   obtain ⟨Lp, hf0, hp0, Ie⟩ := CG
   split at he
   ·cases he
   ·rename_i code nJ
    have done : ∀ (r : Out Wd) (rest : Bool), so R pa p b g L2 K Kp r rest → (∀ Q, Step R pa p dr { x with ready := [] } g code r rest (Q :: L') (Q :: L2)) → g < r.fin.gs.length → aa Tryz.prog 121 #[.pointer (some ⟨b, 0, none⟩), .int .i64 g, dr] M K Kp := by
     intro r rest k hs hl
     exact JY (x := x) h hp (show br x g from Lp) hr0 CH hf0 nJ ⟨hp0, Ie⟩ CJ hs hl k
    have zz : ∀ i, code[(aq x g).top.pc.toNat]? = some i → asks p { x with ready := [] } g = if i.op = 21 then some (4, i.b) else if i.op = 16 then (if enabled (aD p i) x.aB = [] then none else some (3, ((enabled (aD p i) x.aB).length : Int))) else none := by
     intro i hi
     unfold asks
     rw [if_pos hg]
     unfold Hq
     rw [show p.funcs[(aq { x with ready := [] } g).top.fn.toNat]? = some code from nJ]
     dsimp only
     rw [show code[(aq { x with ready := [] } g).top.pc.toNat]? = some i from hi]
    split at he
    ·rename_i hnone
     cases he
     have e : asks p { x with ready := [] } g = none := by
      unfold asks
      rw [if_pos hg]
      unfold Hq
      rw [show p.funcs[(aq { x with ready := [] } g).top.fn.toNat]? = some code from nJ]
      dsimp only
      rw [hnone]
     rw [e] at hd
     dsimp only at hd
     subst hd
     refine done (.fM (-7) { x with ready := [] }) false k (fun Q => .out ?_) h1
     have := List.getElem?_eq_none_iff.1 hnone
     omega
    ·rename_i i hi
     have e := zz i hi
     rw [e] at hd
     clear e zz
     split at he
     ·rename_i h8
      split at he
      ·rename_i hok
       cases he
       rw [if_neg (by omega), if_neg (by omega)] at hd
       dsimp only at hd
       subst hd
       exact done (.on _) false k (fun Q => .pure i hi h8.1 h8.2 hok) (by simpa [Out.fin, Wd.bG] using h1)
      ·cases he
     split at he
     ·rename_i K9
      split at he
      ·rename_i hok
       split at he
       ·rename_i hl
        cases he
        rw [if_neg (by omega), if_pos K9] at hd
        refine done _ false k (fun Q => .EZ i hi K9 (Nt hp (Ho hok) ?_)) hl
        split at hd
        ·rename_i hq
         split at hq
         ·rename_i oa
          rw [if_pos (by exact oa), hd]
         ·cases hq
        ·rename_i kd n hq
         split at hq
         ·cases hq
         ·rename_i oa
          cases hq
          rw [if_neg (by exact oa)]
          exact hd.cons
       ·cases he
      ·cases he
     split at he
     ·rename_i ZO
      split at he
      ·rename_i hok
       split at he
       ·rename_i hl
        cases he
        rw [if_pos ZO] at hd
        exact done _ false k (fun Q => .YN i hi ZO (TP Lp hok ⟨hp0, Ie⟩ (jq.cons hd))) hl
       ·cases he
      ·cases he
     split at he
     ·cases he
     ·rename_i K9 ZO _ r' xZ
      split at he
      ·rename_i hl
       cases he
       rw [if_neg ZO, if_neg K9] at hd
       dsimp only at hd
       subst hd
       obtain ⟨fn, f1, f2, f3, f4, f5, f6⟩ := ND (R := R) (pa := pa) (dr := dr) hp xZ
       exact done _ _ k (fun Q => .dflt i fn hi f5 f3 f4 f1 f2 (f6 _)) hl
      ·cases he
  ·cases he
 ·rename_i hr
  cases he
  have e : asks p { x with ready := [] } g = none := by
   unfold asks
   rw [if_neg hr]
  rw [e] at hd
  dsimp only at hd
  subst hd
  refine kV ?_
  refine ae h ?_
  clear h
  intro kb M h
  have hC := h
  have h' := cR h (b := b)
  clear h
  obtain ⟨a, gg, dr0, n0, hl, h⟩ := h'
  have hl' := hl
  obtain ⟨l1, l2, l3, l4⟩ := hl'
  have fin : aP M ⟨kb, 0, none⟩ (.bool false) fun pE => aP pE ⟨kb, (0 + 1), none⟩ (.slice none 0 0) fun pM =>
    dH (Mem.ld pM ⟨kb, 0, none⟩) fun t36 => az (Mem.ld pM ⟨kb, (0 + 1), none⟩) fun H9 ia uu => K (.agg #[(.bool t36), (.slice H9 ia uu)]) pM := by
   have h := hC
   clear hC
   refine au h ?_
   clear h; intro M h
   refine au h ?_
   clear h; intro M h
   refine F6 h (aL h ?_)
   have k2 := k R none 0 M (Mem.le_refl _) (RS.nil _ _) (J7 (h.drop.pick o.pick))
   exact k2
  refine aJ.2 ⟨fun hn => fin, fun h0 => ?_⟩
  refine aL h ?_
  refine aJ.2 ⟨fun hn => fin, fun h1 => ?_⟩
  refine aF h ?_
  refine fj.2 ⟨fun hn => fin, fun he0 => ?_⟩
  refine aL h ?_
  refine ⟨by omega, by omega, ?_⟩
  obtain ⟨gb, gd⟩ := aM (l := a.gb) (i := g.toNat) (by omega)
  refine uZ h gd fun q hq => ?_
  obtain ⟨ga, TI⟩ := aM (l := gg) (i := g.toNat) (by omega)
  obtain ⟨z, hy⟩ := aM (l := x.gs) (i := g.toNat) (by omega)
  have ey : aq x g = z := by simp [aq, hy]
  refine bg ?_
  have QO : M.ld ⟨gb, 0, none⟩ = some (.int .i64 z.st) := by
   have h9 := lW (b := gb) (h.cK fY gd (mG hy TI))
   exact bN h9
  rw [QO]
  refine cz ?_
  refine fj.2 ⟨fun hn => fin, fun hn => ?_⟩
  exact absurd ⟨by omega, by show g < (x.gs.length : Int); omega, he0, by show (aq x g).st = 1; rw [ey]; exact hn⟩ hr
end
def Ka (y : jt) : Bool := y.st == 1 || y.st == 3
def Wd.stuck (x : Wd) : Bool := x.end_ == 0 && !(x.gs.any Ka)
section
variable {R : Mem} {L L' L2 : List HP} {M : Mem} {K : Value → Mem → Prop} {Kp : List PanicEntry → Mem → Prop} {pa : PA} {p : cv} {b : Nat} {x : Wd} {g : Int}
theorem Hr (h : Hp R L M) [o : CI b L pa p x L'] (k : K (.int .u64 x.clock) M) : aa Tryz.prog 86 #[.pointer (some ⟨b, 0, none⟩)] M K Kp := by
 refine qG ?_
 have h' := cR h (b := b)
 clear h
 obtain ⟨a, gg, dr, n, hl, h⟩ := h'
 exact aF h k
theorem Hs (h : Hp R L M) [o : CI b L pa p x L'] (hs : x.gs.length ≤ 1000000) (k : K (.bool x.stuck) M) : aa Tryz.prog 65 #[.pointer (some ⟨b, 0, none⟩)] M K Kp := by
 refine qF ?_
 unfold Wd.stuck at k
 have h' := cR h (b := b)
 clear h
 obtain ⟨a, gg, dr, n, hl, h⟩ := h'
 have hl' := hl
 obtain ⟨l1, l2, l3, l4⟩ := hl'
 refine aF h ?_
 refine fj.2 ⟨fun he => ?_, fun he => ?_⟩
 ·rw [show (x.end_ == 0) = false from by simpa using he, Bool.false_and] at k
  exact k
 rw [show (x.end_ == 0) = true from by simpa using he, Bool.true_and] at k
 refine aL h ?_
 refine ⟨fun d vs M' => ∃ j : Nat, vs = [.int .i64 (j : Int)] ∧ d = x.gs.length - j ∧ j ≤ x.gs.length ∧ (x.gs.take j).any Ka = false ∧ M' = M, ⟨_, 0, rfl, rfl, by omega, rfl, rfl⟩, ?_⟩
 rintro d _ nn M' ⟨j, yQ, hd, hj, ha, rfl⟩
 simp only [List.cons.injEq, Value.int.injEq, and_true, true_and] at yQ
 subst yQ
 refine aJ.2 ⟨fun hlt => ?_, fun hge => ?_⟩
 ·obtain ⟨gb, gd⟩ := aM (l := a.gb) (i := j) (by omega)
  obtain ⟨ga, TI⟩ := aM (l := gg) (i := j) (by omega)
  obtain ⟨y, hy⟩ := aM (l := x.gs) (i := j) (by omega)
  have QO : M'.ld ⟨gb, 0, none⟩ = some (.int .i64 y.st) := by
   have h9 := lW (b := gb) (h.cK fY gd (mG hy TI))
   exact bN h9
  refine ⟨by omega, by omega, ?_⟩
  refine uZ h gd fun q hq => ?_
  refine bg ?_
  rw [QO]
  refine cz ?_
  have hym := List.mem_of_getElem? hy
  refine bh.2 ⟨fun e1 => ?_, fun e1 => ?_⟩
  ·have : x.gs.any Ka = true := List.any_eq_true.2 ⟨y, hym, by simp [Ka, e1]⟩
   rw [this] at k
   exact k
  refine bg ?_
  rw [QO]
  refine cz ?_
  refine bh.2 ⟨fun e3 => ?_, fun e3 => ?_⟩
  ·have : x.gs.any Ka = true := List.any_eq_true.2 ⟨y, hym, by simp [Ka, e3]⟩
   rw [this] at k
   exact k
  refine ⟨x.gs.length - (j + 1), by omega, j + 1, by rw [aQ (by omega)], rfl, by omega, ?_, rfl⟩
  rw [bx hy, List.any_append, ha]
  simp [Ka, e1, e3]
 ·have De : j = x.gs.length := by omega
  subst De
  rw [List.take_length] at ha
  rw [ha] at k
  exact k
theorem Ht {y : Lk} (h : Hp R L M) [o : b6 eT b L y L'] (k : K (.int .i64 y.owner) M) : aa Tryz.prog 138 #[.pointer (some ⟨b, 0, none⟩)] M K Kp := by
 refine tf ?_
 have h' := r9 h (b := b)
 clear h
 obtain ⟨A, c, h⟩ := h'
 exact aF h k
theorem Hu {y : Lk} (h : Hp R L M) [o : b6 eT b L y L'] (hs : y.waits.length ≤ 1000000) (k : ∀ A c M', Hp R (jg A c y.waits :: ay eT b y :: L') M' → K (.slice A y.waits.length c) M') : aa Tryz.prog 139 #[.pointer (some ⟨b, 0, none⟩)] M K Kp := by
 refine tg ?_
 have h' := r9 h (b := b)
 clear h
 obtain ⟨A, c, h⟩ := h'
 refine ae h ?_
 clear h; intro k1 M h
 refine aL h ?_
 refine h.gE aZ qv y.waits (h.src (A := A)) rfl (by omega) ?_
 clear h; intro A' c' M h
 refine aO ?_
 have h2 : Hp R (pt b [.int .i64 y.owner, .slice A y.waits.length c] 307 :: jg A c y.waits :: jg A' c' y.waits :: L') M := h.sub bu
 exact k _ _ _ ((gS h2 b).sub bu)
theorem Kb (h : Hp R L M) [o : CI b L pa p x L'] (h0 : 0 ≤ g) (h1 : g < x.aI.length) (hs : (kq x g).waits.length ≤ 1000000) (k : ∀ A c M', Hp R (jg A c (kq x g).waits :: ay (bn pa p) b x :: L') M' → K (.tuple #[.int .i64 (kq x g).owner, .slice A (kq x g).waits.length c]) M') : aa Tryz.prog 90 #[.pointer (some ⟨b, 0, none⟩), .int .i64 g] M K Kp := by
 refine td ?_
 have h' := cR h (b := b)
 clear h
 obtain ⟨a, gg, dr, n, hl, h⟩ := h'
 have hl' := hl
 obtain ⟨l1, l2, l3, l4⟩ := hl'
 refine aJ.2 ⟨fun hn => by omega, fun _ => ?_⟩
 refine aL h ?_
 refine aJ.2 ⟨fun hn => by omega, fun _ => ?_⟩
 refine aL h ⟨h0, by omega, ?_⟩
 obtain ⟨lb, hlb⟩ := aM (l := a.lb) (i := g.toNat) (by omega)
 obtain ⟨y, hy⟩ := aM (l := x.aI) (i := g.toNat) (by omega)
 have e : kq x g = y := by simp [kq, hy]
 rw [e] at k hs
 refine uZ h hlb fun q hq => ?_
 refine aL h ⟨h0, by omega, ?_⟩
 rw [hq]
 refine bg ?_
 have Ie := Qu h hq hlb
 rw [Ie]
 refine jB ?_
 have h2 := h.cK eT hlb hy
 refine Ht h2 ?_
 refine cz ⟨Ie, ?_⟩
 refine ⟨by have := bN h (b := b) (o := 0 + 7) (v := .slice a.al a.lb.length a.cl); rw [hq] at this; exact this, ?_⟩
 refine Hu h2 hs ?_
 clear h h2 Ie; intro A c M h
 refine aO ⟨Qu h hq hlb, ?_⟩
 refine ⟨by have := bN h (b := b) (o := 0 + 7) (v := .slice a.al a.lb.length a.cl); rw [hq] at this; exact this, ?_⟩
 replace h := h.lH eT lb hlb hy
 exact k _ _ _ ((jn (a := a) (gg := gg) (dr := dr) (n := n) (x := x) hl (h.sub (by repeat (first | exact .refl | refine .cons (by repeat (first | exact .here | apply cZ.there)) ?_ | apply Sub.drop)))).swap)
end
def NG : fO (Int × Int) := ⟨2, fun w => [.int .i64 w.1, .int .u64 w.2], fun _ => rfl, fun w v hv => by
 simp only [List.mem_cons, List.not_mem_nil, or_false] at hv; obtain rfl | rfl := hv <;> rfl⟩
inductive gV where
 | zA (l : List Int) (at_ : Nat)
 | tape (l : List (Int × Int)) (at_ : Nat)
structure mj where
 k : gV
 taken : List (Int × Int)
def NH : List PanicEntry := [{ v := .iface 240 (.agg #[]), recovered := false }]
def ZQ (at_ kind n k v : Int) : List PanicEntry := [{ v := .iface 97 (.agg #[.int .i64 at_, .int .i64 kind, .int .i64 n, .int .i64 k, .int .u64 v]), recovered := false }]
def nN (n : Int) : Int := if 1 > n then 1 else n
def gV.next (k : gV) (kind m : Int) : gV × kW := match k with
 | .zA l i => match l[i]? with
  | none => (.zA l i, .dY NH)
  | some v => (.zA l (i + 1), .num (Int.tmod v m))
 | .tape l i => match l[i]? with
  | none => (.tape l i, .dY NH)
  | some (q, v) => if q ≠ kind then (.tape l i, .dY (ZQ i kind m q v)) else if v ≥ m then (.tape l i, .dY (ZQ i kind m q v)) else (.tape l (i + 1), .num v)
def mj.draw (x : mj) (kind n : Int) : mj × kW := match x.k.next kind (nN n) with
 | (k', .num v) => (⟨k', x.taken ++ [(kind, v)]⟩, .num v)
 | (k', .dY l) => (⟨k', x.taken⟩, .dY l)
def gV.Ok : gV → Prop
 | .zA l i => l.length ≤ 1000000000 ∧ i ≤ l.length ∧ ∀ v ∈ l, 0 ≤ v ∧ v < 18446744073709551616
 | .tape l i => l.length ≤ 1000000000 ∧ i ≤ l.length ∧ ∀ v ∈ l, 0 ≤ v.2 ∧ v.2 < 18446744073709551616
def mj.Ok (x : mj) : Prop := x.k.Ok ∧ x.taken.length ≤ 1000000000
abbrev vb (A : Option Addr) (c : Nat) (l : List (Int × Int)) : HP := bE NG 95 A c l
abbrev rowU (A : Option Addr) (c : Nat) (l : List Int) : HP := bE Eh 32 A c l
def kR : um gV := ⟨fun b k => match k with
 | .zA l i => exs fun A : Option Addr => exs fun c : Nat => sep [pt b [.slice A l.length c, .int .i64 (i : Int)] 147, rowU A c l]
 | .tape l i => exs fun A : Option Addr => exs fun c : Nat => sep [pt b [.slice A l.length c, .int .i64 (i : Int)] 354, vb A c l]⟩
def yY : gV → Nat → Value
 | .zA _ _, b => .func (.func 59) #[.pointer (some ⟨b, 0, none⟩)] #[]
 | .tape _ _, b => .func (.func 198) #[.pointer (some ⟨b, 0, none⟩)] #[]
def Br : gV → Nat → Value
 | .zA _ _, b => .func (.func 60) #[.pointer (some ⟨b, 0, none⟩)] #[]
 | .tape _ _, b => .func (.func 199) #[.pointer (some ⟨b, 0, none⟩)] #[]
def cX (Vl : Value) : um mj := ⟨fun b x => exs fun A : Option Addr => exs fun c : Nat => exs fun kb : Nat =>
 sep [pt b [yY x.k kb, Br x.k kb, .slice A x.taken.length c, Vl] 152, vb A c x.taken, ay kR kb x.k]⟩
theorem YS : aY Tryz.prog 149 95 2 16 [.int .i64 0, .int .u64 0] := aY.mk' (zv := .agg #[.int .i64 0, .int .u64 0]) (by kernel_rfl) (by kernel_rfl) rfl (by omega)
theorem YT : aY Tryz.prog 31 32 1 8 [.int .u64 0] := aY.mk' (zv := .int .u64 0) (by kernel_rfl) (by kernel_rfl) rfl (by omega)
theorem ku {C : Ctx} {g : Nat} {first : Array Value} {args : List Value} {M : Mem} {K : Value → Mem → Prop} {Kp : List PanicEntry → Mem → Prop} (hg : 1 < g ∧ g < C.ok) (h : aa C.P g (first.toList ++ args).toArray M K Kp) : gr C (.func (.func g) first #[]) args M K Kp := by
 unfold gr
 simp only
 rw [if_pos hg]
 simpa using h
theorem Bs (n : Int) : 1 ≤ nN n := by unfold nN; split <;> omega
theorem Hv {z : Int} (h0 : 0 ≤ z) (h : z < 18446744073709551616) : IntKind.wrap .u64 z = z := by
 obtain ⟨n, rfl⟩ := Int.eq_ofNat_of_zero_le h0
 rw [IntKind.wrap_u64]; omega
section
variable {R : Mem} {L L' L2 : List HP} {M : Mem} {K : Value → Mem → Prop} {Kp : List PanicEntry → Mem → Prop} {b : Nat} {x : mj} {Vl : Value}
theorem Bt {k : gV} {kind m : Int} (hok : k.Ok) (hm : 1 ≤ m) {k' : gV} {v : Int} (h : k.next kind m = (k', .num v)) : 0 ≤ v ∧ v < m := by
 cases k with
 | zA l i =>
  unfold gV.next at h
  dsimp only at h
  split at h
  ·cases h
  ·rename_i w hw
   cases h
   have := hok.2.2 w (List.mem_of_getElem? hw)
   exact ⟨Int.tmod_nonneg _ this.1, Int.tmod_lt_of_pos _ (by omega)⟩
 | tape l i =>
  unfold gV.next at h
  dsimp only at h
  split at h
  ·cases h
  ·rename_i q w hw
   have := hok.2.2 _ (List.mem_of_getElem? hw)
   split at h
   ·cases h
   ·split at h
    ·cases h
    ·cases h
     exact ⟨this.1, by omega⟩
theorem TR {k : gV} {kind m : Int} (hok : k.Ok) : (k.next kind m).1.Ok := by
 cases k with
 | zA l i =>
  unfold gV.next
  dsimp only
  split
  ·exact hok
  ·rename_i w hw
   have := (List.getElem?_eq_some_iff.1 hw).1
   exact ⟨hok.1, by omega, hok.2.2⟩
 | tape l i =>
  unfold gV.next
  dsimp only
  split
  ·exact hok
  ·rename_i q w hw
   have := (List.getElem?_eq_some_iff.1 hw).1
   split
   ·exact hok
   ·split
    ·exact hok
    ·exact ⟨hok.1, by omega, hok.2.2⟩
theorem Kc {k : gV} {kind m : Int} {kb : Nat} : yY (k.next kind m).1 kb = yY k kb ∧ Br (k.next kind m).1 kb = Br k kb := by
 cases k with
 | zA l i => unfold gV.next; dsimp only; split <;> exact ⟨rfl, rfl⟩
 | tape l i =>
  unfold gV.next; dsimp only; split
  ·exact ⟨rfl, rfl⟩
  ·split
   ·exact ⟨rfl, rfl⟩
   ·split <;> exact ⟨rfl, rfl⟩
theorem YU {k : gV} {kb : Nat} {kind m : Int} (h : Hp R (ay kR kb k :: L) M) (hok : k.Ok) (hm : 1 ≤ m) (hm2 : m < 9223372036854775808)
  (g : match (k.next kind m).2 with
   | .num v => ∀ M', Hp R (ay kR kb (k.next kind m).1 :: L) M' → K (.int .u64 v) M'
   | .dY l => ∀ M', Hp R (ay kR kb (k.next kind m).1 :: L) M' → Kp l M') :
  gr Cx (yY k kb) [.int .i64 kind, .int .i64 m] M K Kp := by
 cases k with
 | zA l i =>
  refine ku ⟨by decide, by show _ < 255; decide⟩ ?_
  refine pN ?_
  obtain ⟨o1, o2, o3⟩ := hok
  unfold gV.next at g
  dsimp only at g
  have h2 := h.obj kR kb
  simp only [kR, Hp.dU, Hp.bl, List.cons_append, List.nil_append] at h2
  obtain ⟨A, c, h2⟩ := h2
  clear h
  have h := h2
  clear h2
  have mk : ∀ {M : Mem} {i : Nat}, Hp R (pt kb [.slice A l.length c, .int .i64 (i : Int)] 147 :: rowU A c l :: L) M → Hp R (ay kR kb (.zA l i) :: L) M := by
   intro M i h
   refine Hp.xw ?_
   simp only [kR, Hp.dU, Hp.bl, List.cons_append, List.nil_append]
   exact ⟨_, _, h⟩
  refine aF h (aL h ?_)
  refine aJ.2 ⟨fun hge => ?_, fun hlt => ?_⟩
  ·have e : l[i]? = none := List.getElem?_eq_none_iff.2 (by omega)
   rw [e] at g
   exact g _ (mk h)
  ·obtain ⟨w, hw⟩ := aM (l := l) (i := i) (by omega)
   rw [hw] at g
   have hwb := o3 w (List.mem_of_getElem? hw)
   refine aF h ?_
   rw [aQ (by omega)]
   refine au h ?_
   clear h; intro M h
   refine aL h (aF h ?_)
   have e : IntKind.wrap .i64 (((i + 1 : Nat) : Int) - 1) = (i : Int) := by rw [dm (by omega) (by omega)]; omega
   rw [e]
   obtain ⟨q, rfl⟩ := h.bF (A := A) (by omega) (by decide)
   refine ⟨by omega, by omega, bg ?_⟩
   refine aR (Src.at (h.src (A := some ⟨q, 0, none⟩)) h (i := i) (j := 0) hw rfl (by simp [Eh])) ?_
   rw [Hv (by omega) (by omega)]
   exact ⟨by omega, g _ (mk h)⟩
 | tape l i =>
  refine ku ⟨by decide, by show _ < 255; decide⟩ ?_
  refine th ?_
  obtain ⟨o1, o2, o3⟩ := hok
  unfold gV.next at g
  dsimp only at g
  have h2 := h.obj kR kb
  simp only [kR, Hp.dU, Hp.bl, List.cons_append, List.nil_append] at h2
  obtain ⟨A, c, h2⟩ := h2
  clear h
  have h := h2
  clear h2
  have mk : ∀ {M : Mem} {i : Nat}, Hp R (pt kb [.slice A l.length c, .int .i64 (i : Int)] 354 :: vb A c l :: L) M → Hp R (ay kR kb (.tape l i) :: L) M := by
   intro M i h
   refine Hp.xw ?_
   simp only [kR, Hp.dU, Hp.bl, List.cons_append, List.nil_append]
   exact ⟨_, _, h⟩
  refine aF h (aL h ?_)
  refine aJ.2 ⟨fun hge => ?_, fun hlt => ?_⟩
  ·have e : l[i]? = none := List.getElem?_eq_none_iff.2 (by omega)
   rw [e] at g
   exact g _ (mk h)
  ·obtain ⟨⟨q, w⟩, hw⟩ := aM (l := l) (i := i) (by omega)
   rw [hw] at g
   dsimp only at g
   have hwb := o3 _ (List.mem_of_getElem? hw)
   dsimp only at hwb
   refine aL h (aF h ?_)
   obtain ⟨q0, rfl⟩ := h.bF (A := A) (by omega) (by decide)
   refine ⟨by omega, by omega, bg ?_⟩
   refine aR (Src.at (h.src (A := some ⟨q0, 0, none⟩)) h (i := i) (j := 0) hw rfl (by simp [NG])) ?_
   refine aR (Src.at (h.src (A := some ⟨q0, 0, none⟩)) h (i := i) (j := 1) hw rfl (by simp [NG])) ?_
   refine ae h ?_
   clear h; intro kk M h
   refine au h ?_
   clear h; intro M h
   refine au h ?_
   clear h; intro M h
   refine aF h ?_
   refine fj.2 ⟨fun hne => ?_, fun heq => ?_⟩
   ·rw [if_pos hne] at g
    refine aF h (aF h (aF h ?_))
    exact g _ (mk (h.sub bu))
   ·rw [if_neg (by simpa using heq)] at g
    refine aF h ?_
    rw [Hv (by omega) (by omega)]
    refine aJ.2 ⟨fun hge => ?_, fun G0 => ?_⟩
    ·rw [if_pos hge] at g
     refine aF h (aF h (aF h ?_))
     exact g _ (mk (h.sub bu))
    ·rw [if_neg G0] at g
     refine aF h ?_
     rw [aQ (by omega)]
     refine au h ?_
     clear h; intro M h
     refine aF h ?_
     exact g _ (mk (h.sub bu))
theorem QY (h : Hp R L M) [o : b6 (cX Vl) b L x L'] : ∃ A c kb, Hp R (pt b [yY x.k kb, Br x.k kb, .slice A x.taken.length c, Vl] 152 :: vb A c x.taken :: ay kR kb x.k :: L') M := by
 have := h.obj (cX Vl) b
 simpa only [cX, Hp.dU, Hp.bl, List.cons_append, List.nil_append] using this
theorem Kd {A : Option Addr} {c kb : Nat} (h : Hp R (pt b [yY x.k kb, Br x.k kb, .slice A x.taken.length c, Vl] 152 :: vb A c x.taken :: ay kR kb x.k :: L) M) : Hp R (ay (cX Vl) b x :: L) M := by
 refine Hp.xw ?_
 simp only [cX, Hp.dU, Hp.bl, List.cons_append, List.nil_append]
 exact ⟨_, _, _, h⟩
theorem rh {kind n : Int} (h : Hp R L M) [o : b6 (cX .nilFunc) b L x L'] (hok : x.Ok) (hn : n < 9223372036854775808) (ht : x.taken.length < 100000000)
  (g : match (x.draw kind n).2 with
   | .num v => ∀ M', Hp R (ay (cX .nilFunc) b (x.draw kind n).1 :: L') M' → K (.int .i64 v) M'
   | .dY l => ∀ M', Hp R (ay (cX .nilFunc) b (x.draw kind n).1 :: L') M' → Kp l M') :
  aa Tryz.prog 107 #[.pointer (some ⟨b, 0, none⟩), .int .i64 kind, .int .i64 n] M K Kp := by
 refine pO ?_
 have h' := QY (Vl := .nilFunc) h (b := b)
 clear h
 obtain ⟨A, c, kb, h⟩ := h'
 refine OT h ?_
 have em : (if (1 : Int) > n then 1 else n) = nN n := rfl
 rw [em]
 have hm1 := Bs n
 have hm2 : nN n < 9223372036854775808 := by unfold nN; split <;> omega
 have hnv := Kc (k := x.k) (kind := kind) (m := nN n) (kb := kb)
 obtain ⟨Tq, BZ⟩ := hnv
 have Ke := fun k' v => Bt (k := x.k) (kind := kind) hok.1 hm1 (k' := k') (v := v)
 unfold mj.draw at g
 replace h : Hp R (ay kR kb x.k :: pt b [yY x.k kb, Br x.k kb, .slice A x.taken.length c, .nilFunc] 152 :: vb A c x.taken :: L') M := h.sub bu
 refine YU (kind := kind) h hok.1 hm1 hm2 ?_
 clear h
 generalize hr : x.k.next kind (nN n) = r at g Tq BZ Ke
 obtain ⟨k', d⟩ := r
 dsimp only at Tq BZ ⊢
 rw [← Tq, ← BZ]
 cases d with
 | dY l =>
  dsimp only at g ⊢
  intro M h
  exact g _ (Kd (x := ⟨k', x.taken⟩) (h.sub bu))
 | num v =>
  dsimp only at g ⊢
  obtain ⟨v0, v1⟩ := Ke k' v rfl
  intro M h
  refine cz ?_
  refine ae h ?_
  clear h; intro k5 M h
  refine au h ?_
  clear h; intro M h
  refine au h ?_
  clear h; intro M h
  refine aL h (aF h (aF h ?_))
  refine ae h ?_
  clear h; intro eH M h
  refine h.bL (A := A) YS [(kind, v)] rfl rfl (by simp only [List.length_singleton]; omega) ?_
  clear h; intro A' c' M h
  refine aO ?_
  refine au h ?_
  clear h; intro M h
  refine OT h ?_
  unfold Ky
  dsimp only
  refine aj (aF h ?_)
  rw [dm (by omega) (by omega)]
  exact g _ (Kd (x := ⟨k', x.taken ++ [(kind, v)]⟩) (h.sub bu))
theorem CK {B : Option Addr} {m cb : Nat} {l : List Int} (h : Hp R L M) (hB : Src R L B (Eh.cells l)) (hm : m = l.length) (hl : l.length ≤ 1000000000)
  (g : ∀ b M', Hp R (ay (cX .nilFunc) b ⟨.zA l 0, []⟩ :: L) M' → K (.pointer (some ⟨b, 0, none⟩)) M') :
  aa Tryz.prog 16 #[.slice B m cb] M K Kp := by
 refine xG ?_
 refine ae h ?_
 clear h; intro k1 M h
 refine h.gE Eh YT l hB.cons hm (by omega) ?_
 clear h; intro A' c' M h
 refine aO ?_
 refine ae h ?_
 clear h; intro k8 M h
 refine ae h ?_
 clear h; intro c6 M h
 have h2 := h.bP NG 95
 refine g c6 _ (Kd (x := ⟨.zA l 0, []⟩) (A := none) (c := 0) (kb := k8) ?_)
 have h3 : Hp R (ay kR k8 (.zA l 0) :: vb none 0 [] :: pt c6 [yY (.zA l 0) k8, Br (.zA l 0) k8, .slice none 0 0, .nilFunc] 152 :: L) M := by
  refine Hp.xw ?_
  simp only [kR, Hp.dU, Hp.bl, List.cons_append, List.nil_append]
  exact ⟨A', c', h2.sub bu⟩
 exact h3.sub bu
theorem NI {kind n : Int} (hok : x.Ok) (hn : n < 9223372036854775808) (ht : x.taken.length < 100000000) :
  jq R (.func (.func 107) #[.pointer (some ⟨b, 0, none⟩)] #[]) kind n (x.draw kind n).2 (ay (cX .nilFunc) b x :: L) (ay (cX .nilFunc) b (x.draw kind n).1 :: L) := by
 intro Q M K Kp h k
 refine ku ⟨by decide, by show _ < 255; decide⟩ ?_
 refine rh h hok hn ht ?_
 cases hd : (x.draw kind n).2 with
 | num v => rw [hd] at k; exact fun M' h' => k M' h'.swap
 | dY l => rw [hd] at k; exact fun M' h' => k M' h'.swap
end
structure dM where
 q : Loc
 turns : Int
 gW : Int
structure zW where
 p : Int
 g : Int
 left : Int
 deriving DecidableEq
structure Lq where
 P : Int
 M : Int
 R : Int
 S : Int
structure Sc where
 w : Wd
 c : Lq
 ps : List dM
 ms : List zW
 gl : List Int
 d : mj
 steps : Int
structure Ev where
 kind : Int
 m : Int
 g : Int
 ready : List Int
def nO : fO (Nat × Int × Int) := ⟨3, fun w => [.pointer (some ⟨w.1, 0, none⟩), .int .i64 w.2.1, .int .i64 w.2.2], fun _ => rfl, fun w v hv => by
 simp only [List.mem_cons, List.not_mem_nil, or_false] at hv; obtain rfl | rfl | rfl := hv <;> rfl⟩
def fz : fO zW := ⟨3, fun w => [.int .i64 w.p, .int .i64 w.g, .int .i64 w.left], fun _ => rfl, fun w v hv => by
 simp only [List.mem_cons, List.not_mem_nil, or_false] at hv; obtain rfl | rfl | rfl := hv <;> rfl⟩
def bV (bs : List Nat) (ps : List dM) : List (Nat × Int × Int) := List.zipWith (fun b (p : dM) => (b, p.turns, p.gW)) bs ps
def aC (x : Sc) (m : Int) : zW := x.ms.getD m.toNat ⟨-1, -1, 0⟩
def aN (x : Sc) (i : Int) : dM := x.ps.getD i.toNat ⟨⟨-1, 0, []⟩, 0, -1⟩
def Sc.jM (x : Sc) (m : Int) (y : zW) : Sc := { x with ms := x.ms.set m.toNat y }
def Sc.dB (x : Sc) (i : Int) (y : dM) : Sc := { x with ps := x.ps.set i.toNat y }
structure SA where
 ap : Option Addr
 cp : Nat
 lb : List Nat
 am : Option Addr
 cm : Nat
abbrev cy (A : Option Addr) (c : Nat) (l : List (Nat × Int × Int)) : HP := bE nO 141 A c l
abbrev cH (A : Option Addr) (c : Nat) (l : List zW) : HP := bE fz 143 A c l
abbrev eY (wb db : Nat) (a : SA) (x : Sc) (A : Option Addr) (n c : Nat) : List Value :=
 [.pointer (some ⟨wb, 0, none⟩), .int .i64 x.c.P, .int .i64 x.c.M, .int .i64 x.c.R, .int .i64 x.c.S, .slice a.ap x.ps.length a.cp, .slice a.am x.ms.length a.cm, .slice A n c, .pointer (some ⟨db, 0, none⟩), .int .i64 x.steps]
abbrev eE (b wb db : Nat) (a : SA) (x : Sc) : Option Addr → Nat → Nat → HP := fun A n c => pt b (eY wb db a x A n c) 137
theorem yZ {b wb db : Nat} {a : SA} {x : Sc} : To b (0 + 7) (eE b wb db a x) :=
 ⟨fun R L M A n c h => bN h, fun R L M A A' n c n' c' G h k => au h k⟩
abbrev gn (a : SA) (x : Sc) (L : List HP) : List HP := cy a.ap a.cp (bV a.lb x.ps) :: bp bO a.lb (x.ps.map dM.q) :: cH a.am a.cm x.ms :: L
def c9 (pa : PA) (p : cv) (wb db : Nat) : um Sc := ⟨fun b x => exs fun a : SA =>
 sep (gI (eE b wb db a x) x.gl :: ay (bn pa p) wb x.w :: ay (cX .nilFunc) db x.d :: fact (a.lb.length = x.ps.length) :: gn a x [])⟩
class lX (b : Nat) (L : List HP) (pa : outParam PA) (p : outParam cv) (wb db : outParam Nat) (x : outParam Sc) (L' : outParam (List HP)) : Prop where
 pick : cZ L (ay (c9 pa p wb db) b x) L'
instance lX.here {pa : PA} {p : cv} {wb db b : Nat} {x : Sc} {L : List HP} : lX b (ay (c9 pa p wb db) b x :: L) pa p wb db x L := ⟨.here⟩
instance (priority := low) lX.there {pa : PA} {p : cv} {wb db b : Nat} {x : Sc} {Q : HP} {L L' : List HP} [h : lX b L pa p wb db x L'] : lX b (Q :: L) pa p wb db x (Q :: L') := ⟨.there h.pick⟩
section
variable {R : Mem} {L L' L2 : List HP} {M : Mem} {K : Value → Mem → Prop} {Kp : List PanicEntry → Mem → Prop} {pa : PA} {p : cv} {b wb db : Nat} {x : Sc} {m i : Int}
theorem fA (h : Hp R L M) [o : lX b L pa p wb db x L'] : ∃ a : SA, a.lb.length = x.ps.length ∧ Hp R (gI (eE b wb db a x) x.gl :: ay (bn pa p) wb x.w :: ay (cX .nilFunc) db x.d :: gn a x L') M := by
 have := h.pick o.pick
 unfold ay at this
 simp only [c9, gn, Hp.dU, Hp.bl, List.cons_append, List.nil_append] at this
 obtain ⟨a, h⟩ := this
 refine ⟨a, ?_⟩
 have h2 := h.pick (P := fact (a.lb.length = x.ps.length)) (.there (.there (.there .here)))
 obtain ⟨e, h3⟩ := Hp.gv.1 h2
 exact ⟨e, h3⟩
theorem ij {a : SA} (hl : a.lb.length = x.ps.length) (h : Hp R (gI (eE b wb db a x) x.gl :: ay (bn pa p) wb x.w :: ay (cX .nilFunc) db x.d :: gn a x L) M) : Hp R (ay (c9 pa p wb db) b x :: L) M := by
 refine Hp.xw ?_
 simp only [c9, gn, Hp.dU, Hp.bl, List.cons_append, List.nil_append]
 refine ⟨a, ?_⟩
 have h2 : Hp R (fact (a.lb.length = x.ps.length) :: gI (eE b wb db a x) x.gl :: ay (bn pa p) wb x.w :: ay (cX .nilFunc) db x.d :: gn a x L) M := Hp.gv.2 ⟨hl, h⟩
 exact h2.ov (.there (.there (.there .here)))
theorem oT {a : SA} (h : Hp R (gI (eE b wb db a x) x.gl :: L) M) : ∃ A c, Hp R (pt b (eY wb db a x A x.gl.length c) 137 :: jg A c x.gl :: L) M := jk (P := eE b wb db a x) h
theorem zX {a : SA} {A : Option Addr} {c n : Nat} {l : List Int} (h : Hp R (pt b (eY wb db a x A n c) 137 :: jg A c l :: L) M) (e : n = l.length := by first | rfl | simp) : Hp R (gI (eE b wb db a x) l :: L) M := G2 (P := eE b wb db a x) h e
theorem Lr {bs : List Nat} {ps : List dM} {i lb : Nat} {pr : dM} (h1 : bs[i]? = some lb) (h2 : ps[i]? = some pr) : (bV bs ps)[i]? = some (lb, pr.turns, pr.gW) := I0 h1 h2
theorem Bu {bs : List Nat} {ps : List dM} {i lb : Nat} {pr : dM} (h1 : bs[i]? = some lb) : (bV bs ps).set i (lb, pr.turns, pr.gW) = bV bs (ps.set i pr) := oH (f := fun b (p : dM) => (b, p.turns, p.gW)) h1
theorem kA {bs : List Nat} {ps : List dM} (h : bs.length = ps.length) : (bV bs ps).length = ps.length := by simp [bV, h]
theorem ri (h : Hp R L M) [o : lX b L pa p wb db x L'] (k : K (.pointer (some ⟨wb, 0, none⟩)) M) : aa Tryz.prog 18 #[.pointer (some ⟨b, 0, none⟩)] M K Kp := by
 refine qL ?_
 obtain ⟨a, hl, h⟩ := fA h (b := b)
 obtain ⟨A, c, h⟩ := oT h
 exact dG h k
theorem Hw (h : Hp R L M) [o : lX b L pa p wb db x L'] (k : K (.int .i64 x.steps) M) : aa Tryz.prog 35 #[.pointer (some ⟨b, 0, none⟩)] M K Kp := by
 refine qM ?_
 obtain ⟨a, hl, h⟩ := fA h (b := b)
 obtain ⟨A, c, h⟩ := oT h
 exact aF h k
theorem E5 (h : Hp R L M) [o : lX b L pa p wb db x L'] (hs : x.gl.length ≤ 1000000) (k : ∀ A c M', Hp R (jg A c x.gl :: ay (c9 pa p wb db) b x :: L') M' → K (.slice A x.gl.length c) M') : aa Tryz.prog 20 #[.pointer (some ⟨b, 0, none⟩)] M K Kp := by
 refine pQ ?_
 have h' := fA h (b := b)
 clear h
 obtain ⟨a, hl, h⟩ := h'
 refine G3 (P := eE b wb db a x) yZ h (by omega) ?_
 clear h; intro A c M h
 refine aO ?_
 exact k _ _ _ ((ij hl (h.sub bu)).swap)
def Sc.status (x : Sc) : Int := if x.w.end_ = 1 then 1 else if x.w.end_ = 2 then 2 else if x.w.stuck then 3 else 0
theorem oU (h : Hp R L M) [o : lX b L pa p wb db x L'] (hs : x.w.gs.length ≤ 1000000) (k : K (.int .i64 x.status) M) : aa Tryz.prog 22 #[.pointer (some ⟨b, 0, none⟩)] M K Kp := by
 refine pP ?_
 have h' := fA h (b := b)
 clear h
 obtain ⟨a, hl, h⟩ := h'
 have h' := oT h
 clear h
 obtain ⟨A, c, h⟩ := h'
 unfold Sc.status at k
 refine dG h ?_
 refine DH h ?_
 refine ⟨_, _, rfl, ?_⟩
 refine bh.2 ⟨fun e => ?_, fun e => ?_⟩
 ·rw [if_pos e] at k; exact k
 rw [if_neg e] at k
 refine bh.2 ⟨fun e => ?_, fun e => ?_⟩
 ·rw [if_pos e] at k; exact k
 rw [if_neg e] at k
 refine dG h ?_
 refine Hs h hs ?_
 refine o6 ?_
 cases hst : x.w.stuck with
 | true => rw [hst] at k; exact ai k
 | false => rw [hst] at k; exact aj k
def Sc.tick (x : Sc) : Sc × Ev := ({ x with w := x.w.tick, gl := x.gl ++ x.w.tick.ready }, ⟨1, -1, -1, x.w.tick.ready⟩)
def Kf (e : Ev) (A : Option Addr) (c : Nat) : Value := .agg #[.int .i64 e.kind, .int .i64 e.m, .int .i64 e.g, .slice A e.ready.length c]
theorem nQ {k1 T n : Nat} {v1 v2 v3 v4 : Value} {e1 e2 e3 : Int} {A : Option Addr} {c : Nat} {G : Mem → Prop} (h : Hp R L M) [q : jV k1 L [v1, v2, v3, v4] T L']
  (k : ∀ M', Hp R (pt k1 [.int .i64 e1, .int .i64 e2, .int .i64 e3, .slice A n c] T :: L') M' → G M') :
  aP M ⟨k1, 0, none⟩ (.int .i64 e1) fun M1 => aP M1 ⟨k1, (0 + 1), none⟩ (.int .i64 e2) fun M2 => aP M2 ⟨k1, (0 + 2), none⟩ (.int .i64 e3) fun M3 => aP M3 ⟨k1, (0 + 3), none⟩ (.slice A n c) G := by
 have h := h.pick q.pick
 refine au h ?_
 clear h; intro M h
 refine au h ?_
 clear h; intro M h
 refine au h ?_
 clear h; intro M h
 refine au h ?_
 clear h; intro M h
 exact k _ h
theorem rj {k1 T n : Nat} {e1 e2 e3 : Int} {A : Option Addr} {c : Nat} {G : Int → Int → Int → Option Addr → Nat → Nat → Prop} (h : Hp R L M) [q : jV k1 L [.int .i64 e1, .int .i64 e2, .int .i64 e3, .slice A n c] T L'] (g : G e1 e2 e3 A n c) :
  aK (Mem.ld M ⟨k1, 0, none⟩) .i64 fun n1 => aK (Mem.ld M ⟨k1, (0 + 1), none⟩) .i64 fun n2 => aK (Mem.ld M ⟨k1, (0 + 2), none⟩) .i64 fun n3 => az (Mem.ld M ⟨k1, (0 + 3), none⟩) fun A k l => G n1 n2 n3 A k l := by
 have h := h.pick q.pick
 exact aF h (aF h (aF h (aL h g)))
def Bv (x : Sc) : Prop := x.w.hl.length ≤ 1000000 ∧ (∀ y ∈ (eC x.w.hl.length x.w.hl (IntKind.wrap .u64 (x.w.clock + 1))).2, 0 ≤ y.id ∧ y.id < x.w.gs.length) ∧ x.gl.length + x.w.tick.ready.length ≤ 1000000
instance (x : Sc) : Decidable (Bv x) := by unfold Bv; infer_instance
theorem Kg (h : Hp R L M) [o : lX b L pa p wb db x L'] (hk : Bv x)
  (k : ∀ R' A c M', R.le R' → RS aZ R' A c x.tick.2.ready → Hp R' (ay (c9 pa p wb db) b x.tick.1 :: L') M' → K (Kf x.tick.2 A c) M') : aa Tryz.prog 108 #[.pointer (some ⟨b, 0, none⟩)] M K Kp := by
 refine tx ?_
 refine ae h ?_
 clear h
 intro k1 M h
 have h' := fA h (b := b)
 clear h
 obtain ⟨a, hl, h⟩ := h'
 have h' := oT h
 clear h
 obtain ⟨A, c, h⟩ := h'
 refine dG h ?_
 refine J6 h hk.1 hk.2.1 ?_
 clear h; intro R2 Ar cr M hle oR h
 refine aO ?_
 replace h : Hp R2 (pt b (eY wb db a x A x.gl.length c) 137 :: jg A c x.gl :: ay (bn pa p) wb x.w.tick :: ay (cX .nilFunc) db x.d :: cy a.ap a.cp (bV a.lb x.ps) :: bp bO a.lb (x.ps.map dM.q) :: cH a.am a.cm x.ms :: pt k1 [.int .i64 0, .int .i64 0, .int .i64 0, .slice none 0 0] 43 :: L') M := h.sub bu
 replace h := zX h
 refine oP (P := eE b wb db a x) yZ h (oR.src) rfl (by have := hk.2.2; omega) ?_
 clear h; intro M h
 refine ⟨rfl, ?_⟩
 refine nQ h ?_
 clear h; intro M h
 refine rj h ?_
 exact k R2 Ar cr _ hle oR (ij (a := a) (x := x.tick.1) hl (h.sub bu))
end
def ya (q : Loc) : Bool := q.next != -1 || !q.l.isEmpty
def tS (q : Loc) (turns : Int) (gl : List Int) : Loc × List Int × Int × Bool :=
 let a := q.hH gl
 if Int.tmod turns 7 = 6 ∧ 0 < a.2.1.length then (a.1, a.2.1.drop 1, a.2.1.headD 0, true)
 else if ya a.1 then (a.1.get.1, a.2.1, a.1.get.2, true)
 else ((a.1.get.1.fH a.2.1 0).1, (a.1.get.1.fH a.2.1 0).2.1, (a.1.get.1.fH a.2.1 0).2.2, !a.2.1.isEmpty)
def kB (f : Loc) (v : Int) : Bool := v != -1 || !f.l.isEmpty
theorem QZ {q : Loc} {gl : List Int} : (q.hH gl).2.1.length ≤ gl.length + q.l.length + 1 := by
 unfold Loc.hH
 split
 ·simp; omega
 ·unfold Loc.put
  split
  ·simp; omega
  ·simp; omega
section
variable {R : Mem} {L L' L2 : List HP} {M : Mem} {K : Value → Mem → Prop} {Kp : List PanicEntry → Mem → Prop} {pa : PA} {p : cv} {b wb db : Nat} {x : Sc} {m i : Int}
def Sc.hold (x : Sc) (m : Int) : Sc × Ev := match x.ps.findIdx? (fun pr => pr.gW == -1) with
 | some i => (((x.dB (i : Int) { aN x (i : Int) with gW := m }).jM m { aC x m with p := (i : Int) }), ⟨2, m, -1, []⟩)
 | none => (x, ⟨3, m, -1, []⟩)
theorem Bw {a : SA} {y : dM} : eE b wb db a (x.dB i y) = eE b wb db a x := by
 unfold eE eY Sc.dB; simp
theorem Bx {a : SA} {y : zW} : eE b wb db a (x.jM i y) = eE b wb db a x := by
 unfold eE eY Sc.jM; simp
theorem TS {q o0 o1 o2 o3 j lb : Nat} {pr : dM} {bs : List Nat} {ps : List dM} {G : Option Addr → Int → Int → Prop} (h : Hp R L M) (hs : Src R L (some ⟨q, o0, none⟩) (nO.cells (bV bs ps))) (h1 : bs[j]? = some lb) (h2 : ps[j]? = some pr)
  (e1 : o1 = o0 + j * 3) (e2 : o2 = o0 + j * 3 + 1) (e3 : o3 = o0 + j * 3 + 2) (g : G (some ⟨lb, 0, none⟩) pr.turns pr.gW) :
  cw (M.ld ⟨q, o1, none⟩) fun A => aK (M.ld ⟨q, o2, none⟩) .i64 fun n => aK (M.ld ⟨q, o3, none⟩) .i64 fun d => G A n d := by
 have h3 := Lr h1 h2
 refine gQ (Src.at hs h (i := j) (j := 0) h3 rfl (by rw [e1]; rfl)) ?_
 refine aR (Src.at hs h (i := j) (j := 1) h3 rfl (by rw [e2]; show _ = o0 + (j * 3 + 1); omega)) ?_
 exact aR (Src.at hs h (i := j) (j := 2) h3 rfl (by rw [e3]; show _ = o0 + (j * 3 + 2); omega)) g
theorem rm {a : SA} (hl : a.lb.length = x.ps.length) (h0 : 0 ≤ i) (h1 : i < x.ps.length) : ∃ lb, a.lb[i.toNat]? = some lb ∧ x.ps[i.toNat]? = some (aN x i) ∧ (bV a.lb x.ps)[i.toNat]? = some (lb, (aN x i).turns, (aN x i).gW) := by
 obtain ⟨lb, hlb⟩ := aM (l := a.lb) (i := i.toNat) (by omega)
 obtain ⟨y, hy⟩ := aM (l := x.ps) (i := i.toNat) (by omega)
 have e : aN x i = y := by simp [aN, hy]
 rw [e]
 exact ⟨lb, hlb, hy, Lr hlb hy⟩
theorem rq (h0 : 0 ≤ m) (h1 : m < x.ms.length) : x.ms[m.toNat]? = some (aC x m) := by
 obtain ⟨y, hy⟩ := aM (l := x.ms) (i := m.toNat) (by omega)
 have e : aC x m = y := by simp [aC, hy]
 rw [e]; exact hy
theorem yb {ps : List dM} {j : Nat} {pr y : dM} (h : ps[j]? = some pr) (e : y.q = pr.q) : (ps.set j y).map dM.q = ps.map dM.q := by
 obtain ⟨hj, rfl⟩ := List.getElem?_eq_some_iff.1 h
 rw [List.map_set, e]
 have h2 : (ps.map dM.q)[j]'(by simpa using hj) = ps[j].q := by simp
 rw [← h2]
 exact List.set_getElem_self _
theorem yc {a : SA} {A : Option Addr} {c : Nat} {cs : List Value} {l : List Int} {pw : List (Nat × Int × Int)} {qs : List Loc} {ms : List zW} {L0 L1 L2 L3 L4 L5 L6 : List HP} (h : Hp R L M) (b : Nat)
  [p0 : jV b L cs 137 L0] [p1 : cJ A L0 Int aZ 3 c l L1] [p2 : CI wb L1 pa p x.w L2] [p3 : b6 (cX .nilFunc) db L2 x.d L3] [p4 : cJ a.ap L3 (Nat × Int × Int) nO 141 a.cp pw L4]
  [p5 : gk bO L4 a.lb qs L5] [p6 : cJ a.am L5 zW fz 143 a.cm ms L6] (hc : cs = eY wb db a x A x.gl.length c) (hg : l = x.gl) (hl : a.lb.length = x.ps.length) (hp : pw = bV a.lb x.ps) (hq : x.ps.map dM.q = qs) (hm : ms = x.ms) : Hp R (ay (c9 pa p wb db) b x :: L6) M := by
 subst hc; subst hg; subst hp; subst hq; subst hm
 have h2 : Hp R (pt b (eY wb db a x A x.gl.length c) 137 :: jg A c x.gl :: ay (bn pa p) wb x.w :: ay (cX .nilFunc) db x.d :: gn a x L6) M :=
  h.sub (.cons p0.pick (.cons p1.pick (.cons p2.pick (.cons p3.pick (.cons p4.pick (.cons p5.pick (.cons p6.pick .refl)))))))
 exact ij (a := a) hl (zX h2)
theorem Kh (h : Hp R L M) [o : lX b L pa p wb db x L'] (h0 : 0 ≤ m) (h1 : m < x.ms.length) (hs : x.ps.length ≤ 1000000)
  (k : ∀ M', Hp R (ay (c9 pa p wb db) b (x.hold m).1 :: L') M' → K (Kf (x.hold m).2 none 0) M') : aa Tryz.prog 109 #[.pointer (some ⟨b, 0, none⟩), .int .i64 m] M K Kp := by
 refine tB ?_
 refine ae h ?_
 clear h
 intro k1 M h
 have h' := fA h (b := b)
 clear h
 obtain ⟨a, hl, h⟩ := h'
 have h' := oT h
 clear h
 obtain ⟨A, c, h⟩ := h'
 refine aL h ?_
 unfold Sc.hold at k
 have hprl := kA hl
 refine ⟨fun d vs M => ∃ j : Nat, vs = [.int .i64 (j : Int)] ∧ d = x.ps.length - j ∧ j ≤ x.ps.length ∧ (∀ q pr, q < j → x.ps[q]? = some pr → pr.gW ≠ -1) ∧
   Hp R (pt b (eY wb db a x A x.gl.length c) 137 :: jg A c x.gl :: pt k1 [.int .i64 0, .int .i64 0, .int .i64 0, .slice none 0 0] 43 :: ay (bn pa p) wb x.w :: ay (cX .nilFunc) db x.d :: gn a x L') M,
  ⟨_, 0, rfl, rfl, by omega, fun q pr hq => by omega, h.sub bu⟩, ?_⟩
 clear h
 rintro d _ nn M ⟨j, he, hd, hj, hp, h⟩
 simp only [List.cons.injEq, Value.int.injEq, and_true, true_and] at he
 subst he
 refine aJ.2 ⟨fun hlt => ?_, fun hge => ?_⟩
 ·obtain ⟨lb, hlb, kG, hrow⟩ := rm (i := (j : Int)) hl (by omega) hlt
  simp only [Int.toNat_natCast] at hlb kG hrow
  obtain ⟨q, hq⟩ := h.bF (A := a.ap) (l := bV a.lb x.ps) (by omega) (by decide)
  have ZP := h.src (A := a.ap)
  rw [hq] at ZP
  refine aL h ⟨by omega, hlt, ?_⟩
  rw [hq]
  refine bg ?_
  refine aR (Src.at ZP h (i := j) (j := 2) hrow rfl (by show _ = 0 + (j * 3 + 2); simp)) ?_
  refine bh.2 ⟨fun e => ?_, fun e => ?_⟩
  ·have hfi : x.ps.findIdx? (fun pr => pr.gW == -1) = some j := by
    refine List.findIdx?_eq_some_iff_getElem.2 ⟨by omega, ?_, fun q hq => ?_⟩
    ·have := (List.getElem?_eq_some_iff.1 kG).2
     rw [this]; simpa using e
    ·have := hp q _ hq (List.getElem?_eq_getElem (by omega))
     simpa using this
   rw [hfi] at k
   dsimp only at k
   clear ZP
   obtain ⟨q2, oa⟩ := h.bF (A := a.am) (l := x.ms) (by omega) (by decide)
   have ea := bN h (b := b) (o := 0 + 5) (v := .slice a.ap x.ps.length a.cp)
   rw [hq] at ea
   refine (show ∀ {G}, G (some ⟨q, 0, none⟩) x.ps.length a.cp → az (M.ld ⟨b, 0 + 5, none⟩) G from fun g => by rw [ea]; exact aO g) ?_
   refine aL h ⟨by omega, hlt, bg ?_⟩
   have hap : a.ap = some ⟨q, 0, none⟩ := hq
   have Ls : a.am = some ⟨q2, 0, none⟩ := oa
   obtain ⟨ap, cp, xe, am, cm⟩ := a
   dsimp only at hap Ls hrow hlb hl hprl h
   subst hap; subst Ls
   refine iL (E := nO) (a' := (lb, (aN x (j : Int)).turns, m)) j 2 h hrow (by decide) rfl (by show _ = j * 3 + 2; simp) ?_
   clear h; intro M h
   refine ⟨h0, h1, bg ?_⟩
   refine iL (E := fz) (a' := { aC x m with p := (j : Int) }) m.toNat 0 h (rq h0 h1) (by decide) rfl (by show _ = m.toNat * 3 + 0; simp) ?_
   clear h; intro M h
   refine nQ h ?_
   clear h; intro M h
   refine rj h ?_
   rw [Bu (pr := { aN x (j : Int) with gW := m }) hlb] at h
   have e3 := yb (y := { aN x (j : Int) with gW := m }) kG rfl
   exact k _ (Hp.ck (yc (A := A) (c := c) (a := ⟨some ⟨q, 0, none⟩, cp, xe, some ⟨q2, 0, none⟩, cm⟩) (x := (x.dB (j : Int) { aN x (j : Int) with gW := m }).jM m { aC x m with p := (j : Int) }) h b (by simp [Sc.dB, Sc.jM, eY]) (by rfl) (by simpa [Sc.dB, Sc.jM] using hl) (by rfl) (by exact e3) (by rfl)))
  ·refine ⟨x.ps.length - (j + 1), by omega, j + 1, by rw [aQ (by omega)], rfl, by omega, fun q' Vm hq' YV => ?_, h⟩
   rcases Nat.lt_or_ge q' j with h8 | h8
   ·exact hp q' Vm h8 YV
   ·have : q' = j := by omega
    subst this
    rw [kG] at YV; cases YV; exact e
 ·have hfi : x.ps.findIdx? (fun pr => pr.gW == -1) = none := by
   refine List.findIdx?_eq_none_iff.2 fun pr kG => ?_
   obtain ⟨q, hq, e⟩ := List.getElem_of_mem kG
   have := hp q pr (by omega) (by rw [← e]; exact List.getElem?_eq_getElem hq)
   simpa using this
  rw [hfi] at k
  dsimp only at k
  refine nQ h ?_
  clear h; intro M h
  refine rj h ?_
  refine k _ (ij (a := a) hl ?_)
  have h2 := zX (h.sub (show Sub _ (pt b (eY wb db a x A x.gl.length c) 137 :: jg A c x.gl :: ay (bn pa p) wb x.w :: ay (cX .nilFunc) db x.d :: gn a x L') from bu))
  exact h2
theorem By {bs : List Nat} {ps : List dM} {j : Nat} {pr y : dM} (h : ps[j]? = some pr) (e1 : y.turns = pr.turns) (e2 : y.gW = pr.gW) : bV bs (ps.set j y) = bV bs ps := by
 obtain ⟨hj, rfl⟩ := List.getElem?_eq_some_iff.1 h
 unfold bV
 refine List.ext_getElem (by simp) fun n h1 h2 => ?_
 simp only [List.getElem_zipWith, List.getElem_set]
 split
 ·rename_i he
  subst he
  rw [e1, e2]
 ·rfl
def Sc.own (x : Sc) (i : Int) : Sc × Int × Bool :=
 let r := tS (aN x i).q (aN x i).turns x.gl
 ({ x.dB i { aN x i with q := r.1 } with gl := r.2.1 }, r.2.2.1, r.2.2.2)
theorem NJ {q : Nat} {a : SA} (h : Hp R L M) [o : tQ (eE b wb db a x) L x.gl L'] [o2 : cJ (some ⟨q, 0, none⟩) L' (Nat × Int × Int) nO 141 a.cp (bV a.lb x.ps) L2] {L3 : List HP} [o3 : gk bO L2 a.lb (x.ps.map dM.q) L3]
  (hap : a.ap = some ⟨q, 0, none⟩) (hl : a.lb.length = x.ps.length) (h0 : 0 ≤ i) (h1 : i < x.ps.length) (hs : x.gl.length ≤ 1000000) (ht : 0 ≤ (aN x i).turns)
  (k : ∀ M', Hp R (gI (eE b wb db a x) (x.own i).1.gl :: cy (some ⟨q, 0, none⟩) a.cp (bV a.lb x.ps) :: bp bO a.lb ((x.own i).1.ps.map dM.q) :: L3) M' → K (.tuple #[.int .i64 (x.own i).2.1, .bool (x.own i).2.2]) M') :
  aa Tryz.prog 150 #[.pointer (some ⟨b, 0, none⟩), .pointer (some ⟨q, i.toNat * 3, none⟩)] M K Kp := by
 refine uT ?_
 obtain ⟨lb, hlb, kG, hrow⟩ := rm (i := i) hl h0 h1
 have h2 : Hp R (gI (eE b wb db a x) x.gl :: cy (some ⟨q, 0, none⟩) a.cp (bV a.lb x.ps) :: bp bO a.lb (x.ps.map dM.q) :: L3) M := h.sub (.cons o.pick (.cons o2.pick (.cons o3.pick .refl)))
 clear h
 have h := h2
 clear h2
 have hq : (x.ps.map dM.q)[i.toNat]? = some (aN x i).q := by rw [List.getElem?_map, kG]; rfl
 unfold Sc.own at k
 dsimp only at k
 have Bb : ∀ q', (x.dB i { aN x i with q := q' }).ps.map dM.q = (x.ps.map dM.q).set i.toNat q' := fun q' => by simp [Sc.dB, List.map_set]
 simp only [Bb] at k
 unfold tS at k
 dsimp only at k
 refine gQ (Src.at (Src.row (A := some ⟨q, 0, none⟩) : Src R _ _ (nO.cells (bV a.lb x.ps))) h (i := i.toNat) (j := 0) hrow rfl (by show _ = 0 + (i.toNat * 3 + 0); simp)) ?_
 replace h := h.cK bO hlb hq
 replace h : Hp R (ay bO lb (aN x i).q :: gI (eE b wb db a x) x.gl :: mF bO a.lb (x.ps.map dM.q) i.toNat :: cy (some ⟨q, 0, none⟩) a.cp (bV a.lb x.ps) :: L3) M := h.sub bu
 have hbd := xX h (b := lb)
 refine JS (P := eE b wb db a x) yZ h (by omega) ?_
 clear h; intro M h
 have htl := QZ (q := (aN x i).q) (gl := x.gl)
 refine cz ?_
 generalize htr : (aN x i).q.hH x.gl = r at h k htl
 obtain ⟨q1, g1, n1⟩ := r
 dsimp only at h k htl
 have Nu : g1.length ≤ 100000000 := by obtain ⟨a1, a2, a3⟩ := hbd; omega
 refine aR (Src.at (h.src (A := some ⟨q, 0, none⟩)) h (i := i.toNat) (j := 1) hrow rfl (by show _ = 0 + (i.toNat * 3 + 1); omega)) ?_
 refine ⟨by decide, ?_⟩
 have rest : ∀ {M : Mem}, (Hp R (ay bO lb q1 :: gI (eE b wb db a x) g1 :: mF bO a.lb (x.ps.map dM.q) i.toNat :: cy (some ⟨q, 0, none⟩) a.cp (bV a.lb x.ps) :: L3) M) → ¬ (Int.tmod (aN x i).turns 7 = 6 ∧ 0 < g1.length) →
   cw (Mem.ld M ⟨q, i.toNat * 3, none⟩) fun pn =>
    aa Tryz.prog 149 #[(.pointer pn)] M (fun ur dZ =>
    ∃ iB : Int, ∃ t18 : Bool, (ur = (.tuple #[(.int .i64 iB), (.bool t18)])) ∧
    aS t18
     (K (.tuple #[(.int .i64 iB), (.bool true)]) dZ)
     (cw (Mem.ld dZ ⟨q, i.toNat * 3, none⟩) fun yH =>
     aa Tryz.prog 180 #[(.pointer yH), (.pointer (some ⟨b, (0 + 7), none⟩)), (.int .i64 0)] dZ (fun v20 jC =>
     ∃ oE : Int, ∃ t23 : Bool, (v20 = (.tuple #[(.int .i64 oE), (.bool t23)])) ∧
     K (.tuple #[(.int .i64 oE), (.bool t23)]) jC) Kp)) Kp := by
  intro M h hno
  rw [if_neg hno] at k
  refine gQ (Src.at (h.src (A := some ⟨q, 0, none⟩)) h (i := i.toNat) (j := 0) hrow rfl (by show _ = 0 + (i.toNat * 3 + 0); simp)) ?_
  refine DA h (b := lb) ?_
  clear h; intro t M ht1 ht2 h
  refine ⟨_, _, rfl, ?_⟩
  by_cases hh : ya q1 = true
  ·rw [if_pos hh] at k
   have : t = true := ht2 (by unfold ya at hh; simpa using hh)
   subst this
   refine ai ?_
   replace h := h.eF bO lb hlb (by rw [List.length_map]; omega)
   exact k _ (h.sub bu)
  ·rw [if_neg hh] at k
   have hn : q1.next = -1 ∧ q1.l = [] := by
    unfold ya at hh
    rw [Bool.or_eq_true] at hh
    constructor
    ·exact Decidable.byContradiction fun e => hh (.inl (by simpa using e))
    ·cases hq1 : q1.l with
     | nil => rfl
     | cons _ _ => exact absurd (.inr (by rw [hq1]; rfl)) hh
   have hg : q1.get.2 = -1 := by unfold Loc.get; rw [if_neg (by simpa using hn.1), hn.2]
   have : t = false := ht1 hg hn.1 hn.2
   subst this
   refine aj ?_
   refine gQ (Src.at (h.src (A := some ⟨q, 0, none⟩)) h (i := i.toNat) (j := 0) hrow rfl (by show _ = 0 + (i.toNat * 3 + 0); simp)) ?_
   replace h : Hp R (ay bO lb q1.get.1 :: gI (eE b wb db a x) g1 :: mF bO a.lb (x.ps.map dM.q) i.toNat :: cy (some ⟨q, 0, none⟩) a.cp (bV a.lb x.ps) :: L3) M := h.sub bu
   refine G6 (P := eE b wb db a x) yZ h Nu (by decide) ?_
   clear h; intro t2 M ht3 ht4 h
   refine ⟨_, _, rfl, ?_⟩
   have ht5 : t2 = !g1.isEmpty := by
    cases g1 with
    | nil => exact ht3 (by unfold Loc.fH; simp) rfl
    | cons _ _ => exact ht4 (by simp)
   subst ht5
   replace h := h.eF bO lb hlb (by rw [List.length_map]; omega)
   exact k _ (h.sub bu)
 refine bh.2 ⟨fun e6 => ?_, fun e6 => ?_⟩
 ·replace h : Hp R (gI (eE b wb db a x) g1 :: ay bO lb q1 :: mF bO a.lb (x.ps.map dM.q) i.toNat :: cy (some ⟨q, 0, none⟩) a.cp (bV a.lb x.ps) :: L3) M := h.sub bu
  refine qW (P := eE b wb db a x) (n := 1) yZ h (by omega) ?_
  clear h; intro A2 c2 M h
  refine aO ?_
  have e1 : (1 : Int).toNat = 1 := rfl
  rw [e1] at h ⊢
  by_cases hg : 0 < g1.length
  ·rw [if_pos ⟨e6, hg⟩] at k
   have hlen : (g1.take 1).length = 1 := by rw [List.length_take]; omega
   rw [hlen]
   refine ai ⟨by omega, by omega, ?_⟩
   obtain ⟨q9, rfl⟩ := h.bF (A := A2) (by omega) (by decide)
   refine bg ?_
   obtain ⟨v, hv⟩ := aM (l := g1) (i := 0) hg
   have Ix : (g1.take 1)[0]? = some v := by rw [List.getElem?_take, if_pos (by omega)]; exact hv
   refine aR (Src.at (h.src (A := some ⟨q9, 0, none⟩)) h (i := 0) (j := 0) Ix rfl rfl) ?_
   have hvd : g1.headD 0 = v := by
    cases g1 with
    | nil => simp at hg
    | cons w _ => simp at hv; simpa using hv
   rw [hvd] at k
   replace h : Hp R (ay bO lb q1 :: mF bO a.lb (x.ps.map dM.q) i.toNat :: gI (eE b wb db a x) (g1.drop 1) :: cy (some ⟨q, 0, none⟩) a.cp (bV a.lb x.ps) :: L3) M := h.sub bu
   replace h := h.eF bO lb hlb (by rw [List.length_map]; omega)
   exact k _ (h.sub bu)
  ·have YJ : g1 = [] := List.eq_nil_of_length_eq_zero (by omega)
   subst YJ
   refine aj ?_
   exact rest (h.sub bu) (fun hc => by simp at hc)
 ·exact rest (h.sub bu) (fun hc => e6 hc.1)
end
inductive nR where
 | ev (e : Ev)
 | dY (l : List PanicEntry)
def Sc.bU (x : Sc) (m i kind g : Int) (ok : Bool) : Sc × Ev :=
 if ok then ((x.dB i { aN x i with turns := (aN x i).turns + 1 }).jM m ⟨(aC x m).p, g, x.c.S⟩, ⟨kind, m, g, []⟩)
 else ((x.dB i { aN x i with gW := -1 }).jM m ⟨-1, -1, 0⟩, ⟨6, m, -1, []⟩)
def Sc.find (x : Sc) (m : Int) : Sc × nR :=
 let i := (aC x m).p
 if 0 < (aC x m).left ∧ (aN x i).q.next ≠ -1 then
  ((x.dB i { aN x i with q := (aN x i).q.get.1 }).jM m { aC x m with g := (aN x i).q.get.2 }, .ev ⟨4, m, (aN x i).q.get.2, []⟩)
 else
  let y := (x.own i).1
  if (x.own i).2.2 = false ∧ 1 < x.c.P then match y.d.draw 2 x.c.P with
   | (d', .dY l) => ({ y with d := d' }, .dY l)
   | (d', .num v) =>
    let y := { y with d := d' }
    if v = i then ((y.bU m i 5 (-1) false).1, .ev (y.bU m i 5 (-1) false).2)
    else
     let s := (aN y i).q.eB (aN y v).q
     let z := (y.dB i { aN y i with q := s.1 }).dB v { aN y v with q := s.2.1 }
     ((z.bU m i 5 s.2.2 (kB (aN y v).q s.2.2)).1, .ev (z.bU m i 5 s.2.2 (kB (aN y v).q s.2.2)).2)
  else ((y.bU m i 4 (x.own i).2.1 (x.own i).2.2).1, .ev (y.bU m i 4 (x.own i).2.1 (x.own i).2.2).2)
section
variable {R : Mem} {L L' L2 : List HP} {M : Mem} {K : Value → Mem → Prop} {Kp : List PanicEntry → Mem → Prop} {pa : PA} {p : cv} {b wb db : Nat} {x : Sc} {m i : Int}
theorem yd {lb : Nat} (k : K (.tuple #[.int .i64 (-1), .bool false]) M) : aa Tryz.prog 151 #[.pointer (some ⟨lb, 0, none⟩), .pointer (some ⟨lb, 0, none⟩)] M K Kp := by
 refine j9 ?_
 exact ⟨fun _ => ai k, fun hne => absurd rfl hne⟩
theorem ru {y : dM} : (x.dB i y).ps.length = x.ps.length := by simp [Sc.dB]
theorem NK {a : SA} {q q2 k1 : Nat} {kind g : Int} {t : Bool}
  (h : Hp R (gI (eE b wb db a x) x.gl :: ay (bn pa p) wb x.w :: ay (cX .nilFunc) db x.d :: cy (some ⟨q, 0, none⟩) a.cp (bV a.lb x.ps) :: bp bO a.lb (x.ps.map dM.q) :: cH (some ⟨q2, 0, none⟩) a.cm x.ms :: pt k1 [.int .i64 0, .int .i64 0, .int .i64 0, .slice none 0 0] 43 :: L') M)
  (hap : a.ap = some ⟨q, 0, none⟩) (Ls : a.am = some ⟨q2, 0, none⟩) (hl : a.lb.length = x.ps.length) (m0 : 0 ≤ m) (m1 : m < x.ms.length) (i0 : 0 ≤ i) (i1 : i < x.ps.length) (ht : 0 ≤ (aN x i).turns ∧ (aN x i).turns < 1000000000)
  (k : ∀ M', Hp R (ay (c9 pa p wb db) b (x.bU m i kind g t).1 :: L') M' → K (Kf (x.bU m i kind g t).2 none 0) M') :
  aS (!t)
   (az (Mem.ld M ⟨b, (0 + 6), none⟩) fun Wm Jf zQ =>
   aP M ⟨q, ((i.toNat * 3) + 2), none⟩ (.int .i64 (-1)) fun Gv =>
   ((0 : Int) ≤ m) ∧
   ((m : Int) < ((Jf : Nat) : Int)) ∧
   aE Wm fun Oe K4 =>
   aP Gv ⟨Oe, (K4 + ((Int.toNat m) * 3)), none⟩ (.int .i64 (-1)) fun GB =>
   aP GB ⟨Oe, ((K4 + ((Int.toNat m) * 3)) + 1), none⟩ (.int .i64 (-1)) fun RT =>
   aP RT ⟨Oe, ((K4 + ((Int.toNat m) * 3)) + 2), none⟩ (.int .i64 0) fun Gs =>
   aP Gs ⟨k1, 0, none⟩ (.int .i64 6) fun U5 =>
   aP U5 ⟨k1, (0 + 1), none⟩ (.int .i64 m) fun mh =>
   aP mh ⟨k1, (0 + 2), none⟩ (.int .i64 (-1)) fun M92 =>
   aP M92 ⟨k1, (0 + 3), none⟩ (.slice none 0 0) fun Ct =>
   aK (Mem.ld Ct ⟨k1, 0, none⟩) .i64 fun Pg =>
   aK (Mem.ld Ct ⟨k1, (0 + 1), none⟩) .i64 fun IU =>
   aK (Mem.ld Ct ⟨k1, (0 + 2), none⟩) .i64 fun My =>
   az (Mem.ld Ct ⟨k1, (0 + 3), none⟩) fun A97 WH ZI =>
   K (.agg #[(.int .i64 Pg), (.int .i64 IU), (.int .i64 My), (.slice A97 WH ZI)]) Ct)
   (aK (Mem.ld M ⟨q, ((i.toNat * 3) + 1), none⟩) .i64 fun vT =>
   aP M ⟨q, ((i.toNat * 3) + 1), none⟩ (.int .i64 (IntKind.wrap .i64 (vT + 1))) fun iS =>
   az (Mem.ld iS ⟨b, (0 + 6), none⟩) fun AQ nG Cu =>
   az (Mem.ld iS ⟨b, (0 + 6), none⟩) fun EE wj MO =>
   aK (Mem.ld iS ⟨b, ((0 + 1) + 3), none⟩) .i64 fun AN =>
   ((0 : Int) ≤ m) ∧
   ((m : Int) < ((nG : Nat) : Int)) ∧
   aE AQ fun Jn GC =>
   aP iS ⟨Jn, ((GC + ((Int.toNat m) * 3)) + 1), none⟩ (.int .i64 g) fun oL =>
   ((0 : Int) ≤ m) ∧
   ((m : Int) < ((wj : Nat) : Int)) ∧
   aE EE fun EF AR =>
   aP oL ⟨EF, ((AR + ((Int.toNat m) * 3)) + 2), none⟩ (.int .i64 AN) fun zu =>
   aP zu ⟨k1, 0, none⟩ (.int .i64 kind) fun EG =>
   aP EG ⟨k1, (0 + 1), none⟩ (.int .i64 m) fun wv =>
   aP wv ⟨k1, (0 + 2), none⟩ (.int .i64 g) fun Jk =>
   aP Jk ⟨k1, (0 + 3), none⟩ (.slice none 0 0) fun oK =>
   aK (Mem.ld oK ⟨k1, 0, none⟩) .i64 fun PO =>
   aK (Mem.ld oK ⟨k1, (0 + 1), none⟩) .i64 fun AO =>
   aK (Mem.ld oK ⟨k1, (0 + 2), none⟩) .i64 fun AP =>
   az (Mem.ld oK ⟨k1, (0 + 3), none⟩) fun PR EH Jl =>
   K (.agg #[(.int .i64 PO), (.int .i64 AO), (.int .i64 AP), (.slice PR EH Jl)]) oK) := by
 obtain ⟨lb, hlb, kG, hrow⟩ := rm (i := i) hl i0 i1
 have nS := rq m0 m1
 have m2 : m.toNat < x.ms.length := by omega
 obtain ⟨ap, cp, xe, am, cm⟩ := a
 dsimp only at hap Ls hl hlb hrow h
 subst hap; subst Ls
 obtain ⟨A, c, h2⟩ := oT h
 clear h
 have h := h2
 clear h2
 unfold Sc.bU at k
 cases t with
 | false =>
  simp only [Bool.false_eq_true, if_false] at k
  refine ai ?_
  refine aL h ?_
  refine iL (E := nO) (a' := (lb, (aN x i).turns, -1)) i.toNat 2 h hrow (by decide) rfl rfl ?_
  clear h; intro M h
  refine ⟨m0, m1, bg ?_⟩
  refine iL (E := fz) (a' := ⟨-1, (aC x m).g, (aC x m).left⟩) m.toNat 0 h nS (by decide) rfl (by show _ = m.toNat * 3 + 0; omega) ?_
  clear h; intro M h
  refine iL (E := fz) (a := ⟨-1, (aC x m).g, (aC x m).left⟩) (a' := ⟨-1, -1, (aC x m).left⟩) m.toNat 1 h (by simp [m2]) (by decide) rfl (by show _ = m.toNat * 3 + 1; omega) ?_
  clear h; intro M h
  refine iL (E := fz) (a := ⟨-1, -1, (aC x m).left⟩) (a' := ⟨-1, -1, 0⟩) m.toNat 2 h (by simp [m2]) (by decide) rfl (by show _ = m.toNat * 3 + 2; omega) ?_
  clear h; intro M h
  rw [jf, jf, Bu (pr := { aN x i with gW := -1 }) hlb] at h
  refine nQ h ?_
  clear h; intro M h
  refine rj h ?_
  have e3 := yb (y := { aN x i with gW := -1 }) kG rfl
  exact k _ (Hp.ck (yc (A := A) (c := c) (a := ⟨some ⟨q, 0, none⟩, cp, xe, some ⟨q2, 0, none⟩, cm⟩) (x := (x.dB i { aN x i with gW := -1 }).jM m ⟨-1, -1, 0⟩) h b (by simp [Sc.dB, Sc.jM, eY]) (by rfl) (by simpa [Sc.dB, Sc.jM] using hl) (by rfl) (by exact e3) (by rfl)))
 | true =>
  simp only [if_true] at k
  refine aj ?_
  refine aR (Src.at (h.src (A := some ⟨q, 0, none⟩)) h (i := i.toNat) (j := 1) hrow rfl (by show _ = 0 + (i.toNat * 3 + 1); omega)) ?_
  rw [jJ ht.1 (by omega)]
  refine iL (E := nO) (a' := (lb, (aN x i).turns + 1, (aN x i).gW)) i.toNat 1 h hrow (by decide) rfl rfl ?_
  clear h; intro M h
  refine aL h (aL h (aF h ⟨m0, m1, bg ?_⟩))
  refine iL (E := fz) (a' := ⟨(aC x m).p, g, (aC x m).left⟩) m.toNat 1 h nS (by decide) rfl (by show _ = m.toNat * 3 + 1; omega) ?_
  clear h; intro M h
  refine ⟨m0, m1, bg ?_⟩
  refine iL (E := fz) (a := ⟨(aC x m).p, g, (aC x m).left⟩) (a' := ⟨(aC x m).p, g, x.c.S⟩) m.toNat 2 h (by simp [m2]) (by decide) rfl (by show _ = m.toNat * 3 + 2; omega) ?_
  clear h; intro M h
  rw [jf, Bu (pr := { aN x i with turns := (aN x i).turns + 1 }) hlb] at h
  refine nQ h ?_
  clear h; intro M h
  refine rj h ?_
  have e3 := yb (y := { aN x i with turns := (aN x i).turns + 1 }) kG rfl
  exact k _ (Hp.ck (yc (A := A) (c := c) (a := ⟨some ⟨q, 0, none⟩, cp, xe, some ⟨q2, 0, none⟩, cm⟩) (x := (x.dB i { aN x i with turns := (aN x i).turns + 1 }).jM m ⟨(aC x m).p, g, x.c.S⟩) h b (by simp [Sc.dB, Sc.jM, eY]) (by rfl) (by simpa [Sc.dB, Sc.jM] using hl) (by rfl) (by exact e3) (by rfl)))
def ye (x : Sc) (m : Int) : Prop := 0 ≤ m ∧ m < x.ms.length ∧ 0 ≤ (aC x m).p ∧ (aC x m).p < x.ps.length ∧ x.gl.length ≤ 1000000 ∧ 0 ≤ (aN x (aC x m).p).turns ∧ (aN x (aC x m).p).turns < 1000000000 ∧ x.d.taken.length < 100000000 ∧ x.c.P ≤ x.ps.length ∧ x.c.P < 1000000
instance (x : Sc) (m : Int) : Decidable (ye x m) := by unfold ye; infer_instance
theorem NL {j : Int} (h0 : 0 ≤ i) (hi : i < x.ps.length) (hj : 0 ≤ j) : (aN (x.own i).1 j).turns = (aN x j).turns := by
 unfold Sc.own Sc.dB aN
 dsimp only
 by_cases e : i.toNat = j.toNat
 ·rw [e]
  rw [List.getD_eq_getElem?_getD, List.getElem?_set_self (by omega)]; rfl
 ·rw [List.getD_eq_getElem?_getD, List.getElem?_set_ne e, ← List.getD_eq_getElem?_getD]
end
section
variable {R : Mem} {L L' L2 : List HP} {M : Mem} {K : Value → Mem → Prop} {Kp : List PanicEntry → Mem → Prop} {pa : PA} {p : cv} {b wb db : Nat} {x : Sc} {m i : Int} {a : SA} {g : List Int}
theorem Lt (h : Hp R (gI (eE b wb db a x) g :: L) M) : M.ld ⟨b, 0 + 5, none⟩ = some (.slice a.ap x.ps.length a.cp) := by
 obtain ⟨A, c, h9⟩ := jk (P := eE b wb db a x) h; exact bN h9
theorem y3 (h : Hp R (gI (eE b wb db a x) g :: L) M) : M.ld ⟨b, 0 + 6, none⟩ = some (.slice a.am x.ms.length a.cm) := by
 obtain ⟨A, c, h9⟩ := jk (P := eE b wb db a x) h; exact bN h9
theorem sc_P (h : Hp R (gI (eE b wb db a x) g :: L) M) : M.ld ⟨b, 0 + 1, none⟩ = some (.int .i64 x.c.P) := by
 obtain ⟨A, c, h9⟩ := jk (P := eE b wb db a x) h; exact bN h9
theorem sc_M (h : Hp R (gI (eE b wb db a x) g :: L) M) : M.ld ⟨b, (0 + 1) + 1, none⟩ = some (.int .i64 x.c.M) := by
 obtain ⟨A, c, h9⟩ := jk (P := eE b wb db a x) h; exact bN h9
theorem YW (h : Hp R (gI (eE b wb db a x) g :: L) M) : M.ld ⟨b, 0 + 8, none⟩ = some (.pointer (some ⟨db, 0, none⟩)) := by
 obtain ⟨A, c, h9⟩ := jk (P := eE b wb db a x) h; exact bN h9
theorem sc_w (h : Hp R (gI (eE b wb db a x) g :: L) M) : M.ld ⟨b, 0, none⟩ = some (.pointer (some ⟨wb, 0, none⟩)) := by
 obtain ⟨A, c, h9⟩ := jk (P := eE b wb db a x) h; exact bN h9
theorem TT : eE b wb db a (x.own i).1 = eE b wb db a x := by
 unfold Sc.own eE eY Sc.dB; simp
def Rdy (R : Mem) (pa : PA) (p : cv) (b wb db : Nat) (a : SA) (L' : List HP) (K : Value → Mem → Prop) (m i : Int) (q q2 k1 : Nat) (z : Sc) (kind g : Int) (t : Bool) (M : Mem) : Prop :=
 Hp R (gI (eE b wb db a z) z.gl :: ay (bn pa p) wb z.w :: ay (cX .nilFunc) db z.d :: cy (some ⟨q, 0, none⟩) a.cp (bV a.lb z.ps) :: bp bO a.lb (z.ps.map dM.q) :: cH (some ⟨q2, 0, none⟩) a.cm z.ms :: pt k1 [.int .i64 0, .int .i64 0, .int .i64 0, .slice none 0 0] 43 :: L') M ∧
 a.lb.length = z.ps.length ∧ m < z.ms.length ∧ i < z.ps.length ∧ (0 ≤ (aN z i).turns ∧ (aN z i).turns < 1000000000) ∧
 (∀ M', Hp R (ay (c9 pa p wb db) b (z.bU m i kind g t).1 :: L') M' → K (Kf (z.bU m i kind g t).2 none 0) M')
theorem Hx {y : dM} {j : Int} (hi : 0 ≤ i) (h1 : i < x.ps.length) (hj : 0 ≤ j) : aN (x.dB i y) j = if i = j then y else aN x j := by
 unfold aN Sc.dB
 dsimp only
 by_cases e : i = j
 ·subst e
  rw [if_pos rfl, List.getD_eq_getElem?_getD, List.getElem?_set_self (by omega)]; rfl
 ·rw [if_neg e, List.getD_eq_getElem?_getD, List.getElem?_set_ne (by omega), ← List.getD_eq_getElem?_getD]
theorem DK {q q2 k1 : Nat}
  (h : Hp R (gI (eE b wb db a x) x.gl :: ay (bn pa p) wb x.w :: ay (cX .nilFunc) db x.d :: cy (some ⟨q, 0, none⟩) a.cp (bV a.lb x.ps) :: bp bO a.lb (x.ps.map dM.q) :: cH (some ⟨q2, 0, none⟩) a.cm x.ms :: pt k1 [.int .i64 0, .int .i64 0, .int .i64 0, .slice none 0 0] 43 :: L') M)
  (hap : a.ap = some ⟨q, 0, none⟩) (Ls : a.am = some ⟨q2, 0, none⟩) (hl : a.lb.length = x.ps.length) (hk : ye x m) (hi : i = (aC x m).p) (hd : x.d.Ok)
  (k : let y := (x.own i).1
   if (x.own i).2.2 = false ∧ 1 < x.c.P then match y.d.draw 2 x.c.P with
    | (d', .dY l) => ∀ M', Hp R (ay (c9 pa p wb db) b { y with d := d' } :: L') M' → Kp l M'
    | (d', .num v) =>
     let y := { y with d := d' }
     let s := (aN y i).q.eB (aN y v).q
     let z := if v = i then y else (y.dB i { aN y i with q := s.1 }).dB v { aN y v with q := s.2.1 }
     let r := if v = i then (-1, false) else (s.2.2, kB (aN y v).q s.2.2)
     ∀ M', Hp R (ay (c9 pa p wb db) b (z.bU m i 5 r.1 r.2).1 :: L') M' → K (Kf (z.bU m i 5 r.1 r.2).2 none 0) M'
   else ∀ M', Hp R (ay (c9 pa p wb db) b (y.bU m i 4 (x.own i).2.1 (x.own i).2.2).1 :: L') M' → K (Kf (y.bU m i 4 (x.own i).2.1 (x.own i).2.2).2 none 0) M') :
  aa Tryz.prog 150 #[(.pointer (some ⟨b, 0, none⟩)), (.pointer (some ⟨q, (i.toNat * 3), none⟩))] M (fun MM r7 =>
 ∃ PM : Int, ∃ t57 : Bool, (MM = (.tuple #[(.int .i64 PM), (.bool t57)])) ∧
 aS (!t57)
  (aK (Mem.ld r7 ⟨b, (0 + 1), none⟩) .i64 fun Gd =>
  ∃ WE : List Value → Mem → Prop, (aS (decide ((Gd : Int) > 1))
   (cw (Mem.ld r7 ⟨b, (0 + 8), none⟩) fun A60 =>
    aK (Mem.ld r7 ⟨b, (0 + 1), none⟩) .i64 fun Mx =>
    aa Tryz.prog 107 #[(.pointer A60), (.int .i64 2), (.int .i64 Mx)] r7 (fun SH w5 =>
    aK (some SH) .i64 fun n64 =>
    cw (Mem.ld w5 ⟨q, (i.toNat * 3), none⟩) fun SS =>
    az (Mem.ld w5 ⟨b, (0 + 5), none⟩) fun PN xd K3 =>
    ((0 : Int) ≤ n64) ∧
    ((n64 : Int) < ((xd : Nat) : Int)) ∧
    aE PN fun MN zn =>
    cw (Mem.ld w5 ⟨MN, (zn + ((Int.toNat n64) * 3)), none⟩) fun MH =>
    aa Tryz.prog 151 #[(.pointer SS), (.pointer MH)] w5 (fun v72 B8 =>
    ∃ Od : Int, ∃ t75 : Bool, (v72 = (.tuple #[(.int .i64 Od), (.bool t75)])) ∧
    WE [(.int .i64 5), (.int .i64 Od), (.bool t75)] B8) Kp) Kp)
   (WE [(.int .i64 4), (.int .i64 PM), (.bool t57)] r7)) ∧
  ∀ WG : Nat → Value, ∀ Di : Int, ∀ Fu : Int, ∀ t79 : Bool, ∀ Ey : Mem, (WE [(.int .i64 Di), (.int .i64 Fu), (.bool t79)] Ey) → aS (!t79)
   (az (Mem.ld Ey ⟨b, (0 + 6), none⟩) fun Wm Jf zQ =>
   aP Ey ⟨q, ((i.toNat * 3) + 2), none⟩ (.int .i64 (-1)) fun Gv =>
   ((0 : Int) ≤ m) ∧
   ((m : Int) < ((Jf : Nat) : Int)) ∧
   aE Wm fun Oe K4 =>
   aP Gv ⟨Oe, (K4 + ((Int.toNat m) * 3)), none⟩ (.int .i64 (-1)) fun GB =>
   aP GB ⟨Oe, ((K4 + ((Int.toNat m) * 3)) + 1), none⟩ (.int .i64 (-1)) fun RT =>
   aP RT ⟨Oe, ((K4 + ((Int.toNat m) * 3)) + 2), none⟩ (.int .i64 0) fun Gs =>
   aP Gs ⟨k1, 0, none⟩ (.int .i64 6) fun U5 =>
   aP U5 ⟨k1, (0 + 1), none⟩ (.int .i64 m) fun mh =>
   aP mh ⟨k1, (0 + 2), none⟩ (.int .i64 (-1)) fun M92 =>
   aP M92 ⟨k1, (0 + 3), none⟩ (.slice none 0 0) fun Ct =>
   aK (Mem.ld Ct ⟨k1, 0, none⟩) .i64 fun Pg =>
   aK (Mem.ld Ct ⟨k1, (0 + 1), none⟩) .i64 fun IU =>
   aK (Mem.ld Ct ⟨k1, (0 + 2), none⟩) .i64 fun My =>
   az (Mem.ld Ct ⟨k1, (0 + 3), none⟩) fun A97 WH ZI =>
   K (.agg #[(.int .i64 Pg), (.int .i64 IU), (.int .i64 My), (.slice A97 WH ZI)]) Ct)
   (aK (Mem.ld Ey ⟨q, ((i.toNat * 3) + 1), none⟩) .i64 fun vT =>
   aP Ey ⟨q, ((i.toNat * 3) + 1), none⟩ (.int .i64 (IntKind.wrap .i64 (vT + 1))) fun iS =>
   az (Mem.ld iS ⟨b, (0 + 6), none⟩) fun AQ nG Cu =>
   az (Mem.ld iS ⟨b, (0 + 6), none⟩) fun EE wj MO =>
   aK (Mem.ld iS ⟨b, ((0 + 1) + 3), none⟩) .i64 fun AN =>
   ((0 : Int) ≤ m) ∧
   ((m : Int) < ((nG : Nat) : Int)) ∧
   aE AQ fun Jn GC =>
   aP iS ⟨Jn, ((GC + ((Int.toNat m) * 3)) + 1), none⟩ (.int .i64 Fu) fun oL =>
   ((0 : Int) ≤ m) ∧
   ((m : Int) < ((wj : Nat) : Int)) ∧
   aE EE fun EF AR =>
   aP oL ⟨EF, ((AR + ((Int.toNat m) * 3)) + 2), none⟩ (.int .i64 AN) fun zu =>
   aP zu ⟨k1, 0, none⟩ (.int .i64 Di) fun EG =>
   aP EG ⟨k1, (0 + 1), none⟩ (.int .i64 m) fun wv =>
   aP wv ⟨k1, (0 + 2), none⟩ (.int .i64 Fu) fun Jk =>
   aP Jk ⟨k1, (0 + 3), none⟩ (.slice none 0 0) fun oK =>
   aK (Mem.ld oK ⟨k1, 0, none⟩) .i64 fun PO =>
   aK (Mem.ld oK ⟨k1, (0 + 1), none⟩) .i64 fun AO =>
   aK (Mem.ld oK ⟨k1, (0 + 2), none⟩) .i64 fun AP =>
   az (Mem.ld oK ⟨k1, (0 + 3), none⟩) fun PR EH Jl =>
   K (.agg #[(.int .i64 PO), (.int .i64 AO), (.int .i64 AP), (.slice PR EH Jl)]) oK))
  (∃ PS : List Value → Mem → Prop, (PS [(.int .i64 4), (.int .i64 PM), (.bool t57)] r7) ∧
  ∀ S0 : Nat → Value, ∀ EI : Int, ∀ zp : Int, ∀ t129 : Bool, ∀ tD : Mem, (PS [(.int .i64 EI), (.int .i64 zp), (.bool t129)] tD) → aS (!t129)
   (az (Mem.ld tD ⟨b, (0 + 6), none⟩) fun Gw Gx Gy =>
   aP tD ⟨q, ((i.toNat * 3) + 2), none⟩ (.int .i64 (-1)) fun PJ =>
   ((0 : Int) ≤ m) ∧
   ((m : Int) < ((Gx : Nat) : Int)) ∧
   aE Gw fun Cv tE =>
   aP PJ ⟨Cv, (tE + ((Int.toNat m) * 3)), none⟩ (.int .i64 (-1)) fun ML =>
   aP ML ⟨Cv, ((tE + ((Int.toNat m) * 3)) + 1), none⟩ (.int .i64 (-1)) fun WI =>
   aP WI ⟨Cv, ((tE + ((Int.toNat m) * 3)) + 2), none⟩ (.int .i64 0) fun zq =>
   aP zq ⟨k1, 0, none⟩ (.int .i64 6) fun WJ =>
   aP WJ ⟨k1, (0 + 1), none⟩ (.int .i64 m) fun MP =>
   aP MP ⟨k1, (0 + 2), none⟩ (.int .i64 (-1)) fun PT =>
   aP PT ⟨k1, (0 + 3), none⟩ (.slice none 0 0) fun AS =>
   aK (Mem.ld AS ⟨k1, 0, none⟩) .i64 fun PU =>
   aK (Mem.ld AS ⟨k1, (0 + 1), none⟩) .i64 fun PV =>
   aK (Mem.ld AS ⟨k1, (0 + 2), none⟩) .i64 fun EJ =>
   az (Mem.ld AS ⟨k1, (0 + 3), none⟩) fun WK PW WL =>
   K (.agg #[(.int .i64 PU), (.int .i64 PV), (.int .i64 EJ), (.slice WK PW WL)]) AS)
   (aK (Mem.ld tD ⟨q, ((i.toNat * 3) + 1), none⟩) .i64 fun PK =>
   aP tD ⟨q, ((i.toNat * 3) + 1), none⟩ (.int .i64 (IntKind.wrap .i64 (PK + 1))) fun AT =>
   az (Mem.ld AT ⟨b, (0 + 6), none⟩) fun PX PY PL =>
   az (Mem.ld AT ⟨b, (0 + 6), none⟩) fun Jo Jp Jq =>
   aK (Mem.ld AT ⟨b, ((0 + 1) + 3), none⟩) .i64 fun WM =>
   ((0 : Int) ≤ m) ∧
   ((m : Int) < ((PY : Nat) : Int)) ∧
   aE PX fun WN WO =>
   aP AT ⟨WN, ((WO + ((Int.toNat m) * 3)) + 1), none⟩ (.int .i64 zp) fun xK =>
   ((0 : Int) ≤ m) ∧
   ((m : Int) < ((Jp : Nat) : Int)) ∧
   aE Jo fun EK PZ =>
   aP xK ⟨EK, ((PZ + ((Int.toNat m) * 3)) + 2), none⟩ (.int .i64 WM) fun AU =>
   aP AU ⟨k1, 0, none⟩ (.int .i64 EI) fun P0 =>
   aP P0 ⟨k1, (0 + 1), none⟩ (.int .i64 m) fun P2 =>
   aP P2 ⟨k1, (0 + 2), none⟩ (.int .i64 zp) fun Cw =>
   aP Cw ⟨k1, (0 + 3), none⟩ (.slice none 0 0) fun AV =>
   aK (Mem.ld AV ⟨k1, 0, none⟩) .i64 fun P3 =>
   aK (Mem.ld AV ⟨k1, (0 + 1), none⟩) .i64 fun P4 =>
   aK (Mem.ld AV ⟨k1, (0 + 2), none⟩) .i64 fun P5 =>
   az (Mem.ld AV ⟨k1, (0 + 3), none⟩) fun WQ GD WR =>
   K (.agg #[(.int .i64 P3), (.int .i64 P4), (.int .i64 P5), (.slice WQ GD WR)]) AV))) Kp := by
 obtain ⟨m0, m1, i0, i1, YX, ht0, ht1, yf, hP, hP2⟩ := hk
 rw [← hi] at i0 i1 ht0 ht1
 have go : ∀ (z : Sc) (kind g : Int) (t : Bool) (M : Mem), Rdy R pa p b wb db a L' K m i q q2 k1 z kind g t M → _ := fun z kind g t M ⟨h, a1, a2, a3, a4, a5⟩ => NK h hap Ls a1 m0 a2 i0 a3 a4 a5
 refine NJ (i := i) (q := q) (a := a) (x := x) (b := b) (wb := wb) (db := db) h hap hl i0 i1 YX ht0 ?_
 clear h; intro M h
 refine ⟨_, _, rfl, ?_⟩
 dsimp only at k
 have ey : eE b wb db a (x.own i).1 = eE b wb db a x := TT
 have ep : bV a.lb (x.own i).1.ps = bV a.lb x.ps := by
  obtain ⟨lb, hlb, kG, hrow⟩ := rm (i := i) hl i0 i1
  exact By kG rfl rfl
 have el : (x.own i).1.ps.length = x.ps.length := by simp [Sc.own, Sc.dB]
 have et : ∀ j, 0 ≤ j → (aN (x.own i).1 j).turns = (aN x j).turns := fun j hj => NL i0 i1 hj
 have em : (x.own i).1.ms = x.ms := rfl
 have ew : (x.own i).1.w = x.w := rfl
 have ed : (x.own i).1.d = x.d := rfl
 rw [← ey, ← ep] at h
 have hR : Hp R (gI (eE b wb db a (x.own i).1) (x.own i).1.gl :: ay (bn pa p) wb (x.own i).1.w :: ay (cX .nilFunc) db (x.own i).1.d :: cy (some ⟨q, 0, none⟩) a.cp (bV a.lb (x.own i).1.ps) :: bp bO a.lb ((x.own i).1.ps.map dM.q) :: cH (some ⟨q2, 0, none⟩) a.cm (x.own i).1.ms :: pt k1 [.int .i64 0, .int .i64 0, .int .i64 0, .slice none 0 0] 43 :: L') M := h.sub bu
 clear h
 have h := hR
 clear hR
 have ec : (x.own i).1.c = x.c := rfl
 generalize hy : x.own i = r at h k ey ep el et em ew ed ec
 obtain ⟨y, v1, t1⟩ := r
 dsimp only at h k ey ep el et em ew ed ec ⊢
 have hti := et i i0
 have Vn : ∀ M, Hp R (gI (eE b wb db a y) y.gl :: ay (bn pa p) wb y.w :: ay (cX .nilFunc) db y.d :: cy (some ⟨q, 0, none⟩) a.cp (bV a.lb y.ps) :: bp bO a.lb (y.ps.map dM.q) :: cH (some ⟨q2, 0, none⟩) a.cm y.ms :: pt k1 [.int .i64 0, .int .i64 0, .int .i64 0, .slice none 0 0] 43 :: L') M → ¬ (t1 = false ∧ 1 < x.c.P) → Rdy R pa p b wb db a L' K m i q q2 k1 y 4 v1 t1 M := by
  intro M h hno
  rw [if_neg hno] at k
  exact ⟨h, by omega, by rw [em]; exact m1, by omega, by omega, k⟩
 cases t1 with
 | true =>
  refine aj ?_
  refine ⟨fun vs M => ∃ (z : Sc) (kind g : Int) (t : Bool), vs = [.int .i64 kind, .int .i64 g, .bool t] ∧ Rdy R pa p b wb db a L' K m i q q2 k1 z kind g t M, ⟨y, 4, v1, true, rfl, Vn M h (fun hc => by cases hc.1)⟩, ?_⟩
  clear h
  rintro _ n1 n2 t3 M ⟨z, kind, g, t, he, hz⟩
  simp only [List.cons.injEq, Value.int.injEq, Value.bool.injEq, and_true, true_and] at he
  obtain ⟨rfl, rfl, rfl⟩ := he
  exact go z n1 n2 t3 M hz
 | false =>
  refine ai ?_
  rw [sc_P h]
  refine cz ?_
  refine ⟨fun vs M => ∃ (z : Sc) (kind g : Int) (t : Bool), vs = [.int .i64 kind, .int .i64 g, .bool t] ∧ Rdy R pa p b wb db a L' K m i q q2 k1 z kind g t M, ?_, ?_⟩
  ·rw [ec]
   refine aJ.2 ⟨fun hgt => ?_, fun hle => ?_⟩
   ·rw [if_pos ⟨rfl, hgt⟩] at k
    rw [YW h]
    refine jB ?_
    refine cz ?_
    rw [ed] at k h
    replace h : Hp R (ay (cX .nilFunc) db x.d :: gI (eE b wb db a y) y.gl :: ay (bn pa p) wb y.w :: cy (some ⟨q, 0, none⟩) a.cp (bV a.lb y.ps) :: bp bO a.lb (y.ps.map dM.q) :: cH (some ⟨q2, 0, none⟩) a.cm y.ms :: pt k1 [.int .i64 0, .int .i64 0, .int .i64 0, .slice none 0 0] 43 :: L') M := h.sub bu
    refine rh h hd (by omega) yf ?_
    clear h
    have Ke := fun k' v => Bt (k := x.d.k) (kind := 2) hd.1 (Bs x.c.P) (k' := k') (v := v)
    have CJ : ∀ v, (x.d.draw 2 x.c.P).2 = .num v → 0 ≤ v ∧ v < x.c.P := by
     intro v hv
     unfold mj.draw at hv
     split at hv
     ·rename_i k' v' hn
      cases hv
      have := Ke k' _ hn
      have e : nN x.c.P = x.c.P := by unfold nN; rw [if_neg (by omega)]
      rw [e] at this
      exact this
     ·cases hv
    generalize xZ : x.d.draw 2 x.c.P = dd at k CJ
    obtain ⟨d', o⟩ := dd
    cases o with
    | dY l =>
     dsimp only at k CJ ⊢
     intro M h
     have hsc : eE b wb db a y = eE b wb db a { y with d := d' } := rfl
     rw [hsc] at h
     have h9 : Hp R (gI (eE b wb db a { y with d := d' }) y.gl :: ay (bn pa p) wb y.w :: ay (cX .nilFunc) db d' :: cy a.ap a.cp (bV a.lb y.ps) :: bp bO a.lb (y.ps.map dM.q) :: cH a.am a.cm y.ms :: pt k1 [.int .i64 0, .int .i64 0, .int .i64 0, .slice none 0 0] 43 :: L') M := by
      rw [show cy a.ap a.cp (bV a.lb y.ps) = cy (some ⟨q, 0, none⟩) a.cp (bV a.lb y.ps) from by rw [hap], show cH a.am a.cm y.ms = cH (some ⟨q2, 0, none⟩) a.cm y.ms from by rw [Ls]]
      exact h.sub bu
     exact k M (Hp.ck (ij (a := a) (x := { y with d := d' }) (by rw [el]; exact hl) h9))
    | num v =>
     dsimp only at k CJ ⊢
     obtain ⟨v0, v1'⟩ := CJ v rfl
     intro M h
     refine cz ?_
     have hsc : eE b wb db a y = eE b wb db a { y with d := d' } := rfl
     rw [hsc] at h
     generalize hyz : ({ y with d := d' } : Sc) = y2 at h k
     have p1 : y2.ps = y.ps := by rw [← hyz]
     have p2 : y2.ms = y.ms := by rw [← hyz]
     have p3 : y2.gl = y.gl := by rw [← hyz]
     have p4 : y2.w = y.w := by rw [← hyz]
     have p5 : y2.d = d' := by rw [← hyz]
     rw [← p1, ← p2, ← p3, ← p4, ← p5] at h
     replace h : Hp R (gI (eE b wb db a y2) y2.gl :: ay (bn pa p) wb y2.w :: ay (cX .nilFunc) db y2.d :: cy (some ⟨q, 0, none⟩) a.cp (bV a.lb y2.ps) :: bp bO a.lb (y2.ps.map dM.q) :: cH (some ⟨q2, 0, none⟩) a.cm y2.ms :: pt k1 [.int .i64 0, .int .i64 0, .int .i64 0, .slice none 0 0] 43 :: L') M := h.sub bu
     have kM : a.lb.length = y2.ps.length := by rw [p1, el]; exact hl
     have Qh : i < y2.ps.length := by rw [p1, el]; exact i1
     have Ix : v < y2.ps.length := by rw [p1, el]; omega
     have hm2 : m < y2.ms.length := by rw [p2, em]; exact m1
     have ht2 : ∀ j, aN y2 j = aN y j := fun j => by unfold aN; rw [p1]
     obtain ⟨lbi, hlbi, hpri, hrowi⟩ := rm (i := i) kM i0 Qh
     obtain ⟨lbv, YY, Q1, hrowv⟩ := rm (i := v) kM v0 Ix
     refine gQ (Src.at (Src.row (A := some ⟨q, 0, none⟩) : Src R _ _ (nO.cells (bV a.lb y2.ps))) h (i := i.toNat) (j := 0) hrowi rfl (by show _ = 0 + (i.toNat * 3 + 0); simp)) ?_
     rw [Lt h]
     refine aO ⟨v0, Ix, ?_⟩
     rw [hap]
     refine bg ?_
     rw [Nat.zero_add]
     refine gQ (Src.at (Src.row (A := some ⟨q, 0, none⟩) : Src R _ _ (nO.cells (bV a.lb y2.ps))) h (i := v.toNat) (j := 0) hrowv rfl (by show _ = 0 + (v.toNat * 3 + 0); simp)) ?_
     by_cases hvi : v = i
     ·subst hvi
      rw [hlbi] at YY
      cases YY
      refine yd ?_
      refine ⟨_, _, rfl, ?_⟩
      simp only [if_true] at k
      exact ⟨y2, 5, -1, false, rfl, h, kM, hm2, Qh, by rw [ht2]; omega, k⟩
     ·simp only [if_neg hvi] at k
      have hqi : (y2.ps.map dM.q)[i.toNat]? = some (aN y2 i).q := by rw [List.getElem?_map, hpri]; rfl
      have hqv : (y2.ps.map dM.q)[v.toNat]? = some (aN y2 v).q := by rw [List.getElem?_map, Q1]; rfl
      obtain ⟨X, hX, DL⟩ := h.Qg bO (i := i.toNat) (j := v.toNat) (by omega) hlbi hqi YY hqv
      clear h
      refine G7 hX ?_
      clear hX; intro t M g1 g2 h
      refine ⟨_, _, rfl, ?_⟩
      have hte : t = kB (aN y2 v).q ((aN y2 i).q.eB (aN y2 v).q).2.2 := by
       unfold kB
       by_cases hc : ((aN y2 i).q.eB (aN y2 v).q).2.2 ≠ -1 ∨ (aN y2 v).q.l ≠ []
       ·rw [g2 hc]
        rcases hc with hc | hc
        ·simp [hc]
        ·cases hq : (aN y2 v).q.l with
         | nil => exact absurd hq hc
         | cons _ _ => simp
       ·have YZ : ((aN y2 i).q.eB (aN y2 v).q).2.2 = -1 := Decidable.byContradiction fun e => hc (.inl e)
        have KX : (aN y2 v).q.l = [] := by
         cases hq : (aN y2 v).q.l with
         | nil => rfl
         | cons _ _ => exact absurd (.inr (by rw [hq]; simp)) hc
        rw [g1 YZ KX, YZ, KX]; rfl
      subst hte
      replace h := DL (L2 := _) h
      generalize hs : (aN y2 i).q.eB (aN y2 v).q = s at h k ⊢
      obtain ⟨s1, s2, s3⟩ := s
      dsimp only at h k ⊢
      have e1 : bV a.lb ((y2.dB i { aN y2 i with q := s1 }).dB v { aN y2 v with q := s2 }).ps = bV a.lb y2.ps := by
       show bV a.lb ((y2.ps.set i.toNat _).set v.toNat _) = _
       rw [By (ps := y2.ps.set i.toNat { aN y2 i with q := s1 }) (j := v.toNat) (pr := aN y2 v) (y := { aN y2 v with q := s2 }) (by rw [List.getElem?_set_ne (by omega)]; exact Q1) rfl rfl]
       exact By hpri rfl rfl
      have e2 : ((y2.dB i { aN y2 i with q := s1 }).dB v { aN y2 v with q := s2 }).ps.map dM.q = ((y2.ps.map dM.q).set i.toNat s1).set v.toNat s2 := by
       simp [Sc.dB, List.map_set]
      have e3 : eE b wb db a ((y2.dB i { aN y2 i with q := s1 }).dB v { aN y2 v with q := s2 }) = eE b wb db a y2 := by rw [Bw, Bw]
      rw [← e1, ← e2, ← e3] at h
      have e4 : (aN ((y2.dB i { aN y2 i with q := s1 }).dB v { aN y2 v with q := s2 }) i).turns = (aN y2 i).turns := by
       rw [Hx v0 (by rw [ru]; exact Ix) i0, if_neg hvi, Hx i0 Qh i0, if_pos rfl]
      refine ⟨(y2.dB i { aN y2 i with q := s1 }).dB v { aN y2 v with q := s2 }, 5, s3, _, rfl, h.sub bu, ?_, hm2, ?_, ?_, k⟩
      ·rw [ru, ru]; exact kM
      ·rw [ru, ru]; exact Qh
      ·rw [e4, ht2]; omega
   ·exact ⟨y, 4, v1, false, rfl, Vn M h (fun hc => hle hc.2)⟩
  ·clear h
   rintro _ n1 n2 t3 M ⟨z, kind, g, t, he, hz⟩
   simp only [List.cons.injEq, Value.int.injEq, Value.bool.injEq, and_true, true_and] at he
   obtain ⟨rfl, rfl, rfl⟩ := he
   exact go z n1 n2 t3 M hz
end
def zB (l : List PanicEntry) : List PanicEntry := l ++ l.map fun e => { e with recovered := true }
theorem DM : DF NH (zB NH) := fun b v M K Kp h => Nb h
theorem Hy {a k n q v : Int} : DF (ZQ a k n q v) (zB (ZQ a k n q v)) := fun b w M K Kp h => EP h
theorem Q2 {k k' : gV} {kind m : Int} {l : List PanicEntry} (h : k.next kind m = (k', .dY l)) : k' = k ∧ DF l (zB l) := by
 cases k with
 | zA l i =>
  unfold gV.next at h
  dsimp only at h
  split at h
  ·cases h; exact ⟨rfl, DM⟩
  ·cases h
 | tape l i =>
  unfold gV.next at h
  dsimp only at h
  split at h
  ·cases h; exact ⟨rfl, DM⟩
  ·split at h
   ·cases h; exact ⟨rfl, Hy⟩
   ·split at h
    ·cases h; exact ⟨rfl, Hy⟩
    ·cases h
theorem Hz {x x' : mj} {kind n : Int} {l : List PanicEntry} (h : x.draw kind n = (x', .dY l)) : x' = x ∧ DF l (zB l) := by
 unfold mj.draw at h
 split at h
 ·cases h
 ·rename_i k' l' hn
  cases h
  obtain ⟨e, h2⟩ := Q2 hn
  subst e
  exact ⟨rfl, h2⟩
theorem oV {x : mj} {kind n : Int} (h : x.k.Ok) : (x.draw kind n).1.k.Ok := by
 unfold mj.draw
 have := TR (kind := kind) (m := nN n) h
 split
 ·rename_i k' v hn; rw [hn] at this; exact this
 ·rename_i k' v hn; rw [hn] at this; exact this
theorem ry {x x' : mj} {kind n v : Int} (hok : x.k.Ok) (h : x.draw kind n = (x', .num v)) : 0 ≤ v ∧ v < nN n ∧ x'.taken = x.taken ++ [(kind, v)] := by
 unfold mj.draw at h
 split at h
 ·rename_i k' v' hn
  cases h
  have := Bt hok (Bs n) hn
  exact ⟨this.1, this.2, rfl⟩
 ·cases h
def aU (m : Int) (x : Sc) (r : Int) : Sc :=
 let i := (aC x m).p
 { x.dB i { aN x i with q := ((aN x i).q.ready r x.gl).1 } with gl := ((aN x i).q.ready r x.gl).2.1 }
def Sc.rz (x : Sc) (m g : Int) (keep : Bool) (ready : List Int) : Sc × Ev :=
 if keep = true ∧ (aC x m).left - 1 ≠ 0 then (x.jM m { aC x m with left := (aC x m).left - 1 }, ⟨7, m, g, ready⟩)
 else ({ x.jM m { aC x m with left := (aC x m).left - 1, g := -1 } with gl := if (aq x.w g).st = 1 then x.gl ++ [g] else x.gl }, ⟨7, m, g, ready⟩)
def Bz (p : cv) (x : Sc) (m : Int) : Prop := 0 ≤ m ∧ m < x.ms.length ∧ 0 ≤ (aC x m).p ∧ (aC x m).p < x.ps.length ∧ x.gl.length ≤ 1000000 ∧ x.d.taken.length < 100000000 ∧ 1 ≤ (aC x m).left ∧ (aC x m).left < 1000000000 ∧ 0 ≤ (aC x m).g
instance (p : cv) (x : Sc) (m : Int) : Decidable (Bz p x m) := by unfold Bz; infer_instance
def Vo : Option (Int × Int) → Bool
 | none => true
 | some (_, n) => decide (n < 9223372036854775808)
def jr (x : Sc) (m g : Int) (d : mj) (y : Wd) (rest : Bool) : Option (Sc × nR) :=
 if y.ready.length ≤ 10000 ∧ g < y.gs.length then
  some (((y.ready.foldl (aU m) { x with w := y, d := d }).rz m g (jo y g rest) y.ready).1, .ev ((y.ready.foldl (aU m) { x with w := y, d := d }).rz m g (jo y g rest) y.ready).2)
 else none
def gp (d : mj) : Option (Int × Int) → mj × kW
 | none => (d, .num 0)
 | some (k, n) => d.draw k n
def Sc.run (p : cv) (x : Sc) (m : Int) : Option (Sc × nR) :=
 if Bz p x m then
  if Vo (asks p { x.w with ready := [] } (aC x m).g) then
   match yX p x.w (aC x m).g (gp x.d (asks p { x.w with ready := [] } (aC x m).g)).2 with
   | none => none
   | some (.dY l y, _) => some ({ x with w := y, d := (gp x.d (asks p { x.w with ready := [] } (aC x m).g)).1 }, .dY (zB l))
   | some (.on y, rest) => jr x m (aC x m).g (gp x.d (asks p { x.w with ready := [] } (aC x m).g)).1 y rest
   | some (.fM n y, rest) => jr x m (aC x m).g (gp x.d (asks p { x.w with ready := [] } (aC x m).g)).1 { y with end_ := 2, code := n } rest
  else none
 else none
def E6 : Sc × nR → Sc × nR
 | (x, .ev e) => ({ x with steps := x.steps + 1 }, .ev e)
 | (x, .dY l) => (x, .dY l)
def zY (x : Sc) : Prop := x.w.gs.length ≤ 1000000 ∧ x.c.M = x.ms.length ∧ x.ps.length ≤ 1000000 ∧ x.ms.length ≤ 1000000 ∧ x.d.taken.length < 10000000 ∧ 0 ≤ x.steps ∧ x.steps < 1000000000
instance (x : Sc) : Decidable (zY x) := by unfold zY; infer_instance
def Sc.act (p : cv) (x : Sc) (m : Int) : Option (Sc × nR) :=
 if m = x.c.M then (if Bv x then some (x.tick.1, .ev x.tick.2) else none)
 else if (aC x m).p = -1 then some ((x.hold m).1, .ev (x.hold m).2)
 else if (aC x m).g = -1 then (if ye x m then some (x.find m) else none)
 else x.run p m
def Sc.step (p : cv) (x : Sc) : Option (Sc × nR) :=
 if zY x then
  if x.status ≠ 0 then some (x, .ev ⟨0, 0, 0, []⟩)
  else match x.d.draw 1 (x.c.M + 1) with
   | (d', .dY l) => some ({ x with d := d' }, .dY l)
   | (d', .num m) => (Sc.act p { x with d := d' } m).map E6
 else none
section
variable {R : Mem} {L L' L2 : List HP} {M : Mem} {K : Value → Mem → Prop} {Kp : List PanicEntry → Mem → Prop} {pa : PA} {p : cv} {b wb db : Nat} {x : Sc} {m i : Int}
theorem Ki (h : Hp R L M) [o : lX b L pa p wb db x L'] (hk : ye x m) (hd : x.d.k.Ok)
  (k : match (x.find m).2 with
   | .ev e => ∀ M', Hp R (ay (c9 pa p wb db) b (x.find m).1 :: L') M' → K (Kf e none 0) M'
   | .dY l => ∀ M', Hp R (ay (c9 pa p wb db) b (x.find m).1 :: L') M' → Kp l M') : aa Tryz.prog 110 #[.pointer (some ⟨b, 0, none⟩), .int .i64 m] M K Kp := by
 refine tC ?_
 have hk' := hk
 obtain ⟨m0, m1, i0, i1, YX, ht0, ht1, yf, hP, hP2⟩ := hk'
 have BA : x.d.Ok := ⟨hd, by omega⟩
 refine ae h ?_
 clear h
 intro k1 M h
 have h' := fA h (b := b)
 clear h
 obtain ⟨a, hl, h⟩ := h'
 obtain ⟨lb, hlb, kG, hrow⟩ := rm (i := (aC x m).p) hl i0 i1
 have nS := rq m0 m1
 have m2 : m.toNat < x.ms.length := by omega
 obtain ⟨q, hq⟩ := h.bF (A := a.ap) (l := bV a.lb x.ps) (by rw [kA hl]; omega) (by decide)
 obtain ⟨q2, oa⟩ := h.bF (A := a.am) (l := x.ms) (by omega) (by decide)
 replace h : Hp R (gI (eE b wb db a x) x.gl :: ay (bn pa p) wb x.w :: ay (cX .nilFunc) db x.d :: cy (some ⟨q, 0, none⟩) a.cp (bV a.lb x.ps) :: bp bO a.lb (x.ps.map dM.q) :: cH (some ⟨q2, 0, none⟩) a.cm x.ms :: pt k1 [.int .i64 0, .int .i64 0, .int .i64 0, .slice none 0 0] 43 :: L') M := by
  unfold gn at h
  rw [show cy a.ap a.cp (bV a.lb x.ps) = cy (some ⟨q, 0, none⟩) a.cp (bV a.lb x.ps) from by rw [hq], show cH a.am a.cm x.ms = cH (some ⟨q2, 0, none⟩) a.cm x.ms from by rw [oa]] at h
  exact h.sub (by repeat (first | exact .refl | refine .cons (by repeat (first | exact .here | apply cZ.there)) ?_ | apply Sub.drop))
 rw [Lt h]
 refine aO ?_
 rw [y3 h]
 refine aO ⟨m0, m1, ?_⟩
 rw [oa]
 refine bg ?_
 refine aR (Src.at (h.src (A := some ⟨q2, 0, none⟩)) h (i := m.toNat) (j := 0) nS rfl (by show _ = 0 + (m.toNat * 3 + 0); simp)) ?_
 refine ⟨i0, i1, ?_⟩
 rw [hq]
 refine bg ?_
 refine aO ⟨m0, m1, bg ?_⟩
 refine aR (Src.at (h.src (A := some ⟨q2, 0, none⟩)) h (i := m.toNat) (j := 2) nS rfl (by show _ = 0 + (m.toNat * 3 + 2); omega)) ?_
 simp only [Nat.zero_add]
 have hno : ¬ (0 < (aC x m).left ∧ (aN x (aC x m).p).q.next ≠ -1) → (let y := (x.own (aC x m).p).1
   if (x.own (aC x m).p).2.2 = false ∧ 1 < x.c.P then match y.d.draw 2 x.c.P with
    | (d', .dY l) => ∀ M', Hp R (ay (c9 pa p wb db) b { y with d := d' } :: L') M' → Kp l M'
    | (d', .num v) =>
     let y := { y with d := d' }
     let s := (aN y (aC x m).p).q.eB (aN y v).q
     let z := if v = (aC x m).p then y else (y.dB (aC x m).p { aN y (aC x m).p with q := s.1 }).dB v { aN y v with q := s.2.1 }
     let r := if v = (aC x m).p then (-1, false) else (s.2.2, kB (aN y v).q s.2.2)
     ∀ M', Hp R (ay (c9 pa p wb db) b (z.bU m (aC x m).p 5 r.1 r.2).1 :: L') M' → K (Kf (z.bU m (aC x m).p 5 r.1 r.2).2 none 0) M'
   else ∀ M', Hp R (ay (c9 pa p wb db) b (y.bU m (aC x m).p 4 (x.own (aC x m).p).2.1 (x.own (aC x m).p).2.2).1 :: L') M' → K (Kf (y.bU m (aC x m).p 4 (x.own (aC x m).p).2.1 (x.own (aC x m).p).2.2).2 none 0) M') := by
  intro hn
  unfold Sc.find at k
  dsimp only at k ⊢
  rw [if_neg hn] at k
  split
  ·rename_i hc
   rw [if_pos hc] at k
   split
   ·rename_i d' l xZ
    rw [xZ] at k
    exact k
   ·rename_i d' v xZ
    rw [xZ] at k
    dsimp only at k ⊢
    by_cases hv : v = (aC x m).p
    ·simp only [if_pos hv] at k ⊢
     exact k
    ·simp only [if_neg hv] at k ⊢
     exact k
  ·rename_i hc
   rw [if_neg hc] at k
   exact k
 refine aJ.2 ⟨fun hgt => ?_, fun hle => ?_⟩
 ·refine gQ (Src.at (h.src (A := some ⟨q, 0, none⟩)) h (i := (aC x m).p.toNat) (j := 0) hrow rfl (by show _ = 0 + ((aC x m).p.toNat * 3 + 0); simp)) ?_
  have hqi : (x.ps.map dM.q)[(aC x m).p.toNat]? = some (aN x (aC x m).p).q := by rw [List.getElem?_map, kG]; rfl
  have h3 := h.cK bO hlb hqi
  refine Bf h3 ?_
  refine cz ?_
  refine ⟨fun vs M => vs = [] ∧ (aN x (aC x m).p).q.next = -1 ∧ Hp R (gI (eE b wb db a x) x.gl :: ay (bn pa p) wb x.w :: ay (cX .nilFunc) db x.d :: cy (some ⟨q, 0, none⟩) a.cp (bV a.lb x.ps) :: bp bO a.lb (x.ps.map dM.q) :: cH (some ⟨q2, 0, none⟩) a.cm x.ms :: pt k1 [.int .i64 0, .int .i64 0, .int .i64 0, .slice none 0 0] 43 :: L') M, ?_, ?_⟩
  ·refine fj.2 ⟨fun hne => ?_, fun heq => ⟨rfl, by simpa using heq, h⟩⟩
   clear h3
   unfold Sc.find at k
   dsimp only at k
   rw [if_pos ⟨by omega, hne⟩] at k
   dsimp only at k
   refine gQ (Src.at (h.src (A := some ⟨q, 0, none⟩)) h (i := (aC x m).p.toNat) (j := 0) hrow rfl (by show _ = 0 + ((aC x m).p.toNat * 3 + 0); simp)) ?_
   rw [show M.ld ⟨b, 6, none⟩ = some (.slice a.am x.ms.length a.cm) from y3 h]
   refine aO ?_
   replace h := h.cK bO hlb hqi
   refine DA h (b := lb) ?_
   clear h; intro t M _ _ h
   refine ⟨_, _, rfl, ?_⟩
   replace h := h.eF bO lb hlb (by rw [List.length_map]; omega)
   replace h : Hp R (gI (eE b wb db a x) x.gl :: ay (bn pa p) wb x.w :: ay (cX .nilFunc) db x.d :: cy (some ⟨q, 0, none⟩) a.cp (bV a.lb x.ps) :: bp bO a.lb ((x.ps.map dM.q).set (aC x m).p.toNat (aN x (aC x m).p).q.get.1) :: cH (some ⟨q2, 0, none⟩) a.cm x.ms :: pt k1 [.int .i64 0, .int .i64 0, .int .i64 0, .slice none 0 0] 43 :: L') M := h.sub (by repeat (first | exact .refl | refine .cons (by repeat (first | exact .here | apply cZ.there)) ?_ | apply Sub.drop))
   refine ⟨y3 h, m0, m1, ?_⟩
   rw [oa]
   refine bg ?_
   refine iL (E := fz) (a' := ⟨(aC x m).p, (aN x (aC x m).p).q.get.2, (aC x m).left⟩) m.toNat 1 h nS (by decide) rfl (by show _ = m.toNat * 3 + 1; omega) ?_
   clear h; intro M h
   replace h : Hp R (gI (eE b wb db a x) x.gl :: ay (bn pa p) wb x.w :: ay (cX .nilFunc) db x.d :: cy (some ⟨q, 0, none⟩) a.cp (bV a.lb x.ps) :: bp bO a.lb ((x.ps.map dM.q).set (aC x m).p.toNat (aN x (aC x m).p).q.get.1) :: cH (some ⟨q2, 0, none⟩) a.cm (x.ms.set m.toNat ⟨(aC x m).p, (aN x (aC x m).p).q.get.2, (aC x m).left⟩) :: pt k1 [.int .i64 0, .int .i64 0, .int .i64 0, .slice none 0 0] 43 :: L') M := h.sub (by repeat (first | exact .refl | refine .cons (by repeat (first | exact .here | apply cZ.there)) ?_ | apply Sub.drop))
   refine ⟨by have := y3 h; rw [oa] at this; exact this, ?_⟩
   rw [show M.ld ⟨b, 6, none⟩ = some (.slice a.am x.ms.length a.cm) from y3 h, oa]
   refine aO ⟨m0, m1, bg ?_⟩
   refine aR (Src.at (h.src (A := some ⟨q2, 0, none⟩)) h (i := m.toNat) (j := 1) (a := ⟨(aC x m).p, (aN x (aC x m).p).q.get.2, (aC x m).left⟩) (by simp [m2]) rfl (by show _ = 0 + (m.toNat * 3 + 1); omega)) ?_
   dsimp only
   refine nQ h ?_
   clear h; intro M h
   refine rj h ?_
   have e1 : bV a.lb (x.dB (aC x m).p { aN x (aC x m).p with q := (aN x (aC x m).p).q.get.1 }).ps = bV a.lb x.ps := By kG rfl rfl
   have e2 : ((x.dB (aC x m).p { aN x (aC x m).p with q := (aN x (aC x m).p).q.get.1 }).ps).map dM.q = (x.ps.map dM.q).set (aC x m).p.toNat (aN x (aC x m).p).q.get.1 := by simp [Sc.dB, List.map_set]
   have h9 : Hp R (gI (eE b wb db a ((x.dB (aC x m).p { aN x (aC x m).p with q := (aN x (aC x m).p).q.get.1 }).jM m { aC x m with g := (aN x (aC x m).p).q.get.2 })) x.gl :: ay (bn pa p) wb x.w :: ay (cX .nilFunc) db x.d :: cy a.ap a.cp (bV a.lb ((x.dB (aC x m).p { aN x (aC x m).p with q := (aN x (aC x m).p).q.get.1 }).jM m { aC x m with g := (aN x (aC x m).p).q.get.2 }).ps) :: bp bO a.lb (((x.dB (aC x m).p { aN x (aC x m).p with q := (aN x (aC x m).p).q.get.1 }).jM m { aC x m with g := (aN x (aC x m).p).q.get.2 }).ps.map dM.q) :: cH a.am a.cm (x.ms.set m.toNat ⟨(aC x m).p, (aN x (aC x m).p).q.get.2, (aC x m).left⟩) :: L') M := by
    rw [Bx, Bw]
    show Hp R (_ :: _ :: _ :: cy a.ap a.cp (bV a.lb (x.dB (aC x m).p { aN x (aC x m).p with q := (aN x (aC x m).p).q.get.1 }).ps) :: bp bO a.lb ((x.dB (aC x m).p { aN x (aC x m).p with q := (aN x (aC x m).p).q.get.1 }).ps.map dM.q) :: _) M
    rw [e1, e2, hq, oa]
    exact h.sub (by repeat (first | exact .refl | refine .cons (by repeat (first | exact .here | apply cZ.there)) ?_ | apply Sub.drop))
   exact k _ (ij (a := a) (x := (x.dB (aC x m).p { aN x (aC x m).p with q := (aN x (aC x m).p).q.get.1 }).jM m { aC x m with g := (aN x (aC x m).p).q.get.2 }) (by simpa [Sc.dB, Sc.jM] using hl) h9)
  ·clear h h3
   rintro _ M ⟨_, hnx, h⟩
   exact DK h hq oa hl hk rfl BA (hno (fun hc => hc.2 hnx))
 ·refine ⟨fun vs M => vs = [] ∧ Hp R (gI (eE b wb db a x) x.gl :: ay (bn pa p) wb x.w :: ay (cX .nilFunc) db x.d :: cy (some ⟨q, 0, none⟩) a.cp (bV a.lb x.ps) :: bp bO a.lb (x.ps.map dM.q) :: cH (some ⟨q2, 0, none⟩) a.cm x.ms :: pt k1 [.int .i64 0, .int .i64 0, .int .i64 0, .slice none 0 0] 43 :: L') M, ⟨rfl, h⟩, ?_⟩
  clear h
  rintro _ M ⟨_, h⟩
  exact DK h hq oa hl hk rfl BA (hno (fun hc => hle (by omega)))
end
theorem DN {p : cv} {x : Wd} {k v : Int} {l : List PanicEntry} {y : Wd} : x.put p k v ≠ .dY l y := by
 unfold Wd.put; dsimp only; split <;> simp
theorem Kj {p : cv} {x : Wd} {g : Int} {i : cQ} {l : List PanicEntry} {y : Wd} (h : oS p x g i = some (.dY l y)) : False := by
 unfold oS at h
 by_cases e : i.op = 10
 ·rw [if_pos e] at h; obtain ⟨_, h⟩ := di h; cases h
 rw [if_neg e] at h; clear e
 by_cases e : i.op = 11
 ·rw [if_pos e] at h; obtain ⟨_, h⟩ := di h; unfold Wd.spawn at h; split at h <;> cases h
 rw [if_neg e] at h; clear e
 by_cases e : i.op = 13
 ·rw [if_pos e] at h; obtain ⟨_, h⟩ := di h
  unfold Wd.send at h
  split at h
  ·cases h
  ·rename_i hp; exact DN hp
  ·cases h
  ·cases h
 rw [if_neg e] at h; clear e
 by_cases e : i.op = 14
 ·rw [if_pos e] at h; obtain ⟨_, h⟩ := di h; cases h
 rw [if_neg e] at h; clear e
 by_cases e : i.op = 15
 ·rw [if_pos e] at h; obtain ⟨_, h⟩ := di h; unfold Wd.shut at h; dsimp only at h; split at h
  ·cases h
  ·split at h <;> cases h
 rw [if_neg e] at h; clear e
 by_cases e : i.op = 20
 ·rw [if_pos e] at h; obtain ⟨_, h⟩ := di h; unfold Wd.emit at h; split at h <;> cases h
 rw [if_neg e] at h; clear e
 by_cases e : i.op = 9
 ·rw [if_pos e] at h; obtain ⟨_, h⟩ := di h; unfold Wd.call at h; split at h <;> cases h
 rw [if_neg e] at h; clear e
 by_cases e : i.op = 12
 ·rw [if_pos e] at h; cases h
 rw [if_neg e] at h; clear e
 by_cases e : i.op = 17
 ·rw [if_pos e] at h; obtain ⟨_, h⟩ := di h; cases h
 rw [if_neg e] at h; clear e
 by_cases e : i.op = 18
 ·rw [if_pos e] at h; obtain ⟨_, h⟩ := di h; cases h
 rw [if_neg e] at h; clear e
 by_cases e : i.op = 19
 ·rw [if_pos e] at h; obtain ⟨_, h⟩ := di h; unfold Wd.unlock at h; split at h
  ·cases h
  ·split at h <;> cases h
 rw [if_neg e] at h; clear e
 by_cases e : i.op = 22
 ·rw [if_pos e] at h; cases h
 rw [if_neg e] at h; cases h
theorem DO {p : cv} {x : Wd} {g : Int} {d : kW} {l : List PanicEntry} {y : Wd} {rest : Bool} (h : yX p x g d = some (.dY l y, rest)) : d = .dY l ∧ y = { x with ready := [] } := by
 unfold yX at h
 dsimp only at h
 split at h
 ·split at h
  ·split at h
   ·cases h
   ·split at h
    ·cases h
    ·split at h
     ·split at h <;> cases h
     ·split at h
      ·split at h
       ·split at h
        ·rename_i hc
         simp only [Option.some.injEq, Prod.mk.injEq] at h
         obtain ⟨h, _⟩ := h
         unfold Wd.choose at h
         split at h
         ·cases h
         ·cases d with
          | dY l' => cases h; exact ⟨rfl, rfl⟩
          | num v =>
           dsimp only at h
           unfold Wd.qY at h
           dsimp only at h
           split at h
           ·split at h
            ·cases h
            ·rename_i hp; exact absurd hp DN
            ·cases h
           ·cases h
        ·cases h
       ·cases h
      ·split at h
       ·split at h
        ·split at h
         ·simp only [Option.some.injEq, Prod.mk.injEq] at h
          obtain ⟨h, _⟩ := h
          cases d with
          | dY l' => cases h; exact ⟨rfl, rfl⟩
          | num v => cases h
         ·cases h
        ·cases h
       ·split at h
        ·cases h
        ·rename_i r hd
         split at h
         ·simp only [Option.some.injEq, Prod.mk.injEq] at h
          obtain ⟨h, _⟩ := h
          subst h
          exact (Kj hd).elim
         ·cases h
  ·cases h
 ·cases h
theorem NM {q : Loc} {r : Int} {gl : List Int} : (q.ready r gl).2.1.length ≤ gl.length + q.l.length + 1 := by
 unfold Loc.ready
 split
 ·dsimp only; omega
 ·unfold Loc.put
  dsimp only
  split
  ·dsimp only; omega
  ·dsimp only; simp; omega
section
variable {R : Mem} {L L' L2 : List HP} {M : Mem} {K : Value → Mem → Prop} {Kp : List PanicEntry → Mem → Prop} {pa : PA} {p : cv} {b wb db : Nat} {x : Sc} {m i : Int} {a : SA}
abbrev BB (ei : Nat) (kp : Bool) (A : Option Addr) (n c : Nat) : HP := pt ei [.bool kp, .slice A n c] 250
theorem HA {q2 k1 ei c : Nat} {g : Int} {kp : Bool} {A : Option Addr} {rd : List Int}
  (h : Hp R (gI (eE b wb db a x) x.gl :: ay (bn pa p) wb x.w :: ay (cX .nilFunc) db x.d :: cy a.ap a.cp (bV a.lb x.ps) :: bp bO a.lb (x.ps.map dM.q) :: cH (some ⟨q2, 0, none⟩) a.cm (x.ms.set m.toNat { aC x m with left := (aC x m).left - 1 }) :: BB ei kp A rd.length c :: pt k1 [.int .i64 0, .int .i64 0, .int .i64 0, .slice none 0 0] 43 :: L') M)
  (Ls : a.am = some ⟨q2, 0, none⟩) (hl : a.lb.length = x.ps.length) (m0 : 0 ≤ m) (m1 : m < x.ms.length) (g0 : 0 ≤ g) (g1 : g < x.w.gs.length) (YX : x.gl.length ≤ 100000000)
  (k : ∀ M', Hp R (ay (c9 pa p wb db) b { x.jM m { aC x m with left := (aC x m).left - 1, g := -1 } with gl := if (aq x.w g).st = 1 then x.gl ++ [g] else x.gl } :: L') M' → K (Kf ⟨7, m, g, rd⟩ A c) M') :
  aP M ⟨q2, ((m.toNat * 3) + 1), none⟩ (.int .i64 (-1)) fun uF =>
  cw (Mem.ld uF ⟨b, 0, none⟩) fun N7 =>
  aa Tryz.prog 119 #[(.pointer N7), (.int .i64 g)] uF (fun Mv B5 =>
  aK (some Mv) .i64 fun Cr =>
  aS (Cr == 1)
   (aX B5 (.cells #[(.int .i64 g)] 3 (0, 0)) fun lU Je =>
   aa Tryz.prog 58 #[(.pointer (some ⟨b, (0 + 7), none⟩)), (.slice (some ⟨lU, 0, none⟩) 1 1)] Je (fun MM r7 =>
   (MM = (.tuple #[])) ∧
   az (Mem.ld r7 ⟨ei, (0 + 1), none⟩) fun Ps xF Gg =>
   aP r7 ⟨k1, 0, none⟩ (.int .i64 7) fun B7 =>
   aP B7 ⟨k1, (0 + 1), none⟩ (.int .i64 m) fun zj =>
   aP zj ⟨k1, (0 + 2), none⟩ (.int .i64 g) fun Dh =>
   aP Dh ⟨k1, (0 + 3), none⟩ (.slice Ps xF Gg) fun vp =>
   aK (Mem.ld vp ⟨k1, 0, none⟩) .i64 fun Ck =>
   aK (Mem.ld vp ⟨k1, (0 + 1), none⟩) .i64 fun n64 =>
   aK (Mem.ld vp ⟨k1, (0 + 2), none⟩) .i64 fun zf =>
   az (Mem.ld vp ⟨k1, (0 + 3), none⟩) fun PN xd K3 =>
   K (.agg #[(.int .i64 Ck), (.int .i64 n64), (.int .i64 zf), (.slice PN xd K3)]) vp) Kp)
   (az (Mem.ld B5 ⟨ei, (0 + 1), none⟩) fun A69 zn Gr =>
   aP B5 ⟨k1, 0, none⟩ (.int .i64 7) fun UO =>
   aP UO ⟨k1, (0 + 1), none⟩ (.int .i64 m) fun B8 =>
   aP B8 ⟨k1, (0 + 2), none⟩ (.int .i64 g) fun Gp =>
   aP Gp ⟨k1, (0 + 3), none⟩ (.slice A69 zn Gr) fun xJ =>
   aK (Mem.ld xJ ⟨k1, 0, none⟩) .i64 fun KV =>
   aK (Mem.ld xJ ⟨k1, (0 + 1), none⟩) .i64 fun Di =>
   aK (Mem.ld xJ ⟨k1, (0 + 2), none⟩) .i64 fun Fu =>
   az (Mem.ld xJ ⟨k1, (0 + 3), none⟩) fun RN Ic RO =>
   K (.agg #[(.int .i64 KV), (.int .i64 Di), (.int .i64 Fu), (.slice RN Ic RO)]) xJ)) Kp := by
 have nS := rq m0 m1
 have m2 : m.toNat < x.ms.length := by omega
 refine iL (E := fz) (a := { aC x m with left := (aC x m).left - 1 }) (a' := ⟨(aC x m).p, -1, (aC x m).left - 1⟩) m.toNat 1 h (by simp [m2]) (by decide) rfl (by show _ = m.toNat * 3 + 1; omega) ?_
 clear h; intro M h
 rw [jf] at h
 replace h : Hp R (gI (eE b wb db a x) x.gl :: ay (bn pa p) wb x.w :: ay (cX .nilFunc) db x.d :: cy a.ap a.cp (bV a.lb x.ps) :: bp bO a.lb (x.ps.map dM.q) :: cH (some ⟨q2, 0, none⟩) a.cm (x.ms.set m.toNat ⟨(aC x m).p, -1, (aC x m).left - 1⟩) :: BB ei kp A rd.length c :: pt k1 [.int .i64 0, .int .i64 0, .int .i64 0, .slice none 0 0] 43 :: L') M := h.sub bu
 rw [sc_w h]
 refine jB ?_
 refine wO h g0 g1 ?_
 refine cz ?_
 have fin : ∀ (NN : List Int) (M : Mem), NN = (if (aq x.w g).st = 1 then x.gl ++ [g] else x.gl) → Hp R (gI (eE b wb db a x) NN :: ay (bn pa p) wb x.w :: ay (cX .nilFunc) db x.d :: cy a.ap a.cp (bV a.lb x.ps) :: bp bO a.lb (x.ps.map dM.q) :: cH (some ⟨q2, 0, none⟩) a.cm (x.ms.set m.toNat ⟨(aC x m).p, -1, (aC x m).left - 1⟩) :: BB ei kp A rd.length c :: pt k1 [.int .i64 0, .int .i64 0, .int .i64 0, .slice none 0 0] 43 :: L') M →
   az (Mem.ld M ⟨ei, (0 + 1), none⟩) fun Ps xF Gg => aP M ⟨k1, 0, none⟩ (.int .i64 7) fun B7 => aP B7 ⟨k1, (0 + 1), none⟩ (.int .i64 m) fun zj => aP zj ⟨k1, (0 + 2), none⟩ (.int .i64 g) fun Dh => aP Dh ⟨k1, (0 + 3), none⟩ (.slice Ps xF Gg) fun vp =>
   aK (Mem.ld vp ⟨k1, 0, none⟩) .i64 fun Ck => aK (Mem.ld vp ⟨k1, (0 + 1), none⟩) .i64 fun n64 => aK (Mem.ld vp ⟨k1, (0 + 2), none⟩) .i64 fun zf => az (Mem.ld vp ⟨k1, (0 + 3), none⟩) fun PN xd K3 =>
   K (.agg #[(.int .i64 Ck), (.int .i64 n64), (.int .i64 zf), (.slice PN xd K3)]) vp := by
  intro NN M hgl' h
  refine aL h ?_
  refine nQ h ?_
  clear h; intro M h
  refine rj h ?_
  refine k _ (ij (a := a) (x := { x.jM m { aC x m with left := (aC x m).left - 1, g := -1 } with gl := if (aq x.w g).st = 1 then x.gl ++ [g] else x.gl }) hl ?_)
  rw [← hgl']
  have e1 : eE b wb db a { x.jM m { aC x m with left := (aC x m).left - 1, g := -1 } with gl := NN } = eE b wb db a x := Bx (x := x)
  rw [e1]
  show Hp R (_ :: _ :: _ :: _ :: _ :: cH a.am a.cm (x.ms.set m.toNat ⟨(aC x m).p, -1, (aC x m).left - 1⟩) :: _) M
  rw [Ls]
  exact h.sub bu
 refine bh.2 ⟨fun e1 => ?_, fun e1 => ?_⟩
 ·refine ae h ?_
  clear h; intro lU M h
  replace h := (h.pt lU).fQ (E := aZ) (l := [g]) rfl
  replace h : Hp R (gI (eE b wb db a x) x.gl :: jg (some ⟨lU, 0, none⟩) 1 [g] :: ay (bn pa p) wb x.w :: ay (cX .nilFunc) db x.d :: cy a.ap a.cp (bV a.lb x.ps) :: bp bO a.lb (x.ps.map dM.q) :: cH (some ⟨q2, 0, none⟩) a.cm (x.ms.set m.toNat ⟨(aC x m).p, -1, (aC x m).left - 1⟩) :: BB ei kp A rd.length c :: pt k1 [.int .i64 0, .int .i64 0, .int .i64 0, .slice none 0 0] 43 :: L') M := h.sub bu
  refine oP (P := eE b wb db a x) yZ h (Src.row (A := some ⟨lU, 0, none⟩)) rfl (by simp; omega) ?_
  clear h; intro M h
  refine ⟨rfl, ?_⟩
  exact fin _ M (by rw [if_pos e1]) (h.sub bu)
 ·exact fin _ M (by rw [if_neg e1]) h
theorem iF {m : Int} : ∀ (l : List Int) (z : Sc), 0 ≤ (aC z m).p → (aC z m).p < z.ps.length → (l.foldl (aU m) z).ms = z.ms ∧ (l.foldl (aU m) z).ps.length = z.ps.length ∧ (l.foldl (aU m) z).w = z.w ∧ (l.foldl (aU m) z).d = z.d ∧ (l.foldl (aU m) z).c = z.c ∧ (l.foldl (aU m) z).steps = z.steps ∧ ∀ bs, bV bs (l.foldl (aU m) z).ps = bV bs z.ps
 | [], z, _, _ => ⟨rfl, rfl, rfl, rfl, rfl, rfl, fun _ => rfl⟩
 | r :: l, z, h0, h1 => by
  have hp : z.ps[(aC z m).p.toNat]? = some (aN z (aC z m).p) := by
   obtain ⟨y, hy⟩ := aM (l := z.ps) (i := (aC z m).p.toNat) (by omega)
   have e : aN z (aC z m).p = y := by simp [aN, hy]
   rw [e]; exact hy
  have hms : (aU m z r).ms = z.ms := rfl
  have hps : (aU m z r).ps.length = z.ps.length := by simp [aU, Sc.dB]
  have nS : aC (aU m z r) m = aC z m := rfl
  obtain ⟨a1, a2, a3, a4, a5, a6, a7⟩ := iF l (aU m z r) (by rw [nS]; exact h0) (by rw [nS, hps]; exact h1)
  refine ⟨a1, by rw [List.foldl_cons, a2, hps], a3, a4, a5, a6, fun bs => ?_⟩
  rw [List.foldl_cons, a7]
  exact By hp rfl rfl
end
end Go.Proofs
