/- A part of proofs about one program. -/
import Derived.Test.YtnnlgknlialpmaaGreatZTaperSums2
import Derived.Test.YtnnlgknlialpmaaGreatZTaperSums3
set_option linter.unusedVariables false
namespace Go.Proofs
open Go.AF
set_option maxRecDepth 100000
set_option maxHeartbeats 1000000
attribute [local irreducible] aK dH fz cv az fC aE aN aW aX bL aQ
def zT : fP (Option Addr × Nat × Nat) := ⟨1, fun t => [.slice t.1 t.2.1 t.2.2], fun _ => rfl, fun w v hv => by simp only [List.mem_singleton] at hv; subst hv; rfl⟩
structure nB (R : Mem) (pa : PA) (p : cu) : Prop where
 funcs : ∃ ts : List (Option Addr × Nat × Nat), RS zT R pa.f pa.fc ts ∧ ts.length = p.funcs.length ∧ ∀ (i : Nat) t f, ts[i]? = some t → p.funcs[i]? = some f → RS jq R t.1 t.2.2 f ∧ t.2.1 = f.length
 cases : RS iu R pa.k pa.kc p.cases
theorem nB.le {R R' : Mem} {pa : PA} {p : cu} (h : nB R pa p) (hle : R.le R') : nB R' pa p := by
 obtain ⟨⟨ts, h1, h2, h3⟩, h4⟩ := h
 exact ⟨⟨ts, h1.le hle, h2, fun i t f a b => ⟨(h3 i t f a b).1.le hle, (h3 i t f a b).2⟩⟩, h4.le hle⟩
def Wd.next (x : Wd) (g : Int) : Wd := x.bG g ((aq x g).cV (aq x g).top.next)
def Vt (n : Int) : List PanicEntry := [{ v := .iface 340 (.int .i64 n), recovered := false }]
def gv (R : Mem) (pa : PA) (p : cu) (dr : Value) (fnum : Nat) (x : Wd) (g : Int) (i : cN) (r : Out Wd) (L L2 : List HP) : Prop :=
 ∀ (gg : List GA) (b bs c : Nat) (M : Mem) (K : Value → Mem → Prop) (Kp : List PanicEntry → Mem → Prop) (Q : HP), Hp R (ax (bB pa p gg dr) b x :: Q :: L) M → gg[g.toNat]? = some (some ⟨bs, 0, none⟩, c) →
  Out.Ok r (fun y => ∀ mD M', Hp R (ax (bB pa p mD dr) b y :: Q :: L2) M' → K (.tuple #[]) M') (fun n y => ∀ mD M', Hp R (ax (bB pa p mD dr) b y :: Q :: L2) M' → Kp (Vt n) M') (fun l y => ∀ mD M', Hp R (ax (bB pa p mD dr) b y :: Q :: L2) M' → Kp l M') →
  aa Tryz.prog fnum #[.pointer (some ⟨b, 0, none⟩), .int .i64 g, .pointer (some ⟨bs, ((aq x g).fs.length - 1) * 11, none⟩), .agg #[.int .i64 i.op, .int .i64 i.a, .int .i64 i.b, .int .i64 i.c]] M K Kp
theorem Out.Ok.mono {α : Type} {r : Out α} {k1 k1' : α → Prop} {k2 k2' : Int → Wd → Prop} {k3 : List PanicEntry → Wd → Prop} (h : r.Ok k1 k2 k3) (h1 : ∀ y, k1 y → k1' y) (h2 : ∀ n y, k2 n y → k2' n y) : r.Ok k1' k2' := by
 cases r with
 | on y => exact h1 y h
 | eV n y => exact h2 n y h
 | dF l y => trivial
section
variable {R : Mem} {L L' L2 : List HP} {M : Mem} {K : Value → Mem → Prop} {Kp : List PanicEntry → Mem → Prop} {pa : PA} {p : cu} {gg : List GA} {dr : Value} {b : Nat} {x : Wd} {g : Int} {i : cN}
theorem T4 (hp : nB R pa p) (hk : Jz p x g i) (hs : x.Sm) : gv R pa p dr 215 x g i (x.send p g i) L L := fun gg b bs c M K Kp Q h fj k =>
 JA h hp.cases fj hk hs (k.mono (fun y hy M' h' => hy gg M' h') (fun n y hy M' h' => hy gg M' h'))
theorem T5 (hk : xX x g i) (hs : x.Sm) : gv R pa p dr 216 x g i (.on (x.recv g i)) L L := fun gg b bs c M K Kp Q h fj k =>
 JB h fj hk hs fun M' h' => k gg M' h'
theorem T6 (hg : bn x g) (ha : be i.a) (hs : x.Sm) : gv R pa p dr 221 x g i (x.emit g i) L L := fun gg b bs c M K Kp Q h fj k =>
 JC h fj hg ha hs (k.mono (fun y hy M' h' => hy gg M' h') (fun n y hy M' h' => hy gg M' h'))
theorem QX (hg : bn x g) (hb : be i.b) (hc : be i.c) (hs : x.Sm) : gv R pa p dr 213 x g i (x.spawn g i) L L := fun gg b bs c M K Kp Q h fj k =>
 GR h fj hg hb hc hs (k.mono (fun y hy => hy) (fun n y hy M' h' => hy gg M' h'))
theorem T7 (hp : nB R pa p) (hk : oI p x i) (hs : x.Sm) : gv R pa p dr 217 x g i (x.shut p i) L L := fun gg b bs c M K Kp Q h fj k =>
 JE (f := .nilFunc) h hp.cases hk hs (k.mono (fun y hy M' h' => hy gg M' h') (fun n y hy M' h' => hy gg M' h'))
def Yw : AL := [(9, .func (.func 211) #[] #[]), (10, .func (.func 212) #[] #[]), (11, .func (.func 213) #[] #[]), (12, .func (.func 214) #[] #[]), (13, .func (.func 215) #[] #[]), (14, .func (.func 216) #[] #[]), (15, .func (.func 217) #[] #[]), (17, .func (.func 218) #[] #[]), (18, .func (.func 219) #[] #[]), (19, .func (.func 220) #[] #[]), (20, .func (.func 221) #[] #[]), (22, .func (.func 222) #[] #[])]
theorem G3 (h : Hp R L M) (k : ∀ m M', Hp R (ob m (mj Yw) :: L) M' → K (.map (some m)) M') : aa Tryz.prog 193 #[] M K Kp := by
 refine AK ?_
 refine U2 h ?_
 clear h
 intro m M h
 replace h : Hp R (ob m (mj []) :: L) M := h
 have hu : Tryz.prog.underlying 345 = some (.map 25 344) := by kernel_rfl
 have hk : Tryz.prog.underlying 25 = some (.int .i64) := by kernel_rfl
 iterate 12
  refine yL h hu hk ?_
  clear h
  intro M h
 exact k _ _ h
end
theorem Bk {α β : Type} : ∀ {l : List α} {m : List β} {i : Nat} {u : α} {v : β}, (l.zip m).set i (u, v) = (l.set i u).zip (m.set i v)
 | [], _, _, _, _ => by simp
 | a :: l, [], i, u, v => by simp
 | a :: l, w :: m, 0, u, v => rfl
 | a :: l, w :: m, i + 1, u, v => by
  have := Bk (l := l) (m := m) (i := i) (u := u) (v := v)
  simp [this]
theorem sx {x : Wd} {g : Int} (h0 : 0 ≤ g) (h1 : g < x.gs.length) : x.bG g (aq x g) = x := by
 obtain ⟨y, hy⟩ := aM (l := x.gs) (i := g.toNat) (by omega)
 have e : aq x g = y := by simp [aq, hy]
 rw [e]
 obtain ⟨hi, rfl⟩ := List.getElem?_eq_some_iff.1 hy
 simp [Wd.bG]
section
variable {R : Mem} {L L' L2 : List HP} {M : Mem} {K : Value → Mem → Prop} {Kp : List PanicEntry → Mem → Prop} {pa : PA} {p : cu} {gg : List GA} {dr : Value} {b : Nat} {x : Wd} {g : Int} {i : cN}
theorem T8 (hg : bn x g) (ha : be i.a) (hin : be (aq x g).top.pe) : gv R pa p dr 212 x g i (.on (x.back g i)) L L := by
 intro gg b bs c M K Kp Q h fj k
 refine sJ ?_
 replace k : ∀ mD M', Hp R (ax (bB pa p mD dr) b (x.back g i) :: Q :: L) M' → K (.tuple #[]) M' := k
 have EE := hg
 obtain ⟨h0, h1, h2, h3⟩ := EE
 unfold Wd.back at k
 refine aj h ?_
 clear h
 intro kb M h
 have h' := gX h (b := b) h0 h1 fj
 clear h
 obtain ⟨a, gb, hl, fS, h⟩ := h'
 have hl' := hl
 obtain ⟨l1, l2, l3, l4⟩ := hl'
 repeat (first|(refine aj h ?_;clear h;intro kb M h)|(refine au h ?_;clear h;intro M h)|refine St.to h ?_|(apply Exists.intro;(repeat apply Exists.intro);refine And.intro rfl ?_)|refine av ?_|refine ae ?_|refine ai ?_)
 refine uT h fS fun q hq => ?_
 repeat (first|(refine aj h ?_;clear h;intro kb M h)|(refine au h ?_;clear h;intro M h)|refine St.to h ?_|(apply Exists.intro;(repeat apply Exists.intro);refine And.intro rfl ?_)|refine av ?_|refine ae ?_|refine ai ?_)
 refine ⟨ha.1, ha.2, wu h (eM h2) ha rfl ?_⟩
 refine ED h h2 (by omega) (eM h2) hin ?_ ?_
 ·intro hlt
  rw [if_neg (by omega)] at k
  refine ⟨_, _, _, _, rfl, ai ?_⟩
  repeat (first|(refine aj h ?_;clear h;intro kb M h)|(refine au h ?_;clear h;intro M h)|refine St.to h ?_|(apply Exists.intro;(repeat apply Exists.intro);refine And.intro rfl ?_)|refine av ?_|refine ae ?_|refine ai ?_)
  refine uT h fS fun q2 nV => ?_
  repeat (first|(refine aj h ?_;clear h;intro kb M h)|(refine au h ?_;clear h;intro M h)|refine St.to h ?_|(apply Exists.intro;(repeat apply Exists.intro);refine And.intro rfl ?_)|refine av ?_|refine ae ?_|refine ai ?_)
  refine aV.2 ⟨fun e0 => ?_, fun e0 => ?_⟩
  ·rw [if_pos e0] at k
   repeat (first|(refine aj h ?_;clear h;intro kb M h)|(refine au h ?_;clear h;intro M h)|refine St.to h ?_|(apply Exists.intro;(repeat apply Exists.intro);refine And.intro rfl ?_)|refine av ?_|refine ae ?_|refine ai ?_)
   replace h := c7 h gb hl fS fj
   have kj := dB (y := { aq x g with st := 4 }) (g := g) hl
   replace h := bh (a := a) (p := p) (pa := pa) (dr := dr) (gg := gg) (x := { x.bG g { aq x g with st := 4 } with end_ := 1 }) kj h b
   exact k _ _ h.cj
  ·rw [if_neg e0] at k
   replace h := c7 h gb hl fS fj
   have kj := dB (y := { aq x g with st := 4 }) (g := g) hl
   replace h := bh (a := a) (p := p) (pa := pa) (dr := dr) (gg := gg) (x := x.bG g { aq x g with st := 4 }) kj h b
   exact k _ _ h.cj
 ·intro hge b' c' M' fr hfr h'
  clear h
  have h := h'
  clear h'
  rw [if_pos hge] at k
  refine ⟨_, _, _, _, rfl, ae ?_⟩
  repeat (first|(refine aj h ?_;clear h;intro kb M h)|(refine au h ?_;clear h;intro M h)|refine St.to h ?_|(apply Exists.intro;(repeat apply Exists.intro);refine And.intro rfl ?_)|refine av ?_|refine ae ?_|refine ai ?_)
  refine uT h fS fun q2 nV => ?_
  repeat (first|(refine aj h ?_;clear h;intro kb M h)|(refine au h ?_;clear h;intro M h)|refine St.to h ?_|(apply Exists.intro;(repeat apply Exists.intro);refine And.intro rfl ?_)|refine av ?_|refine ae ?_|refine ai ?_)
  have hlen : (aq x g).fs.length - 1 = (((aq x g).fs.take ((aq x g).fs.length - 1)).set ((aq x g).fs.length - 2) (fr.set (aq x g).top.pe (bC x g i.a))).length := by simp
  have hfr2 : (aq x g).fs.getD ((aq x g).fs.length - 2) ⟨0, 0, [], 0⟩ = fr := by rw [List.getD_eq_getElem?_getD, hfr]; rfl
  have h5 := nA (A := some ⟨b', 0, none⟩) (fs := ((aq x g).fs.take ((aq x g).fs.length - 1)).set ((aq x g).fs.length - 2) (fr.set (aq x g).top.pe (bC x g i.a))) h gb hlen
  have hi := (List.getElem?_eq_some_iff.1 fS).1
  have h6 := h5.eA fR gb fS (by rw [List.length_zip]; omega)
  rw [Bk] at h6
  have kj : fB (gg.set g.toNat (some ⟨b', 0, none⟩, c')) a (x.bG g ((aq x g).back (bC x g i.a))) := ⟨by simpa [Wd.bG] using l1, by simpa [Wd.bG] using l2, l3, l4⟩
  have e : (aq x g).back (bC x g i.a) = ⟨(aq x g).st, ((aq x g).fs.take ((aq x g).fs.length - 1)).set ((aq x g).fs.length - 2) (fr.set (aq x g).top.pe (bC x g i.a)), (aq x g).wt⟩ := by
   unfold js.back; rw [hfr2]
  rw [e] at kj k
  have h7 := bh (a := a) (p := p) (pa := pa) (dr := dr) (gg := gg.set g.toNat (some ⟨b', 0, none⟩, c')) (x := x.bG g ⟨(aq x g).st, ((aq x g).fs.take ((aq x g).fs.length - 1)).set ((aq x g).fs.length - 2) (fr.set (aq x g).top.pe (bC x g i.a)), (aq x g).wt⟩) kj h6 b
  exact k _ _ (h7.sub bp)
end
def Out.fin : Out Wd → Wd
 | .on y => y
 | .eV n y => { y with end_ := 2, code := n }
 | .dF _ y => y
def JN (op : Int) : Out Wd → Bool
 | .on _ => op == 12 || op == 17
 | .eV _ _ => false
 | .dF _ _ => false
inductive Step (R : Mem) (pa : PA) (p : cu) (dr : Value) (x : Wd) (g : Int) (code : List cN) : Out Wd → Bool → List HP → List HP → Prop where
 | out {L : List HP} (h : (code.length : Int) ≤ (aq x g).top.pc) : Step R pa p dr x g code (.eV (-7) x) false L L
 | pure {L : List HP} (i : cN) (h : code[(aq x g).top.pc.toNat]? = some i) (h0 : 0 ≤ i.op) (h8 : i.op ≤ 8) (hk : i.cC) : Step R pa p dr x g code (.on (x.bG g ((aq x g).cV ((aq x g).top.next.pure i)))) false L L
 | EK {L L2 : List HP} {r : Out Wd} (i : cN) (h : code[(aq x g).top.pc.toNat]? = some i) (wv : i.op = 16) (hs : gv R pa p dr 191 x g i r L L2) : Step R pa p dr x g code r false L L2
 | Yx {L L2 : List HP} {r : Out Wd} (i : cN) (h : code[(aq x g).top.pc.toNat]? = some i) (h21 : i.op = 21) (hs : gv R pa p dr 192 x g i r L L2) : Step R pa p dr x g code r false L L2
 | dflt {L L2 : List HP} {r : Out Wd} (i : cN) (fn : Nat) (h : code[(aq x g).top.pc.toNat]? = some i) (h8 : 8 < i.op) (wv : i.op ≠ 16) (h21 : i.op ≠ 21) (hf : CB Yw i.op = some (.func (.func fn) #[] #[])) (hn : 1 < fn ∧ fn < 255)
   (hs : gv R pa p dr fn (x.next g) g i r L L2) : Step R pa p dr x g code r (JN i.op r) L L2
section
variable {R : Mem} {L L' L2 : List HP} {M : Mem} {K : Value → Mem → Prop} {Kp : List PanicEntry → Mem → Prop} {pa : PA} {p : cu} {gg : List GA} {dr : Value} {b : Nat} {x : Wd} {g : Int} {i : cN}
theorem Yy {c bs j : Nat} {l : List gV} {f : gV} {G : Int → Prop} (h : Hp R L M) [q : cG (some ⟨bs, 0, none⟩) L gV fQ 275 c l L'] (hi : l[j]? = some f) (g : G f.fn) : aK (M.ld ⟨bs, j * 11, none⟩) .i64 G := by
 refine aR (Src.at (h.src (A := some ⟨bs, 0, none⟩)) h (i := j) (j := 0) hi rfl ?_) g
 show _ = 0 + (j * 11 + 0); omega
theorem EL {n : Int} {v : Value} {Q : HP} (h : Hp R (ax (bB pa p gg dr) b x :: Q :: L) M) (k : ∀ M', Hp R (ax (bB pa p gg dr) b { x with end_ := 2, code := n } :: L) M' → K v M') :
  cJ Tryz.prog 188 (.pointer (some ⟨b, 0, none⟩)) K Kp v (.panicking (Vt n)) M := by
 refine Jq ?_
 have h' := cy h (b := b)
 clear h
 obtain ⟨a, hl, h⟩ := h'
 repeat (first|(refine aj h ?_;clear h;intro kb M h)|(refine au h ?_;clear h;intro M h)|refine St.to h ?_|(apply Exists.intro;(repeat apply Exists.intro);refine And.intro rfl ?_)|refine av ?_|refine ae ?_|refine ai ?_)
 exact k _ (jT (a := a) (x := { x with end_ := 2, code := n }) hl (h.sub bp))
theorem zU {k : Nat} {bw : Nat} (h : Hp R L M) [o : kL k L [.int .i64 i.op, .int .i64 i.a, .int .i64 i.b, .int .i64 i.c] 27 L'] (g : K (.bool (i.op == 12 || i.op == 17)) M) :
  aK (M.ld ⟨k, 0, none⟩) .i64 fun n => aQ (n == 12) (cJ Tryz.prog 188 (.pointer (some ⟨bw, 0, none⟩)) K Kp (.bool true) .returning M)
   (aK (M.ld ⟨k, 0, none⟩) .i64 fun n => cJ Tryz.prog 188 (.pointer (some ⟨bw, 0, none⟩)) K Kp (.bool (n == 17)) .returning M) := by
 have hp := h.pick o.pick
 refine ay hp ?_
 refine aV.2 ⟨fun e => ?_, fun e => ?_⟩
 ·rw [e] at g; exact GB g
 ·refine ay hp ?_
  have : (i.op == 12) = false := by simpa using e
  rw [this, Bool.false_or] at g
  exact GB g
def QY (R : Mem) (pa : PA) (p : cu) (dr : Value) (b : Nat) (L2 : List HP) (K : Value → Mem → Prop) (Kp : List PanicEntry → Mem → Prop) (r : Out Wd) (rest : Bool) : Prop := match r with
 | .dF l y => ∀ mD M', Hp R (ax (bB pa p mD dr) b y :: L2) M' → cJ Tryz.prog 188 (.pointer (some ⟨b, 0, none⟩)) K Kp (.bool false) (.panicking l) M'
 | .on y => ∀ mD M', Hp R (ax (bB pa p mD dr) b y :: L2) M' → K (.bool rest) M'
 | .eV n y => ∀ mD M', Hp R (ax (bB pa p mD dr) b { y with end_ := 2, code := n } :: L2) M' → K (.bool rest) M'
theorem G4 {code : List cN} {r : Out Wd} {rest : Bool} (h : Hp R L M) [o : xU b L pa p gg dr x L'] (hp : nB R pa p) (hg : bn x g) (hfn : 0 ≤ (aq x g).top.fn) (nC : p.funcs[(aq x g).top.fn.toNat]? = some code)
  (CD : 0 ≤ (aq x g).top.pc ∧ (aq x g).top.pc < 1000000000) (hs : Step R pa p dr x g code r rest L' L2)
  (k : QY R pa p dr b L2 K Kp r rest) : aa Tryz.prog 159 #[.pointer (some ⟨b, 0, none⟩), .int .i64 g] M K Kp := by
 refine wk ?_
 have EE := hg
 obtain ⟨h0, h1, h2, h3⟩ := EE
 have h' := jU h (b := b) h0 h1
 clear h
 obtain ⟨a, gb, A, c, hl, fS, fj, h⟩ := h'
 have hl' := hl
 obtain ⟨l1, l2, l3, l4⟩ := hl'
 obtain ⟨bs, rfl⟩ := h.bF (A := A) h2 (by decide)
 have QZ : ∀ {M : Mem}, Hp R (pt gb (qL (aq x g) (some ⟨bs, 0, none⟩) c) 229 :: tH (some ⟨bs, 0, none⟩) c (aq x g).fs :: pt b (mT pa p dr a x) 161 :: mz fR a.gb (x.gs.zip gg) g.toNat :: tR a x L') M → Hp R (ax (bB pa p gg dr) b x :: L') M := by
  intro M h
  replace h := c7 h gb hl fS fj
  have kj := dB (y := aq x g) (g := g) hl
  replace h := bh (a := a) (p := p) (pa := pa) (dr := dr) (gg := gg) (x := x.bG g (aq x g)) kj h b
  rwa [sx h0 h1] at h
 repeat (first|(refine aj h ?_;clear h;intro kb M h)|(refine au h ?_;clear h;intro M h)|refine St.to h ?_|(apply Exists.intro;(repeat apply Exists.intro);refine And.intro rfl ?_)|refine av ?_|refine ae ?_|refine ai ?_)
 refine uT h fS fun q hq => ?_
 repeat (first|(refine aj h ?_;clear h;intro kb M h)|(refine au h ?_;clear h;intro M h)|refine St.to h ?_|(apply Exists.intro;(repeat apply Exists.intro);refine And.intro rfl ?_)|refine av ?_|refine ae ?_|refine ai ?_)
 refine ny h2 (by omega) ?_
 repeat (first|(refine aj h ?_;clear h;intro kb M h)|(refine au h ?_;clear h;intro M h)|refine St.to h ?_|(apply Exists.intro;(repeat apply Exists.intro);refine And.intro rfl ?_)|refine av ?_|refine ae ?_|refine ai ?_)
 refine Yy h (eM h2) ?_
 obtain ⟨ts, hts, htl, hrow⟩ := hp.funcs
 have hfl := (List.getElem?_eq_some_iff.1 nC).1
 obtain ⟨t, ht⟩ := aM (l := ts) (i := (aq x g).top.fn.toNat) (by omega)
 obtain ⟨Bl, Vu⟩ := hrow _ t code ht nC
 obtain ⟨tA, tn, tc⟩ := t
 dsimp only at Bl Vu
 subst Vu
 refine ⟨hfn, by omega, ?_⟩
 obtain ⟨fb, fo, hfb⟩ := hts.some (by omega) (by decide)
 rw [hfb] at hts ⊢
 refine aY ?_
 refine D7 (Src.at (hts.src (L := _)) h (i := (aq x g).top.fn.toNat) (j := 0) ht rfl (by simp [zT])) ?_
 dsimp only
 refine aY ?_
 refine Bb h (eM h2) rfl ?_
 refine aJ.2 ⟨fun hge => ?_, fun hlt => ?_⟩
 ·cases hs with
  | out _ =>
   have h5 : Hp R (ax (bB pa p gg dr) b x :: fact True :: L') M := (Hp.gi.2 ⟨trivial, QZ h⟩).swap
   exact EL h5 fun M' h' => k gg M' h'
  | pure i hi => have := (List.getElem?_eq_some_iff.1 hi).1; omega
  | EK i hi => have := (List.getElem?_eq_some_iff.1 hi).1; omega
  | Yx i hi => have := (List.getElem?_eq_some_iff.1 hi).1; omega
  | dflt i fn hi => have := (List.getElem?_eq_some_iff.1 hi).1; omega
 refine aY ?_
 refine Bb h (eM h2) rfl ?_
 refine ⟨CD.1, by omega, ?_⟩
 obtain ⟨i, hi⟩ := aM (l := code) (i := (aq x g).top.pc.toNat) (by omega)
 obtain ⟨ib, io, rfl⟩ := Bl.some (by omega) (by decide)
 refine aY ?_
 refine aR (Src.at (Bl.src (L := _)) h (i := (aq x g).top.pc.toNat) (j := 0) hi rfl (by simp [jq])) ?_
 refine aR (Src.at (Bl.src (L := _)) h (i := (aq x g).top.pc.toNat) (j := 1) hi rfl (by show _ = io + (_ * 4 + 1); omega)) ?_
 refine aR (Src.at (Bl.src (L := _)) h (i := (aq x g).top.pc.toNat) (j := 2) hi rfl (by show _ = io + (_ * 4 + 2); omega)) ?_
 refine aR (Src.at (Bl.src (L := _)) h (i := (aq x g).top.pc.toNat) (j := 3) hi rfl (by show _ = io + (_ * 4 + 3); omega)) ?_
 have hpure : i.cC ∧ 0 ≤ i.op ∨ 8 < i.op := by
  cases hs with
  | out h => omega
  | pure j hj a1 a2 a3 => rw [hi] at hj; cases hj; exact .inl ⟨a3, a1⟩
  | EK j hj a1 => rw [hi] at hj; cases hj; exact .inr (by omega)
  | Yx j hj a1 => rw [hi] at hj; cases hj; exact .inr (by omega)
  | dflt j fn hj a1 => rw [hi] at hj; cases hj; exact .inr a1
 have hok : i.cC ∧ 0 ≤ i.op := by
  rcases hpure with h | h
  ·exact h
  ·exact ⟨⟨fun h => by simp at h; omega, fun h => by omega, fun h => by simp at h; omega⟩, by omega⟩
 refine aj h ?_
 clear h; intro ki M h
 refine au h ?_
 clear h; intro M h
 refine au h ?_
 clear h; intro M h
 refine au h ?_
 clear h; intro M h
 refine au h ?_
 clear h; intro M h
 refine ay h (ay h (ay h (ay h ?_)))
 refine Jt h (eM h2) hok.1 hok.2 CD ?_ ?_
 ·intro h8 M' h'
  clear h
  have h := h'
  clear h'
  refine oS (ae ?_)
  cases hs with
  | out h => omega
  | EK j hj a1 => rw [hi] at hj; cases hj; omega
  | Yx j hj a1 => rw [hi] at hj; cases hj; omega
  | dflt j fn hj a1 => rw [hi] at hj; cases hj; omega
  | pure j hj a1 a2 a3 =>
   rw [hi] at hj; cases hj
   replace h := c7 h gb hl fS fj (by simp)
   have kj := dB (y := (aq x g).cV ((aq x g).top.next.pure i)) (g := g) hl
   have h5 := bh (a := a) (p := p) (pa := pa) (dr := dr) (gg := gg) (x := x.bG g ((aq x g).cV ((aq x g).top.next.pure i))) kj h b
   refine zU h5 ?_
   have e1 : (i.op == 12) = false := by simp; omega
   have e2 : (i.op == 17) = false := by simp; omega
   rw [e1, e2]
   exact k gg _ h5.cj
 ·intro h8 M' h'
  clear h
  have h := h'
  clear h'
  refine oS (ai ?_)
  refine ay h ?_
  refine aV.2 ⟨fun K9 => ?_, fun K9 => ?_⟩
  ·refine ay h (ay h (ay h (ay h ?_)))
   cases hs with
   | out h => omega
   | pure j hj a1 a2 a3 => rw [hi] at hj; cases hj; omega
   | dflt j fn hj a1 a2 => rw [hi] at hj; cases hj; omega
   | Yx j hj a1 => rw [hi] at hj; cases hj; omega
   | EK j hj a1 hop =>
    rw [hi] at hj; cases hj
    replace h := c7 h gb hl fS fj
    have kj := dB (y := aq x g) (g := g) hl
    replace h := bh (a := a) (p := p) (pa := pa) (dr := dr) (gg := gg) (x := x.bG g (aq x g)) kj h b
    rw [sx h0 h1] at h
    refine hop gg b bs c M' _ _ _ h fj ?_
    cases r with
    | on y =>
     intro mD M2 h
     refine ⟨rfl, zU h ?_⟩
     have e1 : (i.op == 12) = false := by simp; omega
     have e2 : (i.op == 17) = false := by simp; omega
     rw [e1, e2]
     exact k mD _ h.cj
    | eV n y =>
     intro mD M2 h
     exact EL h fun M3 h3 => k mD M3 h3
    | dF l y =>
     intro mD M2 h
     exact k mD M2 h.cj
  ·refine ay h ?_
   refine aV.2 ⟨fun Zy => ?_, fun Zy => ?_⟩
   ·refine ay h (ay h (ay h (ay h ?_)))
    cases hs with
    | out h => omega
    | pure j hj a1 a2 a3 => rw [hi] at hj; cases hj; omega
    | EK j hj a1 => rw [hi] at hj; cases hj; omega
    | dflt j fn hj a1 a2 a3 => rw [hi] at hj; cases hj; omega
    | Yx j hj a1 hop =>
     rw [hi] at hj; cases hj
     replace h := c7 h gb hl fS fj
     have kj := dB (y := aq x g) (g := g) hl
     replace h := bh (a := a) (p := p) (pa := pa) (dr := dr) (gg := gg) (x := x.bG g (aq x g)) kj h b
     rw [sx h0 h1] at h
     refine hop gg b bs c M' _ _ _ h fj ?_
     cases r with
     | on y =>
      intro mD M2 h
      refine ⟨rfl, zU h ?_⟩
      have e1 : (i.op == 12) = false := by simp; omega
      have e2 : (i.op == 17) = false := by simp; omega
      rw [e1, e2]
      exact k mD _ h.cj
     | eV n y =>
      intro mD M2 h
      exact EL h fun M3 h3 => k mD M3 h3
     | dF l y =>
      intro mD M2 h
      exact k mD M2 h.cj
   cases hs with
   | out h => omega
   | pure j hj a1 a2 a3 => rw [hi] at hj; cases hj; omega
   | EK j hj a1 => rw [hi] at hj; cases hj; omega
   | Yx j hj a1 => rw [hi] at hj; cases hj; omega
   | dflt j fn hj a1 a2 a3 hf hn hop =>
    rw [hi] at hj; cases hj
    refine aY ?_
    refine Bb h (eM h2) rfl ?_
    refine aY ?_
    rw [jA CD.1 (by omega)]
    refine Bc h (eM h2) rfl ?_
    clear h; intro M h
    refine ay h (ay h (ay h (ay h (ay h ?_))))
    refine G3 h ?_
    clear h; intro mp M h
    refine ⟨jL (bD h) (jL (bD h) (jL (bD h) (jL (bD h) vB))), bD h, ?_⟩
    have hu : Tryz.prog.underlying 345 = some (.map 25 344) := by kernel_rfl
    have hkk : Tryz.prog.underlying 25 = some (.int .i64) := by kernel_rfl
    obtain ⟨ti, hti, htz⟩ : ∃ ti, Tryz.prog.info? 344 = some ti ∧ ti.zero = some .nilFunc := ⟨_, rfl, rfl⟩
    refine QA h hu hkk hti htz ?_
    rw [hf]
    refine ⟨jL (bD h) (jL (bD h) (jL (bD h) (jL (bD h) vB))), bD h, ?_⟩
    refine GK hn ?_
    replace h := c7 h gb hl fS fj (by simp)
    have kj := dB (y := (aq x g).cV (aq x g).top.next) (g := g) hl
    have h5 := bh (a := a) (p := p) (pa := pa) (dr := dr) (gg := gg) (x := x.next g) kj h b
    have h6 : Hp R (ax (bB pa p gg dr) b (x.next g) :: pt ki [.int .i64 i.op, .int .i64 i.a, .int .i64 i.b, .int .i64 i.c] 27 :: L') M := h5.sub bp
    clear h h5
    have hfl : (aq (x.next g) g).fs.length = (aq x g).fs.length := by
     unfold Wd.next; rw [gW h0 h1]; simp [js.cV]
    have hc := hop gg b bs c M (fun SS my => (SS = (.tuple #[])) ∧ ((Mem.gd my ⟨ki, 0, none⟩ 0 4) = some [(.int .i64 i.op), (.int .i64 i.a), (.int .i64 i.b), (.int .i64 i.c)]) ∧ ((Mem.ld my ⟨ki, 0, none⟩) = (some (.int .i64 i.op))) ∧
     aK (my.ld ⟨ki, 0, none⟩) .i64 fun n => aQ (n == 12) (cJ Tryz.prog 188 (.pointer (some ⟨b, 0, none⟩)) K Kp (.bool true) .returning my)
      (aK (my.ld ⟨ki, 0, none⟩) .i64 fun n => cJ Tryz.prog 188 (.pointer (some ⟨b, 0, none⟩)) K Kp (.bool (n == 17)) .returning my))
     (fun l M => cJ Tryz.prog 188 (.pointer (some ⟨b, 0, none⟩)) K Kp (.bool false) (.panicking l) M) _ h6 fj ?_
    ·rw [hfl] at hc
     exact hc
    cases r with
    | on y =>
     intro mD M2 h
     exact ⟨rfl, jL (bD h) (jL (bD h) (jL (bD h) (jL (bD h) vB))), bD h, zU h (k mD _ h.cj)⟩
    | eV n y =>
     intro mD M2 h
     exact EL h fun M3 h3 => k mD M3 h3
    | dF l y =>
     intro mD M2 h
     exact k mD M2 h.cj
end
abbrev oK (pa : PA) (p : cu) (dr : Value) (a : WA) (x : Wd) (n : Nat) : List Value :=
 [.slice pa.f p.funcs.length pa.fc, .slice pa.c p.dU.length pa.cc, .int .i64 p.aI, .slice pa.k p.cases.length pa.kc, .slice a.ag a.gb.length a.cg, .int .u64 x.clock,
  .slice a.ac a.cb.length a.cc, .slice a.al a.lb.length a.cl, .slice a.ah x.hl.length a.ch, .int .u64 x.mQ, .slice a.ao x.out.length a.co, .int .i64 x.end_, .int .i64 x.code, .slice a.ar n a.cr, dr]
abbrev uV (a : WA) (x : Wd) (L : List HP) : List HP :=
 yN a.ag a.cg a.gb :: yO a.ac a.cc a.cb :: bl bI a.cb x.aB :: yP a.al a.cl a.lb :: bl eK a.lb x.aI :: ee a.ah a.ch x.hl :: iO a.ao a.co x.out :: L
def bj (pa : PA) (p : cu) : ug Wd := ⟨fun b x => exs fun q : WA × List GA × Value × Nat =>
 sep (pt b (oK pa p q.2.2.1 q.1 x q.2.2.2) 161 :: bl fR q.1.gb (x.gs.zip q.2.1) :: fact (fB q.2.1 q.1 x) :: uV q.1 x [])⟩
section
variable {R : Mem} {L L' L2 : List HP} {M : Mem} {K : Value → Mem → Prop} {Kp : List PanicEntry → Mem → Prop} {pa : PA} {p : cu} {gg : List GA} {dr : Value} {b : Nat} {x : Wd} {g : Int}
class CE (b : Nat) (L : List HP) (pa : outParam PA) (p : outParam cu) (x : outParam Wd) (L' : outParam (List HP)) : Prop where
 pick : cW L (ax (bj pa p) b x) L'
instance CE.here : CE b (ax (bj pa p) b x :: L) pa p x L := ⟨.here⟩
instance (priority := low) CE.there {Q : HP} [h : CE b L pa p x L'] : CE b (Q :: L) pa p x (Q :: L') := ⟨.there h.pick⟩
theorem cO (h : Hp R L M) [o : CE b L pa p x L'] : ∃ (a : WA) (gg : List GA) (dr : Value) (n : Nat), fB gg a x ∧ Hp R (pt b (oK pa p dr a x n) 161 :: bl fR a.gb (x.gs.zip gg) :: uV a x L') M := by
 have := h.pick o.pick
 unfold ax at this
 simp only [bj, uV, Hp.dN, Hp.bk, List.cons_append, List.nil_append] at this
 obtain ⟨⟨a, gg, dr, n⟩, h⟩ := this
 have h2 := h.pick (P := fact (fB gg a x)) (.there (.there .here))
 exact ⟨a, gg, dr, n, (Hp.gi.1 h2).1, (Hp.gi.1 h2).2⟩
theorem jf {a : WA} {n : Nat} (hl : fB gg a x) (h : Hp R (pt b (oK pa p dr a x n) 161 :: bl fR a.gb (x.gs.zip gg) :: uV a x L) M) : Hp R (ax (bj pa p) b x :: L) M := by
 refine Hp.xj ?_
 simp only [bj, uV, Hp.dN, Hp.bk, List.cons_append, List.nil_append]
 refine ⟨(a, gg, dr, n), ?_⟩
 have h2 : Hp R (fact (fB gg a x) :: pt b (oK pa p dr a x n) 161 :: bl fR a.gb (x.gs.zip gg) :: uV a x L) M := Hp.gi.2 ⟨hl, h⟩
 exact h2.oh (.there (.there .here))
def jg (x : Wd) (g : Int) (rest : Bool) : Bool := !rest && x.end_ == 0 && (aq x g).st == 1
def Dy (l l' : List PanicEntry) : Prop := ∀ (b : Nat) (v : Value) (M : Mem) (K : Value → Mem → Prop) (Kp : List PanicEntry → Mem → Prop), Kp l' M → cJ Tryz.prog 188 (.pointer (some ⟨b, 0, none⟩)) K Kp v (.panicking l) M
def r7 (R : Mem) (pa : PA) (p : cu) (b : Nat) (g : Int) (L2 : List HP) (K : Value → Mem → Prop) (Kp : List PanicEntry → Mem → Prop) (r : Out Wd) (rest : Bool) : Prop := match r with
 | .dF l y => ∃ l', Dy l l' ∧ ∀ M', Hp R (ax (bj pa p) b y :: L2) M' → Kp l' M'
 | .on y => ∀ R' A c M', R.le R' → RS br R' A c y.ready → Hp R' (ax (bj pa p) b y :: L2) M' → K (.agg #[.bool (jg y g rest), .slice A y.ready.length c]) M'
 | .eV n y => ∀ R' A c M', R.le R' → RS br R' A c y.ready → Hp R' (ax (bj pa p) b { y with end_ := 2, code := n } :: L2) M' → K (.agg #[.bool (jg { y with end_ := 2, code := n } g rest), .slice A y.ready.length c]) M'
theorem QY.of {r : Out Wd} {rest : Bool} (hd : ¬ ∃ l y, r = .dF l y) (k : ∀ mD M', Hp R (ax (bB pa p mD dr) b r.fin :: L2) M' → K (.bool rest) M') : QY R pa p dr b L2 K Kp r rest := by
 cases r with
 | on y => exact k
 | eV n y => exact k
 | dF l y => exact absurd ⟨l, y, rfl⟩ hd
theorem r7.get {r : Out Wd} {rest : Bool} (hd : ¬ ∃ l y, r = .dF l y) (k : r7 R pa p b g L2 K Kp r rest) :
  ∀ R' A c M', R.le R' → RS br R' A c r.fin.ready → Hp R' (ax (bj pa p) b r.fin :: L2) M' → K (.agg #[.bool (jg r.fin g rest), .slice A r.fin.ready.length c]) M' := by
 cases r with
 | on y => exact k
 | eV n y => exact k
 | dF l y => exact absurd ⟨l, y, rfl⟩ hd
theorem JO {code : List cN} {r : Out Wd} {rest : Bool} (h : Hp R L M) [o : CE b L pa p x L'] (hp : nB R pa p) (hg : bn x g) (he : x.end_ = 0) (hst : (aq x g).st = 1)
  (hfn : 0 ≤ (aq x g).top.fn) (nC : p.funcs[(aq x g).top.fn.toNat]? = some code)
  (CD : 0 ≤ (aq x g).top.pc ∧ (aq x g).top.pc < 1000000000) (CF : ∃ f c d, dr = .func f c d) (hs : ∀ Q, Step R pa p dr { x with ready := [] } g code r rest (Q :: L') (Q :: L2)) (hlen : g < r.fin.gs.length)
  (k : r7 R pa p b g L2 K Kp r rest) :
  aa Tryz.prog 121 #[.pointer (some ⟨b, 0, none⟩), .int .i64 g, dr] M K Kp := by
 refine kD ?_
 have EE := hg
 obtain ⟨h0, h1, h2, h3⟩ := EE
 refine aj h ?_
 clear h
 intro kb M h
 have h' := cO h (b := b)
 clear h
 obtain ⟨a, gg, dr0, n0, hl, h⟩ := h'
 have hl' := hl
 obtain ⟨l1, l2, l3, l4⟩ := hl'
 refine aJ.2 ⟨fun hn => by omega, fun _ => ?_⟩
 refine aF h ?_
 refine aJ.2 ⟨fun hn => by omega, fun _ => ?_⟩
 refine ay h ?_
 refine fy.2 ⟨fun hn => absurd he hn, fun _ => ?_⟩
 refine aF h ?_
 refine ⟨h0, by omega, ?_⟩
 obtain ⟨gb, fS⟩ := aM (l := a.gb) (i := g.toNat) (by omega)
 refine uT h fS fun q hq => ?_
 obtain ⟨ga, T9⟩ := aM (l := gg) (i := g.toNat) (by omega)
 obtain ⟨y, hy⟩ := aM (l := x.gs) (i := g.toNat) (by omega)
 have ey : aq x g = y := by simp [aq, hy]
 rw [ey] at hst
 refine aY ?_
 have EM : M.ld ⟨gb, 0, none⟩ = some (.int .i64 y.st) := by
  have h9 := lP (b := gb) (h.cH fR fS (mA hy T9))
  exact bD h9
 rw [EM]
 refine bW ?_
 refine fy.2 ⟨fun hn => absurd hst hn, fun _ => ?_⟩
 refine au h ?_
 clear h EM; intro M h
 have hpc2 : ∀ X : Prop, X → CN dr X := by
  obtain ⟨f, c, d, rfl⟩ := CF
  intro X hX; exact hX
 refine hpc2 _ ?_
 refine au h ?_
 clear h; intro M h
 have h4 := h.bR br 3
 have h5 : Hp R (ax (bB pa p gg dr) b { x with ready := [] } :: pt kb [.bool false, .slice none 0 0] 250 :: L') M := jT (a := { a with ar := none, cr := 0 }) (x := { x with ready := [] }) hl (h4.sub bp)
 clear h h4
 by_cases JP : ∃ l y, r = .dF l y
 ·obtain ⟨l, y, rfl⟩ := JP
  refine G4 (b := b) (x := { x with ready := [] }) h5 hp hg hfn nC CD (hs _) ?_
  clear h5
  intro mD M h
  obtain ⟨l', hdr2, k⟩ := k
  refine hdr2 _ _ _ _ _ (k _ ?_)
  have h' := cy h (b := b)
  clear h
  obtain ⟨a2, kj, h⟩ := h'
  exact jf (a := a2) (n := y.ready.length) (gg := mD) (dr := dr) kj (h.sub bp)
 refine G4 (b := b) (x := { x with ready := [] }) h5 hp hg hfn nC CD (hs _) (.of JP ?_)
 clear h5
 intro mD M h
 replace k := r7.get JP k
 generalize r.fin = z at h k hlen
 have h' := cy h (b := b)
 clear h
 obtain ⟨a2, kj, h⟩ := h'
 have Yq := kj
 obtain ⟨m1, m2, m3, m4⟩ := Yq
 have fin : ∀ t : Bool, t = jg z g rest → aN M ⟨kb, 0, none⟩ (.bool t) fun Pz =>
    aN Pz ⟨kb, (0 + 1), none⟩ (.slice a2.ar z.ready.length a2.cr) fun B4 =>
    dH (Mem.ld B4 ⟨kb, 0, none⟩) fun t60 =>
    az (Mem.ld B4 ⟨kb, (0 + 1), none⟩) fun SR PB HW =>
    K (.agg #[(.bool t60), (.slice SR PB HW)]) B4 := by
  intro t ht
  refine au h ?_
  clear h; intro M h
  refine au h ?_
  clear h; intro M h
  refine FX h (aF h ?_)
  obtain ⟨R', hle, zy, h6⟩ := h.fG a2.ar
  subst ht
  exact k R' _ _ _ hle zy (jf (a := a2) (n := z.ready.length) (gg := mD) (dr := dr) kj (h6.sub bp))
 refine oS ?_
 cases rest with
 | true =>
  refine ai ?_
  refine aF h ?_
  exact fin false (by simp [jg])
 | false =>
  refine ae ?_
  refine ay h ?_
  refine aV.2 ⟨fun e0 => ?_, fun e0 => ?_⟩
  ·refine aF h ?_
   refine ⟨h0, by omega, ?_⟩
   obtain ⟨gb2, hgb2⟩ := aM (l := a2.gb) (i := g.toNat) (by omega)
   refine uT h hgb2 fun q2 nV => ?_
   obtain ⟨ga2, hga2⟩ := aM (l := mD) (i := g.toNat) (by omega)
   obtain ⟨y2, hy2⟩ := aM (l := z.gs) (i := g.toNat) (by omega)
   have ey2 : aq z g = y2 := by simp [aq, hy2]
   refine aY ?_
   have EM : M.ld ⟨gb2, 0, none⟩ = some (.int .i64 y2.st) := by
    have h9 := lP (b := gb2) (h.cH fR hgb2 (mA hy2 hga2))
    exact bD h9
   rw [EM]
   refine bW ?_
   refine aF h ?_
   exact fin (y2.st == 1) (by simp [jg, e0, ey2])
  ·refine aF h ?_
   have : (z.end_ == 0) = false := by simpa using e0
   exact fin false (by simp [jg, this])
end
section
variable {R : Mem} {L L' L2 : List HP} {M : Mem} {K : Value → Mem → Prop} {Kp : List PanicEntry → Mem → Prop} {pa : PA} {p : cu} {gg : List GA} {dr : Value} {b : Nat} {x : Wd} {g : Int}
theorem Dz (h : Hp R L M) [o : CE b L pa p x L'] (k : K (.int .i64 (x.gs.length : Int)) M) : aa Tryz.prog 73 #[.pointer (some ⟨b, 0, none⟩)] M K Kp := by
 refine ux ?_
 have h' := cO h (b := b)
 clear h
 obtain ⟨a, gg, dr, n, hl, h⟩ := h'
 refine aF h ?_
 rw [hl.1]
 exact k
theorem ya (h : Hp R L M) [o : CE b L pa p x L'] (k : K (.tuple #[.int .i64 x.end_, .int .i64 x.code]) M) : aa Tryz.prog 28 #[.pointer (some ⟨b, 0, none⟩)] M K Kp := by
 refine uy ?_
 have h' := cO h (b := b)
 clear h
 obtain ⟨a, gg, dr, n, hl, h⟩ := h'
 refine ay h (ay h ?_)
 exact k
theorem wG (h : Hp R L M) [o : CE b L pa p x L'] (h0 : 0 ≤ g) (h1 : g < x.gs.length) (k : K (.int .i64 (aq x g).st) M) : aa Tryz.prog 119 #[.pointer (some ⟨b, 0, none⟩), .int .i64 g] M K Kp := by
 refine pn ?_
 have h' := cO h (b := b)
 clear h
 obtain ⟨a, gg, dr, n, hl, h⟩ := h'
 have hl' := hl
 obtain ⟨l1, l2, l3, l4⟩ := hl'
 refine aJ.2 ⟨fun hn => by omega, fun _ => ?_⟩
 refine aF h ?_
 refine aJ.2 ⟨fun hn => by omega, fun _ => ?_⟩
 refine aF h ?_
 refine ⟨h0, by omega, ?_⟩
 obtain ⟨gb, fS⟩ := aM (l := a.gb) (i := g.toNat) (by omega)
 refine uT h fS fun q hq => ?_
 obtain ⟨ga, T9⟩ := aM (l := gg) (i := g.toNat) (by omega)
 obtain ⟨y, hy⟩ := aM (l := x.gs) (i := g.toNat) (by omega)
 have ey : aq x g = y := by simp [aq, hy]
 rw [ey] at k
 refine aY ?_
 have EM : M.ld ⟨gb, 0, none⟩ = some (.int .i64 y.st) := by
  have h9 := lP (b := gb) (h.cH fR fS (mA hy T9))
  exact bD h9
 rw [EM]
 exact bW k
theorem G5 (h : Hp R L M) [o : CE b L pa p x L'] (hg : bn x g)
  (k : ∀ bs c M', Hp R (tH (some ⟨bs, 0, none⟩) c (aq x g).fs :: L) M' → K (.slice (some ⟨bs, 0, none⟩) (aq x g).fs.length c) M') : aa Tryz.prog 132 #[.pointer (some ⟨b, 0, none⟩), .int .i64 g] M K Kp := by
 refine qm ?_
 obtain ⟨h0, h1, h2, h3⟩ := hg
 have hC := h
 have h' := cO h (b := b)
 clear h
 obtain ⟨a, gg, dr, n, hl, h⟩ := h'
 have hl' := hl
 obtain ⟨l1, l2, l3, l4⟩ := hl'
 refine aJ.2 ⟨fun hn => by omega, fun _ => ?_⟩
 refine aF h ?_
 refine aJ.2 ⟨fun hn => by omega, fun _ => ?_⟩
 refine aF h ?_
 refine ⟨h0, by omega, ?_⟩
 obtain ⟨gb, fS⟩ := aM (l := a.gb) (i := g.toNat) (by omega)
 refine uT h fS fun q hq => ?_
 obtain ⟨⟨A, c⟩, T9⟩ := aM (l := gg) (i := g.toNat) (by omega)
 obtain ⟨y, hy⟩ := aM (l := x.gs) (i := g.toNat) (by omega)
 have ey : aq x g = y := by simp [aq, hy]
 rw [ey] at k h2 h3
 refine aY ?_
 have h9 := lP (b := gb) (h.cH fR fS (mA hy T9))
 refine aF h9 ?_
 have hsrc : Sl M A (fQ.cells y.fs) := (h9.src (A := A)) M h9
 clear h9 h
 have hs2 : Src R (fact (Sl M A (fQ.cells y.fs)) :: L) A (fQ.cells y.fs) → True := fun _ => trivial
 refine qn ?_
 have Yz := hC.bR fQ 275
 refine Hp.uS Yz (l := []) Js hsrc rfl (by simp; omega) ?_
 clear hC Yz hsrc
 intro A' c' M h
 refine aO (aO ?_)
 obtain ⟨bs, rfl⟩ := h.bF (A := A') (by simpa using h2) (by decide)
 exact k _ _ _ h
theorem DA (h : Hp R L M) [o : CE b L pa p x L'] (hs : x.out.length ≤ 1000000) (k : ∀ A c M', Hp R (iO A c x.out :: L) M' → K (.slice A x.out.length c) M') : aa Tryz.prog 23 #[.pointer (some ⟨b, 0, none⟩)] M K Kp := by
 refine uz ?_
 refine aj h ?_
 clear h; intro kb M h
 have hC := h
 have h' := cO h (b := b)
 clear h
 obtain ⟨a, gg, dr, n, hl, h⟩ := h'
 refine aF h ?_
 have hsrc : Sl M a.ao (br.cells x.out) := (h.src (A := a.ao)) M h
 clear h
 have Yz : Hp R (bE br 2 (some ⟨kb, 0, none⟩) ([] : List Int).length [] :: L) M := hC.gu rfl
 refine Hp.uS Yz (l := []) xz hsrc rfl (by simp; omega) ?_
 clear hC Yz hsrc
 intro A' c' M h
 exact aO (k _ _ _ h)
end
def Wd.new (p : cu) : Wd := ⟨[⟨1, [gV.begin 0 0], .zero⟩], 0, p.dU.map aZ.new, List.replicate p.aI.toNat ⟨-1, []⟩, [], 0, [], 0, 0, []⟩
theorem Vv : bg Tryz.prog 156 230 1 8 [.pointer none] := bg.mk' (zv := .pointer none) (by kernel_rfl) (by kernel_rfl) rfl (by omega)
theorem Vw : bg Tryz.prog 157 232 1 8 [.pointer none] := bg.mk' (zv := .pointer none) (by kernel_rfl) (by kernel_rfl) rfl (by omega)
section
variable {R : Mem} {L L' L2 : List HP} {M : Mem} {K : Value → Mem → Prop} {Kp : List PanicEntry → Mem → Prop} {pa : PA} {p : cu} {gg : List GA} {dr : Value} {b : Nat} {x : Wd} {g : Int}
theorem JQ {i : Int} (h : Hp R L M) [o : CE b L pa p x L'] (hk : uU x i) (hs : (cZ x.aB i).Small 1000000)
  (k : ∀ A ca B cb D cd M', Hp R (ax (bj pa p) b x :: nm D cd (cZ x.aB i).dy :: nm B cb (cZ x.aB i).snd :: iO A ca (cZ x.aB i).buf :: L') M' →
   K (.agg #[.slice A (cZ x.aB i).buf.length ca, .slice B (cZ x.aB i).snd.length cb, .slice D (cZ x.aB i).dy.length cd, .bool (cZ x.aB i).closed]) M') :
  aa Tryz.prog 89 #[.pointer (some ⟨b, 0, none⟩), .int .i64 i] M K Kp := by
 refine su ?_
 obtain ⟨k0, k1⟩ := hk
 refine aj h ?_
 clear h
 intro kb M h
 have h' := cO h (b := b)
 clear h
 obtain ⟨a, gg, dr, n, hl, h⟩ := h'
 have hl' := hl
 obtain ⟨l1, l2, l3, l4⟩ := hl'
 refine aJ.2 ⟨fun hn => by omega, fun _ => ?_⟩
 refine aF h ?_
 refine aJ.2 ⟨fun hn => by omega, fun _ => ?_⟩
 refine aF h ?_
 refine ⟨k0, by omega, ?_⟩
 obtain ⟨cb, hcb⟩ := aM (l := a.cb) (i := i.toNat) (by omega)
 refine uT h hcb fun q hq => ?_
 obtain ⟨y, hy⟩ := aM (l := x.aB) (i := i.toNat) (by omega)
 have e : cZ x.aB i = y := by simp [cZ, hy]
 rw [e] at k hs
 replace h := h.cH bI hcb hy
 refine F8 h (hs.mono (by omega)) ?_
 clear h
 intro A ca B cb' D cd M h
 repeat (first|(refine aj h ?_;clear h;intro kb M h)|(refine au h ?_;clear h;intro M h)|refine St.to h ?_|(apply Exists.intro;(repeat apply Exists.intro);refine And.intro rfl ?_)|refine av ?_|refine ae ?_|refine ai ?_)
 replace h := h.lg bI cb hcb hy
 exact k _ _ _ _ _ _ _ (jf (a := a) (gg := gg) (dr := dr) (n := n) hl (h.sub bp))
theorem Q1 {j : Nat} {q A' : Nat} {c' : Nat} {v : Int} {a : WA} {n k : Nat} {Ac : Option Addr} {Q : List HP} (hl : fB gg a x)
  (h : Hp R (pt b (oK pa p dr { a with ac := Ac, cc := c', cb := a.cb ++ [k] } x n) 161 :: yO Ac c' (a.cb ++ [k]) :: ax bI k (aZ.new v) :: bl bI a.cb x.aB :: bl fR a.gb (x.gs.zip gg) :: yN a.ag a.cg a.gb :: yP a.al a.cl a.lb :: bl eK a.lb x.aI :: ee a.ah a.ch x.hl :: iO a.ao a.co x.out :: Q) M) :
  Hp R (ax (bj pa p) b { x with aB := x.aB ++ [aZ.new v] } :: Q) M := by
 obtain ⟨l1, l2, l3, l4⟩ := hl
 have h2 := h.lj bI k l3
 exact jf (a := { a with ac := Ac, cc := c', cb := a.cb ++ [k] }) (gg := gg) (dr := dr) (n := n) (x := { x with aB := x.aB ++ [aZ.new v] }) ⟨l1, l2, by simp [l3], l4⟩ (h2.sub bp)
theorem Q2 {c' : Nat} {a : WA} {n k : Nat} {Ac : Option Addr} {Q : List HP} (hl : fB gg a x)
  (h : Hp R (pt b (oK pa p dr { a with al := Ac, cl := c', lb := a.lb ++ [k] } x n) 161 :: yP Ac c' (a.lb ++ [k]) :: ax eK k ⟨-1, []⟩ :: bl eK a.lb x.aI :: bl fR a.gb (x.gs.zip gg) :: yN a.ag a.cg a.gb :: yO a.ac a.cc a.cb :: bl bI a.cb x.aB :: ee a.ah a.ch x.hl :: iO a.ao a.co x.out :: Q) M) :
  Hp R (ax (bj pa p) b { x with aI := x.aI ++ [⟨-1, []⟩] } :: Q) M := by
 obtain ⟨l1, l2, l3, l4⟩ := hl
 have h2 := h.lj eK k l4
 exact jf (a := { a with al := Ac, cl := c', lb := a.lb ++ [k] }) (gg := gg) (dr := dr) (n := n) (x := { x with aI := x.aI ++ [⟨-1, []⟩] }) ⟨l1, l2, l3, by simp [l4]⟩ (h2.sub bp)
theorem Nr (h : Hp R L M) (yM : RS br R pa.c pa.cc p.dU) (hc : p.dU.length ≤ 1000000) (hk : 0 ≤ p.aI ∧ p.aI ≤ 1000000)
  (k : ∀ b M', Hp R (ax (bj pa p) b (Wd.new p) :: L) M' → K (.pointer (some ⟨b, 0, none⟩)) M') :
  aa Tryz.prog 56 #[.agg #[.slice pa.f p.funcs.length pa.fc, .slice pa.c p.dU.length pa.cc, .int .i64 p.aI, .slice pa.k p.cases.length pa.kc]] M K Kp := by
 refine Em ?_
 repeat (first|(refine aj h ?_;clear h;intro kb M h)|(refine au h ?_;clear h;intro M h)|refine St.to h ?_|(apply Exists.intro;(repeat apply Exists.intro);refine And.intro rfl ?_)|refine av ?_|refine ae ?_|refine ai ?_)
 refine qK h ?_
 clear h
 intro bs M h
 repeat (first|(refine aj h ?_;clear h;intro kb M h)|(refine au h ?_;clear h;intro M h)|refine St.to h ?_|(apply Exists.intro;(repeat apply Exists.intro);refine And.intro rfl ?_)|refine av ?_|refine ae ?_|refine ai ?_)
 rename_i kp _ _ kr _ kw _
 replace h := nA h kr
 replace h := (h.vO fR).lj fR kr rfl
 replace h := (h.pt kw).gu (E := mO) (l := [kr]) rfl
 replace h := (h.bR mO 230).vO bI
 replace h := (h.bR mO 232).vO eK
 replace h := (h.bR lH 203).bR br 2
 have base : Hp R (ax (bj pa p) kb { Wd.new p with aB := (p.dU.take 0).map aZ.new, aI := [] } :: pt kp [.slice pa.f p.funcs.length pa.fc, .slice pa.c p.dU.length pa.cc, .int .i64 p.aI, .slice pa.k p.cases.length pa.kc] 39 :: L) _ :=
  jf (a := ⟨some ⟨kw, 0, none⟩, 1, [kr], none, 0, [], none, 0, [], none, 0, none, 0, none, 0⟩) (gg := [(some ⟨bs, 0, none⟩, 1)]) (dr := .nilFunc) (n := 0) (x := { Wd.new p with aB := [], aI := [] }) ⟨rfl, rfl, rfl, rfl⟩ (h.sub bp)
 clear h
 refine ⟨fun d vs M => ∃ j : Nat, vs = [.int .i64 (j : Int)] ∧ d = p.dU.length - j ∧ j ≤ p.dU.length ∧ Hp R (ax (bj pa p) kb { Wd.new p with aB := (p.dU.take j).map aZ.new, aI := [] } :: pt kp [.slice pa.f p.funcs.length pa.fc, .slice pa.c p.dU.length pa.cc, .int .i64 p.aI, .slice pa.k p.cases.length pa.kc] 39 :: L) M,
  ⟨_, 0, rfl, rfl, by omega, base⟩, ?_⟩
 clear base
 rintro d _ nn M ⟨j, he, hd, hj, h⟩
 simp only [List.cons.injEq, Value.int.injEq, and_true, true_and] at he
 subst he
 refine aJ.2 ⟨fun hlt => ?_, fun hge => ?_⟩
 ·obtain ⟨v, hv⟩ := aM (l := p.dU) (i := j) (by omega)
  have hsn : (p.dU.take (j + 1)).map aZ.new = (p.dU.take j).map aZ.new ++ [aZ.new v] := by rw [bu hv, List.map_append]; rfl
  have HO : ((p.dU.take j).map aZ.new).length ≤ 1000000 := by simp; omega
  rw [aP (by omega)]
  refine ⟨by omega, hlt, ?_⟩
  obtain ⟨cb, co, hcb⟩ := yM.some (by omega) (by decide)
  have hch2 := yM
  rw [hcb] at hch2 ⊢
  refine aY ?_
  simp only [Int.toNat_natCast]
  refine aR (Src.at (hch2.src (L := _)) h (i := j) (j := 0) hv rfl (by simp [br])) ?_
  refine ⟨fun _ M => Hp R (ax (bj pa p) kb { Wd.new p with aB := (p.dU.take j).map aZ.new ++ [aZ.new v], aI := [] } :: pt kp [.slice pa.f p.funcs.length pa.fc, .slice pa.c p.dU.length pa.cc, .int .i64 p.aI, .slice pa.k p.cases.length pa.kc] 39 :: L) M, ⟨?_, ?_, trivial⟩, ?_⟩
  ·have h' := cO h (b := kb)
   clear h
   obtain ⟨a, gg, dr, n, hl, h⟩ := h'
   have Ua : a.cb.length = ((p.dU.take j).map aZ.new).length := hl.2.2.1
   refine aF h ?_
   refine Df h ?_
   clear h
   intro kc M h
   repeat (first|(refine aj h ?_;clear h;intro kb M h)|(refine au h ?_;clear h;intro M h)|refine St.to h ?_|(apply Exists.intro;(repeat apply Exists.intro);refine And.intro rfl ?_)|refine av ?_|refine ae ?_|refine ai ?_)
   refine h.bJ Vv [kc] rfl rfl (by simp only [List.length_singleton]; omega) ?_
   clear h
   intro A' c' M h
   repeat (first|(refine aj h ?_;clear h;intro kb M h)|(refine au h ?_;clear h;intro M h)|refine St.to h ?_|(apply Exists.intro;(repeat apply Exists.intro);refine And.intro rfl ?_)|refine av ?_|refine ae ?_|refine ai ?_)
   exact Q1 (j := j) (q := j) (A' := j) (a := a) (x := { Wd.new p with aB := (p.dU.take j).map aZ.new, aI := [] }) hl (h.sub bp)
  ·have h' := cO h (b := kb)
   clear h
   obtain ⟨a, gg, dr, n, hl, h⟩ := h'
   have Ua : a.cb.length = ((p.dU.take j).map aZ.new).length := hl.2.2.1
   refine Df h ?_
   clear h
   intro kc M h
   repeat (first|(refine aj h ?_;clear h;intro kb M h)|(refine au h ?_;clear h;intro M h)|refine St.to h ?_|(apply Exists.intro;(repeat apply Exists.intro);refine And.intro rfl ?_)|refine av ?_|refine ae ?_|refine ai ?_)
   refine h.bJ Vv [kc] rfl rfl (by simp only [List.length_singleton]; omega) ?_
   clear h
   intro A' c' M h
   repeat (first|(refine aj h ?_;clear h;intro kb M h)|(refine au h ?_;clear h;intro M h)|refine St.to h ?_|(apply Exists.intro;(repeat apply Exists.intro);refine And.intro rfl ?_)|refine av ?_|refine ae ?_|refine ai ?_)
   exact Q1 (j := j) (q := j) (A' := j) (a := a) (x := { Wd.new p with aB := (p.dU.take j).map aZ.new, aI := [] }) hl (h.sub bp)
  ·clear h
   intro _ M h
   refine ⟨p.dU.length - (j + 1), by omega, j + 1, rfl, rfl, by omega, ?_⟩
   rw [hsn, ← hcb]; exact h
 ·obtain rfl : j = p.dU.length := by omega
  rw [List.take_length] at h
  refine ay h ?_
  obtain ⟨nl, hnl⟩ := Int.eq_ofNat_of_zero_le hk.1
  refine ⟨fun d vs M => ∃ j : Nat, vs = [.int .i64 (j : Int)] ∧ d = nl - j ∧ j ≤ nl ∧ Hp R (ax (bj pa p) kb { Wd.new p with aI := List.replicate j ⟨-1, []⟩ } :: pt kp [.slice pa.f p.funcs.length pa.fc, .slice pa.c p.dU.length pa.cc, .int .i64 p.aI, .slice pa.k p.cases.length pa.kc] 39 :: L) M,
   ⟨_, 0, rfl, rfl, by omega, h⟩, ?_⟩
  clear h
  rintro d _ nn M ⟨j, he, hd, hj, h⟩
  simp only [List.cons.injEq, Value.int.injEq, and_true, true_and] at he
  subst he
  refine aJ.2 ⟨fun hlt => ?_, fun hge => ?_⟩
  ·have hsn : List.replicate (j + 1) (⟨-1, []⟩ : Lk) = List.replicate j ⟨-1, []⟩ ++ [⟨-1, []⟩] := List.replicate_succ'
   rw [aP (by omega)]
   refine ⟨fun _ M => Hp R (ax (bj pa p) kb { Wd.new p with aI := List.replicate j ⟨-1, []⟩ ++ [⟨-1, []⟩] } :: pt kp [.slice pa.f p.funcs.length pa.fc, .slice pa.c p.dU.length pa.cc, .int .i64 p.aI, .slice pa.k p.cases.length pa.kc] 39 :: L) M, ⟨?_, ?_, trivial⟩, ?_⟩
   ·have h' := cO h (b := kb)
    clear h
    obtain ⟨a, gg, dr, n, hl, h⟩ := h'
    have Ua : a.lb.length = (List.replicate j (⟨-1, []⟩ : Lk)).length := hl.2.2.2
    rw [List.length_replicate] at Ua
    refine aF h ?_
    refine Dk h ?_
    clear h
    intro kc M h
    repeat (first|(refine aj h ?_;clear h;intro kb M h)|(refine au h ?_;clear h;intro M h)|refine St.to h ?_|(apply Exists.intro;(repeat apply Exists.intro);refine And.intro rfl ?_)|refine av ?_|refine ae ?_|refine ai ?_)
    refine h.bJ Vw [kc] rfl rfl (by simp only [List.length_singleton]; omega) ?_
    clear h
    intro A' c' M h
    repeat (first|(refine aj h ?_;clear h;intro kb M h)|(refine au h ?_;clear h;intro M h)|refine St.to h ?_|(apply Exists.intro;(repeat apply Exists.intro);refine And.intro rfl ?_)|refine av ?_|refine ae ?_|refine ai ?_)
    exact Q2 (a := a) (x := { Wd.new p with aI := List.replicate j ⟨-1, []⟩ }) hl (h.sub bp)
   ·have h' := cO h (b := kb)
    clear h
    obtain ⟨a, gg, dr, n, hl, h⟩ := h'
    have Ua : a.lb.length = (List.replicate j (⟨-1, []⟩ : Lk)).length := hl.2.2.2
    rw [List.length_replicate] at Ua
    refine Dk h ?_
    clear h
    intro kc M h
    repeat (first|(refine aj h ?_;clear h;intro kb M h)|(refine au h ?_;clear h;intro M h)|refine St.to h ?_|(apply Exists.intro;(repeat apply Exists.intro);refine And.intro rfl ?_)|refine av ?_|refine ae ?_|refine ai ?_)
    refine h.bJ Vw [kc] rfl rfl (by simp only [List.length_singleton]; omega) ?_
    clear h
    intro A' c' M h
    repeat (first|(refine aj h ?_;clear h;intro kb M h)|(refine au h ?_;clear h;intro M h)|refine St.to h ?_|(apply Exists.intro;(repeat apply Exists.intro);refine And.intro rfl ?_)|refine av ?_|refine ae ?_|refine ai ?_)
    exact Q2 (a := a) (x := { Wd.new p with aI := List.replicate j ⟨-1, []⟩ }) hl (h.sub bp)
   ·clear h
    intro _ M h
    refine ⟨nl - (j + 1), by omega, j + 1, rfl, rfl, by omega, ?_⟩
    rw [hsn]; exact h
  ·obtain rfl : j = nl := by omega
   have e : Wd.new p = { Wd.new p with aI := List.replicate j ⟨-1, []⟩ } := by unfold Wd.new; rw [hnl]; rfl
   rw [← e] at h
   exact k _ _ h.cj
end
def aD (p : cu) (i : cN) : List oV := (p.cases.drop i.a.toNat).take i.b.toNat
def wH (f : gV) : List Int := [f.r.getD 0 0, f.r.getD 1 0, f.r.getD 2 0, f.r.getD 3 0, f.r.getD 4 0, f.r.getD 5 0, f.r.getD 6 0, f.r.getD 7 0]
inductive kF where
 | num (d : Int)
 | dF (l : List PanicEntry)
def jh (R : Mem) (dr : Value) (kind n : Int) (d : kF) (L L2 : List HP) : Prop := ∀ (Q : HP) (M : Mem) (K : Value → Mem → Prop) (Kp : List PanicEntry → Mem → Prop), Hp R (Q :: L) M →
 (match d with
  | .num v => ∀ M', Hp R (Q :: L2) M' → K (.int .i64 v) M'
  | .dF l => ∀ M', Hp R (Q :: L2) M' → Kp l M') → gf Cx dr [.int .i64 kind, .int .i64 n] M K Kp
def Wd.qQ (p : cu) (x : Wd) (g : Int) (i : cN) (k : Int) : Out Wd :=
 let c := (aD p i).getD k.toNat ⟨0, 0, 0⟩
 let x1 := x.next g
 if c.way = 1 then match x1.put p c.ch (bC x1 g c.bQ) with
  | .eV n y => .eV n y
  | .dF l y => .dF l y
  | .on (y, _) => .on (y.bA g i.c k)
 else .on (((x1.get c.ch).1.bA g c.bQ (x1.get c.ch).2.1).bA g i.c k)
def Wd.uW (p : cu) (x : Wd) (g : Int) (i : cN) : Wd :=
 let x1 := x.next g
 match els (aD p i) with
  | some k => x1.bA g i.c (k : Int)
  | none => Wd.block { x1 with aB := eH g (wH (aq x1 g).top) (aD p i) x1.aB (aD p i).length } g i
def Wd.choose (p : cu) (x : Wd) (g : Int) (i : cN) (d : kF) : Out Wd :=
 if enabled (aD p i) x.aB = [] then .on (x.uW p g i)
 else match d with
  | .num v => x.qQ p g i ((enabled (aD p i) x.aB).getD v.toNat 0)
  | .dF l => .dF l x
section
variable {R : Mem} {L L' L2 : List HP} {M : Mem} {K : Value → Mem → Prop} {Kp : List PanicEntry → Mem → Prop} {pa : PA} {p : cu} {gg : List GA} {dr : Value} {b : Nat} {x : Wd} {g : Int} {i : cN}
def wI (p : cu) (i : cN) : Prop := 0 ≤ i.a ∧ 0 ≤ i.b ∧ i.a + i.b ≤ p.cases.length ∧ p.cases.length ≤ 1000
instance (p : cu) (i : cN) : Decidable (wI p i) := by unfold wI; infer_instance
theorem G6 (h : Hp R L M) [o : xU b L pa p gg dr x L'] (hp : nB R pa p) (hk : wI p i)
  (k : ∀ A c M', RS iu R A c (aD p i) → Hp R (ax (bB pa p gg dr) b x :: L') M' → K (.slice A (aD p i).length c) M') :
  aa Tryz.prog 204 #[.pointer (some ⟨b, 0, none⟩), .agg #[.int .i64 i.op, .int .i64 i.a, .int .i64 i.b, .int .i64 i.c]] M K Kp := by
 refine qo ?_
 obtain ⟨a0, b0, hab, hl⟩ := hk
 have hcap := hp.cases.2
 refine aj h ?_
 clear h; intro kb M h
 have hC := h.drop.pick o.pick
 have h' := cy h (b := b)
 clear h
 obtain ⟨a, kj, h⟩ := h'
 refine aF h (ay h (ay h (ay h ?_)))
 rw [dc (by omega) (by omega)]
 refine ⟨by omega, by omega, by omega, by omega, by omega, by omega, ?_⟩
 have e : (aD p i).length = (i.a + i.b).toNat - i.a.toNat := by
  unfold aD
  rw [List.length_take, List.length_drop]; omega
 rw [← e]
 simp only [Int.toNat_natCast]
 exact k _ _ _ ((hp.cases.drop i.a.toNat (by omega)).take i.b.toNat) hC
theorem Q3 {bs j : Nat} {l : List gV} {f : gV} (hs : Src R L (some ⟨bs, 0, none⟩) (fQ.cells l)) (hi : l[j]? = some f) : Src R L (kx (some ⟨bs, j * 11 + 2, none⟩) 0 8 1) (br.cells (wH f)) := by
 intro M h
 have e : kx (some ⟨bs, j * 11 + 2, none⟩) 0 8 1 = some ⟨bs, j * 11 + 2, none⟩ := by
  unfold kx; rw [if_neg (by omega)]; rfl
 rw [e]
 intro q hq
 have hq8 : q < 8 := by simpa [br, fP.cells, wH] using hq
 have e2 : j * 11 + 2 + q = 0 + (j * fQ.z + (2 + q)) := by show _ = 0 + (j * 11 + (2 + q)); omega
 obtain rfl | rfl | rfl | rfl | rfl | rfl | rfl | rfl : q = 0 ∨ q = 1 ∨ q = 2 ∨ q = 3 ∨ q = 4 ∨ q = 5 ∨ q = 6 ∨ q = 7 := by omega
 all_goals exact Src.at hs h (i := j) hi rfl e2
theorem JR {bs c oo : Nat} {v : Int} {G : Mem → Prop} (h : Hp R L M) [o : xU b L pa p gg dr x L'] (hg : bn x g) (fj : gg[g.toNat]? = some (some ⟨bs, 0, none⟩, c)) (e : oo = ((aq x g).fs.length - 1) * 11 + 1) (hv : v = (aq x g).top.pc + 1)
  (k : ∀ M', Hp R (ax (bB pa p gg dr) b (x.next g) :: L') M' → G M') : aN M ⟨bs, oo, none⟩ (.int .i64 v) G := by
 subst hv
 obtain ⟨h0, h1, h2, h3⟩ := hg
 obtain ⟨a, gb, hl, fS, h4⟩ := gX h (b := b) h0 h1 fj
 refine Bc h4 (eM h2) e fun M' h5 => ?_
 replace h5 := c7 h5 gb hl fS fj (by simp)
 exact k M' (bh (a := a) (p := p) (pa := pa) (dr := dr) (gg := gg) (x := x.next g) (dB hl) h5 b)
theorem JS {bs c oo : Nat} {G : Int → Prop} (h : Hp R L M) [o : xU b L pa p gg dr x L'] (hg : bn x g) (fj : gg[g.toNat]? = some (some ⟨bs, 0, none⟩, c)) (e : oo = ((aq x g).fs.length - 1) * 11 + 1)
  (k : G (aq x g).top.pc) : aK (M.ld ⟨bs, oo, none⟩) .i64 G := by
 obtain ⟨h0, h1, h2, h3⟩ := hg
 obtain ⟨a, gb, hl, fS, h4⟩ := gX h (b := b) h0 h1 fj
 exact Bb h4 (eM h2) e k
theorem Bm (hg : bn x g) : aq (x.next g) g = (aq x g).cV (aq x g).top.next := gW hg.1 hg.2.1
theorem uX (hg : bn x g) : bn (x.next g) g := by
 have e := Bm hg
 obtain ⟨h0, h1, h2, h3⟩ := hg
 refine ⟨h0, by simpa [Wd.next, Wd.bG] using h1, ?_, ?_⟩ <;> rw [e] <;> simpa [js.cV]
theorem EN (hg : bn x g) : (aq (x.next g) g).fs.length = (aq x g).fs.length := by rw [Bm hg]; simp [js.cV]
theorem Ns {q v : Int} (hg : bn x g) : (aq (x.bA g q v) g).fs.length = (aq x g).fs.length := by rw [ja hg]; simp [js.cV]
theorem Ub (hs : x.Sm) : (x.next g).Sm := K8 hs
def G7 (p : cu) (x : Wd) (g : Int) (i : cN) (d : kF) : Prop := bn x g ∧ wI p i ∧ be i.c ∧ x.Sm ∧ (aq x g).top.pc < 1000000000 ∧ 0 ≤ (aq x g).top.pc ∧ (∀ c ∈ aD p i, c.Ok x.aB.length) ∧
 match enabled (aD p i) x.aB, d with
 | [], _ => True
 | _, .dF _ => True
 | can, .num v => 0 ≤ v ∧ v < can.length ∧
  let k := can.getD v.toNat 0
  let c := (aD p i).getD k.toNat ⟨0, 0, 0⟩
  let x1 := x.next g
  0 ≤ k ∧ k < (aD p i).length ∧ be c.bQ ∧
  if c.way = 1 then oW p x1 c.ch (bC x1 g c.bQ) ∧ (match x1.put p c.ch (bC x1 g c.bQ) with
   | .on (y, _) => bn y g ∧ (aq y g).fs.length = (aq x g).fs.length
   | _ => True)
  else wB x1 c.ch ∧ bn (x1.get c.ch).1 g ∧ (aq (x1.get c.ch).1 g).fs.length = (aq x g).fs.length
theorem Nt {d : kF} (hp : nB R pa p) (hk : G7 p x g i d) (hd : if enabled (aD p i) x.aB = [] then L2 = L else jh R dr 3 ((enabled (aD p i) x.aB).length : Int) d L L2) :
  gv R pa p dr 191 x g i (x.choose p g i d) L L2 := by
 intro gg b bs c M K Kp Q h fj k
 obtain ⟨hg, hcs, JT, hs, CD, Uc, hok, hk⟩ := hk
 have EE := hg
 obtain ⟨h0, h1, h2, h3⟩ := EE
 have hs' := hs
 obtain ⟨s1, s2, s3, s4, s5, s6, s7, s8⟩ := hs'
 have QZ : (aD p i).length ≤ 1000 := by
  obtain ⟨_, _, _, hl⟩ := hcs
  unfold aD
  rw [List.length_take, List.length_drop]; omega
 refine po ?_
 refine aj h ?_
 clear h; intro k1 M h
 refine ay h (ay h (ay h (ay h ?_)))
 refine G6 (b := b) h hp hcs ?_
 clear h; intro A ca M hA h
 refine aO ?_
 unfold Wd.choose at k
 have hen : ∀ {X : HP} {M : Mem} {L3 : List HP}, Hp R (ax (bB pa p gg dr) b x :: L3) M → ∀ (K1 : Value → Mem → Prop), (∀ A' c' M', Hp R (iZ A' c' (enabled (aD p i) x.aB) :: ax (bB pa p gg dr) b x :: L3) M' → K1 (.slice A' (enabled (aD p i) x.aB).length c') M') →
   az (M.ld ⟨b, 0 + 6, none⟩) fun ur cY eX => aa Tryz.prog 205 #[.slice A (aD p i).length ca, .slice ur cY eX] M K1 Kp := by
  intro X M L3 h K1 k1
  have h' := cy h (b := b)
  clear h
  obtain ⟨a, hl, h⟩ := h'
  have hl' := hl
  obtain ⟨l1, l2, l3, l4⟩ := hl'
  refine aF h ?_
  refine Cj h (hA.src) (Src.row (A := a.ac)) rfl rfl (by omega) l3 hok ?_
  clear h; intro A' c' M h
  exact k1 _ _ _ ((bh (a := a) (p := p) (pa := pa) (dr := dr) (gg := gg) (x := x) hl h b).swap)
 refine hen (X := Q) h _ ?_
 clear h hen; intro A2 c2 M h
 refine aO ?_
 by_cases hcan : enabled (aD p i) x.aB = []
 ·rw [if_pos hcan] at k hd
  subst hd
  rw [hcan] at h ⊢
  refine ae ?_
  unfold Wd.uW at k
  dsimp only at k
  refine JS (b := b) h hg fj rfl ?_
  rw [jA Uc (by omega)]
  refine JR (b := b) h hg fj rfl rfl ?_
  clear h; intro M h
  have Nu := uX hg
  have Mf := EN hg
  refine IS h hA.src rfl (by omega) ?_
  clear h; intro M h
  refine ⟨_, _, rfl, ?_⟩
  cases he : els (aD p i) with
  | some q =>
   rw [he] at k
   dsimp only at k ⊢
   refine ae ?_
   refine ay h ?_
   refine ⟨JT.1, JT.2, ?_⟩
   refine mC (b := b) h Nu fj JT (by rw [Mf]) ?_
   clear h; intro M h
   exact k _ _ (h.sub bp)
  | none =>
   rw [he] at k
   dsimp only at k ⊢
   refine ai ⟨by decide, by decide, by decide, by decide, by decide, by decide, ?_⟩
   have BV := Nu
   obtain ⟨g0, g1, g2, g3⟩ := BV
   have h' := gX h (b := b) g0 g1 fj
   clear h
   obtain ⟨a, gb, hl, fS, h⟩ := h'
   have hl' := hl
   obtain ⟨l1, l2, l3, l4⟩ := hl'
   refine aF h ?_
   refine IV (fY := wH (aq (x.next g) g).top) h hA.src (Src.row (A := a.ac)) ?_ rfl rfl rfl rfl (by omega) l3 hok (fun c hc => s1 c hc) ?_
   ·have e9 : ∀ {L9 : List HP}, Src R L9 (some ⟨bs, 0, none⟩) (fQ.cells (aq (x.next g) g).fs) → Src R L9 (kx (some ⟨bs, ((aq x g).fs.length - 1) * 11 + 2, none⟩) 0 8 1) (br.cells (wH (aq (x.next g) g).top)) := fun hs => by
     have := Q3 hs (eM g2)
     rwa [Mf] at this
    exact e9 Src.row
   clear h; intro M h
   refine ⟨rfl, ?_⟩
   refine ay h (ay h (ay h (ay h ?_)))
   replace h := c7 h gb hl fS fj
   have kj := dB (y := aq (x.next g) g) (g := g) hl
   have hcl2 : ∀ x' : Wd, x' = { (x.next g).bG g (aq (x.next g) g) with aB := eH g (wH (aq (x.next g) g).top) (aD p i) x.aB (aD p i).length } → fB gg a x' := by
    rintro _ rfl
    obtain ⟨m1, m2, m3, m4⟩ := kj
    exact ⟨m1, m2, by show _ = List.length _; rw [lG]; exact l3, m4⟩
   replace h := bh (a := a) (p := p) (pa := pa) (dr := dr) (gg := gg) (x := { (x.next g).bG g (aq (x.next g) g) with aB := eH g (wH (aq (x.next g) g).top) (aD p i) x.aB (aD p i).length }) (hcl2 _ rfl) h b
   rw [sx g0 g1] at h
   refine mB (b := b) (i := i) (x := { x.next g with aB := eH g (wH (aq (x.next g) g).top) (aD p i) x.aB (aD p i).length }) h g0 g1 ?_
   clear h; intro M h
   exact ⟨rfl, k _ _ (h.sub bp)⟩
 rw [if_neg hcan] at k hd
 have hcl0 : 0 < (enabled (aD p i) x.aB).length := by
  cases hh : enabled (aD p i) x.aB with
  | nil => exact absurd hh hcan
  | cons _ _ => simp
 refine uf (by simp; omega) ?_
 have CF : M.ld ⟨b, 0 + 14, none⟩ = some dr := by
  obtain ⟨a, hl, h9⟩ := cy h (b := b)
  exact bD h9
 rw [CF]
 refine OY ?_
 have h5 : Hp R (sep [iZ A2 c2 (enabled (aD p i) x.aB), ax (bB pa p gg dr) b x, pt k1 [.int .i64 i.op, .int .i64 i.a, .int .i64 i.b, .int .i64 i.c] 27, Q] :: L) M := Hp.bk.2 (h.sub bp)
 refine hd _ _ _ _ h5 ?_
 clear h h5 CF
 cases d with
 | dF l =>
  dsimp only at k ⊢
  intro M h5
  have h : Hp R (iZ A2 c2 (enabled (aD p i) x.aB) :: ax (bB pa p gg dr) b x :: pt k1 [.int .i64 i.op, .int .i64 i.a, .int .i64 i.b, .int .i64 i.c] 27 :: Q :: L2) M := Hp.bk.1 h5
  exact k _ _ (h.sub bp)
 | num v =>
  dsimp only at k ⊢
  intro M h5
  have h : Hp R (iZ A2 c2 (enabled (aD p i) x.aB) :: ax (bB pa p gg dr) b x :: pt k1 [.int .i64 i.op, .int .i64 i.a, .int .i64 i.b, .int .i64 i.c] 27 :: Q :: L2) M := Hp.bk.1 h5
  clear h5
  have hk2 : 0 ≤ v ∧ v < (enabled (aD p i) x.aB).length ∧
    0 ≤ (enabled (aD p i) x.aB).getD v.toNat 0 ∧ (enabled (aD p i) x.aB).getD v.toNat 0 < (aD p i).length ∧ be ((aD p i).getD ((enabled (aD p i) x.aB).getD v.toNat 0).toNat ⟨0, 0, 0⟩).bQ ∧
    if ((aD p i).getD ((enabled (aD p i) x.aB).getD v.toNat 0).toNat ⟨0, 0, 0⟩).way = 1 then oW p (x.next g) ((aD p i).getD ((enabled (aD p i) x.aB).getD v.toNat 0).toNat ⟨0, 0, 0⟩).ch (bC (x.next g) g ((aD p i).getD ((enabled (aD p i) x.aB).getD v.toNat 0).toNat ⟨0, 0, 0⟩).bQ) ∧
     (match (x.next g).put p ((aD p i).getD ((enabled (aD p i) x.aB).getD v.toNat 0).toNat ⟨0, 0, 0⟩).ch (bC (x.next g) g ((aD p i).getD ((enabled (aD p i) x.aB).getD v.toNat 0).toNat ⟨0, 0, 0⟩).bQ) with
      | .on (y, _) => bn y g ∧ (aq y g).fs.length = (aq x g).fs.length
      | _ => True)
    else wB (x.next g) ((aD p i).getD ((enabled (aD p i) x.aB).getD v.toNat 0).toNat ⟨0, 0, 0⟩).ch ∧ bn ((x.next g).get ((aD p i).getD ((enabled (aD p i) x.aB).getD v.toNat 0).toNat ⟨0, 0, 0⟩).ch).1 g ∧ (aq ((x.next g).get ((aD p i).getD ((enabled (aD p i) x.aB).getD v.toNat 0).toNat ⟨0, 0, 0⟩).ch).1 g).fs.length = (aq x g).fs.length := by
   revert hk
   cases hh : enabled (aD p i) x.aB with
   | nil => exact absurd hh hcan
   | cons a l => exact fun hk => hk
  clear hk hcan hd
  generalize hcane : enabled (aD p i) x.aB = can at h k hk2 hcl0 ⊢
  obtain ⟨v0, v1, q0, q1, Vx, YA⟩ := hk2
  refine bW ⟨v0, v1, ?_⟩
  obtain ⟨ab, rfl⟩ := h.bF (A := A2) hcl0 (by decide)
  refine aY ?_
  obtain ⟨q, hq⟩ := aM (l := can) (i := v.toNat) (by omega)
  have hqe : can.getD v.toNat 0 = q := by simp [hq]
  rw [hqe] at k q0 q1 Vx YA
  refine aR (Src.at (h.src (A := some ⟨ab, 0, none⟩)) h (i := v.toNat) (j := 0) hq rfl (by simp [br])) ?_
  unfold Wd.qQ at k
  dsimp only at k
  obtain ⟨cc, Zz⟩ := aM (l := aD p i) (i := q.toNat) (by omega)
  have hce : (aD p i).getD q.toNat ⟨0, 0, 0⟩ = cc := by simp [Zz]
  rw [hce] at k Vx YA
  refine JS (b := b) h hg fj rfl ?_
  rw [jA Uc (by omega)]
  refine JR (b := b) h hg fj rfl rfl ?_
  clear h; intro M h
  have Nu := uX hg
  have Mf := EN hg
  have w5 : (x.next g).Sm := Ub hs
  generalize EO : x.next g = x1 at h k YA Nu Mf w5
  refine ⟨q0, q1, ?_⟩
  obtain ⟨cb, co, rfl⟩ := hA.some (by omega) (by decide)
  refine aY ?_
  refine aR (Src.at (hA.src (L := _)) h (i := q.toNat) (j := 0) Zz rfl (by simp [iu])) ?_
  refine aR (Src.at (hA.src (L := _)) h (i := q.toNat) (j := 1) Zz rfl (by show _ = co + (_ * 3 + 1); omega)) ?_
  refine aR (Src.at (hA.src (L := _)) h (i := q.toNat) (j := 2) Zz rfl (by show _ = co + (_ * 3 + 2); omega)) ?_
  refine aj h ?_
  clear h; intro kc M h
  refine au h ?_
  clear h; intro M h
  refine au h ?_
  clear h; intro M h
  refine au h ?_
  clear h; intro M h
  refine ay h ?_
  refine aV.2 ⟨fun e1 => ?_, fun e1 => ?_⟩
  ·rw [if_pos e1] at k YA
   obtain ⟨hput, hy⟩ := YA
   refine ay h (ay h ⟨Vx.1, Vx.2, ?_⟩)
   refine GP (b := b) h Nu fj Vx (by rw [Mf]) ?_
   refine Dl (b := b) h hp.cases hput w5 ?_ ?_
   ·clear h
    intro y ok M e h
    rw [e] at k hy
    dsimp only at k hy
    refine oS ?_
    refine ay h ⟨JT.1, JT.2, ?_⟩
    refine mC (b := b) h hy.1 fj JT (by rw [hy.2]) ?_
    clear h; intro M h
    exact k _ _ (h.sub bp)
   ·clear h
    intro y n M e h
    rw [e] at k
    exact k _ _ (h.sub bp)
  ·rw [if_neg e1] at k YA
   obtain ⟨Yp, GQ, hfl⟩ := YA
   refine ay h (ay h ?_)
   refine Dm (b := b) h Yp w5 ?_
   clear h; intro M h
   generalize x1.get cc.ch = r at h k GQ hfl
   obtain ⟨y, w, sm, ok⟩ := r
   dsimp only at h k GQ hfl ⊢
   refine ⟨_, _, _, rfl, bD h, Vx.1, Vx.2, ?_⟩
   refine mC (b := b) h GQ fj Vx (by rw [hfl]) ?_
   clear h; intro M h
   refine ⟨bD h, ay h ⟨JT.1, JT.2, ?_⟩⟩
   refine mC (b := b) h (jb GQ) fj JT (by rw [Ns GQ, hfl]) ?_
   clear h; intro M h
   exact k _ _ (h.sub bp)
end
def bz.before (a b : bz) : Bool := decide (a.t < b.t) || (a.t == b.t && decide (a.seq < b.seq))
def mG (l : List bz) (i : Nat) : bz := l.getD i ⟨0, 0, 0⟩
def fm (l : List bz) (i j : Nat) : List bz := (l.set i (mG l j)).set j (mG l i)
def Nv : Nat → Nat → List bz → List bz
 | 0, _, l => l
 | f + 1, i, l => if 0 < i ∧ (mG l i).before (mG l ((i - 1) / 4)) = true then Nv f ((i - 1) / 4) (fm l i ((i - 1) / 4)) else l
def gL (l : List bz) : Nat → Nat → Nat → Nat
 | 0, _, out => out
 | n + 1, k, out => if k < l.length then gL l n (k + 1) (if (mG l k).before (mG l out) then k else out) else out
def hJ (l : List bz) (i : Nat) : Nat := gL l 4 (4 * i + 1) i
def oX : Nat → Nat → List bz → List bz
 | 0, _, l => l
 | f + 1, i, l => if hJ l i = i then l else oX f (hJ l i) (fm l i (hJ l i))
def tU (l : List bz) (x : bz) : List bz := Nv l.length l.length (l ++ [x])
def cX (l : List bz) (i : Nat) : List bz :=
 if i < l.length - 1 then Nv i i (oX l.length i ((fm l i (l.length - 1)).take (l.length - 1))) else (fm l i (l.length - 1)).take (l.length - 1)
def en : Nat → List bz → Int → List bz × List bz
 | 0, l, _ => (l, [])
 | f + 1, l, now => if 0 < l.length ∧ (mG l 0).t ≤ now then ((en f (cX l 0) now).1, mG l 0 :: (en f (cX l 0) now).2) else (l, [])
def di : Nat → List bz → List bz
 | 0, _ => []
 | f + 1, l => if 0 < l.length then mG l 0 :: di f (cX l 0) else []
theorem G8 {f i : Nat} {l : List bz} : Nv (f + 1) i l = if 0 < i ∧ (mG l i).before (mG l ((i - 1) / 4)) = true then Nv f ((i - 1) / 4) (fm l i ((i - 1) / 4)) else l := rfl
theorem zz {l : List bz} {n k out : Nat} : gL l (n + 1) k out = if k < l.length then gL l n (k + 1) (if (mG l k).before (mG l out) then k else out) else out := rfl
theorem JU {f i : Nat} {l : List bz} : oX (f + 1) i l = if hJ l i = i then l else oX f (hJ l i) (fm l i (hJ l i)) := rfl
theorem Bn {f : Nat} {l : List bz} {now : Int} : en (f + 1) l now = if 0 < l.length ∧ (mG l 0).t ≤ now then ((en f (cX l 0) now).1, mG l 0 :: (en f (cX l 0) now).2) else (l, []) := rfl
theorem wJ {f : Nat} {l : List bz} : di (f + 1) l = if 0 < l.length then mG l 0 :: di f (cX l 0) else [] := rfl
theorem fM {l : List bz} {i j : Nat} : (fm l i j).length = l.length := by simp [fm]
theorem EP : ∀ {f i : Nat} {l : List bz}, (Nv f i l).length = l.length
 | 0, _, _ => rfl
 | f + 1, i, l => by unfold Nv; split; rw [EP, fM]; rfl
theorem jC : ∀ {f i : Nat} {l : List bz}, (oX f i l).length = l.length
 | 0, _, _ => rfl
 | f + 1, i, l => by unfold oX; split; rfl; rw [jC, fM]
theorem yS {l : List bz} {i : Nat} : (cX l i).length = l.length - 1 := by
 unfold cX; split
 ·rw [EP, jC, List.length_take, fM]; omega
 ·rw [List.length_take, fM]; omega
theorem Nw {l : List bz} {x : bz} : (tU l x).length = l.length + 1 := by unfold tU; rw [EP]; simp
theorem mU {l : List bz} {i : Nat} (h : i < l.length) : l[i]? = some (mG l i) := by
 unfold mG; rw [List.getD_eq_getElem?_getD, List.getElem?_eq_getElem h]; rfl
theorem mV {l : List bz} : ∀ (n k out : Nat), out < l.length → out < k → gL l n k out < l.length ∧ (out ≤ gL l n k out)
 | 0, _, _, h, _ => ⟨h, Nat.le_refl _⟩
 | n + 1, k, out, h, hk => by
  unfold gL; split
  ·rename_i hl
   split
   ·have := mV n (k + 1) k hl (by omega); omega
   ·exact mV n (k + 1) out h (by omega)
  ·exact ⟨h, Nat.le_refl _⟩
theorem DB {l : List bz} {i : Nat} (h : i < l.length) : hJ l i < l.length ∧ i ≤ hJ l i := mV 4 _ i h (by omega)
structure Sd (b o : Nat) (P : Option Addr → Nat → Nat → Int → HP) : Prop where
 GV : ∀ (R : Mem) (L : List HP) (M : Mem) (A : Option Addr) (n c : Nat) (s : Int), Hp R (P A n c s :: L) M → M.ld ⟨b, o, none⟩ = some (.slice A n c)
 ldI : ∀ (R : Mem) (L : List HP) (M : Mem) (A : Option Addr) (n c : Nat) (s : Int), Hp R (P A n c s :: L) M → M.ld ⟨b, o + 1, none⟩ = some (.int .u64 s)
 stS : ∀ (R : Mem) (L : List HP) (M : Mem) (A A' : Option Addr) (n c n' c' : Nat) (s : Int) (G : Mem → Prop), Hp R (P A n c s :: L) M → (∀ M', Hp R (P A' n' c' s :: L) M' → G M') → aN M ⟨b, o, none⟩ (.slice A' n' c') G
 stI : ∀ (R : Mem) (L : List HP) (M : Mem) (A : Option Addr) (n c : Nat) (s s' : Int) (G : Mem → Prop), Hp R (P A n c s :: L) M → (∀ M', Hp R (P A n c s' :: L) M' → G M') → aN M ⟨b, o + 1, none⟩ (.int .u64 s') G
theorem zV : bg Tryz.prog 46 203 3 24 [.int .u64 0, .int .u64 0, .int .i64 0] := bg.mk' (zv := .agg #[.int .u64 0, .int .u64 0, .int .i64 0]) (by kernel_rfl) (by kernel_rfl) rfl (by omega)
section
variable {R : Mem} {L L' : List HP} {M : Mem} {K : Value → Mem → Prop} {Kp : List PanicEntry → Mem → Prop} {b o : Nat} {P : Option Addr → Nat → Nat → Int → HP} {A : Option Addr} {c : Nat} {s : Int} {l : List bz} {i j : Nat}
theorem mH {q o0 o1 o2 o3 : Nat} {x : bz} {G : Int → Int → Int → Prop} (h : Hp R L M) (hs : Src R L (some ⟨q, o0, none⟩) (lH.cells l)) (hi : l[i]? = some x) (e1 : o1 = o0 + i * 3) (e2 : o2 = o0 + i * 3 + 1) (e3 : o3 = o0 + i * 3 + 2) (g : G x.t x.seq x.id) :
  aK (M.ld ⟨q, o1, none⟩) .u64 fun a => aK (M.ld ⟨q, o2, none⟩) .u64 fun b => aK (M.ld ⟨q, o3, none⟩) .i64 fun d => G a b d := by
 refine aR (Src.at hs h (i := i) (j := 0) hi rfl (by rw [e1]; rfl)) ?_
 refine aR (Src.at hs h (i := i) (j := 1) hi rfl (by rw [e2]; show _ = o0 + (i * 3 + 1); omega)) ?_
 exact aR (Src.at hs h (i := i) (j := 2) hi rfl (by rw [e3]; show _ = o0 + (i * 3 + 2); omega)) g
theorem Lo {q o1 o2 o3 : Nat} {x y : bz} {G : Mem → Prop} (h : Hp R L M) [r : cG (some ⟨q, 0, none⟩) L bz lH 203 c l L'] (hi : l[i]? = some x) (e1 : o1 = i * 3) (e2 : o2 = i * 3 + 1) (e3 : o3 = i * 3 + 2)
  (k : ∀ M', Hp R (ee (some ⟨q, 0, none⟩) c (l.set i y) :: L') M' → G M') :
  aN M ⟨q, o1, none⟩ (.int .u64 y.t) fun M1 => aN M1 ⟨q, o2, none⟩ (.int .u64 y.seq) fun M2 => aN M2 ⟨q, o3, none⟩ (.int .i64 y.id) G := by
 have hl := (List.getElem?_eq_some_iff.1 hi).1
 refine iE (E := lH) (a := x) (a' := ⟨y.t, x.seq, x.id⟩) i 0 h hi (by decide) rfl e1 ?_
 clear h; intro M h
 refine iE (E := lH) (a := ⟨y.t, x.seq, x.id⟩) (a' := ⟨y.t, y.seq, x.id⟩) i 1 h (by simp [hl]) (by decide) rfl e2 ?_
 clear h; intro M h
 refine iE (E := lH) (a := ⟨y.t, y.seq, x.id⟩) (a' := y) i 2 h (by simp [hl]) (by decide) rfl e3 ?_
 clear h; intro M h
 rw [iY, iY] at h
 exact k _ h
theorem yT {x y : bz} (h : Hp R L M) (k : ∀ M', Hp R L M' → K (.bool (x.before y)) M') : aa Tryz.prog 187 #[.agg #[.int .u64 x.t, .int .u64 x.seq, .int .i64 x.id], .agg #[.int .u64 y.t, .int .u64 y.seq, .int .i64 y.id]] M K Kp := by
 refine AN ?_
 repeat (first|(refine aj h ?_;clear h;intro kb M h)|(refine au h ?_;clear h;intro M h)|refine St.to h ?_|(apply Exists.intro;(repeat apply Exists.intro);refine And.intro rfl ?_)|refine av ?_|refine ae ?_|refine ai ?_)
 unfold bz.before at k
 refine aJ.2 ⟨fun h1 => ?_, fun h1 => ?_⟩
 ·have := k _ h.sk
  rwa [decide_eq_true h1, Bool.true_or] at this
 ·repeat (first|(refine aj h ?_;clear h;intro kb M h)|(refine au h ?_;clear h;intro M h)|refine St.to h ?_|(apply Exists.intro;(repeat apply Exists.intro);refine And.intro rfl ?_)|refine av ?_|refine ae ?_|refine ai ?_)
  refine aV.2 ⟨fun h2 => ?_, fun h2 => ?_⟩
  ·repeat (first|(refine aj h ?_;clear h;intro kb M h)|(refine au h ?_;clear h;intro M h)|refine St.to h ?_|(apply Exists.intro;(repeat apply Exists.intro);refine And.intro rfl ?_)|refine av ?_|refine ae ?_|refine ai ?_)
   have := k _ h.sk
   rwa [decide_eq_false h1, Bool.false_or, beq_iff_eq.2 h2, Bool.true_and] at this
  ·have := k _ h.sk
   rwa [decide_eq_false h1, Bool.false_or, show (x.t == y.t) = false from by simpa using h2, Bool.false_and] at this
theorem yb (D : Sd b o P) (h : Hp R (P A l.length c s :: ee A c l :: L) M) (hi : i < l.length) (hj : j < l.length)
  (k : ∀ M', Hp R (P A l.length c s :: ee A c (fm l i j) :: L) M' → K (.tuple #[]) M') : aa Tryz.prog 154 #[.pointer (some ⟨b, o, none⟩), .int .i64 (i : Int), .int .i64 (j : Int)] M K Kp := by
 refine vV ?_
 obtain ⟨q, rfl⟩ := h.bF (A := A) (by omega) (by decide)
 have hs := h.src (A := some ⟨q, 0, none⟩)
 rw [D.GV _ _ _ _ _ _ _ h]
 refine aO (aO (aO ⟨by omega, by omega, aY ?_⟩))
 refine mH h hs (mU hj) (by simp) (by simp) (by simp) ?_
 refine aO ⟨by omega, by omega, aY ?_⟩
 refine mH h hs (mU hi) (by simp) (by simp) (by simp) ?_
 clear hs
 refine ⟨by omega, by omega, aY ?_⟩
 refine Lo (y := mG l j) h (mU hi) (by simp) (by simp) (by simp) ?_
 clear h; intro M h
 refine ⟨by omega, by omega, aY ?_⟩
 have KA : (l.set i (mG l j))[j]? = some (mG l j) := by
  rw [List.getElem?_set]
  split
  ·rfl
  ·exact mU hj
 refine Lo (y := mG l i) h KA (by simp) (by simp) (by simp) ?_
 clear h; intro M h
 exact k _ (h.sub bp)
theorem Bo (D : Sd b o P) (h : Hp R (P A l.length c s :: ee A c l :: L) M) (hi : i < l.length) (hl : l.length ≤ 1000000)
  (k : ∀ M', Hp R (P A l.length c s :: ee A c l :: L) M' → K (.int .i64 (hJ l i : Int)) M') : aa Tryz.prog 186 #[.pointer (some ⟨b, o, none⟩), .int .i64 (i : Int)] M K Kp := by
 refine uI ?_
 have e1 : IntKind.wrap .i64 (IntKind.wrap .i64 (4 * (i : Int)) + 1) = ((4 * i + 1 : Nat) : Int) := by
  rw [dc (z := 4 * (i : Int)) (by omega) (by omega), dc (by omega) (by omega)]; omega
 have e4 : IntKind.wrap .i64 (IntKind.wrap .i64 (4 * (i : Int)) + 4) = ((4 * i + 4 : Nat) : Int) := by
  rw [dc (z := 4 * (i : Int)) (by omega) (by omega), dc (by omega) (by omega)]; omega
 rw [e1, e4]
 refine ⟨fun d vs M => ∃ kk out : Nat, vs = [.int .i64 (out : Int), .int .i64 (kk : Int)] ∧ d = 4 * i + 5 - kk ∧ kk ≤ 4 * i + 5 ∧ out < l.length ∧ out < kk ∧ gL l (4 * i + 5 - kk) kk out = hJ l i ∧ Hp R (P A l.length c s :: ee A c l :: L) M,
  ⟨_, 4 * i + 1, i, rfl, rfl, by omega, hi, by omega, by rw [show 4 * i + 5 - (4 * i + 1) = 4 from by omega]; rfl, h⟩, ?_⟩
 clear h
 rintro d _ n5 n6 M ⟨kk, out, he, hd, hkk, ho, hok, hf, h⟩
 simp only [List.cons.injEq, Value.int.injEq, and_true, true_and] at he
 obtain ⟨rfl, rfl⟩ := he
 refine aJ.2 ⟨fun hle => ?_, fun hgt => ?_⟩
 ·rw [D.GV _ _ _ _ _ _ _ h]
  obtain ⟨n, hn⟩ : ∃ n, 4 * i + 5 - kk = n + 1 := ⟨4 * i + 4 - kk, by omega⟩
  rw [hn] at hf
  rw [zz] at hf
  refine aO ?_
  refine aJ.2 ⟨fun hlt => ?_, fun hge => ?_⟩
  ·rw [if_pos (by omega)] at hf
   obtain ⟨q, rfl⟩ := h.bF (A := A) (by omega) (by decide)
   have hs := h.src (A := some ⟨q, 0, none⟩)
   refine aO ⟨by omega, by omega, aY ?_⟩
   refine mH h hs (mU (i := kk) (by omega)) (by simp) (by simp) (by simp) ?_
   refine aO ⟨by omega, by omega, aY ?_⟩
   refine mH h hs (mU (i := out) (by omega)) (by simp) (by simp) (by simp) ?_
   refine yT h ?_
   clear h hs; intro M h
   refine oS ?_
   have e : IntKind.wrap .i64 ((kk : Int) + 1) = ((kk + 1 : Nat) : Int) := by rw [dc (by omega) (by omega)]; omega
   rw [e]
   cases hb : (mG l kk).before (mG l out) with
   | true =>
    rw [hb] at hf
    exact ae ⟨n, by omega, kk + 1, kk, rfl, by omega, by omega, by omega, by omega, by rw [show 4 * i + 5 - (kk + 1) = n from by omega]; exact hf, h⟩
   | false =>
    rw [hb] at hf
    exact ai ⟨n, by omega, kk + 1, out, rfl, by omega, by omega, by omega, by omega, by rw [show 4 * i + 5 - (kk + 1) = n from by omega]; exact hf, h⟩
  ·rw [if_neg (by omega)] at hf
   subst hf
   exact k _ h
 ·have : 4 * i + 5 - kk = 0 := by omega
  rw [this] at hf
  have FJ : out = hJ l i := hf
  subst FJ
  exact k _ h
theorem Nx (D : Sd b o P) {f : Nat} (h : Hp R (P A l.length c s :: ee A c l :: L) M) (hi : i < l.length) (hl : l.length ≤ 1000000) (hf : l.length ≤ f + i)
  (k : ∀ M', Hp R (P A l.length c s :: ee A c (oX f i l) :: L) M' → K (.tuple #[]) M') : aa Tryz.prog 155 #[.pointer (some ⟨b, o, none⟩), .int .i64 (i : Int)] M K Kp := by
 refine vW ?_
 refine Bo D h hi hl ?_
 clear h; intro M h
 refine bW ?_
 refine ⟨fun d vs M => ∃ (f' i' : Nat) (l' : List bz), vs = [.int .i64 (i' : Int), .int .i64 (hJ l' i' : Int)] ∧ d = l.length - i' ∧ i' < l.length ∧ l'.length = l.length ∧ l.length ≤ f' + i' ∧ oX f' i' l' = oX f i l ∧ Hp R (P A l.length c s :: ee A c l' :: L) M,
  ⟨_, f, i, l, rfl, rfl, hi, rfl, hf, rfl, h⟩, ?_⟩
 clear h
 rintro d _ n5 n6 M ⟨f', i', l', he, hd, hi', hl', Ih, DC, h⟩
 simp only [List.cons.injEq, Value.int.injEq, and_true, true_and] at he
 obtain ⟨rfl, rfl⟩ := he
 obtain ⟨g, rfl⟩ : ∃ g, f' = g + 1 := ⟨f' - 1, by omega⟩
 rw [JU] at DC
 obtain ⟨m1, m2⟩ := DB (l := l') (i := i') (by omega)
 rw [← hl'] at h
 refine fy.2 ⟨fun hne => ?_, fun heq => ?_⟩
 ·rw [if_neg (by intro e; apply hne; rw [e])] at DC
  refine yb D h (i := i') (j := hJ l' i') (by omega) (by omega) ?_
  clear h; intro M h
  refine ⟨rfl, ?_⟩
  have Lp : (fm l' i' (hJ l' i')).length = l'.length := fM
  rw [← Lp] at h
  refine Bo D h (by omega) (by omega) ?_
  clear h; intro M h
  rw [Lp] at h
  refine bW ?_
  exact ⟨l.length - hJ l' i', by omega, g, hJ l' i', _, rfl, rfl, by omega, by omega, by omega, DC, by rw [← hl']; exact h⟩
 ·rw [if_pos (by omega)] at DC
  subst DC
  rw [hl'] at h
  exact k _ h
theorem Lq (D : Sd b o P) {f : Nat} (h : Hp R (P A l.length c s :: ee A c l :: L) M) (hi : i < l.length) (hl : l.length ≤ 1000000) (hf : i ≤ f)
  (k : ∀ M', Hp R (P A l.length c s :: ee A c (Nv f i l) :: L) M' → K (.tuple #[]) M') : aa Tryz.prog 156 #[.pointer (some ⟨b, o, none⟩), .int .i64 (i : Int)] M K Kp := by
 refine zl ?_
 refine ⟨fun d vs M => ∃ (f' i' : Nat) (l' : List bz), vs = [.int .i64 (i' : Int)] ∧ d = i' ∧ i' < l.length ∧ l'.length = l.length ∧ i' ≤ f' ∧ Nv f' i' l' = Nv f i l ∧ Hp R (P A l.length c s :: ee A c l' :: L) M,
  ⟨_, f, i, l, rfl, rfl, hi, rfl, hf, rfl, h⟩, ?_⟩
 clear h
 rintro d _ n5 M ⟨f', i', l', he, hd, hi', hl', Ih, DC, h⟩
 simp only [List.cons.injEq, Value.int.injEq, and_true, true_and] at he
 subst he
 refine aJ.2 ⟨fun hgt => ?_, fun hle => ?_⟩
 ·obtain ⟨g, rfl⟩ : ∃ g, f' = g + 1 := ⟨f' - 1, by omega⟩
  rw [G8] at DC
  have ep : IntKind.wrap .i64 (Int.tdiv (IntKind.wrap .i64 ((i' : Int) - 1)) 4) = (((i' - 1) / 4 : Nat) : Int) := by
   rw [dc (z := (i' : Int) - 1) (by omega) (by omega), show ((i' : Int) - 1) = ((i' - 1 : Nat) : Int) from by omega, show (4 : Int) = ((4 : Nat) : Int) from rfl, ← Int.ofNat_tdiv, dc (by omega) (by omega)]
  have hp : (i' - 1) / 4 < i' := by omega
  generalize hpe : (i' - 1) / 4 = p at ep DC hp
  rw [ep, D.GV _ _ _ _ _ _ _ h]
  obtain ⟨q, rfl⟩ := h.bF (A := A) (by omega) (by decide)
  have hs := h.src (A := some ⟨q, 0, none⟩)
  refine ⟨by omega, aO ⟨by omega, by omega, aY ?_⟩⟩
  refine mH h hs (mU (i := i') (by omega)) (by simp) (by simp) (by simp) ?_
  refine aO ⟨by omega, by omega, aY ?_⟩
  refine mH h hs (mU (i := p) (by omega)) (by simp) (by simp) (by simp) ?_
  refine yT h ?_
  clear h hs; intro M h
  refine oS ?_
  cases hb : (mG l' i').before (mG l' p) with
  | true =>
   rw [if_pos ⟨by omega, hb⟩] at DC
   refine ae ⟨by omega, ?_⟩
   rw [← hl'] at h
   refine yb D h (i := i') (j := p) (by omega) (by omega) ?_
   clear h; intro M h
   rw [hl'] at h
   exact ⟨rfl, by omega, p, by omega, g, p, _, rfl, rfl, by omega, by rw [fM]; exact hl', by omega, DC, h⟩
  | false =>
   rw [if_neg (by rintro ⟨_, h2⟩; rw [hb] at h2; cases h2)] at DC
   refine ai ?_
   subst DC
   exact k _ h
 ·have : Nv f' i' l' = l' := by
   have h0 : i' = 0 := by omega
   subst h0
   cases f' with
   | zero => rfl
   | succ g => rw [G8]; rw [if_neg (by omega)]
  rw [this] at DC
  subst DC
  exact k _ h
theorem Ny (D : Sd b o P) {t id : Int} (h : Hp R (P A l.length c s :: ee A c l :: L) M) (hl : l.length < 1000000)
  (k : ∀ v A' c' M', Hp R (P A' (l.length + 1) c' (IntKind.wrap .u64 (s + 1)) :: ee A' c' (tU l ⟨t, s, id⟩) :: L) M' → K (.int .u64 v) M') : aa Tryz.prog 244 #[.pointer (some ⟨b, o, none⟩), .int .u64 t, .int .i64 id] M K Kp := by
 refine vX ?_
 rw [D.GV _ _ _ _ _ _ _ h, D.ldI _ _ _ _ _ _ _ h]
 refine aO (bW ?_)
 refine aj h ?_
 clear h; intro kb M h
 replace h : Hp R (P A l.length c s :: ee A c l :: pt kb [.int .u64 t, .int .u64 s, .int .i64 id] 203 :: L) M := h.sub bp
 refine h.bJ (A := A) zV [(⟨t, s, id⟩ : bz)] rfl rfl (by simp only [List.length_singleton]; omega) ?_
 clear h; intro A' c' M h
 refine aO ?_
 have hlen : (l ++ [(⟨t, s, id⟩ : bz)]).length = l.length + 1 := by simp
 refine D.stS _ _ _ _ _ _ _ _ _ _ _ h.swap ?_
 clear h; intro M h
 rw [D.ldI _ _ _ _ _ _ _ h]
 refine bW ?_
 refine D.stI _ _ _ _ _ _ _ _ _ h ?_
 clear h; intro M h
 rw [D.GV _ _ _ _ _ _ _ h]
 refine aO ?_
 have e : IntKind.wrap .i64 (((l ++ [(⟨t, s, id⟩ : bz)]).length : Int) - 1) = ((l.length : Nat) : Int) := by
  rw [dc (by omega) (by omega)]; omega
 rw [e]
 refine Lq D (f := l.length) h (by omega) (by omega) (Nat.le_refl _) ?_
 clear h; intro M h
 refine ⟨rfl, ?_⟩
 rw [D.ldI _ _ _ _ _ _ _ h]
 refine bW ?_
 rw [hlen] at h
 exact k _ _ _ _ h
theorem yU (D : Sd b o P) (h : Hp R (P A l.length c s :: ee A c l :: L) M) (hi : i < l.length) (hl : l.length ≤ 1000000)
  (k : ∀ M', Hp R (P A (l.length - 1) c s :: ee A c (cX l i) :: L) M' → K (.agg #[.int .u64 (mG l i).t, .int .u64 (mG l i).seq, .int .i64 (mG l i).id]) M') : aa Tryz.prog 117 #[.pointer (some ⟨b, o, none⟩), .int .i64 (i : Int)] M K Kp := by
 refine sH ?_
 have hcap := h.j8 A
 obtain ⟨q, rfl⟩ := h.bF (A := A) (by omega) (by decide)
 refine aj h ?_
 clear h; intro k1 M h
 have hs := h.src (A := some ⟨q, 0, none⟩)
 replace h : Hp R (P (some ⟨q, 0, none⟩) l.length c s :: ee (some ⟨q, 0, none⟩) c l :: pt k1 [.int .u64 0, .int .u64 0, .int .i64 0] 203 :: L) M := h.sub bp
 replace hs := h.src (A := some ⟨q, 0, none⟩)
 rw [D.GV _ _ _ _ _ _ _ h]
 refine aO ⟨by omega, by omega, aY ?_⟩
 refine mH h hs (mU hi) (by simp) (by simp) (by simp) ?_
 clear hs
 generalize hx : mG l i = x at k
 refine aj h ?_
 clear h; intro k2 M h
 refine au h ?_
 clear h; intro M h
 refine au h ?_
 clear h; intro M h
 refine au h ?_
 clear h; intro M h
 replace h : Hp R (P (some ⟨q, 0, none⟩) l.length c s :: ee (some ⟨q, 0, none⟩) c l :: pt k2 [.int .u64 x.t, .int .u64 x.seq, .int .i64 x.id] 203 :: pt k1 [.int .u64 0, .int .u64 0, .int .i64 0] 203 :: L) M := h.sub bp
 rw [D.GV _ _ _ _ _ _ _ h]
 have e : IntKind.wrap .i64 ((l.length : Int) - 1) = ((l.length - 1 : Nat) : Int) := by
  rw [dc (by omega) (by omega)]; omega
 refine aO ?_
 rw [e]
 refine yb D h hi (j := l.length - 1) (by omega) ?_
 clear h; intro M h
 refine ⟨rfl, ?_⟩
 rw [D.GV _ _ _ _ _ _ _ h]
 refine aO ⟨by omega, by omega, by omega, by omega, by omega, by omega, ?_⟩
 have e2 : kx (some ⟨q, 0, none⟩) 0 (Int.toNat (c : Int)) 3 = some ⟨q, 0, none⟩ := by
  unfold kx; rw [if_neg (by simp; omega)]; rfl
 rw [e2]
 simp only [Int.toNat_natCast, Nat.sub_zero]
 refine D.stS _ _ _ _ _ _ _ _ _ _ _ h ?_
 clear h; intro M h
 have Lp : ((fm l i (l.length - 1)).take (l.length - 1)).length = l.length - 1 := by rw [List.length_take, fM]; omega
 have fin : ∀ (M : Mem) (Q : List HP), Hp R (P (some ⟨q, 0, none⟩) (l.length - 1) c s :: ee (some ⟨q, 0, none⟩) c (cX l i) :: pt k2 [.int .u64 x.t, .int .u64 x.seq, .int .i64 x.id] 203 :: pt k1 [.int .u64 0, .int .u64 0, .int .i64 0] 203 :: L) M →
   aK (Mem.ld M ⟨k2, 0, none⟩) .u64 fun qi => aK (Mem.ld M ⟨k2, (0 + 1), none⟩) .u64 fun vT => aK (Mem.ld M ⟨k2, (0 + 2), none⟩) .i64 fun tQ =>
   aN M ⟨k1, 0, none⟩ (.int .u64 qi) fun nk => aN nk ⟨k1, (0 + 1), none⟩ (.int .u64 vT) fun xw => aN xw ⟨k1, (0 + 2), none⟩ (.int .i64 tQ) fun pb =>
   aK (Mem.ld pb ⟨k1, 0, none⟩) .u64 fun Ek => aK (Mem.ld pb ⟨k1, (0 + 1), none⟩) .u64 fun zj => aK (Mem.ld pb ⟨k1, (0 + 2), none⟩) .i64 fun KM =>
   K (.agg #[(.int .u64 Ek), (.int .u64 zj), (.int .i64 KM)]) pb := by
  intro M _ h
  refine ay h (ay h (ay h ?_))
  refine au h ?_
  clear h; intro M h
  refine au h ?_
  clear h; intro M h
  refine au h ?_
  clear h; intro M h
  refine ay h (ay h (ay h ?_))
  exact k _ (h.sub bp)
 replace h : Hp R (P (some ⟨q, 0, none⟩) (l.length - 1) c s :: ee (some ⟨q, 0, none⟩) c ((fm l i (l.length - 1)).take (l.length - 1)) :: pt k2 [.int .u64 x.t, .int .u64 x.seq, .int .i64 x.id] 203 :: pt k1 [.int .u64 0, .int .u64 0, .int .i64 0] 203 :: L) M := (h.swap.O0 (l.length - 1)).swap
 unfold cX at fin
 refine aJ.2 ⟨fun hlt => ?_, fun hge => ?_⟩
 ·rw [if_pos (by omega)] at fin
  have h' : Hp R (P (some ⟨q, 0, none⟩) ((fm l i (l.length - 1)).take (l.length - 1)).length c s :: ee (some ⟨q, 0, none⟩) c ((fm l i (l.length - 1)).take (l.length - 1)) :: pt k2 [.int .u64 x.t, .int .u64 x.seq, .int .i64 x.id] 203 :: pt k1 [.int .u64 0, .int .u64 0, .int .i64 0] 203 :: L) M := by rw [Lp]; exact h
  clear h
  have h := h'
  clear h'
  refine Nx D (f := l.length) h (by omega) (by omega) (by omega) ?_
  clear h; intro M h
  refine ⟨rfl, ?_⟩
  rw [show ((fm l i (l.length - 1)).take (l.length - 1)).length = (oX l.length i ((fm l i (l.length - 1)).take (l.length - 1))).length from jC.symm] at h
  refine Lq D (f := i) h (by rw [jC]; omega) (by rw [jC]; omega) (Nat.le_refl _) ?_
  clear h; intro M h
  refine ⟨rfl, ?_⟩
  rw [jC, Lp] at h
  exact fin M [] h
 ·rw [if_neg (by omega)] at fin
  exact fin M [] h
theorem Nz (D : Sd b o P) {now : Int} (h : Hp R (P A l.length c s :: ee A c l :: L) M) (hl : l.length ≤ 1000000)
  (k : ∀ A' c' M', Hp R (P A (en l.length l now).1.length c s :: ee A c (en l.length l now).1 :: ee A' c' (en l.length l now).2 :: L) M' → K (.slice A' (en l.length l now).2.length c') M') :
  aa Tryz.prog 157 #[.pointer (some ⟨b, o, none⟩), .int .u64 now] M K Kp := by
 refine vR ?_
 have h0 := h.bR lH 203
 refine ⟨fun d vs M => ∃ (A' : Option Addr) (c' : Nat) (out l' : List bz), vs = [.slice A' out.length c'] ∧ d = l'.length ∧ l'.length + out.length = l.length ∧ (en l'.length l' now).1 = (en l.length l now).1 ∧ out ++ (en l'.length l' now).2 = (en l.length l now).2 ∧
   Hp R (P A l'.length c s :: ee A c l' :: ee A' c' out :: L) M, ⟨_, none, 0, [], l, rfl, rfl, rfl, rfl, rfl, h0.sub bp⟩, ?_⟩
 clear h h0
 rintro d _ A' n' c' M ⟨A2, c2, out, l', he, hd, Lp, e1, e2, h⟩
 simp only [List.cons.injEq, Value.slice.injEq, and_true, true_and] at he
 obtain ⟨rfl, rfl, rfl⟩ := he
 rw [D.GV _ _ _ _ _ _ _ h]
 have stop : ¬ (0 < l'.length ∧ (mG l' 0).t ≤ now) → K (.slice A' out.length c') M := by
  intro hn
  have e : en l'.length l' now = (l', []) := by
   cases hl' : l'.length with
   | zero => rfl
   | succ m => rw [Bn]; rw [if_neg hn]
  rw [e] at e1 e2
  dsimp only at e1 e2
  rw [List.append_nil] at e2
  subst e1; subst e2
  exact k _ _ _ h
 refine aO ?_
 refine aJ.2 ⟨fun hgt => ?_, fun hle => stop (by omega)⟩
 have hcap := h.j8 A
 obtain ⟨q, rfl⟩ := h.bF (A := A) (by omega) (by decide)
 have hs := h.src (A := some ⟨q, 0, none⟩)
 refine aO ⟨by omega, by omega, aY ?_⟩
 refine aR (Src.at hs h (i := 0) (j := 0) (mU (by omega)) rfl rfl) ?_
 clear hs
 refine aJ.2 ⟨fun hle => ?_, fun hgt2 => stop (fun hn => hgt2 hn.2)⟩
 refine yU D h (i := 0) (by omega) (by omega) ?_
 clear h stop; intro M h
 refine ⟨_, _, _, rfl, ?_⟩
 refine aj h ?_
 clear h; intro kb M h
 refine h.bJ (A := A') zV [mG l' 0] rfl rfl (by simp only [List.length_singleton]; omega) ?_
 clear h; intro A3 c3 M h
 refine aO ?_
 have jn : (cX l' 0).length = l'.length - 1 := yS
 have hw : en l'.length l' now = ((en (cX l' 0).length (cX l' 0) now).1, mG l' 0 :: (en (cX l' 0).length (cX l' 0) now).2) := by
  obtain ⟨m, hm⟩ : ∃ m, l'.length = m + 1 := ⟨l'.length - 1, by omega⟩
  rw [jn, hm]
  show en (m + 1) l' now = _
  rw [Bn]
  rw [if_pos ⟨by omega, hle⟩]; rfl
 rw [hw] at e1 e2
 rw [← jn] at h
 exact ⟨_, by omega, A3, c3, out ++ [mG l' 0], cX l' 0, rfl, rfl, by simp; omega, e1, by rw [List.append_assoc]; exact e2, h.sub bp⟩
theorem YB {kb T : Nat} : Sd kb 0 (fun A n c s => pt kb [.slice A n c, .int .u64 s] T) :=
 ⟨fun R L M A n c s h => bD h, fun R L M A n c s h => bD h, fun R L M A A' n c n' c' s G h k => au h k, fun R L M A n c s s' G h k => au h k⟩
theorem NA (D : Sd b o P) (h : Hp R (P A l.length c s :: ee A c l :: L) M) (hl : l.length ≤ 1000000)
  (k : ∀ A' c' M', Hp R (ee A' c' (di l.length l) :: P A l.length c s :: ee A c l :: L) M' → K (.slice A' (di l.length l).length c') M') :
  aa Tryz.prog 63 #[.pointer (some ⟨b, o, none⟩)] M K Kp := by
 refine vS ?_
 refine aj h ?_
 clear h; intro kb M h
 replace h : Hp R (P A l.length c s :: ee A c l :: pt kb [] 203 :: L) M := h.sub (by repeat (first | exact .refl | refine .cons (by repeat (first | exact .here | apply cW.there)) ?_ | apply Sub.drop))
 rw [D.GV _ _ _ _ _ _ _ h]
 refine aO ?_
 refine h.fV lH (k := kb) zV l (h.src (A := A)) rfl (by omega) ?_
 clear h; intro A1 c1 M h
 refine aO ?_
 refine aj h ?_
 clear h; intro kc M h
 refine au h ?_
 clear h; intro M h
 refine au h ?_
 clear h; intro M h
 have h0 := h.bR lH 203
 refine ⟨fun d vs M => ∃ (A' : Option Addr) (c' : Nat) (out l' : List bz), vs = [.slice A' out.length c'] ∧ d = l'.length ∧ l'.length + out.length = l.length ∧ out ++ di l'.length l' = di l.length l ∧
   Hp R (pt kc [.slice A1 l'.length c1, .int .u64 0] 159 :: ee A1 c1 l' :: ee A' c' out :: P A l.length c s :: ee A c l :: L) M, ⟨_, none, 0, [], l, rfl, rfl, rfl, rfl, h0.sub (by repeat (first | exact .refl | refine .cons (by repeat (first | exact .here | apply cW.there)) ?_ | apply Sub.drop))⟩, ?_⟩
 clear h h0
 rintro d _ A' n' c' M ⟨A2, c2, out, l', he, hd, Lp, e2, h⟩
 simp only [List.cons.injEq, Value.slice.injEq, and_true, true_and] at he
 obtain ⟨rfl, rfl, rfl⟩ := he
 refine aF h ?_
 refine aJ.2 ⟨fun hgt => ?_, fun hle => ?_⟩
 ·refine yU YB h (i := 0) (by omega) (by omega) ?_
  clear h; intro M h
  refine ⟨_, _, _, rfl, ?_⟩
  refine aj h ?_
  clear h; intro kb2 M h
  refine h.bJ (A := A') zV [mG l' 0] rfl rfl (by simp only [List.length_singleton]; omega) ?_
  clear h; intro A3 c3 M h
  refine aO ?_
  have jn : (cX l' 0).length = l'.length - 1 := yS
  have hw : di l'.length l' = mG l' 0 :: di (cX l' 0).length (cX l' 0) := by
   obtain ⟨m, hm⟩ : ∃ m, l'.length = m + 1 := ⟨l'.length - 1, by omega⟩
   rw [jn, hm]
   show di (m + 1) l' = _
   rw [wJ]
   rw [if_pos (by omega)]; rfl
  rw [hw] at e2
  rw [← jn] at h
  exact ⟨_, by omega, A3, c3, out ++ [mG l' 0], cX l' 0, rfl, rfl, by simp; omega, by rw [List.append_assoc]; exact e2, h.sub (by repeat (first | exact .refl | refine .cons (by repeat (first | exact .here | apply cW.there)) ?_ | apply Sub.drop))⟩
 ·have hz : l'.length = 0 := by omega
  rw [hz] at e2
  have e3 : out = di l.length l := by rw [← e2]; simp [di]
  subst e3
  exact k _ _ _ (h.sub (by repeat (first | exact .refl | refine .cons (by repeat (first | exact .here | apply cW.there)) ?_ | apply Sub.drop)))
end
def jV (x : Wd) (k : Int) : Lk := x.aI.getD k.toNat ⟨-1, []⟩
def Wd.gM (x : Wd) (k : Int) (c : Lk) : Wd := { x with aI := x.aI.set k.toNat c }
def Wd.lock (x : Wd) (g : Int) (i : cN) : Wd := if ((jV x i.a).take g).2 then x.gM i.a ((jV x i.a).take g).1 else (x.gM i.a ((jV x i.a).take g).1).block g i
def Wd.unlock (x : Wd) (g : Int) (i : cN) : Out Wd :=
 if ((jV x i.a).tI g).2.2 ≠ 0 then .eV (-3) (x.gM i.a ((jV x i.a).tI g).1)
 else if ((jV x i.a).tI g).2.1 ≠ -1 then .on ((x.gM i.a ((jV x i.a).tI g).1).fF ((jV x i.a).tI g).2.1) else .on (x.gM i.a ((jV x i.a).tI g).1)
def ER (x : Wd) (k : Int) : Prop := 0 ≤ k ∧ k < x.aI.length
instance (x : Wd) (k : Int) : Decidable (ER x k) := by unfold ER; infer_instance
def nD (x : Wd) (g : Int) (i : cN) : Prop := ER x i.a ∧ (((jV x i.a).tI g).2.1 ≠ -1 → 0 ≤ ((jV x i.a).tI g).2.1 ∧ ((jV x i.a).tI g).2.1 < x.gs.length)
instance (x : Wd) (g : Int) (i : cN) : Decidable (nD x g i) := by unfold nD; infer_instance
def Wd.rand (x : Wd) (g : Int) (i : cN) : kF → Out Wd
 | .num d => .on ((x.next g).bA g i.a d)
 | .dF l => .dF l x
def qR (x : Wd) (g : Int) (i : cN) : Int := if 1048576 < bC x g i.a then 1048576 else bC x g i.a
def Wd.sleep (x : Wd) (g : Int) (i : cN) : Wd :=
 if 0 < qR x g i then { x.bG g { aq x g with st := 3 } with hl := tU x.hl ⟨IntKind.wrap .u64 (x.clock + IntKind.wrap .u64 (qR x g i)), x.mQ, g⟩, mQ := IntKind.wrap .u64 (x.mQ + 1) } else x
def Wd.tick (x : Wd) : Wd := if x.end_ ≠ 0 then { x with ready := [] } else
 let r := en x.hl.length x.hl (IntKind.wrap .u64 (x.clock + 1))
 (r.2.map (·.id)).foldl Wd.fF { x with clock := IntKind.wrap .u64 (x.clock + 1), hl := r.1, ready := [] }
section
variable {R : Mem} {L L' L2 : List HP} {M : Mem} {K : Value → Mem → Prop} {Kp : List PanicEntry → Mem → Prop} {pa : PA} {p : cu} {gg : List GA} {dr : Value} {b : Nat} {x : Wd} {g : Int} {i : cN}
theorem Ud (hg : bn x g) (hb : be i.b) : gv R pa p dr 211 x g i (x.call g i) L L := by
 intro gg b bs c M K Kp Q h fj k
 refine sI ?_
 have EE := hg
 obtain ⟨h0, h1, h2, h3⟩ := EE
 unfold Wd.call at k
 refine aj h ?_
 clear h
 intro kb M h
 have hC := h
 have h' := gX h (b := b) h0 h1 fj
 clear h
 obtain ⟨a, gb, hl, fS, h⟩ := h'
 have hl' := hl
 obtain ⟨l1, l2, l3, l4⟩ := hl'
 repeat (first|(refine aj h ?_;clear h;intro kb M h)|(refine au h ?_;clear h;intro M h)|refine St.to h ?_|(apply Exists.intro;(repeat apply Exists.intro);refine And.intro rfl ?_)|refine av ?_|refine ae ?_|refine ai ?_)
 refine uT h fS fun q hq => ?_
 repeat (first|(refine aj h ?_;clear h;intro kb M h)|(refine au h ?_;clear h;intro M h)|refine St.to h ?_|(apply Exists.intro;(repeat apply Exists.intro);refine And.intro rfl ?_)|refine av ?_|refine ae ?_|refine ai ?_)
 refine ⟨hb.1, hb.2, wu h (eM h2) hb rfl ?_⟩
 repeat (first|(refine aj h ?_;clear h;intro kb M h)|(refine au h ?_;clear h;intro M h)|refine St.to h ?_|(apply Exists.intro;(repeat apply Exists.intro);refine And.intro rfl ?_)|refine av ?_|refine ae ?_|refine ai ?_)
 refine Ju h h2 ?_ ?_
 ·intro wv
  rw [if_pos (by omega)] at k
  refine ⟨_, _, _, _, rfl, ae ?_⟩
  exact k _ _ (hC.sub bp)
 ·intro hlt b' c' M' h'
  clear h hC
  have h := h'
  clear h'
  rw [if_neg (by omega)] at k
  refine ⟨_, _, _, _, rfl, ai ?_⟩
  repeat (first|(refine aj h ?_;clear h;intro kb M h)|(refine au h ?_;clear h;intro M h)|refine St.to h ?_|(apply Exists.intro;(repeat apply Exists.intro);refine And.intro rfl ?_)|refine av ?_|refine ae ?_|refine ai ?_)
  refine uT h fS fun q2 nV => ?_
  repeat (first|(refine aj h ?_;clear h;intro kb M h)|(refine au h ?_;clear h;intro M h)|refine St.to h ?_|(apply Exists.intro;(repeat apply Exists.intro);refine And.intro rfl ?_)|refine av ?_|refine ae ?_|refine ai ?_)
  have hlen : (aq x g).fs.length + 1 = ((aq x g).fs ++ [(⟨i.a, 0, [bC x g i.b, 0, 0, 0, 0, 0, 0, 0], i.c⟩ : gV)]).length := by simp
  have h5 := nA (A := some ⟨b', 0, none⟩) (fs := (aq x g).fs ++ [⟨i.a, 0, [bC x g i.b, 0, 0, 0, 0, 0, 0, 0], i.c⟩]) h gb hlen
  have hi := (List.getElem?_eq_some_iff.1 fS).1
  have h6 := h5.eA fR gb fS (by rw [List.length_zip]; omega)
  rw [Bk] at h6
  have kj : fB (gg.set g.toNat (some ⟨b', 0, none⟩, c')) a (x.bG g ⟨(aq x g).st, (aq x g).fs ++ [⟨i.a, 0, [bC x g i.b, 0, 0, 0, 0, 0, 0, 0], i.c⟩], (aq x g).wt⟩) := ⟨by simpa [Wd.bG] using l1, by simpa [Wd.bG] using l2, l3, l4⟩
  have h7 := bh (a := a) (p := p) (pa := pa) (dr := dr) (gg := gg.set g.toNat (some ⟨b', 0, none⟩, c')) (x := x.bG g ⟨(aq x g).st, (aq x g).fs ++ [⟨i.a, 0, [bC x g i.b, 0, 0, 0, 0, 0, 0, 0], i.c⟩], (aq x g).wt⟩) kj h6 b
  exact k _ _ (h7.sub bp)
theorem Lr {a : WA} {k : Int} {c : Lk} (hl : fB gg a x) : fB gg a (x.gM k c) := by
 obtain ⟨l1, l2, l3, l4⟩ := hl
 exact ⟨l1, l2, l3, by simpa [Wd.gM] using l4⟩
theorem Ue (hg : bn x g) (hk : ER x i.a) (hs : x.Sm) : gv R pa p dr 219 x g i (.on (x.lock g i)) L L := by
 intro gg b bs c M K Kp Q h fj k
 refine sN ?_
 replace k : ∀ mD M', Hp R (ax (bB pa p mD dr) b (x.lock g i) :: Q :: L) M' → K (.tuple #[]) M' := k
 unfold Wd.lock at k
 obtain ⟨s1, s2, s3, s4, s5, s6, s7, s8⟩ := hs
 obtain ⟨k0, k1⟩ := hk
 refine aj h ?_
 clear h
 intro kb M h
 have h' := cy h (b := b)
 clear h
 obtain ⟨a, hl, h⟩ := h'
 have hl' := hl
 obtain ⟨l1, l2, l3, l4⟩ := hl'
 refine aF h (ay h ⟨k0, by omega, ?_⟩)
 obtain ⟨lb, hlb⟩ := aM (l := a.lb) (i := i.a.toNat) (by omega)
 refine uT h hlb fun q hq => ?_
 obtain ⟨y, hy⟩ := aM (l := x.aI) (i := i.a.toNat) (by omega)
 have e : jV x i.a = y := by simp [jV, hy]
 rw [e] at k
 replace h := h.cH eK hlb hy
 refine Jv h (Nat.le_trans (s6 y (List.mem_of_getElem? hy)) (by decide)) ?_
 clear h; intro M h
 replace h := h.eA eK lb hlb (by omega)
 replace h := bh (a := a) (p := p) (pa := pa) (dr := dr) (gg := gg) (x := x.gM i.a (y.take g).1) (Lr hl) h b
 refine oS ?_
 cases ht : (y.take g).2 with
 | true =>
  rw [ht] at k
  simp only [if_true] at k
  refine ai ?_
  exact k _ _ (h.sub bp)
 | false =>
  rw [ht] at k
  simp only [Bool.false_eq_true, if_false] at k
  refine ae ?_
  refine ay h (ay h (ay h (ay h ?_)))
  refine mB (b := b) (i := i) h hg.1 (show g < (x.gM i.a (y.take g).1).gs.length from hg.2.1) ?_
  clear h; intro M h
  exact ⟨rfl, k _ _ (h.sub bp)⟩
theorem NB (hk : nD x g i) (hs : x.Sm) : gv R pa p dr 220 x g i (x.unlock g i) L L := by
 intro gg b bs c M K Kp Q h fj k
 refine pq ?_
 unfold Wd.unlock at k
 obtain ⟨s1, s2, s3, s4, s5, s6, s7, s8⟩ := hs
 obtain ⟨⟨k0, k1⟩, hw⟩ := hk
 refine aj h ?_
 clear h
 intro kb M h
 have h' := cy h (b := b)
 clear h
 obtain ⟨a, hl, h⟩ := h'
 have hl' := hl
 obtain ⟨l1, l2, l3, l4⟩ := hl'
 refine aF h (ay h ⟨k0, by omega, ?_⟩)
 obtain ⟨lb, hlb⟩ := aM (l := a.lb) (i := i.a.toNat) (by omega)
 refine uT h hlb fun q hq => ?_
 obtain ⟨y, hy⟩ := aM (l := x.aI) (i := i.a.toNat) (by omega)
 have e : jV x i.a = y := by simp [jV, hy]
 rw [e] at k hw
 replace h := h.cH eK hlb hy
 refine Jw h (Nat.le_trans (s6 y (List.mem_of_getElem? hy)) (by decide)) ?_
 clear h; intro M h
 replace h := h.eA eK lb hlb (by omega)
 replace h := bh (a := a) (p := p) (pa := pa) (dr := dr) (gg := gg) (x := x.gM i.a (y.tI g).1) (Lr hl) h b
 refine ⟨_, _, rfl, ?_⟩
 refine fy.2 ⟨fun hn => ?_, fun hn => ?_⟩
 ·rw [if_pos hn] at k
  exact k _ _ (h.sub bp)
 rw [if_neg (by simpa using hn)] at k
 refine fy.2 ⟨fun BU => ?_, fun BU => ?_⟩
 ·rw [if_pos BU] at k
  obtain ⟨w0, w1⟩ := hw BU
  refine iw (b := b) h w0 (show _ < ((x.gM i.a (y.tI g).1).gs.length : Int) from w1) (by show x.ready.length ≤ _; omega) ?_
  clear h; intro M h
  exact ⟨rfl, k _ _ (h.sub bp)⟩
 ·rw [if_neg (by simpa using BU)] at k
  exact k _ _ (h.sub bp)
theorem Uf : gv R pa p dr 222 x g i (.eV i.a x) L L := by
 intro gg b bs c M K Kp Q h fj k
 refine sP ?_
 refine aj h ?_
 clear h
 intro kb M h
 refine ay h ?_
 exact k _ _ (h.sub bp)
theorem Q4 : gv R pa p dr 214 x g i (.on x) L L := by
 intro gg b bs c M K Kp Q h fj k
 refine qt ?_
 refine aj h ?_
 clear h
 intro kb M h
 exact k _ _ (h.sub bp)
theorem Ug {d : kF} (hg : bn x g) (ha : be i.a) (CD : 0 ≤ (aq x g).top.pc ∧ (aq x g).top.pc < 1000000000) (hd : jh R dr 4 i.b d L L2) : gv R pa p dr 192 x g i (x.rand g i d) L L2 := by
 intro gg b bs c M K Kp Q h fj k
 refine sG ?_
 refine aj h ?_
 clear h
 intro kb M h
 have CF : M.ld ⟨b, 0 + 14, none⟩ = some dr := by
  obtain ⟨a, hl, h9⟩ := cy h (b := b)
  exact bD h9
 rw [CF]
 refine OY (ay h ?_)
 have h5 : Hp R (sep [ax (bB pa p gg dr) b x, pt kb [.int .i64 i.op, .int .i64 i.a, .int .i64 i.b, .int .i64 i.c] 27, Q] :: L) M := Hp.bk.2 (h.sub bp)
 refine hd _ _ _ _ h5 ?_
 clear h h5 CF
 cases d with
 | dF l =>
  dsimp only at k ⊢
  intro M h5
  have h : Hp R (ax (bB pa p gg dr) b x :: pt kb [.int .i64 i.op, .int .i64 i.a, .int .i64 i.b, .int .i64 i.c] 27 :: Q :: L2) M := Hp.bk.1 h5
  exact k _ _ (h.sub bp)
 | num v =>
  dsimp only at k ⊢
  intro M h5
  have h : Hp R (ax (bB pa p gg dr) b x :: pt kb [.int .i64 i.op, .int .i64 i.a, .int .i64 i.b, .int .i64 i.c] 27 :: Q :: L2) M := Hp.bk.1 h5
  clear h5
  refine bW ?_
  refine JS (b := b) h hg fj rfl ?_
  rw [jA CD.1 (by omega)]
  refine JR (b := b) h hg fj rfl rfl ?_
  clear h; intro M h
  refine ay h ⟨ha.1, ha.2, ?_⟩
  refine mC (b := b) h (uX hg) fj ha (by rw [EN hg]) ?_
  clear h; intro M h
  exact k _ _ (h.sub bp)
abbrev zW (pa : PA) (p : cu) (dr : Value) (a : WA) (x : Wd) (nr : Nat) (A : Option Addr) (n c : Nat) (s : Int) : List Value :=
 [.slice pa.f p.funcs.length pa.fc, .slice pa.c p.dU.length pa.cc, .int .i64 p.aI, .slice pa.k p.cases.length pa.kc, .slice a.ag a.gb.length a.cg, .int .u64 x.clock,
  .slice a.ac a.cb.length a.cc, .slice a.al a.lb.length a.cl, .slice A n c, .int .u64 s, .slice a.ao x.out.length a.co, .int .i64 x.end_, .int .i64 x.code, .slice a.ar nr a.cr, dr]
theorem Q5 {a : WA} {nr T : Nat} : Sd b (0 + 8) (fun A n c s => pt b (zW pa p dr a x nr A n c s) T) :=
 ⟨fun R L M A n c s h => bD h, fun R L M A n c s h => bD h, fun R L M A A' n c n' c' s G h k => au h k, fun R L M A n c s s' G h k => au h k⟩
theorem Q6 (hg : bn x g) (ha : be i.a) (hs : x.hl.length < 1000000) : gv R pa p dr 218 x g i (.on (x.sleep g i)) L L := by
 intro gg b bs c M K Kp Q h fj k
 refine qu ?_
 replace k : ∀ mD M', Hp R (ax (bB pa p mD dr) b (x.sleep g i) :: Q :: L) M' → K (.tuple #[]) M' := k
 have EE := hg
 obtain ⟨h0, h1, h2, h3⟩ := EE
 unfold Wd.sleep at k
 refine aj h ?_
 clear h
 intro kb M h
 refine ay h ⟨ha.1, ha.2, ?_⟩
 refine GP (b := b) h hg fj ha rfl ?_
 have hC := h
 have h' := cy h (b := b)
 clear h
 obtain ⟨a, hl, h⟩ := h'
 have hl' := hl
 obtain ⟨l1, l2, l3, l4⟩ := hl'
 have e : (if (1048576 : Int) < bC x g i.a then 1048576 else bC x g i.a) = qR x g i := rfl
 rw [e]
 refine aJ.2 ⟨fun hn => ?_, fun hn => ?_⟩
 ·rw [if_pos (by omega)] at k
  refine ay h ?_
  clear hC
  replace h : Hp R (pt b (zW pa p dr a x x.ready.length a.ah x.hl.length a.ch x.mQ) 161 :: ee a.ah a.ch x.hl :: bl fR a.gb (x.gs.zip gg) :: yN a.ag a.cg a.gb :: yO a.ac a.cc a.cb :: bl bI a.cb x.aB :: yP a.al a.cl a.lb :: bl eK a.lb x.aI :: iO a.ao a.co x.out :: iZ a.ar a.cr x.ready :: Q :: L) M := h.sub bp
  refine Ny (Q5 (a := a) (x := x)) h hs ?_
  clear h; intro v A' c' M h
  refine bW ?_
  have h9 : Hp R (ax (bB pa p gg dr) b { x with hl := tU x.hl ⟨IntKind.wrap .u64 (x.clock + IntKind.wrap .u64 (qR x g i)), x.mQ, g⟩, mQ := IntKind.wrap .u64 (x.mQ + 1) } :: Q :: L) M := by
   have := Nw (l := x.hl) (x := ⟨IntKind.wrap .u64 (x.clock + IntKind.wrap .u64 (qR x g i)), x.mQ, g⟩)
   rw [← this] at h
   exact jT (a := { a with ah := A', ch := c' }) (x := { x with hl := tU x.hl ⟨IntKind.wrap .u64 (x.clock + IntKind.wrap .u64 (qR x g i)), x.mQ, g⟩, mQ := IntKind.wrap .u64 (x.mQ + 1) }) ⟨l1, l2, l3, l4⟩ (h.sub bp)
  clear h hl l1 l2 l3 l4
  have h := h9
  clear h9
  have h' := gX (x := { x with hl := tU x.hl ⟨IntKind.wrap .u64 (x.clock + IntKind.wrap .u64 (qR x g i)), x.mQ, g⟩, mQ := IntKind.wrap .u64 (x.mQ + 1) }) h (b := b) h0 h1 fj
  clear h
  obtain ⟨a2, gb, hl, fS, h⟩ := h'
  have hl' := hl
  obtain ⟨l1, l2, l3, l4⟩ := hl'
  refine aF h ⟨h0, by dsimp only at l1; omega, ?_⟩
  refine uT h fS fun q hq => ?_
  refine aY ?_
  refine au h ?_
  clear h; intro M h
  replace h := c7 h gb hl fS fj
  have kj := dB (y := { aq x g with st := 3 }) (g := g) hl
  replace h := bh (a := a2) (p := p) (pa := pa) (dr := dr) (gg := gg) (x := { x.bG g { aq x g with st := 3 } with hl := tU x.hl ⟨IntKind.wrap .u64 (x.clock + IntKind.wrap .u64 (qR x g i)), x.mQ, g⟩, mQ := IntKind.wrap .u64 (x.mQ + 1) }) kj h b
  exact k _ _ (h.sub bp)
 ·rw [if_neg (by omega)] at k
  exact k _ _ (hC.sub bp)
theorem Uh {l : List Int} : ∀ {x : Wd}, (l.foldl Wd.fF x).gs.length = x.gs.length := by
 induction l with
 | nil => intro x; rfl
 | cons a l ih => intro x; rw [List.foldl_cons, ih]; simp [Wd.fF, Wd.bG]
theorem JV {l : List Int} : ∀ {x : Wd}, (l.foldl Wd.fF x).ready = x.ready ++ l := by
 induction l with
 | nil => intro x; simp
 | cons a l ih => intro x; rw [List.foldl_cons, ih]; simp [Wd.fF]
theorem JW (h : Hp R L M) [o : CE b L pa p x L'] (hs : x.hl.length ≤ 1000000) (hw : ∀ y ∈ (en x.hl.length x.hl (IntKind.wrap .u64 (x.clock + 1))).2, 0 ≤ y.id ∧ y.id < x.gs.length)
  (k : ∀ R' A c M', R.le R' → RS br R' A c x.tick.ready → Hp R' (ax (bj pa p) b x.tick :: L') M' → K (.slice A x.tick.ready.length c) M') :
  aa Tryz.prog 120 #[.pointer (some ⟨b, 0, none⟩)] M K Kp := by
 refine sw ?_
 have h' := cO h (b := b)
 clear h
 obtain ⟨a, gg, dr, n, hl, h⟩ := h'
 have hl' := hl
 obtain ⟨l1, l2, l3, l4⟩ := hl'
 unfold Wd.tick at k
 dsimp only at k
 refine ay h ?_
 refine fy.2 ⟨fun he => ?_, fun he => ?_⟩
 ·rw [if_pos he] at k
  exact k R none 0 M (Mem.le_refl _) (RS.nil _ _) (jf (a := a) (gg := gg) (dr := dr) (n := n) (x := { x with ready := [] }) hl h)
 rw [if_neg (by simpa using he)] at k
 refine ay h ?_
 refine au h ?_
 clear h; intro M h
 refine au h ?_
 clear h; intro M h
 refine ay h ?_
 replace h : Hp R (pt b (zW pa p dr { a with ar := none, cr := 0 } { x with clock := IntKind.wrap .u64 (x.clock + 1) } 0 a.ah x.hl.length a.ch x.mQ) 161 :: ee a.ah a.ch x.hl :: bl fR a.gb (x.gs.zip gg) :: yN a.ag a.cg a.gb :: yO a.ac a.cc a.cb :: bl bI a.cb x.aB :: yP a.al a.cl a.lb :: bl eK a.lb x.aI :: iO a.ao a.co x.out :: L') M := h.sub (by repeat (first | exact .refl | refine .cons (by repeat (first | exact .here | apply cW.there)) ?_ | apply Sub.drop))
 refine Nz (Q5 (a := { a with ar := none, cr := 0 }) (x := { x with clock := IntKind.wrap .u64 (x.clock + 1) })) h hs ?_
 clear h; intro A' c' M h
 have hlen : (en x.hl.length x.hl (IntKind.wrap .u64 (x.clock + 1))).2.length ≤ x.hl.length := by
  have : ∀ (f : Nat) (l : List bz) (now : Int), (en f l now).2.length ≤ f := by
   intro f
   induction f with
   | zero => intro l now; exact Nat.le_refl _
   | succ f ih =>
    intro l now; unfold en; split
    ·have := ih (cX l 0) now; simp; exact this
    ·exact Nat.zero_le _
  exact this _ _ _
 generalize en x.hl.length x.hl (IntKind.wrap .u64 (x.clock + 1)) = r at h k hw hlen
 refine aO ?_
 have h0 := h.bR br 3
 have hW : Hp R (ax (bB pa p gg dr) b { x with clock := IntKind.wrap .u64 (x.clock + 1), hl := r.1, ready := [] } :: ee A' c' r.2 :: L') M :=
  jT (a := { a with ar := none, cr := 0 }) (x := { x with clock := IntKind.wrap .u64 (x.clock + 1), hl := r.1, ready := [] }) ⟨l1, l2, l3, l4⟩ (h0.sub (by repeat (first | exact .refl | refine .cons (by repeat (first | exact .here | apply cW.there)) ?_ | apply Sub.drop)))
 clear h h0
 generalize EO : ({ x with clock := IntKind.wrap .u64 (x.clock + 1), hl := r.1, ready := [] } : Wd) = x1 at hW k
 have hgs : x1.gs.length = x.gs.length := by rw [← EO]
 have hrd : x1.ready = [] := by rw [← EO]
 refine ⟨fun d vs M => ∃ j : Nat, vs = [.int .i64 (j : Int)] ∧ d = r.2.length - j ∧ j ≤ r.2.length ∧ Hp R (ax (bB pa p gg dr) b (((r.2.take j).map (·.id)).foldl Wd.fF x1) :: ee A' c' r.2 :: L') M, ⟨_, 0, rfl, rfl, by omega, hW⟩, ?_⟩
 clear hW
 rintro d _ nn M ⟨j, yQ, hd, hj, h⟩
 simp only [List.cons.injEq, Value.int.injEq, and_true, true_and] at yQ
 subst yQ
 refine aJ.2 ⟨fun hlt => ?_, fun hge => ?_⟩
 ·obtain ⟨w, hww⟩ := aM (l := r.2) (i := j) (by omega)
  have hwm := hw w (List.mem_of_getElem? hww)
  obtain ⟨q, rfl⟩ := h.bF (A := A') (by omega) (by decide)
  have ZA := h.src (A := some ⟨q, 0, none⟩)
  refine ⟨by omega, hlt, aY ?_⟩
  refine mH h ZA hww (by simp) (by simp) (by simp) ?_
  clear ZA
  refine aj h ?_
  clear h; intro kw M h
  refine au h ?_
  clear h; intro M h
  refine au h ?_
  clear h; intro M h
  refine au h ?_
  clear h; intro M h
  refine ay h ?_
  refine iw (b := b) h hwm.1 (by rw [Uh, hgs]; exact hwm.2) (by rw [JV, hrd]; simp; omega) ?_
  clear h; intro M h
  refine ⟨rfl, r.2.length - (j + 1), by omega, j + 1, by rw [aP (by omega)], rfl, by omega, ?_⟩
  rw [bu hww, List.map_append, List.foldl_append]
  exact h.sub (by repeat (first | exact .refl | refine .cons (by repeat (first | exact .here | apply cW.there)) ?_ | apply Sub.drop))
 ·have HO : j = r.2.length := by omega
  subst HO
  rw [List.take_length] at h
  generalize hz : (r.2.map (·.id)).foldl Wd.fF x1 = z at h k
  have h' := cy h (b := b)
  clear h
  obtain ⟨a2, kj, h⟩ := h'
  refine aF h ?_
  obtain ⟨R', hle, zy, h6⟩ := h.fG a2.ar
  exact k R' _ _ _ hle zy (jf (a := a2) (n := z.ready.length) (gg := gg) (dr := dr) kj (h6.sub (by repeat (first | exact .refl | refine .cons (by repeat (first | exact .here | apply cW.there)) ?_ | apply Sub.drop))))
theorem Bp (h : Hp R L M) [o : CE b L pa p x L'] (hs : x.hl.length ≤ 1000000)
  (k : ∀ A c M', Hp R (ee A c (di x.hl.length x.hl) :: ax (bj pa p) b x :: L') M' → K (.slice A (di x.hl.length x.hl).length c) M') :
  aa Tryz.prog 19 #[.pointer (some ⟨b, 0, none⟩)] M K Kp := by
 refine nt ?_
 have h' := cO h (b := b)
 clear h
 obtain ⟨a, gg, dr, n, hl, h⟩ := h'
 replace h : Hp R (pt b (zW pa p dr a x n a.ah x.hl.length a.ch x.mQ) 161 :: ee a.ah a.ch x.hl :: bl fR a.gb (x.gs.zip gg) :: yN a.ag a.cg a.gb :: yO a.ac a.cc a.cb :: bl bI a.cb x.aB :: yP a.al a.cl a.lb :: bl eK a.lb x.aI :: iO a.ao a.co x.out :: L') M := h.sub bp
 refine NA (Q5 (a := a) (x := x)) h hs ?_
 clear h; intro A' c' M h
 refine aO ?_
 have h2 : Hp R (pt b (oK pa p dr a x n) 161 :: bl fR a.gb (x.gs.zip gg) :: uV a x (ee A' c' (di x.hl.length x.hl) :: L')) M := h.sub bp
 have h3 := jf (a := a) (gg := gg) (dr := dr) (n := n) (x := x) hl h2
 exact k _ _ _ h3.swap
end
def wK (x : Wd) (g : Int) (i : cN) : Out (Wd × Bool) → Prop
 | .on (y, false) => bn y g ∧ (aq y g).fs.length = (aq x g).fs.length ∧ Bd y i.a
 | .on (_, true) => True
 | .eV _ _ => True
 | .dF _ _ => True
instance (x : Wd) (g : Int) (i : cN) (r : Out (Wd × Bool)) : Decidable (wK x g i r) := match r with
 | .on (y, false) => by unfold wK; infer_instance
 | .on (_, true) => isTrue trivial
 | .eV _ _ => isTrue trivial
 | .dF _ _ => isTrue trivial
theorem NC {p : cu} {x : Wd} {g : Int} {i : cN} (h : bn x g ∧ be i.b ∧ oW p x i.a (bC x g i.b) ∧ wK x g i (x.put p i.a (bC x g i.b))) : Jz p x g i := by
 obtain ⟨h1, h2, h3, h4⟩ := h
 refine ⟨h1, h2, h3, ?_⟩
 generalize x.put p i.a (bC x g i.b) = r at h4
 match r, h4 with
 | .on (y, false), h4 => exact h4
 | .on (y, true), _ => trivial
 | .eV _ _, _ => trivial
 | .dF _ _, _ => trivial
instance (x : Wd) (g : Int) (i : cN) : Decidable (xX x g i) := by unfold xX; infer_instance
instance (p : cu) (x : Wd) (i : cN) : Decidable (oI p x i) := by unfold oI; infer_instance
def Bq (p : cu) (x : Wd) (g : Int) (i : cN) (k : Int) : Prop :=
 let c := (aD p i).getD k.toNat ⟨0, 0, 0⟩
 let x1 := x.next g
 0 ≤ k ∧ k < (aD p i).length ∧ be c.bQ ∧
  if c.way = 1 then oW p x1 c.ch (bC x1 g c.bQ) ∧ (match x1.put p c.ch (bC x1 g c.bQ) with
   | .on (y, _) => bn y g ∧ (aq y g).fs.length = (aq x g).fs.length
   | _ => True)
  else wB x1 c.ch ∧ bn (x1.get c.ch).1 g ∧ (aq (x1.get c.ch).1 g).fs.length = (aq x g).fs.length
instance (g : Int) (n : Nat) (r : Out (Wd × Bool)) : Decidable (match r with
   | .on (y, _) => bn y g ∧ (aq y g).fs.length = n
   | _ => True) := match r with
 | .on (y, _) => by dsimp only; infer_instance
 | .eV _ _ => isTrue trivial
 | .dF _ _ => isTrue trivial
instance (p : cu) (x : Wd) (g : Int) (i : cN) (k : Int) : Decidable (Bq p x g i k) := by unfold Bq; infer_instance
def nE (p : cu) (x : Wd) (g : Int) (i : cN) (d : kF) : Bool :=
 decide (bn x g ∧ wI p i ∧ be i.c ∧ x.Sm ∧ (aq x g).top.pc < 1000000000 ∧ 0 ≤ (aq x g).top.pc ∧ (∀ c ∈ aD p i, c.Ok x.aB.length)) &&
 (match d with
  | .dF _ => true
  | .num v => (enabled (aD p i) x.aB).isEmpty || decide (0 ≤ v ∧ v < (enabled (aD p i) x.aB).length ∧ Bq p x g i ((enabled (aD p i) x.aB).getD v.toNat 0)))
theorem G9 {p : cu} {x : Wd} {g : Int} {i : cN} {d : kF} (h : nE p x g i d = true) : G7 p x g i d := by
 unfold nE at h
 rw [Bool.and_eq_true] at h
 obtain ⟨h1, h2⟩ := h
 obtain ⟨a1, a2, a3, a4, a5, a6, a7⟩ := of_decide_eq_true h1
 refine ⟨a1, a2, a3, a4, a5, a6, a7, ?_⟩
 cases d with
 | dF l => split <;> trivial
 | num v =>
  dsimp only at h2
  cases he : enabled (aD p i) x.aB with
  | nil => trivial
  | cons q l =>
   rw [he] at h2
   rw [List.isEmpty_cons, Bool.false_or] at h2
   have h3 := of_decide_eq_true h2
   exact h3
def oL (p : cu) (x : Wd) (g : Int) (i : cN) : Option (Out Wd) :=
 if i.op = 10 then (if bn x g ∧ be i.a ∧ be (aq x g).top.pe then some (.on (x.back g i)) else none)
 else if i.op = 11 then (if bn x g ∧ be i.b ∧ be i.c ∧ x.Sm then some (x.spawn g i) else none)
 else if i.op = 13 then (if (bn x g ∧ be i.b ∧ oW p x i.a (bC x g i.b) ∧ wK x g i (x.put p i.a (bC x g i.b))) ∧ x.Sm then some (x.send p g i) else none)
 else if i.op = 14 then (if xX x g i ∧ x.Sm then some (.on (x.recv g i)) else none)
 else if i.op = 15 then (if oI p x i ∧ x.Sm then some (x.shut p i) else none)
 else if i.op = 20 then (if bn x g ∧ be i.a ∧ x.Sm then some (x.emit g i) else none)
 else if i.op = 9 then (if bn x g ∧ be i.b then some (x.call g i) else none)
 else if i.op = 12 then some (.on x)
 else if i.op = 17 then (if bn x g ∧ be i.a ∧ x.hl.length < 1000000 then some (.on (x.sleep g i)) else none)
 else if i.op = 18 then (if bn x g ∧ ER x i.a ∧ x.Sm then some (.on (x.lock g i)) else none)
 else if i.op = 19 then (if nD x g i ∧ x.Sm then some (x.unlock g i) else none)
 else if i.op = 22 then some (.eV i.a x)
 else none
def He (p : cu) (x : Wd) (g : Int) : Option cN := match p.funcs[(aq x g).top.fn.toNat]? with
 | none => none
 | some code => code[(aq x g).top.pc.toNat]?
def yV (x : Wd) (g : Int) : Prop := 0 ≤ g ∧ g < x.gs.length ∧ x.end_ = 0 ∧ (aq x g).st = 1
instance (x : Wd) (g : Int) : Decidable (yV x g) := by unfold yV; infer_instance
def asks (p : cu) (x : Wd) (g : Int) : Option (Int × Int) :=
 if yV x g then match He p x g with
  | none => none
  | some i => if i.op = 21 then some (4, i.b) else if i.op = 16 then (if enabled (aD p i) x.aB = [] then none else some (3, (enabled (aD p i) x.aB).length)) else none
 else none
def yW (p : cu) (x0 : Wd) (g : Int) (d : kF) : Option (Out Wd × Bool) :=
 let x := { x0 with ready := [] }
 if yV x g then
  if bn x g ∧ 0 ≤ (aq x g).top.fn ∧ 0 ≤ (aq x g).top.pc ∧ (aq x g).top.pc < 1000000000 then
   match p.funcs[(aq x g).top.fn.toNat]? with
   | none => none
   | some code => match code[(aq x g).top.pc.toNat]? with
    | none => some (.eV (-7) x, false)
    | some i =>
     if 0 ≤ i.op ∧ i.op ≤ 8 then (if i.cC then some (.on (x.bG g ((aq x g).cV ((aq x g).top.next.pure i))), false) else none)
     else if i.op = 16 then (if nE p x g i d = true then (if g < (x.choose p g i d).fin.gs.length then some (x.choose p g i d, false) else none) else none)
     else if i.op = 21 then (if be i.a then (if g < (x.rand g i d).fin.gs.length then some (x.rand g i d, false) else none) else none)
     else match oL p (x.next g) g i with
      | none => none
      | some r => if g < r.fin.gs.length then some (r, JN i.op r) else none
  else none
 else some (.on x, true)
section
variable {R : Mem} {L L' L2 : List HP} {M : Mem} {K : Value → Mem → Prop} {Kp : List PanicEntry → Mem → Prop} {pa : PA} {p : cu} {gg : List GA} {dr : Value} {b : Nat} {x : Wd} {g : Int}
theorem c9 {α : Type} {c : Prop} [Decidable c] {a b : α} (h : (if c then some a else none) = some b) : c ∧ b = a := by
 split at h
 ·rename_i hc; cases h; exact ⟨hc, rfl⟩
 ·cases h
theorem ND {i : cN} {r : Out Wd} (hp : nB R pa p) (h : oL p x g i = some r) : ∃ fn, CB Yw i.op = some (.func (.func fn) #[] #[]) ∧ (1 < fn ∧ fn < 255) ∧ i.op ≠ 16 ∧ i.op ≠ 21 ∧ 8 < i.op ∧ ∀ L, gv R pa p dr fn x g i r L L := by
 unfold oL at h
 by_cases e : i.op = 10
 ·rw [if_pos e] at h
  obtain ⟨hc, rfl⟩ := c9 h
  exact ⟨212, by rw [e]; rfl, by decide, by omega, by omega, by omega, fun L => T8 hc.1 hc.2.1 hc.2.2⟩
 rw [if_neg e] at h
 clear e
 by_cases e : i.op = 11
 ·rw [if_pos e] at h
  obtain ⟨hc, rfl⟩ := c9 h
  exact ⟨213, by rw [e]; rfl, by decide, by omega, by omega, by omega, fun L => QX hc.1 hc.2.1 hc.2.2.1 hc.2.2.2⟩
 rw [if_neg e] at h
 clear e
 by_cases e : i.op = 13
 ·rw [if_pos e] at h
  obtain ⟨hc, rfl⟩ := c9 h
  exact ⟨215, by rw [e]; rfl, by decide, by omega, by omega, by omega, fun L => T4 hp (NC hc.1) hc.2⟩
 rw [if_neg e] at h
 clear e
 by_cases e : i.op = 14
 ·rw [if_pos e] at h
  obtain ⟨hc, rfl⟩ := c9 h
  exact ⟨216, by rw [e]; rfl, by decide, by omega, by omega, by omega, fun L => T5 hc.1 hc.2⟩
 rw [if_neg e] at h
 clear e
 by_cases e : i.op = 15
 ·rw [if_pos e] at h
  obtain ⟨hc, rfl⟩ := c9 h
  exact ⟨217, by rw [e]; rfl, by decide, by omega, by omega, by omega, fun L => T7 hp hc.1 hc.2⟩
 rw [if_neg e] at h
 clear e
 by_cases e : i.op = 20
 ·rw [if_pos e] at h
  obtain ⟨hc, rfl⟩ := c9 h
  exact ⟨221, by rw [e]; rfl, by decide, by omega, by omega, by omega, fun L => T6 hc.1 hc.2.1 hc.2.2⟩
 rw [if_neg e] at h
 clear e
 by_cases e : i.op = 9
 ·rw [if_pos e] at h
  obtain ⟨hc, rfl⟩ := c9 h
  exact ⟨211, by rw [e]; rfl, by decide, by omega, by omega, by omega, fun L => Ud hc.1 hc.2⟩
 rw [if_neg e] at h
 clear e
 by_cases e : i.op = 12
 ·rw [if_pos e] at h
  cases h
  exact ⟨214, by rw [e]; rfl, by decide, by omega, by omega, by omega, fun L => Q4⟩
 rw [if_neg e] at h
 clear e
 by_cases e : i.op = 17
 ·rw [if_pos e] at h
  obtain ⟨hc, rfl⟩ := c9 h
  exact ⟨218, by rw [e]; rfl, by decide, by omega, by omega, by omega, fun L => Q6 hc.1 hc.2.1 hc.2.2⟩
 rw [if_neg e] at h
 clear e
 by_cases e : i.op = 18
 ·rw [if_pos e] at h
  obtain ⟨hc, rfl⟩ := c9 h
  exact ⟨219, by rw [e]; rfl, by decide, by omega, by omega, by omega, fun L => Ue hc.1 hc.2.1 hc.2.2⟩
 rw [if_neg e] at h
 clear e
 by_cases e : i.op = 19
 ·rw [if_pos e] at h
  obtain ⟨hc, rfl⟩ := c9 h
  exact ⟨220, by rw [e]; rfl, by decide, by omega, by omega, by omega, fun L => NB hc.1 hc.2⟩
 rw [if_neg e] at h
 clear e
 by_cases e : i.op = 22
 ·rw [if_pos e] at h
  cases h
  exact ⟨222, by rw [e]; rfl, by decide, by omega, by omega, by omega, fun L => Uf⟩
 rw [if_neg e] at h
 clear e
 cases h
theorem JX {l : List Int} (h : Hp R (ax (bj pa p) b x :: L) M) : Hp R (ax (bj pa p) b { x with ready := l } :: L) M := by
 obtain ⟨a, gg, dr, n, hl, h⟩ := cO h (b := b)
 exact jf (a := a) (gg := gg) (dr := dr) (n := n) (x := { x with ready := l }) hl h
theorem jh.cons {kind n : Int} {d : kF} {Q : HP} (h : jh R dr kind n d L L2) : jh R dr kind n d (Q :: L) (Q :: L2) := by
 intro Q' M K Kp hM k
 refine h (sep [Q', Q]) M K Kp (Hp.bk.2 hM) ?_
 cases d with
 | num v => exact fun M' h' => k M' (Hp.bk.1 h')
 | dF l => exact fun M' h' => k M' (Hp.bk.1 h')
theorem NF {d : kF} {r : Out Wd} {rest : Bool} (h : Hp R L M) [o : CE b L pa p x L'] (hp : nB R pa p) (CF : ∃ f c d, dr = .func f c d) (he : yW p x g d = some (r, rest))
  (hd : match asks p { x with ready := [] } g with | none => L2 = L' | some (kd, n) => jh R dr kd n d L' L2) (k : r7 R pa p b g L2 K Kp r rest) :
  aa Tryz.prog 121 #[.pointer (some ⟨b, 0, none⟩), .int .i64 g, dr] M K Kp := by
 unfold yW at he
 dsimp only at he
 split at he
 ·rename_i hg
  have EE := hg
  obtain ⟨h0, h1, hr0, Bl⟩ := EE
  split at he
  ·rename_i CD
   obtain ⟨Ls, hf0, hp0, Of⟩ := CD
   split at he
   ·cases he
   ·rename_i code nC
    have done : ∀ (r : Out Wd) (rest : Bool), r7 R pa p b g L2 K Kp r rest → (∀ Q, Step R pa p dr { x with ready := [] } g code r rest (Q :: L') (Q :: L2)) → g < r.fin.gs.length → aa Tryz.prog 121 #[.pointer (some ⟨b, 0, none⟩), .int .i64 g, dr] M K Kp := by
     intro r rest k hs hl
     exact JO (x := x) h hp (show bn x g from Ls) hr0 Bl hf0 nC ⟨hp0, Of⟩ CF hs hl k
    have zA : ∀ i, code[(aq x g).top.pc.toNat]? = some i → asks p { x with ready := [] } g = if i.op = 21 then some (4, i.b) else if i.op = 16 then (if enabled (aD p i) x.aB = [] then none else some (3, ((enabled (aD p i) x.aB).length : Int))) else none := by
     intro i hi
     unfold asks
     rw [if_pos hg]
     unfold He
     rw [show p.funcs[(aq { x with ready := [] } g).top.fn.toNat]? = some code from nC]
     dsimp only
     rw [show code[(aq { x with ready := [] } g).top.pc.toNat]? = some i from hi]
    split at he
    ·rename_i hnone
     cases he
     have e : asks p { x with ready := [] } g = none := by
      unfold asks
      rw [if_pos hg]
      unfold He
      rw [show p.funcs[(aq { x with ready := [] } g).top.fn.toNat]? = some code from nC]
      dsimp only
      rw [hnone]
     rw [e] at hd
     dsimp only at hd
     subst hd
     refine done (.eV (-7) { x with ready := [] }) false k (fun Q => .out ?_) h1
     have := List.getElem?_eq_none_iff.1 hnone
     omega
    ·rename_i i hi
     have e := zA i hi
     rw [e] at hd
     clear e zA
     split at he
     ·rename_i h8
      split at he
      ·rename_i hok
       cases he
       rw [if_neg (by omega), if_neg (by omega)] at hd
       dsimp only at hd
       subst hd
       exact done (.on _) false k (fun Q => .pure i hi h8.1 h8.2 hok) (by simpa [Out.fin, Wd.bG] using h1)
      ·cases he
     split at he
     ·rename_i K9
      split at he
      ·rename_i hok
       split at he
       ·rename_i hl
        cases he
        rw [if_neg (by omega), if_pos K9] at hd
        refine done _ false k (fun Q => .EK i hi K9 (Nt hp (G9 hok) ?_)) hl
        split at hd
        ·rename_i hq
         split at hq
         ·rename_i nV
          rw [if_pos (by exact nV), hd]
         ·cases hq
        ·rename_i kd n hq
         split at hq
         ·cases hq
         ·rename_i nV
          cases hq
          rw [if_neg (by exact nV)]
          exact hd.cons
       ·cases he
      ·cases he
     split at he
     ·rename_i Zy
      split at he
      ·rename_i hok
       split at he
       ·rename_i hl
        cases he
        rw [if_pos Zy] at hd
        exact done _ false k (fun Q => .Yx i hi Zy (Ug Ls hok ⟨hp0, Of⟩ (jh.cons hd))) hl
       ·cases he
      ·cases he
     split at he
     ·cases he
     ·rename_i K9 Zy _ r' yc
      split at he
      ·rename_i hl
       cases he
       rw [if_neg Zy, if_neg K9] at hd
       dsimp only at hd
       subst hd
       obtain ⟨fn, f1, f2, f3, f4, f5, f6⟩ := ND (R := R) (pa := pa) (dr := dr) hp yc
       exact done _ _ k (fun Q => .dflt i fn hi f5 f3 f4 f1 f2 (f6 _)) hl
      ·cases he
  ·cases he
 ·rename_i hr
  cases he
  have e : asks p { x with ready := [] } g = none := by
   unfold asks
   rw [if_neg hr]
  rw [e] at hd
  dsimp only at hd
  subst hd
  refine kD ?_
  refine aj h ?_
  clear h
  intro kb M h
  have hC := h
  have h' := cO h (b := b)
  clear h
  obtain ⟨a, gg, dr0, n0, hl, h⟩ := h'
  have hl' := hl
  obtain ⟨l1, l2, l3, l4⟩ := hl'
  have fin : aN M ⟨kb, 0, none⟩ (.bool false) fun pb => aN pb ⟨kb, (0 + 1), none⟩ (.slice none 0 0) fun rQ =>
    dH (Mem.ld rQ ⟨kb, 0, none⟩) fun t36 => az (Mem.ld rQ ⟨kb, (0 + 1), none⟩) fun Fk gm rK => K (.agg #[(.bool t36), (.slice Fk gm rK)]) rQ := by
   have h := hC
   clear hC
   refine au h ?_
   clear h; intro M h
   refine au h ?_
   clear h; intro M h
   refine FX h (aF h ?_)
   have k2 := k R none 0 M (Mem.le_refl _) (RS.nil _ _) (JX (h.drop.pick o.pick))
   exact k2
  refine aJ.2 ⟨fun hn => fin, fun h0 => ?_⟩
  refine aF h ?_
  refine aJ.2 ⟨fun hn => fin, fun h1 => ?_⟩
  refine ay h ?_
  refine fy.2 ⟨fun hn => fin, fun he0 => ?_⟩
  refine aF h ?_
  refine ⟨by omega, by omega, ?_⟩
  obtain ⟨gb, fS⟩ := aM (l := a.gb) (i := g.toNat) (by omega)
  refine uT h fS fun q hq => ?_
  obtain ⟨ga, T9⟩ := aM (l := gg) (i := g.toNat) (by omega)
  obtain ⟨z, hy⟩ := aM (l := x.gs) (i := g.toNat) (by omega)
  have ey : aq x g = z := by simp [aq, hy]
  refine aY ?_
  have EM : M.ld ⟨gb, 0, none⟩ = some (.int .i64 z.st) := by
   have h9 := lP (b := gb) (h.cH fR fS (mA hy T9))
   exact bD h9
  rw [EM]
  refine bW ?_
  refine fy.2 ⟨fun hn => fin, fun hn => ?_⟩
  exact absurd ⟨by omega, by show g < (x.gs.length : Int); omega, he0, by show (aq x g).st = 1; rw [ey]; exact hn⟩ hr
end
theorem r8 {b : Nat} : ∀ (n : Nat) (l : List Int), (∀ g ∈ l, 0 ≤ g ∧ g < (n : Int)) → (∀ g, l.count g ≤ b) → l.length ≤ b * n
 | 0, l, h, _ => by
  cases l with
  | nil => simp
  | cons a l => have := h a (by simp); omega
 | n + 1, l, h, hc => by
  have h1 : (l.filter (fun g => g != (n : Int))).length ≤ b * n := by
   refine r8 n _ (fun g hg => ?_) (fun g => ?_)
   ·obtain ⟨hm, hne⟩ := List.mem_filter.1 hg
    have := h g hm
    simp at hne
    omega
   ·exact Nat.le_trans (List.Sublist.count_le _ List.filter_sublist) (hc g)
  have h2 : l.length = l.count (n : Int) + (l.filter (fun g => g != (n : Int))).length := by
   have := List.length_eq_countP_add_countP (l := l) (fun g => g == (n : Int))
   rw [this, List.count, List.countP_eq_length_filter (p := fun a => decide ¬(a == (n : Int)) = true)]
   congr 2
   apply List.filter_congr
   intro a _
   cases h : (a == (n : Int)) <;> simp_all
  have := hc (n : Int)
  rw [h2, Nat.mul_succ]; omega
theorem mI {α : Type} (f : α → Nat) : ∀ (l : List α) (k : Nat) (c d : α), l[k]? = some d → ((l.set k c).map f).sum + f d = (l.map f).sum + f c
 | [], k, c, d, h => by simp at h
 | a :: l, 0, c, d, h => by simp at h; subst h; simp; omega
 | a :: l, k + 1, c, d, h => by
  have := mI f l k c d (by simpa using h)
  simp only [List.set_cons_succ, List.map_cons, List.sum_cons]; omega
theorem Br {α : Type} (f : α → Nat) : ∀ (l : List α), (l.map f).sum = 0 → ∀ a ∈ l, f a = 0
 | [], _, a, h => by cases h
 | b :: l, hs, a, h => by
  simp only [List.map_cons, List.sum_cons] at hs
  rcases List.mem_cons.1 h with rfl | h
  ·omega
  ·exact Br f l (by omega) a h
theorem Bs {α : Type} (f : α → Nat) : ∀ (l : List α) (a : α), a ∈ l → f a ≤ (l.map f).sum
 | b :: l, a, h => by
  simp only [List.map_cons, List.sum_cons]
  rcases List.mem_cons.1 h with rfl | h
  ·omega
  ·have := Bs f l a h; omega
theorem qS {α : Type} (f : α → Nat) : ∀ (l : List α), (∀ a ∈ l, f a = 0) → (l.map f).sum = 0
 | [], _ => rfl
 | b :: l, h => by
  simp only [List.map_cons, List.sum_cons]
  rw [h b (by simp), qS f l fun a ha => h a (by simp [ha])]
def da (c : aZ) : List Int := c.snd.map Wt.g ++ c.dy.map Wt.g
def cn (cs : List aZ) (g : Int) : Nat := (cs.map fun c => (da c).count g).sum
def g7 (ls : List Lk) (g : Int) : Nat := (ls.map fun l => l.waits.count g).sum
def ES (hl : List bz) (g : Int) : Nat := (hl.map bz.id).count g
def nF (x : Wd) (g : Int) : Prop := (∀ c ∈ x.aB, g ∉ da c) ∧ (∀ l ∈ x.aI, g ∉ l.waits) ∧ ∀ y ∈ x.hl, y.id ≠ g
theorem wL {cs : List aZ} {g : Int} : cn cs g = 0 ↔ ∀ c ∈ cs, g ∉ da c := by
 constructor
 ·intro h c hc
  exact List.count_eq_zero.1 (Br _ cs h c hc)
 ·intro h
  exact qS _ cs fun c hc => List.count_eq_zero.2 (h c hc)
theorem zX {ls : List Lk} {g : Int} : g7 ls g = 0 ↔ ∀ l ∈ ls, g ∉ l.waits := by
 constructor
 ·intro h c hc
  exact List.count_eq_zero.1 (Br _ ls h c hc)
 ·intro h
  exact qS _ ls fun c hc => List.count_eq_zero.2 (h c hc)
def At (x : Wd) (g s : Int) : Prop := 0 ≤ g ∧ g < x.gs.length ∧ (aq x g).st = s
def jW (p : cu) (f : List cN) (i : cN) : Prop := 0 ≤ i.op ∧ i.op < 23 ∧ i.cC ∧ (i.op = 7 → 0 ≤ i.a ∧ i.a < f.length) ∧ (i.op = 8 → 0 ≤ i.b ∧ i.b < f.length) ∧
 (i.op = 9 ∨ i.op = 11 → 0 ≤ i.a ∧ i.a < p.funcs.length ∧ be i.b ∧ be i.c) ∧ (i.op = 10 ∨ i.op = 17 ∨ i.op = 20 ∨ i.op = 21 → be i.a) ∧
 (i.op = 13 ∨ i.op = 14 ∨ i.op = 15 → 0 ≤ i.a ∧ i.a < p.dU.length) ∧ (i.op = 13 ∨ i.op = 14 → be i.b) ∧ (i.op = 14 ∨ i.op = 16 → be i.c) ∧
 (i.op = 16 → 0 ≤ i.a ∧ 1 ≤ i.b ∧ i.a + i.b ≤ p.cases.length) ∧ (i.op = 18 ∨ i.op = 19 → 0 ≤ i.a ∧ i.a < p.aI) ∧ (i.op = 21 → 1 ≤ i.b ∧ i.b < 1099511627776)
structure eC (p : cu) : Prop where
 f1 : 0 < p.funcs.length
 ch : p.dU.length ≤ 8
 lk : 0 ≤ p.aI ∧ p.aI ≤ 8
 cs : p.cases.length ≤ 32
 cas : ∀ c ∈ p.cases, c.Ok p.dU.length ∧ be c.bQ
 code : ∀ f ∈ p.funcs, 0 < f.length ∧ f.length ≤ 64 ∧ ∀ i ∈ f, jW p f i
def Hf (p : cu) (f : gV) : Prop := 0 ≤ f.fn ∧ f.fn < p.funcs.length ∧ 0 ≤ f.pc ∧ f.pc ≤ 64 ∧ be f.pe
structure pJ (p : cu) (y : js) : Prop where
 l1 : 0 < y.fs.length
 l2 : y.fs.length ≤ 16
 fr : ∀ f ∈ y.fs, Hf p f
 wt : y.st = 2 → ∃ f ∈ p.funcs, jW p f y.wt
 st : 1 ≤ y.st ∧ y.st ≤ 4
structure WV (p : cu) (x : Wd) : Prop where
 n1 : 0 < x.gs.length
 n2 : x.gs.length ≤ 100
 DD : ∀ y ∈ x.gs, pJ p y
 ch : x.aB.length = p.dU.length
 lk : (x.aI.length : Int) = p.aI
 buf : ∀ c ∈ x.aB, c.buf.length ≤ c.room ∧ c.room ≤ 16
 dy : ∀ c ∈ x.aB, ∀ v ∈ c.dy, At x v.g 2 ∧ ((aq x v.g).wt.op = 14 ∨ (aq x v.g).wt.op = 16 ∧ 0 ≤ v.cs ∧ v.cs < (aq x v.g).wt.b)
 snd : ∀ c ∈ x.aB, ∀ v ∈ c.snd, At x v.g 2 ∧ ((aq x v.g).wt.op = 13 ∨ (aq x v.g).wt.op = 16 ∧ 0 ≤ v.cs ∧ v.cs < (aq x v.g).wt.b)
 lw : ∀ l ∈ x.aI, ∀ g ∈ l.waits, At x g 2 ∧ (aq x g).wt.op = 18
 hl : ∀ y ∈ x.hl, At x y.id 3
 one : ∀ g, 0 ≤ g → (aq x g).wt.op ≠ 16 → cn x.aB g + g7 x.aI g ≤ 1
 EK : ∀ g, cn x.aB g ≤ 32
 h1 : ∀ g, ES x.hl g ≤ 1
 out : x.out.length ≤ 1000
section
variable {p : cu} {x : Wd} {g : Int}
theorem WV.Ui (h : WV p x) {c : aZ} (hc : c ∈ x.aB) {q : Int} (hq : q ∈ da c) : At x q 2 ∧ ((aq x q).wt.op = 13 ∨ (aq x q).wt.op = 14 ∨ (aq x q).wt.op = 16) := by
 unfold da at hq
 rcases List.mem_append.1 hq with hq | hq
 ·obtain ⟨v, hv, rfl⟩ := List.mem_map.1 hq
  obtain ⟨a, b⟩ := h.snd c hc v hv
  exact ⟨a, by rcases b with b | b; exact .inl b; exact .inr (.inr b.1)⟩
 ·obtain ⟨v, hv, rfl⟩ := List.mem_map.1 hq
  obtain ⟨a, b⟩ := h.dy c hc v hv
  exact ⟨a, by rcases b with b | b; exact .inr (.inl b); exact .inr (.inr b.1)⟩
theorem WV.free (h : WV p x) (h2 : (aq x g).st ≠ 2) (h3 : (aq x g).st ≠ 3) : nF x g :=
 ⟨fun c hc hg => h2 (h.Ui hc hg).1.2.2, fun l hl hg => h2 (h.lw l hl g hg).1.2.2, fun y hy e => h3 (by have := (h.hl y hy).2.2; rwa [e] at this)⟩
theorem WV.Lt (h : WV p x) {c : aZ} (hc : c ∈ x.aB) : (da c).length ≤ 3200 := by
 have h1 := r8 (b := 32) x.gs.length (da c) (fun q hq => ⟨(h.Ui hc hq).1.1, (h.Ui hc hq).1.2.1⟩) (fun q => Nat.le_trans (Bs (fun c => (da c).count q) x.aB c hc) (h.EK q))
 have := h.n2
 omega
theorem WV.YC (h : WV p x) {l : Lk} (hl : l ∈ x.aI) : l.waits.length ≤ 100 := by
 have h1 := r8 (b := 1) x.gs.length l.waits (fun q hq => ⟨(h.lw l hl q hq).1.1, (h.lw l hl q hq).1.2.1⟩) (fun q => by
  by_cases hq : q ∈ l.waits
  ·have := h.one q (h.lw l hl q hq).1.1 (by rw [(h.lw l hl q hq).2]; decide)
   have := Bs (fun l : Lk => l.waits.count q) x.aI l hl
   unfold g7 at *
   omega
  ·rw [List.count_eq_zero.2 hq]; omega)
 have := h.n2
 omega
theorem WV.Lu (h : WV p x) : x.hl.length ≤ 100 := by
 have h1 := r8 (b := 1) x.gs.length (x.hl.map bz.id) (fun q hq => by
  obtain ⟨y, hy, rfl⟩ := List.mem_map.1 hq
  exact ⟨(h.hl y hy).1, (h.hl y hy).2.1⟩) h.h1
 rw [List.length_map] at h1
 have := h.n2
 omega
theorem WV.sm (h : WV p x) (hp : eC p) (hr : x.ready.length ≤ 1000000) : x.Sm := by
 refine ⟨fun c hc => ?_, by have := h.ch; have := hp.ch; omega, by have := h.n2; omega, hr, by have := h.out; omega, fun l hl => by have := h.YC hl; omega, by have := h.lk; have := hp.lk; omega, by have := h.Lu; omega⟩
 have h1 := h.Lt hc
 unfold da at h1
 rw [List.length_append, List.length_map, List.length_map] at h1
 have := h.buf c hc
 exact ⟨by omega, by omega, by omega⟩
end
section
variable {p : cu} {x y : Wd} {g q k v : Int} {f : List cN} {i : cN}
theorem iy {z : js} (hg : g < x.gs.length) (h0 : 0 ≤ g) : aq (x.bG g z) q = if q.toNat = g.toNat then z else aq x q := by
 unfold aq Wd.bG
 dsimp only
 by_cases e : q.toNat = g.toNat
 ·rw [if_pos e, e]
  simp [List.getD_eq_getElem?_getD, List.getElem?_set_self (show g.toNat < x.gs.length by omega)]
 ·rw [if_neg e, List.getD_eq_getElem?_getD, List.getD_eq_getElem?_getD, List.getElem?_set_ne (Ne.symm e)]
theorem yd (h0 : 0 ≤ g) (hg : g < x.gs.length) : aq x g ∈ x.gs := by
 unfold aq
 rw [List.getD_eq_getElem?_getD, List.getElem?_eq_getElem (by omega), Option.getD_some]
 exact List.getElem_mem _
theorem WV.congr (h : WV p x) (hl : y.gs.length = x.gs.length) (hst : ∀ q, (aq y q).st = (aq x q).st ∧ (aq y q).wt = (aq x q).wt) (hg : ∀ z ∈ y.gs, pJ p z) (e1 : y.aB = x.aB) (e2 : y.aI = x.aI) (e3 : y.hl = x.hl) (e4 : y.out.length ≤ 1000) : WV p y := by
 have at_ : ∀ q s, At x q s → At y q s := fun q s ha => ⟨ha.1, by rw [hl]; exact ha.2.1, by rw [(hst q).1]; exact ha.2.2⟩
 refine ⟨by rw [hl]; exact h.n1, by rw [hl]; exact h.n2, hg, by rw [e1]; exact h.ch, by rw [e2]; exact h.lk, by rw [e1]; exact h.buf, ?_, ?_, ?_, ?_, ?_, by rw [e1]; exact h.EK, by rw [e3]; exact h.h1, e4⟩
 ·intro c hc v hv
  rw [e1] at hc
  rw [(hst v.g).2]
  exact ⟨at_ _ _ (h.dy c hc v hv).1, (h.dy c hc v hv).2⟩
 ·intro c hc v hv
  rw [e1] at hc
  rw [(hst v.g).2]
  exact ⟨at_ _ _ (h.snd c hc v hv).1, (h.snd c hc v hv).2⟩
 ·intro l hl q hq
  rw [e2] at hl
  rw [(hst q).2]
  exact ⟨at_ _ _ (h.lw l hl q hq).1, (h.lw l hl q hq).2⟩
 ·intro z hz
  rw [e3] at hz
  exact at_ _ _ (h.hl z hz)
 ·intro q h0 hq
  rw [(hst q).2] at hq
  rw [e1, e2]
  exact h.one q h0 hq
theorem Bt {l : List js} {n : Nat} {z w : js} (h : w ∈ l.set n z) : w ∈ l ∨ w = z := List.mem_or_eq_of_mem_set h
theorem WV.bG (h : WV p x) (h0 : 0 ≤ g) (hg : g < x.gs.length) {z : js} (hz : pJ p z) (e1 : z.st = (aq x g).st) (e2 : z.wt = (aq x g).wt) : WV p (x.bG g z) := by
 refine h.congr (by simp [Wd.bG]) (fun q => ?_) (fun w hw => ?_) rfl rfl rfl h.out
 ·rw [iy hg h0]
  split
  ·rename_i e
   have : aq x q = aq x g := by unfold aq; rw [e]
   rw [this]; exact ⟨e1, e2⟩
  ·exact ⟨rfl, rfl⟩
 ·rcases Bt hw with hw | rfl
  ·exact h.DD w hw
  ·exact hz
theorem WV.ready (h : WV p x) {r : List Int} : WV p { x with ready := r } := h.congr rfl (fun _ => ⟨rfl, rfl⟩) h.DD rfl rfl rfl h.out
theorem WV.fin (h : WV p x) {e c : Int} : WV p { x with end_ := e, code := c } := h.congr rfl (fun _ => ⟨rfl, rfl⟩) h.DD rfl rfl rfl h.out
theorem WV.Lv (h : WV p x) (h0 : 0 ≤ g) (hg : g < x.gs.length) (hf : nF x g) {z : js} (hz : pJ p z) : WV p (x.bG g z) := by
 have ne : ∀ q, 0 ≤ q → q ≠ g → aq (x.bG g z) q = aq x q := fun q q0 hq => by rw [iy hg h0, if_neg (by omega)]
 have at_ : ∀ q s, q ≠ g → At x q s → At (x.bG g z) q s := fun q s hq ha => ⟨ha.1, by simpa [Wd.bG] using ha.2.1, by rw [ne q ha.1 hq]; exact ha.2.2⟩
 refine ⟨by simpa [Wd.bG] using h.n1, by simpa [Wd.bG] using h.n2, fun w hw => ?_, h.ch, h.lk, h.buf, ?_, ?_, ?_, ?_, ?_, h.EK, h.h1, h.out⟩
 ·rcases Bt hw with hw | rfl
  ·exact h.DD w hw
  ·exact hz
 ·intro c hc v hv
  have hne : v.g ≠ g := fun e => hf.1 c hc (by rw [← e]; exact List.mem_append_right _ (List.mem_map.2 ⟨v, hv, rfl⟩))
  obtain ⟨a, b⟩ := h.dy c hc v hv
  rw [ne _ a.1 hne]
  exact ⟨at_ _ _ hne a, b⟩
 ·intro c hc v hv
  have hne : v.g ≠ g := fun e => hf.1 c hc (by rw [← e]; exact List.mem_append_left _ (List.mem_map.2 ⟨v, hv, rfl⟩))
  obtain ⟨a, b⟩ := h.snd c hc v hv
  rw [ne _ a.1 hne]
  exact ⟨at_ _ _ hne a, b⟩
 ·intro l hl q hq
  have hne : q ≠ g := fun e => hf.2.1 l hl (by rw [← e]; exact hq)
  obtain ⟨a, b⟩ := h.lw l hl q hq
  rw [ne _ a.1 hne]
  exact ⟨at_ _ _ hne a, b⟩
 ·intro w hw
  have hne : w.id ≠ g := hf.2.2 w hw
  exact at_ _ _ hne (h.hl w hw)
 ·intro q q0 hq
  by_cases e : q = g
  ·subst e
   have a := wL.2 hf.1
   have b := zX.2 hf.2.1
   show cn x.aB q + g7 x.aI q ≤ 1
   omega
  ·rw [ne q q0 e] at hq
   exact h.one q q0 hq
theorem pJ.Q7 {z : js} (h : pJ p z) {s : Int} (h1 : s ≠ 2) (h2 : 1 ≤ s ∧ s ≤ 4) : pJ p { z with st := s } := ⟨h.l1, h.l2, h.fr, fun e => absurd e h1, h2⟩
theorem WV.fF (h : WV p x) (h0 : 0 ≤ g) (hg : g < x.gs.length) (hf : nF x g) : WV p (x.fF g) :=
 WV.ready (h.Lv h0 hg hf ((h.DD _ (yd h0 hg)).Q7 (by decide) (by decide)))
theorem WV.block (h : WV p x) (ha : At x g 1) (hf : f ∈ p.funcs) (hi : jW p f i) : WV p (x.block g i) := by
 have hz := h.DD _ (yd ha.1 ha.2.1)
 exact h.Lv ha.1 ha.2.1 (h.free (by rw [ha.2.2]; decide) (by rw [ha.2.2]; decide)) ⟨hz.l1, hz.l2, hz.fr, fun _ => ⟨f, hf, hi⟩, by show (1 : Int) ≤ 2 ∧ (2 : Int) ≤ 4; decide⟩
theorem jI {α : Type} {l : List α} {n : Nat} {a b : α} (h : b ∈ l.set n a) : b ∈ l ∨ b = a := List.mem_or_eq_of_mem_set h
theorem WV.less (h : WV p x) {c c' : aZ} (hc : x.aB[k.toNat]? = some c) (hb : c'.buf.length ≤ c'.room ∧ c'.room ≤ 16) (hr : ∀ v ∈ c'.dy, v ∈ c.dy) (hs : ∀ v ∈ c'.snd, v ∈ c.snd) (hn : ∀ q, (da c').count q ≤ (da c).count q) : WV p (x.cw k c') := by
 have hm : c ∈ x.aB := List.mem_of_getElem? hc
 have Q8 : ∀ q, cn (x.aB.set k.toNat c') q ≤ cn x.aB q := by
  intro q
  have := mI (fun c : aZ => (da c).count q) x.aB k.toNat c' c hc
  have := hn q
  unfold cn
  omega
 refine ⟨h.n1, h.n2, h.DD, by simpa [Wd.cw] using h.ch, h.lk, ?_, ?_, ?_, h.lw, h.hl, ?_, ?_, h.h1, h.out⟩
 ·intro d hd
  rcases jI hd with hd | rfl
  ·exact h.buf d hd
  ·exact hb
 ·intro d hd v hv
  rcases jI hd with hd | rfl
  ·exact h.dy d hd v hv
  ·exact h.dy c hm v (hr v hv)
 ·intro d hd v hv
  rcases jI hd with hd | rfl
  ·exact h.snd d hd v hv
  ·exact h.snd c hm v (hs v hv)
 ·intro q q0 hq
  have := h.one q q0 hq
  have := Q8 q
  show cn (x.aB.set k.toNat c') q + g7 x.aI q ≤ 1
  omega
 ·intro q
  exact Nat.le_trans (Q8 q) (h.EK q)
theorem WV.more (h : WV p x) {c c' : aZ} {w : Wt} (hc : x.aB[k.toNat]? = some c) (hb : c'.buf.length ≤ c'.room ∧ c'.room ≤ 16)
  (hr : ∀ v ∈ c'.dy, v ∈ c.dy ∨ v = w ∧ At x w.g 2 ∧ ((aq x w.g).wt.op = 14 ∨ (aq x w.g).wt.op = 16 ∧ 0 ≤ w.cs ∧ w.cs < (aq x w.g).wt.b))
  (hs : ∀ v ∈ c'.snd, v ∈ c.snd ∨ v = w ∧ At x w.g 2 ∧ ((aq x w.g).wt.op = 13 ∨ (aq x w.g).wt.op = 16 ∧ 0 ≤ w.cs ∧ w.cs < (aq x w.g).wt.b))
  (hn : ∀ q, (da c').count q ≤ (da c).count q + (if q = w.g then 1 else 0)) (hz : (aq x w.g).wt.op ≠ 16 → cn x.aB w.g + g7 x.aI w.g = 0) (h32 : cn x.aB w.g < 32) : WV p (x.cw k c') := by
 have hm : c ∈ x.aB := List.mem_of_getElem? hc
 have Q8 : ∀ q, cn (x.aB.set k.toNat c') q ≤ cn x.aB q + (if q = w.g then 1 else 0) := by
  intro q
  have := mI (fun c : aZ => (da c).count q) x.aB k.toNat c' c hc
  have := hn q
  unfold cn
  omega
 refine ⟨h.n1, h.n2, h.DD, by simpa [Wd.cw] using h.ch, h.lk, ?_, ?_, ?_, h.lw, h.hl, ?_, ?_, h.h1, h.out⟩
 ·intro d hd
  rcases jI hd with hd | rfl
  ·exact h.buf d hd
  ·exact hb
 ·intro d hd v hv
  rcases jI hd with hd | rfl
  ·exact h.dy d hd v hv
  ·rcases hr v hv with hv | ⟨rfl, hv⟩
   ·exact h.dy c hm v hv
   ·exact hv
 ·intro d hd v hv
  rcases jI hd with hd | rfl
  ·exact h.snd d hd v hv
  ·rcases hs v hv with hv | ⟨rfl, hv⟩
   ·exact h.snd c hm v hv
   ·exact hv
 ·intro q q0 hq
  have a := Q8 q
  show cn (x.aB.set k.toNat c') q + g7 x.aI q ≤ 1
  by_cases e : q = w.g
  ·subst e
   have := hz hq
   rw [if_pos rfl] at a
   omega
  ·have := h.one q q0 hq
   rw [if_neg e] at a
   omega
 ·intro q
  have a := Q8 q
  show cn (x.aB.set k.toNat c') q ≤ 32
  by_cases e : q = w.g
  ·subst e
   rw [if_pos rfl] at a
   omega
  ·have := h.EK q
   rw [if_neg e] at a
   omega
end
section
variable {p : cu} {x y : Wd} {g q k n : Int} {f : List cN} {i : cN} {v : Wt}
theorem Q9 {α : Type} (f g : α → Nat) : ∀ (l : List α), (∀ a ∈ l, f a ≤ g a) → (l.map f).sum ≤ (l.map g).sum
 | [], _ => Nat.le_refl _
 | b :: l, h => by
  simp only [List.map_cons, List.sum_cons]
  have := h b (by simp)
  have := Q9 f g l fun a ha => h a (by simp [ha])
  omega
theorem Bu (c : aZ) : da (c.drop g) = (da c).filter (fun q => q != g) := by
 unfold da aZ.drop wo
 simp only [List.filter_append, List.filter_map]
 rfl
theorem Hg (cs : List aZ) (q : Int) : cn (cs.map fun c => c.drop g) q ≤ cn cs q := by
 unfold cn
 rw [List.map_map]
 refine Q9 _ _ cs fun c _ => ?_
 show (da (c.drop g)).count q ≤ _
 rw [Bu]
 exact List.Sublist.count_le _ List.filter_sublist
theorem WV.leave (h : WV p x) : WV p (x.leave g) := by
 refine ⟨h.n1, h.n2, h.DD, by simpa [Wd.leave] using h.ch, h.lk, ?_, ?_, ?_, h.lw, h.hl, ?_, ?_, h.h1, h.out⟩
 ·intro d hd
  obtain ⟨c, hc, rfl⟩ := List.mem_map.1 hd
  exact h.buf c hc
 ·intro d hd v hv
  obtain ⟨c, hc, rfl⟩ := List.mem_map.1 hd
  exact h.dy c hc v (List.mem_filter.1 hv).1
 ·intro d hd v hv
  obtain ⟨c, hc, rfl⟩ := List.mem_map.1 hd
  exact h.snd c hc v (List.mem_filter.1 hv).1
 ·intro q q0 hq
  have := Hg (g := g) x.aB q
  have := h.one q q0 hq
  show cn (x.aB.map fun c => c.drop g) q + g7 x.aI q ≤ 1
  omega
 ·intro q
  exact Nat.le_trans (Hg x.aB q) (h.EK q)
theorem JY (h : WV p x) (h3 : (aq x g).wt.op ≠ 18) (h2 : (aq x g).st = 2) : nF (x.leave g) g := by
 refine ⟨fun d hd hg => ?_, fun l hl hg => h3 (h.lw l hl g hg).2, fun w hw e => ?_⟩
 ·obtain ⟨c, hc, rfl⟩ := List.mem_map.1 hd
  rw [Bu] at hg
  have := (List.mem_filter.1 hg).2
  simp at this
 ·have := (h.hl w hw).2.2
  rw [e, h2] at this
  cases this
theorem Hf.set {r : gV} (h : Hf p r) (q v : Int) : Hf p (r.set q v) := h
theorem pJ.cV {z : js} (h : pJ p z) {r : gV} (hr : Hf p r) : pJ p (z.cV r) :=
 ⟨by simpa [js.cV] using h.l1, by simpa [js.cV] using h.l2, fun f hf => by
  rcases List.mem_or_eq_of_mem_set hf with hf | rfl
  ·exact h.fr f hf
  ·exact hr, h.wt, h.st⟩
theorem pJ.top {z : js} (h : pJ p z) : Hf p z.top := by
 unfold js.top
 have := h.l1
 rw [List.getD_eq_getElem?_getD, List.getElem?_eq_getElem (by omega), Option.getD_some]
 exact h.fr _ (List.getElem_mem _)
theorem WV.ku (h : WV p x) (h0 : 0 ≤ g) (hg : g < x.gs.length) : pJ p (aq x g) := h.DD _ (yd h0 hg)
theorem WV.bA (h : WV p x) (h0 : 0 ≤ g) (hg : g < x.gs.length) : WV p (x.bA g q n) :=
 h.bG h0 hg ((h.ku h0 hg).cV ((h.ku h0 hg).top.set q n)) rfl rfl
theorem DE (h0 : 0 ≤ g) (hg : g < x.gs.length) {m : Int} : (aq (x.bA g q n) m).st = (aq x m).st ∧ (aq (x.bA g q n) m).wt = (aq x m).wt ∧ (aq (x.bA g q n) m).fs.length = (aq x m).fs.length := by
 unfold Wd.bA
 rw [iy hg h0]
 split
 ·rename_i e
  have : aq x m = aq x g := by unfold aq; rw [e]
  rw [this]
  exact ⟨rfl, rfl, by simp [js.cV]⟩
 ·exact ⟨rfl, rfl, rfl⟩
theorem nG (h0 : 0 ≤ g) (hg : g < x.gs.length) {m : Int} (h1 : 0 ≤ m) (hne : m ≠ g) : aq (x.bA g q n) m = aq x m := by
 unfold Wd.bA
 rw [iy hg h0, if_neg (by omega)]
theorem WV.bn (h : WV p x) (h0 : 0 ≤ g) (hg : g < x.gs.length) : bn x g := ⟨h0, hg, (h.ku h0 hg).l1, by have := (h.ku h0 hg).l2; omega⟩
theorem NG (hp : eC p) {a : Int} (h0 : 0 ≤ a) (h1 : a < p.cases.length) : qk p a ∈ p.cases := by
 unfold qk
 rw [List.getD_eq_getElem?_getD, List.getElem?_eq_getElem (by omega), Option.getD_some]
 exact List.getElem_mem _
theorem WV.ql (h : WV p x) (hp : eC p) (ha : At x v.g 2) (hw : (aq x v.g).wt.op = 14 ∨ (aq x v.g).wt.op = 16 ∧ 0 ≤ v.cs ∧ v.cs < (aq x v.g).wt.b) : ql p x v := by
 refine ⟨h.bn ha.1 ha.2.1, ?_⟩
 obtain ⟨f, hf, hi⟩ := (h.ku ha.1 ha.2.1).wt ha.2.2
 obtain ⟨_, _, _, _, _, _, _, _, i13, i14, i16, _⟩ := hi
 split
 ·rename_i e
  rcases hw with hw | ⟨_, c0, c1⟩
  ·rw [e] at hw; cases hw
  ·obtain ⟨a0, a1, a2⟩ := i16 e
   refine ⟨by omega, by omega, by have := hp.cs; omega, (hp.cas _ (NG hp (by omega) (by omega))).2, i14 (.inr e)⟩
 ·rename_i e
  rcases hw with hw | ⟨hw, _⟩
  ·exact ⟨i13 (.inr hw), i14 (.inl hw)⟩
  ·exact absurd hw e
theorem WV.yK (h : WV p x) (ha : At x v.g 2) : yK x v := by
 refine ⟨h.bn ha.1 ha.2.1, fun e => ?_⟩
 obtain ⟨f, hf, hi⟩ := (h.ku ha.1 ha.2.1).wt ha.2.2
 obtain ⟨_, _, _, _, _, _, _, _, _, i14, _⟩ := hi
 exact i14 (.inr e)
theorem nF.bQ (h : nF x g) : nF (x.bA q k n) g := h
theorem bS {m : Int} : (x.bA g q m).gs.length = x.gs.length := by simp [Wd.bA, Wd.bG]
theorem nH : (x.fF g).gs.length = x.gs.length := by simp [Wd.fF, Wd.bG]
theorem r9 (h0 : 0 ≤ g) (hg : g < x.gs.length) {m : Int} (h1 : 0 ≤ m) (hne : m ≠ g) : aq (x.fF g) m = aq x m := by
 show aq (x.bG g _) m = _
 rw [iy hg h0, if_neg (by omega)]
theorem wM (h0 : 0 ≤ g) (hg : g < x.gs.length) : (aq (x.fF g) g).st = 1 := by
 show (aq (x.bG g _) g).st = _
 rw [iy hg h0, if_pos rfl]
theorem WV.gI (h : WV p x) (ha : At x g 2) (Vy : (aq x g).wt.op ≠ 18) : WV p (x.gI g k) ∧ nF (x.gI g k) g := by
 obtain ⟨h0, hg, h2⟩ := ha
 unfold Wd.gI
 have r2 := h.bA (q := (aq x g).wt.c) (n := k) h0 hg
 have e2 := DE (x := x) (q := (aq x g).wt.c) (n := k) h0 hg (m := g)
 exact ⟨r2.leave, JY r2 (by rw [e2.2.1]; exact Vy) (by rw [e2.1]; exact h2)⟩
theorem gN : (x.gI g k).gs.length = x.gs.length := by simp [Wd.gI, Wd.leave, bS]
theorem DF (h0 : 0 ≤ g) (hg : g < x.gs.length) {m : Int} (h1 : 0 ≤ m) (hne : m ≠ g) : aq (x.gI g k) m = aq x m := by
 show aq (x.bA g _ _) m = _
 exact nG h0 hg h1 hne
theorem WV.received (h : WV p x) (ha : At x v.g 2) (Vy : (aq x v.g).wt.op ≠ 18) (hf : (aq x v.g).wt.op ≠ 16 → nF x v.g) {s : Int} : WV p (x.received p v s) := by
 have ha' := ha
 obtain ⟨h0, hg, h2⟩ := ha'
 unfold Wd.received
 dsimp only
 split
 ·have r1 := h.bA (q := (qk p ((aq x v.g).wt.a + v.cs)).bQ) (n := v.v) h0 hg
  have e1 := DE (x := x) (q := (qk p ((aq x v.g).wt.a + v.cs)).bQ) (n := v.v) h0 hg (m := v.g)
  have l1 := bS (x := x) (g := v.g) (q := (qk p ((aq x v.g).wt.a + v.cs)).bQ) (m := v.v)
  obtain ⟨r2, f2⟩ := r1.gI (k := v.cs) ⟨h0, by rw [l1]; exact hg, by rw [e1.1]; exact h2⟩ (by rw [e1.2.1]; exact Vy)
  exact r2.fF h0 (by rw [gN, l1]; exact hg) f2
 ·rename_i e
  have r1 := h.bA (q := (aq x v.g).wt.b) (n := v.v) h0 hg
  have r2 := r1.bA (g := v.g) (q := (aq x v.g).wt.c) (n := s) h0 (by rw [bS]; exact hg)
  exact r2.fF h0 (by rw [bS, bS]; exact hg) (hf e)
theorem wN {s : Int} : (x.received p v s).gs.length = x.gs.length := by
 unfold Wd.received
 dsimp only
 split
 ·rw [nH, gN, bS]
 ·rw [nH, bS, bS]
theorem yX (h0 : 0 ≤ v.g) (hg : v.g < x.gs.length) {s m : Int} (h1 : 0 ≤ m) (hne : m ≠ v.g) : aq (x.received p v s) m = aq x m := by
 unfold Wd.received
 dsimp only
 split
 ·rw [r9 h0 (by rw [gN, bS]; exact hg) h1 hne, DF h0 (by rw [bS]; exact hg) h1 hne, nG h0 hg h1 hne]
 ·rw [r9 h0 (by rw [bS, bS]; exact hg) h1 hne, nG h0 (by rw [bS]; exact hg) h1 hne, nG h0 hg h1 hne]
theorem mJ (h0 : 0 ≤ v.g) (hg : v.g < x.gs.length) {s : Int} : (aq (x.received p v s) v.g).st = 1 ∧ (x.received p v s).ready = x.ready ++ [v.g] := by
 unfold Wd.received
 dsimp only
 split
 ·exact ⟨wM h0 (by rw [gN, bS]; exact hg), rfl⟩
 ·exact ⟨wM h0 (by rw [bS, bS]; exact hg), rfl⟩
theorem WV.sent (h : WV p x) (ha : At x v.g 2) (Vy : (aq x v.g).wt.op ≠ 18) (hf : (aq x v.g).wt.op ≠ 16 → nF x v.g) : WV p (x.sent v) := by
 have ha' := ha
 obtain ⟨h0, hg, h2⟩ := ha'
 unfold Wd.sent
 split
 ·obtain ⟨r2, f2⟩ := h.gI (k := v.cs) ha Vy
  exact r2.fF h0 (by rw [gN]; exact hg) f2
 ·rename_i e
  exact h.fF h0 hg (hf e)
theorem Ra : (x.sent v).gs.length = x.gs.length := by
 unfold Wd.sent
 split
 ·rw [nH, gN]
 ·rw [nH]
theorem Uj (h0 : 0 ≤ v.g) (hg : v.g < x.gs.length) {m : Int} (h1 : 0 ≤ m) (hne : m ≠ v.g) : aq (x.sent v) m = aq x m := by
 unfold Wd.sent
 split
 ·rw [r9 h0 (by rw [gN]; exact hg) h1 hne, DF h0 hg h1 hne]
 ·rw [r9 h0 hg h1 hne]
theorem Lw (h0 : 0 ≤ v.g) (hg : v.g < x.gs.length) : (aq (x.sent v) v.g).st = 1 ∧ (x.sent v).ready = x.ready ++ [v.g] := by
 unfold Wd.sent
 split
 ·exact ⟨wM h0 (by rw [gN]; exact hg), rfl⟩
 ·exact ⟨wM h0 hg, rfl⟩
theorem Hh (hk : uU x k) : ∃ c, x.aB[k.toNat]? = some c ∧ cZ x.aB k = c := by
 obtain ⟨k0, k1⟩ := hk
 obtain ⟨c, hc⟩ := aM (l := x.aB) (i := k.toNat) (by omega)
 exact ⟨c, hc, by simp [cZ, hc]⟩
theorem ET (h : WV p x) {c c' : aZ} (hc : x.aB[k.toNat]? = some c) (h0 : 0 ≤ g) (h2 : (aq x g).st = 2) (wv : (aq x g).wt.op ≠ 16) (hn : (da c').count g + 1 ≤ (da c).count g) : nF (x.cw k c') g := by
 have a := h.one g h0 wv
 have b := mI (fun c : aZ => (da c).count g) x.aB k.toNat c' c hc
 have e1 : cn (x.aB.set k.toNat c') g = 0 := by unfold cn at *; omega
 have e2 : g7 x.aI g = 0 := by
  have := Bs (fun c : aZ => (da c).count g) x.aB c (List.mem_of_getElem? hc)
  unfold cn at a
  omega
 refine ⟨wL.1 e1, zX.1 e2, fun w hw e => ?_⟩
 have := (h.hl w hw).2.2
 rw [e, h2] at this
 cases this
end
def Wk (x y : Wd) : Prop := y.gs.length = x.gs.length ∧ ∃ l : List Int, y.ready = x.ready ++ l ∧ l.Nodup ∧ (∀ q ∈ l, 0 ≤ q ∧ q < x.gs.length ∧ (aq x q).st ≠ 1 ∧ (aq y q).st = 1) ∧ ∀ q, 0 ≤ q → q ∉ l → aq y q = aq x q
section
variable {p : cu} {x y z : Wd} {g q k n : Int} {f : List cN} {i : cN} {v : Wt}
theorem Wk.refl (x : Wd) : Wk x x := ⟨rfl, [], by simp, List.nodup_nil, (fun q h => by cases h), fun q _ _ => rfl⟩
theorem Wk.same (h1 : y.gs = x.gs) (h2 : y.ready = x.ready) : Wk x y := ⟨by rw [h1], [], by simp [h2], List.nodup_nil, fun q h => by (cases h), fun q _ _ => by unfold aq; rw [h1]⟩
theorem Wk.trans (h : Wk x y) (h' : Wk y z) : Wk x z := by
 obtain ⟨a1, l, a2, a3, a4, a5⟩ := h
 obtain ⟨b1, m, b2, b3, b4, b5⟩ := h'
 refine ⟨by rw [b1, a1], l ++ m, by rw [b2, a2, List.append_assoc], ?_, ?_, ?_⟩
 ·refine List.nodup_append.2 ⟨a3, b3, fun q hq r hr e => ?_⟩
  subst e
  exact (b4 q hr).2.2.1 (a4 q hq).2.2.2
 ·intro q hq
  rcases List.mem_append.1 hq with hq | hq
  ·obtain ⟨c1, c2, c3, c4⟩ := a4 q hq
   refine ⟨c1, c2, c3, ?_⟩
   by_cases hm : q ∈ m
   ·exact (b4 q hm).2.2.2
   ·rw [b5 q c1 hm]; exact c4
  ·obtain ⟨c1, c2, c3, c4⟩ := b4 q hq
   by_cases hl : q ∈ l
   ·exact absurd (a4 q hl).2.2.2 c3
   ·exact ⟨c1, by rw [← a1]; exact c2, by rw [← a5 q c1 hl]; exact c3, c4⟩
 ·intro q q0 hq
  rw [List.mem_append] at hq
  rw [b5 q q0 (fun h => hq (.inr h)), a5 q q0 (fun h => hq (.inl h))]
theorem Wk.keep (h : Wk x y) (h0 : 0 ≤ q) (h1 : (aq x q).st = 1) : aq y q = aq x q := by
 obtain ⟨_, l, _, _, a4, a5⟩ := h
 exact a5 q h0 fun hq => (a4 q hq).2.2.1 h1
theorem Wk.received (h0 : 0 ≤ v.g) (hg : v.g < x.gs.length) (h1 : (aq x v.g).st ≠ 1) {s : Int} : Wk x (x.received p v s) :=
 ⟨wN, [v.g], (mJ h0 hg).2, by simp, fun q hq => by
  simp only [List.mem_singleton] at hq; subst hq
  exact ⟨h0, hg, h1, (mJ h0 hg).1⟩, fun q q0 hq => yX h0 hg q0 (by simpa using hq)⟩
theorem Wk.sent (h0 : 0 ≤ v.g) (hg : v.g < x.gs.length) (h1 : (aq x v.g).st ≠ 1) : Wk x (x.sent v) :=
 ⟨Ra, [v.g], (Lw h0 hg).2, by simp, fun q hq => by
  simp only [List.mem_singleton] at hq; subst hq
  exact ⟨h0, hg, h1, (Lw h0 hg).1⟩, fun q q0 hq => Uj h0 hg q0 (by simpa using hq)⟩
theorem Wk.fF (h0 : 0 ≤ g) (hg : g < x.gs.length) (h1 : (aq x g).st ≠ 1) : Wk x (x.fF g) :=
 ⟨nH, [g], rfl, by simp, fun q hq => by
  simp only [List.mem_singleton] at hq; subst hq
  exact ⟨h0, hg, h1, wM h0 hg⟩, fun q q0 hq => r9 h0 hg q0 (by simpa using hq)⟩
theorem Wk.cw {c : aZ} : Wk x (x.cw k c) := Wk.same rfl rfl
theorem qT (h : WV p x) {c : aZ} (hc : c ∈ x.aB) : c.buf.length ≤ 16 ∧ c.snd.length ≤ 3200 ∧ c.dy.length ≤ 3200 := by
 have h1 := h.Lt hc
 unfold da at h1
 rw [List.length_append, List.length_map, List.length_map] at h1
 have := h.buf c hc
 omega
def YD (p : cu) (x : Wd) : Out (Wd × Bool) → Prop
 | .eV _ y => WV p y ∧ y.gs = x.gs ∧ y.ready = x.ready
 | .on (y, true) => WV p y ∧ Wk x y
 | .on (y, false) => y = x
 | .dF _ _ => False
theorem dM {α : Type} : ∀ (l : List α) (n : Nat) (a : α), l[n]? = some a → l.set n a = l
 | [], _, _, _ => rfl
 | b :: l, 0, a, h => by simp at h; subst h; rfl
 | b :: l, n + 1, a, h => by rw [List.set_cons_succ, dM l n a (by simpa using h)]
theorem oM {c : aZ} (hc : x.aB[k.toNat]? = some c) : x.cw k c = x := by
 unfold Wd.cw
 rw [dM _ _ _ hc]
theorem WV.put (h : WV p x) (hp : eC p) (hk : uU x k) : oW p x k n ∧ YD p x (x.put p k n) := by
 obtain ⟨c, hc, e⟩ := Hh hk
 have hm := List.mem_of_getElem? hc
 obtain ⟨s1, s2, s3⟩ := qT h hm
 have hb := h.buf c hm
 have hr := h.dy c hm
 unfold oW Wd.put
 rw [e]
 refine ⟨⟨hk, ?_, ?_⟩, ?_⟩
 ·unfold aZ.send
  split
  ·intro h; cases h
  ·split
   ·rename_i w r hw
    intro _
    obtain ⟨a, b⟩ := hr w (by rw [hw]; simp)
    exact h.ql (v := ⟨w.g, w.cs, n⟩) hp a b
   ·split <;> (intro h; cases h)
 ·have : c.Small 3200 := ⟨by omega, s2, s3⟩
  exact (this.send n).mono (by omega)
 ·unfold aZ.send
  split
  ·dsimp only
   rw [if_pos rfl, oM hc]
   exact ⟨h, rfl, rfl⟩
  ·split
   ·rename_i w r hw
    dsimp only
    obtain ⟨a, b⟩ := hr w (by rw [hw]; simp)
    have hl : WV p (x.cw k { c with dy := r }) := h.less hc hb (fun v hv => by rw [hw]; exact List.mem_cons_of_mem _ hv) (fun v hv => hv) (fun q => by
     unfold da; rw [hw]; simp only [List.map_cons, List.count_append, List.count_cons]; omega)
    have hne : (aq x w.g).wt.op ≠ 18 := by rcases b with b | b; rw [b]; decide; rw [b.1]; decide
    rw [if_neg (by decide), if_pos rfl]
    refine ⟨hl.received (v := ⟨w.g, w.cs, n⟩) a hne (fun wv => ?_), Wk.cw.trans (Wk.received (x := x.cw k { c with dy := r }) (v := ⟨w.g, w.cs, n⟩) a.1 a.2.1 (by show (aq x w.g).st ≠ 1; rw [a.2.2]; decide))⟩
    exact ET h hc a.1 a.2.2 wv (by unfold da; rw [hw]; simp only [List.map_cons, List.count_append, List.count_cons, beq_self_eq_true, if_true]; omega)
   ·rename_i hw
    split
    ·dsimp only
     rw [if_neg (by decide), if_neg (by decide)]
     exact ⟨h.less hc ⟨by simp; omega, hb.2⟩ (fun v hv => hv) (fun v hv => hv) (fun q => Nat.le_refl _), Wk.cw⟩
    ·dsimp only
     rw [if_neg (by decide), if_neg (by decide), oM hc]
     exact rfl
theorem WV.get (h : WV p x) (hp : eC p) (hk : uU x k) : wB x k ∧ WV p (x.get k).1 ∧ Wk x (x.get k).1 ∧ ((x.get k).2.2.2 = false → (x.get k).1 = x) := by
 obtain ⟨c, hc, e⟩ := Hh hk
 have hm := List.mem_of_getElem? hc
 obtain ⟨s1, s2, s3⟩ := qT h hm
 have hb := h.buf c hm
 have hs := h.snd c hm
 unfold wB Wd.get
 rw [e]
 obtain ⟨room, buf, snd, dy, closed⟩ := c
 cases snd with
 | cons w r =>
  obtain ⟨a, b⟩ := hs w (by simp)
  obtain ⟨v, l, hv⟩ : ∃ v l, buf ++ [w.v] = v :: l := by
   cases buf with
   | nil => exact ⟨_, _, rfl⟩
   | cons q t => exact ⟨q, t ++ [w.v], rfl⟩
  have hlen : l.length = buf.length := by
   have := congrArg List.length hv
   simp at this; omega
  have er : aZ.recv ⟨room, buf, w :: r, dy, closed⟩ = (⟨room, l, r, dy, closed⟩, v, true, w, true, 0) := by
   unfold aZ.recv aZ.all
   dsimp only
   rw [hv]
   rfl
  rw [er]
  dsimp only
  have hl : WV p (x.cw k ⟨room, l, r, dy, closed⟩) := h.less hc (by rw [hlen]; exact hb) (fun v hv => hv) (fun v hv => List.mem_cons_of_mem _ hv) (fun q => by
   unfold da; simp only [List.map_cons, List.cons_append, List.count_cons]; omega)
  have hne : (aq x w.g).wt.op ≠ 18 := by rcases b with b | b; rw [b]; decide; rw [b.1]; decide
  rw [if_pos rfl, if_pos rfl]
  refine ⟨⟨hk, fun _ => h.yK a, ⟨by dsimp only at *; omega, by simp only [List.length_cons] at s2; dsimp only; omega, by dsimp only at *; omega⟩⟩, hl.sent a hne (fun wv => ?_), Wk.cw.trans (Wk.sent (x := x.cw k ⟨room, l, r, dy, closed⟩) a.1 a.2.1 (by show (aq x w.g).st ≠ 1; rw [a.2.2]; decide)), (fun h => by cases h)⟩
  exact ET h hc a.1 a.2.2 wv (by unfold da; simp only [List.map_cons, List.cons_append, List.count_cons, beq_self_eq_true, if_true]; omega)
 | nil =>
  cases buf with
  | cons q t =>
   have er : aZ.recv ⟨room, q :: t, [], dy, closed⟩ = (⟨room, t, [], dy, closed⟩, q, true, .zero, false, 0) := rfl
   rw [er]
   dsimp only
   simp only [Bool.false_eq_true, if_false, if_true]
   simp only [List.length_cons] at s1 hb
   exact ⟨⟨hk, (fun h => by cases h), ⟨by dsimp only; omega, by dsimp only at *; omega, by dsimp only at *; omega⟩⟩, h.less hc ⟨by dsimp only; omega, hb.2⟩ (fun v hv => hv) (fun v hv => hv) (fun q => Nat.le_refl _), Wk.cw, (fun h => by cases h)⟩
  | nil =>
   have er : aZ.recv ⟨room, [], [], dy, closed⟩ = (⟨room, [], [], dy, closed⟩, 0, false, .zero, false, if closed then 0 else 5) := rfl
   rw [er]
   dsimp only
   simp only [Bool.false_eq_true, if_false, oM hc]
   exact ⟨⟨hk, (fun h => by cases h), ⟨by dsimp only at *; omega, by dsimp only at *; omega, by dsimp only at *; omega⟩⟩, h, Wk.refl _, fun _ => trivial⟩
end
section
variable {p : cu} {x y z : Wd} {g q k n : Int} {f : List cN} {i : cN} {v : Wt}
def YE (x : Wd) (v : Wt) : Prop := 0 ≤ v.g ∧ v.g < x.gs.length ∧ ((aq x v.g).st = 2 → (aq x v.g).wt.op = 14 ∧ nF x v.g ∨ (aq x v.g).wt.op = 16 ∧ 0 ≤ v.cs ∧ v.cs < (aq x v.g).wt.b)
def Bv (x y : Wd) : Prop := (∀ d ∈ y.aB, ∃ c ∈ x.aB, ∀ q ∈ da d, q ∈ da c) ∧ y.aI = x.aI ∧ y.hl = x.hl
theorem Bv.refl (x : Wd) : Bv x x := ⟨fun d hd => ⟨d, hd, fun _ h => h⟩, rfl, rfl⟩
theorem Bv.free (h : Bv x y) (hf : nF x g) : nF y g := by
 obtain ⟨a, b, c⟩ := h
 refine ⟨fun d hd hg => ?_, by rw [b]; exact hf.2.1, by rw [c]; exact hf.2.2⟩
 obtain ⟨e, he, hs⟩ := a d hd
 exact hf.1 e he (hs g hg)
theorem Bv.leave : Bv x (x.leave g) := ⟨fun d hd => by
 obtain ⟨c, hc, rfl⟩ := List.mem_map.1 hd
 exact ⟨c, hc, fun q hq => by rw [Bu] at hq; exact (List.mem_filter.1 hq).1⟩, rfl, rfl⟩
theorem Bv.received {s : Int} : Bv x (x.received p v s) := by
 unfold Wd.received
 dsimp only
 split
 ·exact Bv.leave (x := (x.bA v.g (qk p ((aq x v.g).wt.a + v.cs)).bQ v.v).bA v.g _ _)
 ·exact Bv.refl x
theorem ye (hp : eC p) : ∀ (l : List Wt) (x : Wd), WV p x → x.ready.length + l.length ≤ 1000000 → (∀ v ∈ l, YE x v) → xV p x l ∧ WV p (l.foldl (ei p) x) ∧ Wk x (l.foldl (ei p) x)
 | [], x, h, _, _ => ⟨trivial, h, Wk.refl x⟩
 | v :: l, x, h, hr, ha => by
  obtain ⟨h0, hg, h2⟩ := ha v (by simp)
  have jn : x.ready.length ≤ 1000000 := by simp only [List.length_cons] at hr; omega
  by_cases e : (aq x v.g).st = 2
  ·have Vz : At x v.g 2 := ⟨h0, hg, e⟩
   have hne : (aq x v.g).wt.op ≠ 18 := by rcases h2 e with b | b; rw [b.1]; decide; rw [b.1]; decide
   have hw := h.received (v := { v with v := 0 }) Vz hne (fun wv => by
    rcases h2 e with b | b
    ·exact b.2
    ·exact absurd b.1 wv) (s := 0)
   have hk : Wk x (x.received p { v with v := 0 } 0) := Wk.received (v := { v with v := 0 }) h0 hg (by rw [e]; decide)
   have es : ei p x v = x.received p { v with v := 0 } 0 := by unfold ei; rw [if_pos e]
   have hrd : (x.received p { v with v := 0 } 0).ready = x.ready ++ [v.g] := (mJ (v := { v with v := 0 }) h0 hg).2
   obtain ⟨r1, r2, r3⟩ := ye hp l (x.received p { v with v := 0 } 0) hw (by rw [hrd]; simp only [List.length_append, List.length_cons, List.length_nil] at *; omega) (fun w ZI => by
    obtain ⟨b0, b1, b2⟩ := ha w (List.mem_cons_of_mem _ ZI)
    refine ⟨b0, by rw [wN]; exact b1, fun Uk => ?_⟩
    by_cases ew : w.g = v.g
    ·rw [ew, (mJ (v := { v with v := 0 }) h0 hg).1] at Uk; cases Uk
    ·rw [yX (v := { v with v := 0 }) h0 hg b0 ew] at Uk ⊢
     rcases b2 Uk with c | c
     ·exact .inl ⟨c.1, Bv.received.free c.2⟩
     ·exact .inr c)
   refine ⟨⟨h.sm hp jn, h0, hg, fun _ => h.ql (v := { v with v := 0 }) hp Vz ?_, by rw [es]; exact r1⟩, by rw [List.foldl_cons, es]; exact r2, by rw [List.foldl_cons, es]; exact hk.trans r3⟩
   rcases h2 e with b | b
   ·exact .inl b.1
   ·exact .inr b
  ·have es : ei p x v = x := by unfold ei; rw [if_neg e]
   obtain ⟨r1, r2, r3⟩ := ye hp l x h (by simp only [List.length_cons] at hr; omega) (fun w ZI => ha w (List.mem_cons_of_mem _ ZI))
   exact ⟨⟨h.sm hp jn, h0, hg, fun Uk => absurd Uk e, by rw [es]; exact r1⟩, by rw [List.foldl_cons, es]; exact r2, by rw [List.foldl_cons, es]; exact r3⟩
end
theorem Lx {l : List bz} {i : Nat} (h : i < l.length) : mG l i = l[i] := by
 unfold mG; rw [List.getD_eq_getElem?_getD, List.getElem?_eq_getElem h]; rfl
theorem uY {l : List bz} {i j : Nat} (hi : i < l.length) (hj : j < l.length) : (fm l i j).Perm l := by
 unfold fm
 rw [Lx hi, Lx hj]
 exact List.set_set_perm hi hj
theorem Bw : ∀ (f i : Nat) (l : List bz), i < l.length → (Nv f i l).Perm l
 | 0, _, l, _ => List.Perm.refl l
 | f + 1, i, l, h => by
  unfold Nv
  split
  ·exact (Bw f _ _ (by rw [fM]; omega)).trans (uY h (by omega))
  ·exact List.Perm.refl l
theorem Bx : ∀ (f i : Nat) (l : List bz), i < l.length → (oX f i l).Perm l
 | 0, _, l, _ => List.Perm.refl l
 | f + 1, i, l, h => by
  unfold oX
  split
  ·exact List.Perm.refl l
  ·have := (DB h).1
   exact (Bx f _ _ (by rw [fM]; exact this)).trans (uY h this)
theorem By {l : List bz} {x : bz} : (tU l x).Perm (l ++ [x]) := Bw _ _ _ (by simp)
theorem EU {l : List bz} {i : Nat} (h : i < l.length) : l.Perm (mG l i :: cX l i) := by
 have hn : l.length - 1 < l.length := by omega
 have h1 : (fm l i (l.length - 1)).Perm l := uY h hn
 have GM : (fm l i (l.length - 1))[l.length - 1]? = some (mG l i) := by
  unfold fm
  rw [List.getElem?_set_self (by rw [List.length_set]; exact hn)]
 have h2 : fm l i (l.length - 1) = (fm l i (l.length - 1)).take (l.length - 1) ++ [mG l i] := by
  have e : fm l i (l.length - 1) = (fm l i (l.length - 1)).take (l.length - 1 + 1) := by
   rw [List.take_of_length_le (by rw [fM]; omega)]
  conv => lhs; rw [e]
  rw [List.take_add_one, GM]
  rfl
 have h3 : l.Perm (mG l i :: (fm l i (l.length - 1)).take (l.length - 1)) := by
  refine h1.symm.trans ?_
  rw [h2]
  have : (List.take (l.length - 1) (fm l i (l.length - 1)) ++ [mG l i]).take (l.length - 1) = (fm l i (l.length - 1)).take (l.length - 1) := by rw [← h2]
  rw [this]
  exact List.perm_append_comm
 unfold cX
 split
 ·rename_i hlt
  have hlen : ((fm l i (l.length - 1)).take (l.length - 1)).length = l.length - 1 := by rw [List.length_take, fM]; omega
  refine h3.trans (List.Perm.cons _ ?_)
  exact ((Bw _ _ _ (by rw [jC, hlen]; exact hlt)).trans (Bx _ _ _ (by rw [hlen]; exact hlt))).symm
 ·exact h3
theorem Bz : ∀ (f : Nat) (l : List bz) (now : Int), l.Perm ((en f l now).2 ++ (en f l now).1)
 | 0, l, _ => by simp [en]
 | f + 1, l, now => by
  unfold en
  split
  ·rename_i h
   refine (EU h.1).trans ?_
   dsimp only
   exact List.Perm.cons _ (Bz f _ now)
  ·simp
def iJ (g : Int) (x y : Wd) : Prop := y.ready.Nodup ∧ g ∉ y.ready ∧ (∀ q ∈ y.ready, 0 ≤ q ∧ q < y.gs.length ∧ ¬ At x q 1 ∧ (aq y q).st = 1) ∧
 (∀ q, 0 ≤ q → q ≠ g → q ∉ y.ready → aq y q = aq x q) ∧ x.gs.length ≤ y.gs.length ∧ ∀ q : Int, x.gs.length ≤ q → q < y.gs.length → q ∈ y.ready
section
variable {p : cu} {x y z : Wd} {g q k n : Int} {f : List cN} {i : cN} {v : Wt}
theorem iJ.refl (hr : x.ready = []) : iJ g x x := by
 refine ⟨by rw [hr]; exact List.nodup_nil, by rw [hr]; simp, fun q hq => ?_, fun _ _ _ _ => rfl, Nat.le_refl _, fun q a b => by omega⟩
 rw [hr] at hq; cases hq
theorem iJ.of (h : Wk x y) (hr : x.ready = []) (hg : At x g 1) : iJ g x y := by
 obtain ⟨a1, l, a2, a3, a4, a5⟩ := h
 rw [hr, List.nil_append] at a2
 rw [iJ, a2]
 refine ⟨a3, fun hm => (a4 g hm).2.2.1 hg.2.2, fun q hq => ?_, fun q q0 _ hn => a5 q q0 hn, by omega, fun q b c => by omega⟩
 obtain ⟨b1, b2, b3, b4⟩ := a4 q hq
 exact ⟨b1, by omega, fun ha => b3 ha.2.2, b4⟩
theorem iJ.NH (h : iJ g x y) (h1 : z.ready = y.ready) (h2 : z.gs.length = y.gs.length) (h3 : ∀ q, 0 ≤ q → q ≠ g → aq z q = aq y q) : iJ g x z := by
 obtain ⟨a1, a2, a3, a4, a5, a6⟩ := h
 rw [iJ, h1, h2]
 refine ⟨a1, a2, fun q hq => ?_, fun q q0 hne hn => by rw [h3 q q0 hne]; exact a4 q q0 hne hn, a5, a6⟩
 have hne : q ≠ g := fun e => a2 (e ▸ hq)
 obtain ⟨b1, b2, b3, b4⟩ := a3 q hq
 exact ⟨b1, b2, b3, by rw [h3 q b1 hne]; exact b4⟩
theorem iJ.pre (h : iJ g y z) (h2 : y.gs.length = x.gs.length) (h3 : ∀ q, 0 ≤ q → q ≠ g → aq y q = aq x q) : iJ g x z := by
 obtain ⟨a1, a2, a3, a4, a5, a6⟩ := h
 refine ⟨a1, a2, fun q hq => ?_, fun q q0 hne hn => by rw [a4 q q0 hne hn, h3 q q0 hne], by omega, fun q a b => a6 q (by omega) b⟩
 have hne : q ≠ g := fun e => a2 (e ▸ hq)
 obtain ⟨b1, b2, b3, b4⟩ := a3 q hq
 exact ⟨b1, b2, fun ha => b3 ⟨ha.1, by rw [h2]; exact ha.2.1, by rw [h3 q b1 hne]; exact ha.2.2⟩, b4⟩
theorem iJ.bQ (h : iJ g x y) (h0 : 0 ≤ g) (hg : g < y.gs.length) : iJ g x (y.bA g q n) := h.NH rfl bS fun m m0 hne => nG h0 hg m0 hne
theorem sg {w : js} (h0 : 0 ≤ g) (hg : g < x.gs.length) {m : Int} (m0 : 0 ≤ m) (hne : m ≠ g) : aq (x.bG g w) m = aq x m := by
 rw [iy hg h0, if_neg (by omega)]
theorem iJ.bG {w : js} (h : iJ g x y) (h0 : 0 ≤ g) (hg : g < y.gs.length) : iJ g x (y.bG g w) := h.NH rfl (by simp [Wd.bG]) fun m m0 hne => sg h0 hg m0 hne
def ik (p : cu) (g : Int) (x : Wd) : Out Wd → Prop
 | .eV _ y => WV p y ∧ iJ g x y
 | .on y => WV p y ∧ iJ g x y
 | .dF _ _ => False
theorem ik.lt {r : Out Wd} (h : ik p g x r) (hg : At x g 1) : g < r.fin.gs.length := by
 cases r with
 | on y => have := h.2.2.2.2.2.1; have := hg.2.1; show g < y.gs.length; omega
 | eV n y => have := h.2.2.2.2.2.1; have := hg.2.1; show g < y.gs.length; omega
 | dF l y => exact h.elim
theorem nF.zI (h : nF x g) : cn x.aB g = 0 ∧ g7 x.aI g = 0 ∧ ES x.hl g = 0 :=
 ⟨wL.2 h.1, zX.2 h.2.1, List.count_eq_zero.2 fun hm => by
  obtain ⟨y, hy, e⟩ := List.mem_map.1 hm
  exact h.2.2 y hy e⟩
theorem At.free (hg : At x g 1) (h : WV p x) : nF x g := h.free (by rw [hg.2.2]; decide) (by rw [hg.2.2]; decide)
theorem Ul (h : WV p x) (hg : At x g 1) (hi : jW p f i) (h9 : i.op = 9) (hr : x.ready = []) : (bn x g ∧ be i.b) ∧ ik p g x (x.call g i) := by
 obtain ⟨_, _, _, _, _, i9, _⟩ := hi
 obtain ⟨a0, a1, b1, c1⟩ := i9 (.inl h9)
 have hz := h.ku hg.1 hg.2.1
 refine ⟨⟨h.bn hg.1 hg.2.1, b1⟩, ?_⟩
 unfold Wd.call
 split
 ·exact ⟨h, iJ.refl hr⟩
 ·rename_i hn
  refine ⟨h.bG hg.1 hg.2.1 ⟨by simp, by simp; omega, fun r hr => ?_, hz.wt, hz.st⟩ rfl rfl, (iJ.refl hr).bG hg.1 hg.2.1⟩
  rcases List.mem_append.1 hr with hr | hr
  ·exact hz.fr r hr
  ·simp only [List.mem_singleton] at hr; subst hr
   exact ⟨a0, a1, Int.le_refl 0, (by show (0 : Int) ≤ 64; decide), c1⟩
theorem Um (h : WV p x) (hp : eC p) (hg : At x g 1) (hi : jW p f i) (h20 : i.op = 20) (hr : x.ready = []) : (bn x g ∧ be i.a ∧ x.Sm) ∧ ik p g x (x.emit g i) := by
 obtain ⟨_, _, _, _, _, _, i10, _⟩ := hi
 refine ⟨⟨h.bn hg.1 hg.2.1, i10 (.inr (.inr (.inl h20))), h.sm hp (by rw [hr]; decide)⟩, ?_⟩
 unfold Wd.emit
 split
 ·exact ⟨h, iJ.refl hr⟩
 ·rename_i hn
  exact ⟨h.congr rfl (fun _ => ⟨rfl, rfl⟩) h.DD rfl rfl rfl (by simp; omega), (iJ.refl hr).NH rfl rfl fun _ _ _ => rfl⟩
theorem Un (h : WV p x) (hg : At x g 1) (hi : jW p f i) (Yz : i.op = 10) (hr : x.ready = []) : (bn x g ∧ be i.a ∧ be (aq x g).top.pe) ∧ ik p g x (.on (x.back g i)) := by
 obtain ⟨_, _, _, _, _, _, i10, _⟩ := hi
 have hz := h.ku hg.1 hg.2.1
 refine ⟨⟨h.bn hg.1 hg.2.1, i10 (.inl Yz), hz.top.2.2.2.2⟩, ?_⟩
 have hf := hg.free h
 unfold Wd.back
 split
 ·rename_i h2
  refine ⟨h.bG hg.1 hg.2.1 ⟨by simp [js.back]; omega, by have := hz.l2; simp [js.back]; omega, fun r hr => ?_, hz.wt, hz.st⟩ rfl rfl, (iJ.refl hr).bG hg.1 hg.2.1⟩
  rcases List.mem_or_eq_of_mem_set hr with hr | rfl
  ·exact hz.fr r (List.mem_of_mem_take hr)
  ·refine Hf.set ?_ _ _
   rw [List.getD_eq_getElem?_getD, List.getElem?_eq_getElem (by omega), Option.getD_some]
   exact hz.fr _ (List.getElem_mem _)
 ·have hd : WV p (x.bG g { aq x g with st := 4 }) := h.Lv hg.1 hg.2.1 hf (hz.Q7 (by decide) (by decide))
  have VA : iJ g x (x.bG g { aq x g with st := 4 }) := (iJ.refl hr).bG hg.1 hg.2.1
  split
  ·exact ⟨hd.congr rfl (fun _ => ⟨rfl, rfl⟩) hd.DD rfl rfl rfl hd.out, VA.NH rfl rfl fun _ _ _ => rfl⟩
  ·exact ⟨hd, VA⟩
theorem Uo (h : WV p x) (hp : eC p) (hg : At x g 1) (hf : f ∈ p.funcs) (hi : jW p f i) (h13 : i.op = 13) (hr : x.ready = []) :
  ((bn x g ∧ be i.b ∧ oW p x i.a (bC x g i.b) ∧ wK x g i (x.put p i.a (bC x g i.b))) ∧ x.Sm) ∧ ik p g x (x.send p g i) := by
 have hi' := hi
 obtain ⟨_, _, _, _, _, _, _, i13, Rb, _⟩ := hi'
 obtain ⟨a0, a1⟩ := i13 (.inl h13)
 have hk : uU x i.a := ⟨a0, by rw [h.ch]; exact a1⟩
 obtain ⟨p1, p2⟩ := h.put (n := bC x g i.b) hp hk
 have Ls := h.bn hg.1 hg.2.1
 have hs := h.sm hp (by rw [hr]; decide)
 have hfr := hg.free h
 obtain ⟨c, hc, ec⟩ := Hh hk
 have hm := List.mem_of_getElem? hc
 obtain ⟨s1, s2, s3⟩ := qT h hm
 unfold Wd.send
 generalize j7 : x.put p i.a (bC x g i.b) = r at p2
 match r, p2 with
 | .eV n y, p2 =>
  exact ⟨⟨⟨Ls, Rb (.inl h13), p1, trivial⟩, hs⟩, p2.1, iJ.of (Wk.same p2.2.1 p2.2.2) hr hg⟩
 | .on (y, true), p2 =>
  exact ⟨⟨⟨Ls, Rb (.inl h13), p1, trivial⟩, hs⟩, p2.1, iJ.of p2.2 hr hg⟩
 | .on (y, false), p2 =>
  have p3 : y = x := p2
  subst p3
  refine ⟨⟨⟨Ls, Rb (.inl h13), p1, Ls, rfl, hk, by rw [ec]; exact ⟨by omega, by omega, by omega⟩⟩, hs⟩, ?_, ?_⟩
  ·have hb := h.block hg hf hi
   have eg : aq (y.block g i) g = { aq y g with st := 2, wt := i } := gW hg.1 hg.2.1
   show WV p ((y.block g i).cw i.a { cZ y.aB i.a with snd := (cZ y.aB i.a).snd ++ [⟨g, 0, bC y g i.b⟩] })
   rw [ec]
   refine hb.more (c := c) (w := ⟨g, 0, bC y g i.b⟩) hc (h.buf c hm) (fun v hv => .inl hv) (fun v hv => ?_) (fun q => ?_) (fun _ => ?_) ?_
   ·rcases List.mem_append.1 hv with hv | hv
    ·exact .inl hv
    ·refine .inr ⟨by simpa using hv, ⟨hg.1, by simpa [Wd.block, Wd.bG] using hg.2.1, by rw [eg]⟩, .inl (by rw [eg]; exact h13)⟩
   ·unfold da
    simp only [List.map_append, List.map_cons, List.map_nil, List.count_append, List.count_cons, List.count_nil]
    by_cases e : q = g
    ·subst e; simp; omega
    ·rw [if_neg e]
     have : (g == q) = false := by simp; exact fun h => e h.symm
     simp [this]
   ·have := hfr.zI
    show cn y.aB g + g7 y.aI g = 0
    omega
   ·have := hfr.zI
    show cn y.aB g < 32
    omega
  ·exact (iJ.refl hr).NH rfl (by simp [Wd.block, Wd.Lb, Wd.bG, Wd.cw]) fun m m0 hne => by
    show aq (y.bG g _) m = _
    exact sg hg.1 hg.2.1 m0 hne
 | .dF l y, p2 => exact p2.elim
end
section
variable {p : cu} {x y z : Wd} {g q k n : Int} {f : List cN} {i : cN} {v : Wt}
theorem lQ (l : List Int) (q g : Int) : (l ++ [g]).count q ≤ l.count q + (if q = g then 1 else 0) := by
 rw [List.count_append, List.count_cons, List.count_nil]
 by_cases e : q = g
 ·subst e; simp
 ·rw [if_neg e]
  have : (g == q) = false := by simp; exact fun h => e h.symm
  simp [this]
theorem Up (h : WV p x) (hp : eC p) (hg : At x g 1) (hf : f ∈ p.funcs) (hi : jW p f i) (h14 : i.op = 14) (hr : x.ready = []) :
  (xX x g i ∧ x.Sm) ∧ ik p g x (.on (x.recv g i)) := by
 have hi' := hi
 obtain ⟨_, _, _, _, _, _, _, i13, Rb, i14, _⟩ := hi'
 obtain ⟨a0, a1⟩ := i13 (.inr (.inl h14))
 have hk : uU x i.a := ⟨a0, by rw [h.ch]; exact a1⟩
 obtain ⟨p1, p2, p3, p4⟩ := h.get hp hk
 have Ls := h.bn hg.1 hg.2.1
 have hs := h.sm hp (by rw [hr]; decide)
 have hfr := hg.free h
 obtain ⟨c, hc, ec⟩ := Hh hk
 have hm := List.mem_of_getElem? hc
 obtain ⟨s1, s2, s3⟩ := qT h hm
 have ek := p3.keep hg.1 hg.2.2
 have el := p3.1
 refine ⟨⟨⟨Ls, Rb (.inr h14), i14 (.inl h14), p1, p2.bn hg.1 (by rw [el]; exact hg.2.1), by rw [ek], fun e => ?_⟩, hs⟩, ?_⟩
 ·rw [p4 e]
  exact ⟨hk, by rw [ec]; exact ⟨by omega, by omega, by omega⟩⟩
 ·unfold Wd.recv
  have VA : iJ g x (x.get i.a).1 := iJ.of p3 hr hg
  split
  ·have r1 := p2.bA (g := g) (q := i.b) (n := (x.get i.a).2.1) hg.1 (by rw [el]; exact hg.2.1)
   refine ⟨r1.bA hg.1 (by rw [bS, el]; exact hg.2.1), (VA.bQ hg.1 (by rw [el]; exact hg.2.1)).bQ hg.1 (by rw [bS, el]; exact hg.2.1)⟩
  ·rename_i e
   rw [p4 (by simpa using e)]
   have hb := h.block hg hf hi
   have eg : aq (x.block g i) g = { aq x g with st := 2, wt := i } := gW hg.1 hg.2.1
   refine ⟨?_, ?_⟩
   ·show WV p ((x.block g i).cw i.a { cZ x.aB i.a with dy := (cZ x.aB i.a).dy ++ [⟨g, 0, 0⟩] })
    rw [ec]
    refine hb.more (c := c) (w := ⟨g, 0, 0⟩) hc (h.buf c hm) (fun v hv => ?_) (fun v hv => .inl hv) (fun q => ?_) (fun _ => ?_) ?_
    ·rcases List.mem_append.1 hv with hv | hv
     ·exact .inl hv
     ·exact .inr ⟨by simpa using hv, ⟨hg.1, by simpa [Wd.block, Wd.bG] using hg.2.1, by rw [eg]⟩, .inl (by rw [eg]; exact h14)⟩
    ·unfold da
     rw [List.map_append, ← List.append_assoc]
     exact lQ _ _ _
    ·have := hfr.zI
     show cn x.aB g + g7 x.aI g = 0
     omega
    ·have := hfr.zI
     show cn x.aB g < 32
     omega
   ·exact (iJ.refl hr).NH rfl (by simp [Wd.block, Wd.Lc, Wd.bG, Wd.cw]) fun m m0 hne => by
     show aq (x.bG g _) m = _
     exact sg hg.1 hg.2.1 m0 hne
theorem Uq (h : WV p x) (hp : eC p) (hg : At x g 1) (hi : jW p f i) (h15 : i.op = 15) (hr : x.ready = []) :
  (oI p x i ∧ x.Sm) ∧ ik p g x (x.shut p i) := by
 have hi' := hi
 obtain ⟨_, _, _, _, _, _, _, i13, _⟩ := hi'
 obtain ⟨a0, a1⟩ := i13 (.inr (.inr h15))
 have hk : uU x i.a := ⟨a0, by rw [h.ch]; exact a1⟩
 have hs := h.sm hp (by rw [hr]; decide)
 obtain ⟨c, hc, ec⟩ := Hh hk
 have hm := List.mem_of_getElem? hc
 obtain ⟨s1, s2, s3⟩ := qT h hm
 have hb := h.buf c hm
 have hrc := h.dy c hm
 unfold oI Wd.shut
 rw [ec]
 obtain ⟨room, buf, snd, dy, closed⟩ := c
 cases closed with
 | true =>
  refine ⟨⟨⟨hk, by dsimp only at *; omega, fun e => by simp [aZ.close] at e⟩, hs⟩, ?_⟩
  simp only [aZ.close, if_true]
  rw [oM hc]
  exact ⟨h, iJ.refl hr⟩
 | false =>
  have QZ : WV p (x.cw i.a ⟨room, buf, [], [], true⟩) := h.less hc hb (fun v hv => by cases hv) (fun v hv => by cases hv) (fun q => by simp [da])
  have Rc := ye hp dy (x.cw i.a ⟨room, buf, [], [], true⟩) QZ (by show x.ready.length + dy.length ≤ 1000000; rw [hr]; dsimp only [List.length_nil] at *; omega) (fun v hv => by
   obtain ⟨a, b⟩ := hrc v hv
   refine ⟨a.1, a.2.1, fun _ => ?_⟩
   rcases b with b | b
   ·refine .inl ⟨b, ET h hc a.1 a.2.2 (by rw [b]; decide) ?_⟩
    have : 0 < List.count v.g (da ⟨room, buf, snd, dy, false⟩) := List.count_pos_iff.2 (List.mem_append_right _ (List.mem_map.2 ⟨v, hv, rfl⟩))
    show List.count v.g (da ⟨room, buf, [], [], true⟩) + 1 ≤ _
    simp only [da, List.map_nil, List.append_nil, List.count_nil] at *
    omega
   ·exact .inr b)
  refine ⟨⟨⟨hk, by dsimp only at *; omega, fun _ _ => ?_⟩, hs⟩, ?_⟩
  ·simp only [aZ.close, Bool.false_eq_true, if_false]
   exact Rc.1
  ·simp only [aZ.close, Bool.false_eq_true, if_false]
   rw [if_neg (by decide)]
   split
   ·exact ⟨QZ, (iJ.refl hr).NH rfl rfl fun _ _ _ => rfl⟩
   ·exact ⟨Rc.2.1, iJ.of (Wk.cw.trans Rc.2.2) hr hg⟩
theorem Rd (h : WV p x) (hp : eC p) (hg : At x g 1) (hi : jW p f i) (h17 : i.op = 17) (hr : x.ready = []) :
  (bn x g ∧ be i.a ∧ x.hl.length < 1000000) ∧ ik p g x (.on (x.sleep g i)) := by
 obtain ⟨_, _, _, _, _, _, i10, _⟩ := hi
 refine ⟨⟨h.bn hg.1 hg.2.1, i10 (.inr (.inl h17)), by have := h.Lu; omega⟩, ?_⟩
 unfold Wd.sleep
 split
 ·have hf := hg.free h
  have hz := h.ku hg.1 hg.2.1
  have h1 := h.Lv hg.1 hg.2.1 hf (hz.Q7 (s := 3) (by decide) (by decide))
  have VA : iJ g x (x.bG g { aq x g with st := 3 }) := (iJ.refl hr).bG hg.1 hg.2.1
  refine ⟨⟨h1.n1, h1.n2, h1.DD, h1.ch, h1.lk, h1.buf, h1.dy, h1.snd, h1.lw, fun w hw => ?_, h1.one, h1.EK, fun q => ?_, h1.out⟩, VA.NH rfl rfl fun _ _ _ => rfl⟩
  ·have IU := By.mem_iff.1 hw
   rcases List.mem_append.1 IU with IU | IU
   ·exact h1.hl w IU
   ·simp only [List.mem_singleton] at IU; subst IU
    refine ⟨hg.1, by simpa [Wd.bG] using hg.2.1, ?_⟩
    show (aq (x.bG g { aq x g with st := 3 }) g).st = 3
    rw [gW hg.1 hg.2.1]
  ·show ES (tU x.hl _) q ≤ 1
   unfold ES
   rw [(By.map bz.id).count_eq, List.map_append, List.map_cons, List.map_nil]
   have a := lQ (x.hl.map bz.id) q g
   have b := h.h1 q
   unfold ES at b
   by_cases e : q = g
   ·subst e
    have := hf.zI.2.2
    unfold ES at this
    rw [if_pos rfl] at a
    dsimp only at *
    omega
   ·rw [if_neg e] at a
    dsimp only at *
    omega
 ·exact ⟨h, iJ.refl hr⟩
theorem VB (hk : ER x k) : ∃ c, x.aI[k.toNat]? = some c ∧ jV x k = c := by
 obtain ⟨k0, k1⟩ := hk
 obtain ⟨c, hc⟩ := aM (l := x.aI) (i := k.toNat) (by omega)
 exact ⟨c, hc, by simp [jV, hc]⟩
theorem WV.JZ (h : WV p x) {c c' : Lk} (hc : x.aI[k.toNat]? = some c) (hr : ∀ v ∈ c'.waits, v ∈ c.waits) (hn : ∀ q, c'.waits.count q ≤ c.waits.count q) : WV p (x.gM k c') := by
 have hm : c ∈ x.aI := List.mem_of_getElem? hc
 refine ⟨h.n1, h.n2, h.DD, h.ch, by simpa [Wd.gM] using h.lk, h.buf, h.dy, h.snd, fun d hd v hv => ?_, h.hl, fun q q0 hq => ?_, h.EK, h.h1, h.out⟩
 ·rcases jI hd with hd | rfl
  ·exact h.lw d hd v hv
  ·exact h.lw c hm v (hr v hv)
 ·have a := h.one q q0 hq
  have b := mI (fun l : Lk => l.waits.count q) x.aI k.toNat c' c hc
  have := hn q
  show cn x.aB q + g7 (x.aI.set k.toNat c') q ≤ 1
  unfold g7 at *
  omega
theorem Ur (h : WV p x) (hp : eC p) (hg : At x g 1) (hf : f ∈ p.funcs) (hi : jW p f i) (Vy : i.op = 18) (hr : x.ready = []) :
  (bn x g ∧ ER x i.a ∧ x.Sm) ∧ ik p g x (.on (x.lock g i)) := by
 have hi' := hi
 obtain ⟨_, _, _, _, _, _, _, _, _, _, _, i18, _⟩ := hi'
 obtain ⟨a0, a1⟩ := i18 (.inl Vy)
 have hk : ER x i.a := ⟨a0, by rw [h.lk]; exact a1⟩
 refine ⟨⟨h.bn hg.1 hg.2.1, hk, h.sm hp (by rw [hr]; decide)⟩, ?_⟩
 obtain ⟨c, hc, ec⟩ := VB hk
 have hm := List.mem_of_getElem? hc
 have hfr := hg.free h
 unfold Wd.lock
 rw [ec]
 unfold Lk.take
 split
 ·dsimp only
  rw [if_pos rfl]
  exact ⟨h.JZ hc (fun v hv => hv) (fun q => Nat.le_refl _), (iJ.refl hr).NH rfl rfl fun _ _ _ => rfl⟩
 ·dsimp only
  rw [if_neg (by decide)]
  have hb := h.block hg hf hi
  have eg : aq (x.block g i) g = { aq x g with st := 2, wt := i } := gW hg.1 hg.2.1
  refine ⟨?_, ?_⟩
  ·show WV p ((x.block g i).gM i.a ⟨c.owner, c.waits ++ [g]⟩)
   refine ⟨hb.n1, hb.n2, hb.DD, hb.ch, by simpa [Wd.gM] using hb.lk, hb.buf, hb.dy, hb.snd, fun d hd v hv => ?_, hb.hl, fun q q0 hq => ?_, hb.EK, hb.h1, hb.out⟩
   ·rcases jI hd with hd | rfl
    ·exact hb.lw d hd v hv
    ·rcases List.mem_append.1 hv with hv | hv
     ·exact hb.lw c hm v hv
     ·simp only [List.mem_singleton] at hv; subst hv
      exact ⟨⟨hg.1, by simpa [Wd.gM, Wd.block, Wd.bG] using hg.2.1, by show (aq (x.block v i) v).st = 2; rw [eg]⟩, by show (aq (x.block v i) v).wt.op = 18; rw [eg]; exact Vy⟩
   ·have a := hb.one q q0 hq
    have b := mI (fun l : Lk => l.waits.count q) x.aI i.a.toNat ⟨c.owner, c.waits ++ [g]⟩ c hc
    have d := lQ c.waits q g
    show cn x.aB q + g7 (x.aI.set i.a.toNat _) q ≤ 1
    have a' : cn x.aB q + g7 x.aI q ≤ 1 := a
    by_cases e : q = g
    ·subst e
     have := hfr.zI
     rw [if_pos rfl] at d
     unfold g7 at *
     dsimp only at *
     omega
    ·rw [if_neg e] at d
     unfold g7 at *
     dsimp only at *
     omega
  ·exact (iJ.refl hr).NH rfl (by simp [Wd.block, Wd.gM, Wd.bG]) fun m m0 hne => by
    show aq (x.bG g _) m = _
    exact sg hg.1 hg.2.1 m0 hne
theorem NI (h : WV p x) (hp : eC p) (hg : At x g 1) (hi : jW p f i) (h19 : i.op = 19) (hr : x.ready = []) :
  (nD x g i ∧ x.Sm) ∧ ik p g x (x.unlock g i) := by
 have hi' := hi
 obtain ⟨_, _, _, _, _, _, _, _, _, _, _, i18, _⟩ := hi'
 obtain ⟨a0, a1⟩ := i18 (.inr h19)
 have hk : ER x i.a := ⟨a0, by rw [h.lk]; exact a1⟩
 have hs := h.sm hp (by rw [hr]; decide)
 obtain ⟨c, hc, ec⟩ := VB hk
 have hm := List.mem_of_getElem? hc
 have hw := h.lw c hm
 unfold nD Wd.unlock
 rw [ec]
 unfold Lk.tI
 split
 ·refine ⟨⟨⟨hk, fun e => absurd rfl e⟩, hs⟩, ?_⟩
  dsimp only
  rw [if_pos (by decide)]
  have e : x.gM i.a c = x := by unfold Wd.gM; rw [dM _ _ _ hc]
  rw [e]
  exact ⟨h, iJ.refl hr⟩
 ·obtain ⟨o, ws⟩ := c
  cases ws with
  | nil =>
   refine ⟨⟨⟨hk, fun e => absurd rfl e⟩, hs⟩, ?_⟩
   split
   ·rename_i e; exact absurd rfl e
   ·split
    ·rename_i e; exact absurd rfl e
    ·exact ⟨h.JZ (c' := ⟨-1, []⟩) hc (fun v hv => by cases hv) (fun q => by simp), (iJ.refl hr).NH rfl rfl fun _ _ _ => rfl⟩
  | cons w ws =>
   obtain ⟨a, b⟩ := hw w (by simp)
   refine ⟨⟨⟨hk, fun _ => ⟨a.1, a.2.1⟩⟩, hs⟩, ?_⟩
   have hne : w ≠ -1 := by have := a.1; omega
   have hl : WV p (x.gM i.a ⟨w, ws⟩) := h.JZ hc (fun v hv => List.mem_cons_of_mem _ hv) (fun q => by simp only [List.count_cons]; omega)
   have hfr : nF (x.gM i.a ⟨w, ws⟩) w := by
    have o1 := h.one w a.1 (by rw [b]; decide)
    have s := mI (fun l : Lk => l.waits.count w) x.aI i.a.toNat ⟨w, ws⟩ ⟨o, w :: ws⟩ hc
    simp only [List.count_cons, beq_self_eq_true, if_true] at s
    have e1 : g7 (x.aI.set i.a.toNat ⟨w, ws⟩) w = 0 := by unfold g7 at *; omega
    have e2 : cn x.aB w = 0 := by
     have := Bs (fun l : Lk => l.waits.count w) x.aI ⟨o, w :: ws⟩ hm
     simp only [List.count_cons, beq_self_eq_true, if_true] at this
     unfold g7 at *; omega
    refine ⟨wL.1 e2, zX.1 e1, fun y hy e => ?_⟩
    have := (h.hl y hy).2.2
    rw [e, a.2.2] at this
    cases this
   have hres : ik p g x (.on ((x.gM i.a ⟨w, ws⟩).fF w)) := ⟨hl.fF a.1 a.2.1 hfr, iJ.of (Wk.trans (Wk.same rfl rfl) (Wk.fF (x := x.gM i.a ⟨w, ws⟩) a.1 a.2.1 (by show (aq x w).st ≠ 1; rw [a.2.2]; decide))) hr hg⟩
   split
   ·rename_i e; exact absurd rfl e
   ·split
    ·exact hres
    ·rename_i e; exact absurd hne e
end
section
variable {p : cu} {x y z : Wd} {g q k n : Int} {f : List cN} {i : cN} {v : Wt}
theorem lp {w : js} (h0 : 0 ≤ q) (hq : q < x.gs.length) : aq { x with gs := x.gs ++ [w] } q = aq x q := by
 unfold aq
 dsimp only
 rw [List.getD_eq_getElem?_getD, List.getD_eq_getElem?_getD, List.getElem?_append_left (by omega)]
theorem DG {w : js} : aq { x with gs := x.gs ++ [w] } (x.gs.length : Int) = w := by
 unfold aq
 dsimp only
 rw [Int.toNat_natCast, List.getD_eq_getElem?_getD, List.getElem?_append_right (Nat.le_refl _)]
 simp
theorem WV.spawn (h : WV p x) (hn : x.gs.length < 100) {w : js} (hw : pJ p w) : WV p { x with gs := x.gs ++ [w] } := by
 have at_ : ∀ q s, At x q s → At { x with gs := x.gs ++ [w] } q s := fun q s ha => ⟨ha.1, by have := ha.2.1; simp; omega, by rw [lp ha.1 ha.2.1]; exact ha.2.2⟩
 refine ⟨by simp, by simp; omega, fun z hz => ?_, h.ch, h.lk, h.buf, fun c hc v hv => ?_, fun c hc v hv => ?_, fun l hl q hq => ?_, fun z hz => at_ _ _ (h.hl z hz), fun q q0 hq => ?_, h.EK, h.h1, h.out⟩
 ·rcases List.mem_append.1 hz with hz | hz
  ·exact h.DD z hz
  ·simp only [List.mem_singleton] at hz; subst hz; exact hw
 ·obtain ⟨a, b⟩ := h.dy c hc v hv
  rw [lp a.1 a.2.1]
  exact ⟨at_ _ _ a, b⟩
 ·obtain ⟨a, b⟩ := h.snd c hc v hv
  rw [lp a.1 a.2.1]
  exact ⟨at_ _ _ a, b⟩
 ·obtain ⟨a, b⟩ := h.lw l hl q hq
  rw [lp a.1 a.2.1]
  exact ⟨at_ _ _ a, b⟩
 ·by_cases hlt : q < x.gs.length
  ·rw [lp q0 hlt] at hq
   exact h.one q q0 hq
  ·refine h.one q q0 ?_
   unfold aq
   rw [List.getD_eq_getElem?_getD, List.getElem?_eq_none (by omega)]
   decide
theorem Re {w : js} : Wd.fF { x with gs := x.gs ++ [{ w with st := 0 }] } (x.gs.length : Int) = { x with gs := x.gs ++ [{ w with st := 1 }], ready := x.ready ++ [(x.gs.length : Int)] } := by
 unfold Wd.fF Wd.bG
 rw [DG]
 simp [List.set_append_right]
theorem Rf (h : WV p x) (hp : eC p) (hg : At x g 1) (hi : jW p f i) (h11 : i.op = 11) (hr : x.ready = []) : (bn x g ∧ be i.b ∧ be i.c ∧ x.Sm) ∧ ik p g x (x.spawn g i) := by
 obtain ⟨_, _, _, _, _, i9, _⟩ := hi
 obtain ⟨a0, a1, b1, c1⟩ := i9 (.inr h11)
 refine ⟨⟨h.bn hg.1 hg.2.1, b1, c1, h.sm hp (by rw [hr]; decide)⟩, ?_⟩
 unfold Wd.spawn
 split
 ·exact ⟨h, iJ.refl hr⟩
 ·rename_i hn
  rw [Re (w := ⟨0, [gV.begin i.a (bC x g i.b)], .zero⟩)]
  have hw : pJ p ⟨1, [gV.begin i.a (bC x g i.b)], .zero⟩ := ⟨by simp, by simp, fun r hr => by
   simp only [List.mem_singleton] at hr; subst hr
   exact ⟨a0, a1, Int.le_refl 0, (by show (0 : Int) ≤ 64; decide), by show be 0; decide⟩, (fun e => by cases e), by show (1 : Int) ≤ 1 ∧ (1 : Int) ≤ 4; decide⟩
  have h1 := (h.spawn (by omega) hw).ready (r := x.ready ++ [(x.gs.length : Int)])
  have hlen : g < (x.gs ++ [(⟨1, [gV.begin i.a (bC x g i.b)], .zero⟩ : js)]).length := by have := hg.2.1; simp; omega
  refine ⟨h1.bA hg.1 hlen, ?_⟩
  have VA : iJ g x { x with gs := x.gs ++ [⟨1, [gV.begin i.a (bC x g i.b)], .zero⟩], ready := x.ready ++ [(x.gs.length : Int)] } := by
   rw [iJ, hr]
   simp only [List.nil_append, List.length_append, List.length_cons, List.length_nil]
   refine ⟨by simp, by have := hg.2.1; simp; omega, fun q hq => ?_, fun q q0 _ hn => ?_, by omega, fun q a b => by simp; omega⟩
   ·simp only [List.mem_singleton] at hq; subst hq
    exact ⟨by omega, by omega, fun ha => by have := ha.2.1; omega, by show (aq { x with gs := x.gs ++ [_] } _).st = 1; rw [DG]⟩
   ·show aq { x with gs := x.gs ++ [_] } q = aq x q
    by_cases hlt : q < x.gs.length
    ·exact lp q0 hlt
    ·simp only [List.mem_singleton] at hn
     unfold aq
     dsimp only
     rw [List.getD_eq_getElem?_getD, List.getD_eq_getElem?_getD, List.getElem?_eq_none (by simp; omega), List.getElem?_eq_none (by omega)]
  exact VA.bQ hg.1 hlen
theorem Ly (h : WV p x) (hg : At x g 2) (wv : (aq x g).wt.op = 16) (hf : nF x g) {fY : List Int} {cases : List oV} (hc : ∀ c ∈ cases, c.Ok x.aB.length) (hb : (cases.length : Int) ≤ (aq x g).wt.b) (h32 : cases.length ≤ 32) :
  ∀ j, j ≤ cases.length → WV p { x with aB := eH g fY cases x.aB j } ∧ cn (eH g fY cases x.aB j) g ≤ j
 | 0, _ => ⟨h, by show cn x.aB g ≤ 0; have := hf.zI; omega⟩
 | j + 1, hj => by
  obtain ⟨ih, ic⟩ := Ly h hg wv hf (fY := fY) hc hb h32 j (by omega)
  obtain ⟨c, Fb⟩ := aM (l := cases) (i := j) (by omega)
  have ok := hc c (List.mem_of_getElem? Fb)
  unfold eH
  rw [Fb]
  dsimp only
  unfold kM
  generalize hcs : eH g fY cases x.aB j = cs at ih ic
  have hlen : cs.length = x.aB.length := by
   have a := ih.ch
   have b := h.ch
   dsimp only at a
   omega
  have key : ∀ d : aZ, (c.way = 0 ∨ c.way = 1) → cZ cs c.ch = d → ∀ d' : aZ, d'.buf = d.buf → d'.room = d.room →
    ((∀ v ∈ d'.dy, v ∈ d.dy ∨ v = ⟨g, j, 0⟩) ∧ d'.snd = d.snd ∨ (∀ v ∈ d'.snd, v ∈ d.snd ∨ v = ⟨g, j, fY.getD c.bQ.toNat 0⟩) ∧ d'.dy = d.dy) →
    (∀ q, (da d').count q ≤ (da d).count q + (if q = g then 1 else 0)) →
    WV p { x with aB := cs.set c.ch.toNat d' } ∧ cn (cs.set c.ch.toNat d') g ≤ j + 1 := by
   intro d YF hd d' e1 e2 e3 hn
   obtain ⟨k0, k1, _⟩ := ok.2.2 (by rcases YF with e | e <;> rw [e] <;> decide)
   obtain ⟨d2, Sb⟩ := aM (l := cs) (i := c.ch.toNat) (by omega)
   have : d2 = d := by rw [← hd]; simp [cZ, Sb]
   subst this
   have hm : d2 ∈ cs := List.mem_of_getElem? Sb
   have hbuf := ih.buf d2 hm
   refine ⟨?_, ?_⟩
   ·rcases e3 with ⟨e3, e4⟩ | ⟨e3, e4⟩
    ·exact ih.more (k := c.ch) (w := ⟨g, j, 0⟩) Sb (by rw [e1, e2]; exact hbuf) (fun v hv => by
      rcases e3 v hv with e | e
      ·exact .inl e
      ·exact .inr ⟨e, hg, .inr ⟨wv, by dsimp only; omega, by dsimp only; show (j : Int) < (aq x g).wt.b; omega⟩⟩) (fun v hv => .inl (by rw [← e4]; exact hv)) hn (fun e => absurd wv e) (by show cn cs g < 32; omega)
    ·exact ih.more (k := c.ch) (w := ⟨g, j, fY.getD c.bQ.toNat 0⟩) Sb (by rw [e1, e2]; exact hbuf) (fun v hv => .inl (by rw [← e4]; exact hv)) (fun v hv => by
      rcases e3 v hv with e | e
      ·exact .inl e
      ·exact .inr ⟨e, hg, .inr ⟨wv, by dsimp only; omega, by dsimp only; show (j : Int) < (aq x g).wt.b; omega⟩⟩) hn (fun e => absurd wv e) (by show cn cs g < 32; omega)
   ·have a := mI (fun c : aZ => (da c).count g) cs c.ch.toNat d' d2 Sb
    have b := hn g
    rw [if_pos rfl] at b
    unfold cn at *
    omega
  split
  ·rename_i hw
   refine key _ (.inl hw) rfl _ rfl rfl (.inl ⟨fun v hv => ?_, rfl⟩) (fun q => ?_)
   ·rcases List.mem_append.1 hv with hv | hv
    ·exact .inl hv
    ·exact .inr (by simpa using hv)
   ·unfold da
    rw [List.map_append, ← List.append_assoc]
    exact lQ _ _ _
  ·split
   ·rename_i hw
    refine key _ (.inr hw) rfl _ rfl rfl (.inr ⟨fun v hv => ?_, rfl⟩) (fun q => ?_)
    ·rcases List.mem_append.1 hv with hv | hv
     ·exact .inl hv
     ·exact .inr (by simpa using hv)
    ·unfold da
     have := lQ ((cZ cs c.ch).snd.map Wt.g) q g
     simp only [List.map_append, List.map_cons, List.map_nil, List.count_append] at *
     omega
   ·exact ⟨ih, by omega⟩
end
section
variable {p : cu} {x y z : Wd} {g q k n : Int} {f : List cN} {i : cN} {v : Wt} {d : kF}
theorem pJ.Us {w : js} (h : pJ p w) (CD : w.top.pc + 1 ≤ 64) : pJ p (w.cV w.top.next) :=
 h.cV ⟨h.top.1, h.top.2.1, by have := h.top.2.2.1; show 0 ≤ w.top.pc + 1; omega, CD, h.top.2.2.2.2⟩
theorem WV.next (h : WV p x) (hg : At x g 1) (CD : (aq x g).top.pc + 1 ≤ 64) : WV p (x.next g) ∧ At (x.next g) g 1 ∧ (x.next g).gs.length = x.gs.length ∧ (∀ q, 0 ≤ q → q ≠ g → aq (x.next g) q = aq x q) ∧ (aq (x.next g) g).fs.length = (aq x g).fs.length := by
 have hz := (h.ku hg.1 hg.2.1).Us CD
 have e : aq (x.next g) g = (aq x g).cV (aq x g).top.next := gW hg.1 hg.2.1
 refine ⟨h.bG hg.1 hg.2.1 hz rfl rfl, ⟨hg.1, by simpa [Wd.next, Wd.bG] using hg.2.1, by rw [e]; exact hg.2.2⟩, by simp [Wd.next, Wd.bG], fun q q0 hne => sg hg.1 hg.2.1 q0 hne, by rw [e]; simp [js.cV]⟩
theorem DH {c : oV} (h : c ∈ aD p i) : c ∈ p.cases := List.mem_of_mem_drop (List.mem_of_mem_take h)
theorem Hi {cases : List oV} {cs : List aZ} (h : k ∈ enabled cases cs) : ∃ (j : Nat) (c : oV), k = (j : Int) ∧ j < cases.length ∧ cases[j]? = some c ∧ can cs c = true := by
 unfold enabled Ei at h
 obtain ⟨j, hj, rfl⟩ := List.mem_map.1 h
 obtain ⟨h1, h2⟩ := List.mem_filter.1 hj
 rw [List.mem_range] at h1
 obtain ⟨c, hc⟩ := aM (l := cases) (i := j) (by omega)
 unfold Pk at h2
 rw [hc] at h2
 exact ⟨j, c, rfl, h1, hc, h2⟩
theorem NJ (h : WV p x) (hp : eC p) (hg : At x g 1) (hf : f ∈ p.funcs) (hi : jW p f i) (wv : i.op = 16) (hr : x.ready = []) (CD : (aq x g).top.pc + 1 ≤ 64)
  (hd : ∀ v, d = .num v → enabled (aD p i) x.aB ≠ [] → 0 ≤ v ∧ v < (enabled (aD p i) x.aB).length) :
  nE p x g i d = true ∧ (ik p g x (x.choose p g i d) ∨ ∃ l, d = .dF l ∧ x.choose p g i d = .dF l x) := by
 have hi' := hi
 obtain ⟨_, _, _, _, _, _, _, _, _, i14, i16, _⟩ := hi'
 have hc := i14 (.inr wv)
 obtain ⟨a0, b1, ab⟩ := i16 wv
 have hcs := hp.cs
 have Ls := h.bn hg.1 hg.2.1
 have hs := h.sm hp (by rw [hr]; decide)
 obtain ⟨n1, n2, n3, n4, n5⟩ := h.next hg CD
 have Uc := (h.ku hg.1 hg.2.1).top.2.2.1
 have QZ : (aD p i).length = i.b.toNat := by
  unfold aD
  rw [List.length_take, List.length_drop]; omega
 have YG : ∀ c ∈ aD p i, c.Ok x.aB.length := fun c hc => by rw [h.ch]; exact (hp.cas c (DH hc)).1
 have hne1 : (x.next g).aB = x.aB := rfl
 have VC : ∀ k, k ∈ enabled (aD p i) x.aB → Bq p x g i k ∧ ik p g x (x.qQ p g i k) := by
  intro k hk
  obtain ⟨j, c, rfl, hj, Fb, hcan⟩ := Hi hk
  have hm : c ∈ aD p i := List.mem_of_getElem? Fb
  have hrg := (hp.cas c (DH hm)).2
  have hok := YG c hm
  have ec : (aD p i).getD (j : Int).toNat ⟨0, 0, 0⟩ = c := by rw [Int.toNat_natCast, List.getD_eq_getElem?_getD, Fb]; rfl
  have YF : c.way = 0 ∨ c.way = 1 := by
   unfold can at hcan
   split at hcan
   ·rename_i e; exact .inl e
   ·split at hcan
    ·rename_i e; exact .inr e
    ·cases hcan
  obtain ⟨k0, k1, _⟩ := hok.2.2 (by rcases YF with e | e <;> rw [e] <;> decide)
  have hk1 : uU (x.next g) c.ch := ⟨k0, k1⟩
  unfold Bq Wd.qQ
  rw [ec]
  dsimp only
  by_cases hw : c.way = 1
  ·rw [if_pos hw, if_pos hw]
   obtain ⟨p1, p2⟩ := n1.put (n := bC (x.next g) g c.bQ) hp hk1
   generalize (x.next g).put p c.ch (bC (x.next g) g c.bQ) = r at p2
   match r, p2 with
   | .eV n y, p2 => exact ⟨⟨by omega, by omega, hrg, p1, trivial⟩, p2.1, (iJ.of (Wk.same p2.2.1 p2.2.2) hr n2).pre n3 n4⟩
   | .on (y, true), p2 =>
    have ek := p2.2.keep hg.1 n2.2.2
    have el : g < y.gs.length := by rw [p2.2.1, n3]; exact hg.2.1
    exact ⟨⟨by omega, by omega, hrg, p1, p2.1.bn hg.1 el, by rw [ek, n5]⟩, p2.1.bA hg.1 el, ((iJ.of p2.2 hr n2).pre n3 n4).bQ hg.1 el⟩
   | .on (y, false), p2 =>
    have p3 : y = x.next g := p2
    subst p3
    have el : g < (x.next g).gs.length := by rw [n3]; exact hg.2.1
    exact ⟨⟨by omega, by omega, hrg, p1, n1.bn hg.1 el, n5⟩, n1.bA hg.1 el, ((iJ.refl (x := x.next g) hr).pre n3 n4).bQ hg.1 el⟩
   | .dF l y, p2 => exact p2.elim
  ·rw [if_neg hw, if_neg hw]
   obtain ⟨p1, p2, p3, _⟩ := n1.get hp hk1
   have ek := p3.keep hg.1 n2.2.2
   have el : g < ((x.next g).get c.ch).1.gs.length := by rw [p3.1, n3]; exact hg.2.1
   have r1 := p2.bA (g := g) (q := c.bQ) (n := ((x.next g).get c.ch).2.1) hg.1 el
   exact ⟨⟨by omega, by omega, hrg, p1, p2.bn hg.1 el, by rw [ek, n5]⟩, r1.bA hg.1 (by rw [bS]; exact el), (((iJ.of p3 hr n2).pre n3 n4).bQ hg.1 el).bQ hg.1 (by rw [bS]; exact el)⟩
 refine ⟨?_, ?_⟩
 ·unfold nE
  rw [Bool.and_eq_true]
  refine ⟨decide_eq_true ⟨Ls, ⟨a0, by omega, ab, by omega⟩, hc, hs, by omega, Uc, YG⟩, ?_⟩
  cases d with
  | dF l => rfl
  | num v =>
   dsimp only
   cases he : enabled (aD p i) x.aB with
   | nil => rfl
   | cons q t =>
    rw [List.isEmpty_cons, Bool.false_or]
    obtain ⟨v0, v1⟩ := hd v rfl (by rw [he]; simp)
    rw [he] at v1
    refine decide_eq_true ⟨v0, v1, (VC _ ?_).1⟩
    rw [he, List.getD_eq_getElem?_getD, List.getElem?_eq_getElem (by omega), Option.getD_some]
    exact List.getElem_mem _
 ·unfold Wd.choose
  split
  ·refine .inl ?_
   unfold Wd.uW
   dsimp only
   split
   ·exact ⟨n1.bA hg.1 (by rw [n3]; exact hg.2.1), ((iJ.refl (x := x.next g) hr).pre n3 n4).bQ hg.1 (by rw [n3]; exact hg.2.1)⟩
   ·have hb := n1.block n2 hf hi
    have eg : aq ((x.next g).block g i) g = { aq (x.next g) g with st := 2, wt := i } := gW hg.1 (by rw [n3]; exact hg.2.1)
    have hfr := n2.free n1
    have hw := (Ly (x := (x.next g).block g i) hb ⟨hg.1, by simpa [Wd.block, Wd.bG, n3] using hg.2.1, by rw [eg]⟩ (by rw [eg]; exact wv) hfr (fY := wH (aq (x.next g) g).top) (cases := aD p i) YG (by rw [eg, QZ]; show ((i.b.toNat : Nat) : Int) ≤ i.b; omega) (by omega) (aD p i).length (Nat.le_refl _)).1
    refine ⟨hw, ((iJ.refl (x := x.next g) hr).pre n3 n4).NH rfl (by simp [Wd.block, Wd.bG]) fun m m0 hne => ?_⟩
    show aq ((x.next g).bG g _) m = _
    exact sg hg.1 (by rw [n3]; exact hg.2.1) m0 hne
  ·rename_i hne
   cases d with
   | num v =>
    refine .inl (VC _ ?_).2
    obtain ⟨v0, v1⟩ := hd v rfl hne
    rw [List.getD_eq_getElem?_getD, List.getElem?_eq_getElem (by omega), Option.getD_some]
    exact List.getElem_mem _
   | dF l => exact .inr ⟨l, rfl, rfl⟩
theorem Hj (h : WV p x) (hp : eC p) (h0 : 0 ≤ g) (hd : ∀ v kd n, d = .num v → asks p { x with ready := [] } g = some (kd, n) → 0 ≤ v ∧ v < n) :
  ∃ r rest, yW p x g d = some (r, rest) ∧ (ik p g { x with ready := [] } r ∧ (yV { x with ready := [] } g ∨ r = .on { x with ready := [] } ∧ rest = true) ∨ ∃ l, d = .dF l ∧ r = .dF l { x with ready := [] } ∧ rest = false ∧ yV { x with ready := [] } g ∧ asks p { x with ready := [] } g ≠ none) := by
 have h := h.ready (r := [])
 generalize hx : ({ x with ready := [] } : Wd) = x' at h hd
 have hr : x'.ready = [] := by rw [← hx]
 unfold yW
 rw [hx]
 dsimp only
 split
 ·rename_i Rh
  have hg : At x' g 1 := ⟨Rh.1, Rh.2.1, Rh.2.2.2⟩
  have hz := h.ku hg.1 hg.2.1
  obtain ⟨t1, t2, t3, t4, t5⟩ := hz.top
  rw [if_pos ⟨h.bn hg.1 hg.2.1, t1, t3, by omega⟩]
  obtain ⟨code, nC⟩ := aM (l := p.funcs) (i := (aq x' g).top.fn.toNat) (by omega)
  rw [nC]
  dsimp only
  have hf : code ∈ p.funcs := List.mem_of_getElem? nC
  obtain ⟨c1, c2, c3⟩ := hp.code code hf
  cases YH : code[(aq x' g).top.pc.toNat]? with
  | none => exact ⟨_, _, rfl, .inl ⟨⟨h, iJ.refl hr⟩, .inl Rh⟩⟩
  | some i =>
   dsimp only
   have hi : jW p code i := c3 i (List.mem_of_getElem? YH)
   have hi' := hi
   obtain ⟨o0, o1, o2, o7, o8, o9, o10, o13, o13b, o14, o16, o18, o21⟩ := hi'
   have hpl := (List.getElem?_eq_some_iff.1 YH).1
   have CD : (aq x' g).top.pc + 1 ≤ 64 := by omega
   obtain ⟨n1, n2, n3, n4, n5⟩ := h.next hg CD
   have Bl : (x'.next g).ready = [] := hr
   have zA : asks p x' g = if i.op = 21 then some (4, i.b) else if i.op = 16 then (if enabled (aD p i) x'.aB = [] then none else some (3, (enabled (aD p i) x'.aB).length)) else none := by
    unfold asks He
    rw [if_pos Rh, nC]
    dsimp only
    rw [YH]
   have fin : ∀ {r : Out Wd}, ik p g (x'.next g) r → ik p g x' r := by
    intro r hres
    cases r with
    | on y => exact ⟨hres.1, hres.2.pre n3 n4⟩
    | eV n y => exact ⟨hres.1, hres.2.pre n3 n4⟩
    | dF l y => exact hres.elim
   split
   ·rename_i h8
    try rw [if_pos o2]
    refine ⟨_, _, rfl, .inl ⟨⟨h.bG hg.1 hg.2.1 (hz.cV ?_) rfl rfl, (iJ.refl hr).bG hg.1 hg.2.1⟩, .inl Rh⟩⟩
    unfold gV.pure
    have base : Hf p (aq x' g).top.next := ⟨t1, t2, by show 0 ≤ (aq x' g).top.pc + 1; omega, CD, t5⟩
    split; exact base
    split; exact base.set _ _
    split; exact base.set _ _
    split; exact base.set _ _
    split; exact base.set _ _
    split; exact base.set _ _
    split; exact base.set _ _
    split
    ·rename_i e
     exact ⟨t1, t2, (o7 e).1, by have := (o7 e).2; show i.a ≤ 64; omega, t5⟩
    ·split
     ·have := o8 (by omega)
      exact ⟨t1, t2, this.1, by show i.b ≤ 64; omega, t5⟩
     ·exact base
   ·rename_i h8
    split
    ·rename_i wv
     have hw := NJ (d := d) h hp hg hf hi wv hr CD (fun v hv hne => by
      refine hd v 3 _ hv ?_
      rw [zA, if_neg (by omega), if_pos wv, if_neg hne])
     rw [if_pos hw.1]
     rcases hw.2 with IU | ⟨l, Eb, IU⟩
     ·rw [if_pos (IU.lt hg)]
      exact ⟨_, _, rfl, .inl ⟨IU, .inl Rh⟩⟩
     ·rw [IU, if_pos (show g < (Out.fin (.dF l x')).gs.length from hg.2.1)]
      refine ⟨_, _, rfl, .inr ⟨l, Eb, rfl, rfl, Rh, ?_⟩⟩
      rw [zA, if_neg (by omega), if_pos wv]
      split
      ·rename_i e
       unfold Wd.choose at IU
       rw [if_pos e] at IU
       cases IU
      ·simp
    ·rename_i wv
     split
     ·rename_i h21
      rw [if_pos (o10 (.inr (.inr (.inr h21))))]
      cases d with
      | num v =>
       have hl : g < (x'.next g).gs.length := by rw [n3]; exact hg.2.1
       have hres : ik p g x' (x'.rand g i (.num v)) := ⟨n1.bA hg.1 hl, ((iJ.refl (x := x'.next g) hr).pre n3 n4).bQ hg.1 hl⟩
       rw [if_pos (hres.lt hg)]
       exact ⟨_, _, rfl, .inl ⟨hres, .inl Rh⟩⟩
      | dF l =>
       rw [if_pos (show g < (Out.fin (x'.rand g i (.dF l))).gs.length from hg.2.1)]
       exact ⟨_, _, rfl, .inr ⟨l, rfl, rfl, rfl, Rh, by rw [zA, if_pos h21]; simp⟩⟩
     ·rename_i h21
      have go : ∀ r, oL p (x'.next g) g i = some r → ik p g (x'.next g) r → ∃ r rest, (match oL p (x'.next g) g i with
        | none => none
        | some r => if g < r.fin.gs.length then some (r, JN i.op r) else none) = some (r, rest) ∧ (ik p g x' r ∧ (yV x' g ∨ r = .on x' ∧ rest = true) ∨ ∃ l, d = .dF l ∧ r = .dF l x' ∧ rest = false ∧ yV x' g ∧ asks p x' g ≠ none) := by
       intro r Vu hres
       rw [Vu]
       dsimp only
       rw [if_pos (hres.lt n2)]
       exact ⟨_, _, rfl, .inl ⟨fin hres, .inl Rh⟩⟩
      have hop : i.op = 9 ∨ i.op = 10 ∨ i.op = 11 ∨ i.op = 12 ∨ i.op = 13 ∨ i.op = 14 ∨ i.op = 15 ∨ i.op = 17 ∨ i.op = 18 ∨ i.op = 19 ∨ i.op = 20 ∨ i.op = 22 := by omega
      rcases hop with e | e | e | e | e | e | e | e | e | e | e | e
      ·have w := Ul n1 n2 hi e Bl
       refine go _ ?_ w.2
       unfold oL
       rw [e]; simp only [Int.reduceEq, if_false, if_true]
       rw [if_pos w.1]
      ·have w := Un n1 n2 hi e Bl
       refine go _ ?_ w.2
       unfold oL
       rw [e]; simp only [if_true]
       rw [if_pos w.1]
      ·have w := Rf n1 hp n2 hi e Bl
       refine go _ ?_ w.2
       unfold oL
       rw [e]; simp only [Int.reduceEq, if_false, if_true]
       rw [if_pos w.1]
      ·refine go (.on (x'.next g)) ?_ ⟨n1, iJ.refl Bl⟩
       unfold oL
       rw [e]; simp only [Int.reduceEq, if_false, if_true]
      ·have w := Uo n1 hp n2 hf hi e Bl
       refine go _ ?_ w.2
       unfold oL
       rw [e]; simp only [Int.reduceEq, if_false, if_true]
       rw [if_pos w.1]
      ·have w := Up n1 hp n2 hf hi e Bl
       refine go _ ?_ w.2
       unfold oL
       rw [e]; simp only [Int.reduceEq, if_false, if_true]
       rw [if_pos w.1]
      ·have w := Uq n1 hp n2 hi e Bl
       refine go _ ?_ w.2
       unfold oL
       rw [e]; simp only [Int.reduceEq, if_false, if_true]
       rw [if_pos w.1]
      ·have w := Rd n1 hp n2 hi e Bl
       refine go _ ?_ w.2
       unfold oL
       rw [e]; simp only [Int.reduceEq, if_false, if_true]
       rw [if_pos w.1]
      ·have w := Ur n1 hp n2 hf hi e Bl
       refine go _ ?_ w.2
       unfold oL
       rw [e]; simp only [Int.reduceEq, if_false, if_true]
       rw [if_pos w.1]
      ·have w := NI n1 hp n2 hi e Bl
       refine go _ ?_ w.2
       unfold oL
       rw [e]; simp only [Int.reduceEq, if_false, if_true]
       rw [if_pos w.1]
      ·have w := Um n1 hp n2 hi e Bl
       refine go _ ?_ w.2
       unfold oL
       rw [e]; simp only [Int.reduceEq, if_false, if_true]
       rw [if_pos w.1]
      ·refine go (.eV i.a (x'.next g)) ?_ ⟨n1, iJ.refl Bl⟩
       unfold oL
       rw [e]; simp only [Int.reduceEq, if_false, if_true]
 ·exact ⟨_, _, rfl, .inl ⟨⟨h, iJ.refl hr⟩, .inr ⟨rfl, rfl⟩⟩⟩
theorem Lz {w : Wd} {k n : Int} (hp : eC p) (h : asks p w g = some (k, n)) : 1 ≤ n ∧ n < 1099511627776 := by
 unfold asks at h
 split at h
 ·split at h
  ·cases h
  ·rename_i ins hi
   have hio : ∃ f ∈ p.funcs, ins ∈ f := by
    unfold He at hi
    split at hi
    ·cases hi
    ·rename_i code hc
     exact ⟨code, List.mem_of_getElem? hc, List.mem_of_getElem? hi⟩
   obtain ⟨f, hf, hm⟩ := hio
   have hok := (hp.code f hf).2.2 ins hm
   split at h
   ·rename_i e
    simp only [Option.some.injEq, Prod.mk.injEq] at h
    have := hok.2.2.2.2.2.2.2.2.2.2.2.2 e
    omega
   ·split at h
    ·split at h
     ·cases h
     ·rename_i hne
      simp only [Option.some.injEq, Prod.mk.injEq] at h
      have h1 : (enabled (aD p ins) w.aB).length ≤ (aD p ins).length := Gb _ _ _
      have h2 : (aD p ins).length ≤ p.cases.length := by
       unfold aD
       rw [List.length_take, List.length_drop]; omega
      have := hp.cs
      have h3 : 0 < (enabled (aD p ins) w.aB).length := by
       rcases hl : enabled (aD p ins) w.aB with _ | ⟨q, t⟩
       ·exact absurd hl hne
       ·simp
      omega
    ·cases h
 ·cases h
end
section
variable {p : cu} {x y z : Wd} {g q k n : Int}
theorem DI : ∀ (l : List Int) (x : Wd), WV p x → l.Nodup → (∀ q ∈ l, 0 ≤ q ∧ q < x.gs.length ∧ (aq x q).st ≠ 1 ∧ nF x q) → WV p (l.foldl Wd.fF x) ∧ Wk x (l.foldl Wd.fF x) ∧ (l.foldl Wd.fF x).ready = x.ready ++ l
 | [], x, h, _, _ => ⟨h, Wk.refl x, by simp⟩
 | q :: l, x, h, hn, ha => by
  obtain ⟨q0, q1, q2, q3⟩ := ha q (by simp)
  obtain ⟨TP, BU⟩ := List.nodup_cons.1 hn
  obtain ⟨r1, r2, r3⟩ := DI l (x.fF q) (h.fF q0 q1 q3) BU (fun m hm => by
   obtain ⟨m0, m1, m2, m3⟩ := ha m (List.mem_cons_of_mem _ hm)
   have hne : m ≠ q := fun e => TP (e ▸ hm)
   exact ⟨m0, by rw [nH]; exact m1, by rw [r9 q0 q1 m0 hne]; exact m2, m3⟩)
  refine ⟨r1, (Wk.fF q0 q1 q2).trans r2, ?_⟩
  rw [List.foldl_cons, r3]
  show (x.ready ++ [q]) ++ l = _
  simp
def La (x : Wd) : List Int := (en x.hl.length x.hl (IntKind.wrap .u64 (x.clock + 1))).2.map bz.id
theorem Ut (he : x.end_ = 0) : x.tick = (La x).foldl Wd.fF { x with clock := IntKind.wrap .u64 (x.clock + 1), hl := (en x.hl.length x.hl (IntKind.wrap .u64 (x.clock + 1))).1, ready := [] } := by
 unfold Wd.tick
 rw [if_neg (by rw [he]; decide)]
 rfl
theorem Uu (h : WV p x) : (∀ y ∈ (en x.hl.length x.hl (IntKind.wrap .u64 (x.clock + 1))).2, 0 ≤ y.id ∧ y.id < x.gs.length) ∧ WV p x.tick ∧ Wk { x with ready := [] } x.tick ∧ x.tick.ready.length ≤ 100 := by
 generalize hr : en x.hl.length x.hl (IntKind.wrap .u64 (x.clock + 1)) = r
 have hp : x.hl.Perm (r.2 ++ r.1) := by rw [← hr]; exact Bz _ _ _
 have m2 : ∀ y ∈ r.2, y ∈ x.hl := fun y hy => hp.mem_iff.2 (List.mem_append_left _ hy)
 have m1 : ∀ y ∈ r.1, y ∈ x.hl := fun y hy => hp.mem_iff.2 (List.mem_append_right _ hy)
 have hc : ∀ q, (r.2.map bz.id).count q + (r.1.map bz.id).count q ≤ 1 := fun q => by
  have a := h.h1 q
  unfold ES at a
  rw [(hp.map bz.id).count_eq, List.map_append, List.count_append] at a
  exact a
 refine ⟨fun y hy => ⟨(h.hl y (m2 y hy)).1, (h.hl y (m2 y hy)).2.1⟩, ?_⟩
 by_cases he : x.end_ = 0
 ·rw [Ut he]
  unfold La
  rw [hr]
  have h1 : WV p { x with clock := IntKind.wrap .u64 (x.clock + 1), hl := r.1, ready := [] } :=
   ⟨h.n1, h.n2, h.DD, h.ch, h.lk, h.buf, h.dy, h.snd, h.lw, fun y hy => h.hl y (m1 y hy), h.one, h.EK, fun q => by have := hc q; unfold ES; dsimp only; omega, h.out⟩
  have hnd : (r.2.map bz.id).Nodup := List.nodup_iff_count.2 fun q => by have := hc q; omega
  obtain ⟨r1, r2, r3⟩ := DI (r.2.map bz.id) { x with clock := IntKind.wrap .u64 (x.clock + 1), hl := r.1, ready := [] } h1 hnd (fun q hq => by
   obtain ⟨y, hy, rfl⟩ := List.mem_map.1 hq
   have a := h.hl y (m2 y hy)
   refine ⟨a.1, a.2.1, by show (aq x y.id).st ≠ 1; rw [a.2.2]; decide, fun c Zz hg => ?_, fun l hl hg => ?_, fun w hw e => ?_⟩
   ·have := (h.Ui Zz hg).1.2.2
    rw [a.2.2] at this; cases this
   ·have := (h.lw l hl _ hg).1.2.2
    rw [a.2.2] at this; cases this
   ·have b := hc y.id
    have c1 : 0 < (r.2.map bz.id).count y.id := List.count_pos_iff.2 hq
    have c2 : 0 < (r.1.map bz.id).count y.id := List.count_pos_iff.2 (List.mem_map.2 ⟨w, hw, e⟩)
    omega)
  refine ⟨r1, Wk.trans (Wk.same rfl rfl) r2, ?_⟩
  rw [r3]
  have a := h.Lu
  have b := hp.length_eq
  simp only [List.length_append, List.length_map, List.nil_append] at *
  omega
 ·have e : x.tick = { x with ready := [] } := by unfold Wd.tick; rw [if_pos he]
  rw [e]
  exact ⟨h.ready, Wk.refl _, by simp⟩
theorem YI (hp : eC p) : WV p (Wd.new p) := by
 have e : ∀ q, aq (Wd.new p) q = if q.toNat = 0 then ⟨1, [gV.begin 0 0], .zero⟩ else ⟨0, [], .zero⟩ := by
  intro q
  unfold aq Wd.new
  dsimp only
  split
  ·rename_i e; rw [e]; rfl
  ·rename_i e
   rw [List.getD_eq_getElem?_getD, List.getElem?_eq_none (by simp; omega)]; rfl
 have yM : ∀ c ∈ (Wd.new p).aB, ∃ n, c = aZ.new n := fun c hc => by
  obtain ⟨n, _, rfl⟩ := List.mem_map.1 hc
  exact ⟨n, rfl⟩
 have hlk : ∀ l ∈ (Wd.new p).aI, l.waits = [] := fun l hl => by
  have := List.eq_of_mem_replicate hl
  rw [this]
 have z1 : ∀ q, cn (Wd.new p).aB q = 0 := fun q => qS _ _ fun c hc => by
  obtain ⟨n, rfl⟩ := yM c hc
  rfl
 have z2 : ∀ q, g7 (Wd.new p).aI q = 0 := fun q => qS _ _ fun l hl => by rw [hlk l hl]; rfl
 refine ⟨by simp [Wd.new], by simp [Wd.new], fun y hy => ?_, by simp [Wd.new], by (simp [Wd.new]; have := hp.lk.1; omega), fun c hc => ?_, fun c hc v hv => ?_, fun c hc v hv => ?_, fun l hl q hq => ?_, fun y hy => by simp [Wd.new] at hy, fun q _ _ => by rw [z1, z2]; omega, fun q => by rw [z1]; omega, fun q => by simp [ES, Wd.new], by simp [Wd.new]⟩
 ·simp only [Wd.new, List.mem_singleton] at hy
  subst hy
  refine ⟨by simp, by simp, fun r hr => ?_, (fun e => by cases e), by show (1 : Int) ≤ 1 ∧ (1 : Int) ≤ 4; decide⟩
  simp only [List.mem_singleton] at hr; subst hr
  exact ⟨Int.le_refl 0, by have := hp.f1; show (0 : Int) < _; omega, Int.le_refl 0, (by show (0 : Int) ≤ 64; decide), by show be 0; decide⟩
 ·obtain ⟨n, rfl⟩ := yM c hc
  exact ⟨Nat.zero_le _, O3 n⟩
 ·obtain ⟨n, rfl⟩ := yM c hc
  cases hv
 ·obtain ⟨n, rfl⟩ := yM c hc
  cases hv
 ·rw [hlk l hl] at hq; cases hq
end
def J0 (y : js) : Bool := y.st == 1 || y.st == 3
def Wd.stuck (x : Wd) : Bool := x.end_ == 0 && !(x.gs.any J0)
section
variable {R : Mem} {L L' L2 : List HP} {M : Mem} {K : Value → Mem → Prop} {Kp : List PanicEntry → Mem → Prop} {pa : PA} {p : cu} {b : Nat} {x : Wd} {g : Int}
theorem Hl (h : Hp R L M) [o : CE b L pa p x L'] (k : K (.int .u64 x.clock) M) : aa Tryz.prog 86 #[.pointer (some ⟨b, 0, none⟩)] M K Kp := by
 refine qw ?_
 have h' := cO h (b := b)
 clear h
 obtain ⟨a, gg, dr, n, hl, h⟩ := h'
 exact ay h k
theorem Ho (h : Hp R L M) [o : CE b L pa p x L'] (hs : x.gs.length ≤ 1000000) (k : K (.bool x.stuck) M) : aa Tryz.prog 65 #[.pointer (some ⟨b, 0, none⟩)] M K Kp := by
 refine qv ?_
 unfold Wd.stuck at k
 have h' := cO h (b := b)
 clear h
 obtain ⟨a, gg, dr, n, hl, h⟩ := h'
 have hl' := hl
 obtain ⟨l1, l2, l3, l4⟩ := hl'
 refine ay h ?_
 refine fy.2 ⟨fun he => ?_, fun he => ?_⟩
 ·rw [show (x.end_ == 0) = false from by simpa using he, Bool.false_and] at k
  exact k
 rw [show (x.end_ == 0) = true from by simpa using he, Bool.true_and] at k
 refine aF h ?_
 refine ⟨fun d vs M' => ∃ j : Nat, vs = [.int .i64 (j : Int)] ∧ d = x.gs.length - j ∧ j ≤ x.gs.length ∧ (x.gs.take j).any J0 = false ∧ M' = M, ⟨_, 0, rfl, rfl, by omega, rfl, rfl⟩, ?_⟩
 rintro d _ nn M' ⟨j, yQ, hd, hj, ha, rfl⟩
 simp only [List.cons.injEq, Value.int.injEq, and_true, true_and] at yQ
 subst yQ
 refine aJ.2 ⟨fun hlt => ?_, fun hge => ?_⟩
 ·obtain ⟨gb, fS⟩ := aM (l := a.gb) (i := j) (by omega)
  obtain ⟨ga, T9⟩ := aM (l := gg) (i := j) (by omega)
  obtain ⟨y, hy⟩ := aM (l := x.gs) (i := j) (by omega)
  have EM : M'.ld ⟨gb, 0, none⟩ = some (.int .i64 y.st) := by
   have h9 := lP (b := gb) (h.cH fR fS (mA hy T9))
   exact bD h9
  refine ⟨by omega, by omega, ?_⟩
  refine uT h fS fun q hq => ?_
  refine aY ?_
  rw [EM]
  refine bW ?_
  have hym := List.mem_of_getElem? hy
  refine aV.2 ⟨fun e1 => ?_, fun e1 => ?_⟩
  ·have : x.gs.any J0 = true := List.any_eq_true.2 ⟨y, hym, by simp [J0, e1]⟩
   rw [this] at k
   exact k
  refine aY ?_
  rw [EM]
  refine bW ?_
  refine aV.2 ⟨fun e3 => ?_, fun e3 => ?_⟩
  ·have : x.gs.any J0 = true := List.any_eq_true.2 ⟨y, hym, by simp [J0, e3]⟩
   rw [this] at k
   exact k
  refine ⟨x.gs.length - (j + 1), by omega, j + 1, by rw [aP (by omega)], rfl, by omega, ?_, rfl⟩
  rw [bu hy, List.any_append, ha]
  simp [J0, e1, e3]
 ·have HO : j = x.gs.length := by omega
  subst HO
  rw [List.take_length] at ha
  rw [ha] at k
  exact k
theorem Hq {y : Lk} (h : Hp R L M) [o : bZ eK b L y L'] (k : K (.int .i64 y.owner) M) : aa Tryz.prog 138 #[.pointer (some ⟨b, 0, none⟩)] M K Kp := by
 refine sY ?_
 have h' := rT h (b := b)
 clear h
 obtain ⟨A, c, h⟩ := h'
 exact ay h k
theorem Hr {y : Lk} (h : Hp R L M) [o : bZ eK b L y L'] (hs : y.waits.length ≤ 1000000) (k : ∀ A c M', Hp R (iZ A c y.waits :: ax eK b y :: L') M' → K (.slice A y.waits.length c) M') : aa Tryz.prog 139 #[.pointer (some ⟨b, 0, none⟩)] M K Kp := by
 refine sZ ?_
 have h' := rT h (b := b)
 clear h
 obtain ⟨A, c, h⟩ := h'
 refine aj h ?_
 clear h; intro k1 M h
 refine aF h ?_
 refine h.fV br qj y.waits (h.src (A := A)) rfl (by omega) ?_
 clear h; intro A' c' M h
 refine aO ?_
 have h2 : Hp R (pt b [.int .i64 y.owner, .slice A y.waits.length c] 307 :: iZ A c y.waits :: iZ A' c' y.waits :: L') M := h.sub bp
 exact k _ _ _ ((gJ h2 b).sub bp)
theorem J1 (h : Hp R L M) [o : CE b L pa p x L'] (h0 : 0 ≤ g) (h1 : g < x.aI.length) (hs : (jV x g).waits.length ≤ 1000000) (k : ∀ A c M', Hp R (iZ A c (jV x g).waits :: ax (bj pa p) b x :: L') M' → K (.tuple #[.int .i64 (jV x g).owner, .slice A (jV x g).waits.length c]) M') : aa Tryz.prog 90 #[.pointer (some ⟨b, 0, none⟩), .int .i64 g] M K Kp := by
 refine sX ?_
 have h' := cO h (b := b)
 clear h
 obtain ⟨a, gg, dr, n, hl, h⟩ := h'
 have hl' := hl
 obtain ⟨l1, l2, l3, l4⟩ := hl'
 refine aJ.2 ⟨fun hn => by omega, fun _ => ?_⟩
 refine aF h ?_
 refine aJ.2 ⟨fun hn => by omega, fun _ => ?_⟩
 refine aF h ⟨h0, by omega, ?_⟩
 obtain ⟨lb, hlb⟩ := aM (l := a.lb) (i := g.toNat) (by omega)
 obtain ⟨y, hy⟩ := aM (l := x.aI) (i := g.toNat) (by omega)
 have e : jV x g = y := by simp [jV, hy]
 rw [e] at k hs
 refine uT h hlb fun q hq => ?_
 refine aF h ⟨h0, by omega, ?_⟩
 rw [hq]
 refine aY ?_
 have Of := QC h hq hlb
 rw [Of]
 refine gY ?_
 have h2 := h.cH eK hlb hy
 refine Hq h2 ?_
 refine bW ⟨Of, ?_⟩
 refine ⟨by have := bD h (b := b) (o := 0 + 7) (v := .slice a.al a.lb.length a.cl); rw [hq] at this; exact this, ?_⟩
 refine Hr h2 hs ?_
 clear h h2 Of; intro A c M h
 refine aO ⟨QC h hq hlb, ?_⟩
 refine ⟨by have := bD h (b := b) (o := 0 + 7) (v := .slice a.al a.lb.length a.cl); rw [hq] at this; exact this, ?_⟩
 replace h := h.lg eK lb hlb hy
 exact k _ _ _ ((jf (a := a) (gg := gg) (dr := dr) (n := n) (x := x) hl (h.sub (by repeat (first | exact .refl | refine .cons (by repeat (first | exact .here | apply cW.there)) ?_ | apply Sub.drop)))).swap)
end
end Go.Proofs
