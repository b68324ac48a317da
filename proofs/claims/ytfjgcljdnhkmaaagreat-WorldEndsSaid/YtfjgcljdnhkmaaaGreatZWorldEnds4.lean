/- A part of proofs about one program. -/
import Derived.Test.YtfjgcljdnhkmaaaGreatZWorldEnds2
import Derived.Test.YtfjgcljdnhkmaaaGreatZWorldEnds3
set_option linter.unusedVariables false
namespace Go.Proofs
open Go.AF
set_option maxRecDepth 100000
set_option maxHeartbeats 1000000
attribute [local irreducible] bF dG fa dP aF eY aE b7 aO bj bJ aM
def sN : jM (Option Addr × Nat × Nat) := ⟨1, fun t => [.slice t.1 t.2.1 t.2.2], fun _ => rfl, fun w v hv => by simp only [List.mem_singleton] at hv; subst hv; rfl⟩
structure oG (R : Mem) (pa : PA) (p : cy) : Prop where
 funcs : ∃ ts : List (Option Addr × Nat × Nat), RS sN R pa.f pa.fc ts ∧ ts.length = p.funcs.length ∧ ∀ (i : Nat) t f, ts[i]? = some t → p.funcs[i]? = some f → RS jf R t.1 t.2.2 f ∧ t.2.1 = f.length
 cases : RS gP R pa.k pa.kc p.cases
theorem oG.le {R R' : Mem} {pa : PA} {p : cy} (h : oG R pa p) (hle : R.le R') : oG R' pa p := by
 obtain ⟨⟨ts, h1, h2, h3⟩, h4⟩ := h
 exact ⟨⟨ts, h1.le hle, h2, fun i t f a b => ⟨(h3 i t f a b).1.le hle, (h3 i t f a b).2⟩⟩, h4.le hle⟩
def Wd.next (x : Wd) (g : Int) : Wd := x.bp g ((aa x g).bW (aa x g).top.next)
def Zm (n : Int) : List PanicEntry := [{ v := .iface 256 (.int .i64 n), recovered := false }]
def gJ (R : Mem) (pa : PA) (p : cy) (dr : Value) (fnum : Nat) (x : Wd) (g : Int) (i : bY) (r : Out Wd) (L L2 : List HP) : Prop :=
 ∀ (gg : List GA) (b bs c : Nat) (M : Mem) (K : Value → Mem → Prop) (Kp : List PanicEntry → Mem → Prop) (Q : HP), Hp R (bl (bI pa p gg dr) b x :: Q :: L) M → gg[g.toNat]? = some (some ⟨bs, 0, none⟩, c) →
  Out.Ok r (fun y => ∀ m9 M', Hp R (bl (bI pa p m9 dr) b y :: Q :: L2) M' → K (.tuple #[]) M') (fun n y => ∀ m9 M', Hp R (bl (bI pa p m9 dr) b y :: Q :: L2) M' → Kp (Zm n) M') (fun l y => ∀ m9 M', Hp R (bl (bI pa p m9 dr) b y :: Q :: L2) M' → Kp l M') →
  ae Tryz.prog fnum #[.pointer (some ⟨b, 0, none⟩), .int .i64 g, .pointer (some ⟨bs, ((aa x g).fs.length - 1) * 11, none⟩), .agg #[.int .i64 i.op, .int .i64 i.a, .int .i64 i.b, .int .i64 i.c]] M K Kp
theorem Out.Ok.mono {α : Type} {r : Out α} {k1 k1' : α → Prop} {k2 k2' : Int → Wd → Prop} {k3 : List PanicEntry → Wd → Prop} (h : r.Ok k1 k2 k3) (h1 : ∀ y, k1 y → k1' y) (h2 : ∀ n y, k2 n y → k2' n y) : r.Ok k1' k2' := by
 cases r with
 | on y => exact h1 y h
 | dg n y => exact h2 n y h
 | fR l y => trivial
section
variable {R : Mem} {L L' L2 : List HP} {M : Mem} {K : Value → Mem → Prop} {Kp : List PanicEntry → Mem → Prop} {pa : PA} {p : cy} {gg : List GA} {dr : Value} {b : Nat} {x : Wd} {g : Int} {i : bY}
theorem XR (hp : oG R pa p) (hk : MA p x g i) (hs : x.Sm) : gJ R pa p dr 165 x g i (x.send p g i) L L := fun gg b bs c M K Kp Q h fN k =>
 MB h hp.cases fN hk hs (k.mono (fun y hy M' h' => hy gg M' h') (fun n y hy M' h' => hy gg M' h'))
theorem XS (hk : yU x g i) (hs : x.Sm) : gJ R pa p dr 166 x g i (.on (x.recv g i)) L L := fun gg b bs c M K Kp Q h fN k =>
 MC h fN hk hs fun M' h' => k gg M' h'
theorem XT (hg : aW x g) (ha : aR i.a) (hs : x.Sm) : gJ R pa p dr 171 x g i (x.emit g i) L L := fun gg b bs c M K Kp Q h fN k =>
 MD h fN hg ha hs (k.mono (fun y hy M' h' => hy gg M' h') (fun n y hy M' h' => hy gg M' h'))
theorem UN (hg : aW x g) (hb : aR i.b) (hc : aR i.c) (hs : x.Sm) : gJ R pa p dr 163 x g i (x.spawn g i) L L := fun gg b bs c M K Kp Q h fN k =>
 Jd h fN hg hb hc hs (k.mono (fun y hy => hy) (fun n y hy M' h' => hy gg M' h'))
theorem XU (hp : oG R pa p) (hk : pI p x i) (hs : x.Sm) : gJ R pa p dr 167 x g i (x.shut p i) L L := fun gg b bs c M K Kp Q h fN k =>
 MF (f := .nilFunc) h hp.cases hk hs (k.mono (fun y hy M' h' => hy gg M' h') (fun n y hy M' h' => hy gg M' h'))
def wTab : AL := [(9, .func (.func 161) #[] #[]), (10, .func (.func 162) #[] #[]), (11, .func (.func 163) #[] #[]), (12, .func (.func 164) #[] #[]), (13, .func (.func 165) #[] #[]), (14, .func (.func 166) #[] #[]), (15, .func (.func 167) #[] #[]), (17, .func (.func 168) #[] #[]), (18, .func (.func 169) #[] #[]), (19, .func (.func 170) #[] #[]), (20, .func (.func 171) #[] #[]), (22, .func (.func 172) #[] #[])]
theorem Je (h : Hp R L M) (k : ∀ m M', Hp R (ob m (mR wTab) :: L) M' → K (.map (some m)) M') : ae Tryz.prog 124 #[] M K Kp := by
 refine BI ?_
 refine Y4 h ?_
 clear h
 intro m M h
 replace h : Hp R (ob m (mR []) :: L) M := h
 have hu : Tryz.prog.underlying 261 = some (.map 32 260) := by kernel_rfl
 have hk : Tryz.prog.underlying 32 = some (.int .i64) := by kernel_rfl
 iterate 12
  refine zC h hu hk ?_
  clear h
  intro M h
 exact k _ _ h
end
theorem Cg {α β : Type} : ∀ {l : List α} {m : List β} {i : Nat} {u : α} {v : β}, (l.zip m).set i (u, v) = (l.set i u).zip (m.set i v)
 | [], _, _, _, _ => by simp
 | a :: l, [], i, u, v => by simp
 | a :: l, w :: m, 0, u, v => rfl
 | a :: l, w :: m, i + 1, u, v => by
  have := Cg (l := l) (m := m) (i := i) (u := u) (v := v)
  simp [this]
theorem sx {x : Wd} {g : Int} (h0 : 0 ≤ g) (h1 : g < x.gs.length) : x.bp g (aa x g) = x := by
 obtain ⟨y, hy⟩ := aL (l := x.gs) (i := g.toNat) (by omega)
 have e : aa x g = y := by simp [aa, hy]
 rw [e]
 obtain ⟨hi, rfl⟩ := List.getElem?_eq_some_iff.1 hy
 simp [Wd.bp]
section
variable {R : Mem} {L L' L2 : List HP} {M : Mem} {K : Value → Mem → Prop} {Kp : List PanicEntry → Mem → Prop} {pa : PA} {p : cy} {gg : List GA} {dr : Value} {b : Nat} {x : Wd} {g : Int} {i : bY}
theorem XV (hg : aW x g) (ha : aR i.a) (hin : aR (aa x g).top.mu) : gJ R pa p dr 162 x g i (.on (x.back g i)) L L := by
 intro gg b bs c M K Kp Q h fN k
 refine uq ?_
 replace k : ∀ m9 M', Hp R (bl (bI pa p m9 dr) b (x.back g i) :: Q :: L) M' → K (.tuple #[]) M' := k
 have Gj := hg
 obtain ⟨h0, h1, h2, h3⟩ := Gj
 unfold Wd.back at k
 refine ai h ?_
 clear h
 intro kb M h
 have h' := iw h (b := b) h0 h1 fN
 clear h
 obtain ⟨a, gb, hl, gm, h⟩ := h'
 have hl' := hl
 obtain ⟨l1, l2, l3, l4⟩ := hl'
 repeat (first|(refine ai h ?_;clear h;intro kb M h)|(refine ak h ?_;clear h;intro M h)|refine St.to h ?_|(apply Exists.intro;(repeat apply Exists.intro);refine And.intro rfl ?_)|refine ay ?_|refine aq ?_|refine au ?_)
 refine vT h gm fun q hq => ?_
 repeat (first|(refine ai h ?_;clear h;intro kb M h)|(refine ak h ?_;clear h;intro M h)|refine St.to h ?_|(apply Exists.intro;(repeat apply Exists.intro);refine And.intro rfl ?_)|refine ay ?_|refine aq ?_|refine au ?_)
 refine ⟨ha.1, ha.2, xx h (bS h2) ha rfl ?_⟩
 refine Gi h h2 (by omega) (bS h2) hin ?_ ?_
 ·intro hlt
  rw [if_neg (by omega)] at k
  refine ⟨_, _, _, _, rfl, au ?_⟩
  repeat (first|(refine ai h ?_;clear h;intro kb M h)|(refine ak h ?_;clear h;intro M h)|refine St.to h ?_|(apply Exists.intro;(repeat apply Exists.intro);refine And.intro rfl ?_)|refine ay ?_|refine aq ?_|refine au ?_)
  refine vT h gm fun q2 Mx => ?_
  repeat (first|(refine ai h ?_;clear h;intro kb M h)|(refine ak h ?_;clear h;intro M h)|refine St.to h ?_|(apply Exists.intro;(repeat apply Exists.intro);refine And.intro rfl ?_)|refine ay ?_|refine aq ?_|refine au ?_)
  refine bh.2 ⟨fun e0 => ?_, fun e0 => ?_⟩
  ·rw [if_pos e0] at k
   repeat (first|(refine ai h ?_;clear h;intro kb M h)|(refine ak h ?_;clear h;intro M h)|refine St.to h ?_|(apply Exists.intro;(repeat apply Exists.intro);refine And.intro rfl ?_)|refine ay ?_|refine aq ?_|refine au ?_)
   replace h := dx h gb hl gm fN
   have dU := dV (y := { aa x g with st := 4 }) (g := g) hl
   replace h := bq (a := a) (p := p) (pa := pa) (dr := dr) (gg := gg) (x := { x.bp g { aa x g with st := 4 } with end_ := 1 }) dU h b
   exact k _ _ h.cG
  ·rw [if_neg e0] at k
   replace h := dx h gb hl gm fN
   have dU := dV (y := { aa x g with st := 4 }) (g := g) hl
   replace h := bq (a := a) (p := p) (pa := pa) (dr := dr) (gg := gg) (x := x.bp g { aa x g with st := 4 }) dU h b
   exact k _ _ h.cG
 ·intro hge b' c' M' fr hfr h'
  clear h
  have h := h'
  clear h'
  rw [if_pos hge] at k
  refine ⟨_, _, _, _, rfl, aq ?_⟩
  repeat (first|(refine ai h ?_;clear h;intro kb M h)|(refine ak h ?_;clear h;intro M h)|refine St.to h ?_|(apply Exists.intro;(repeat apply Exists.intro);refine And.intro rfl ?_)|refine ay ?_|refine aq ?_|refine au ?_)
  refine vT h gm fun q2 Mx => ?_
  repeat (first|(refine ai h ?_;clear h;intro kb M h)|(refine ak h ?_;clear h;intro M h)|refine St.to h ?_|(apply Exists.intro;(repeat apply Exists.intro);refine And.intro rfl ?_)|refine ay ?_|refine aq ?_|refine au ?_)
  have hlen : (aa x g).fs.length - 1 = (((aa x g).fs.take ((aa x g).fs.length - 1)).set ((aa x g).fs.length - 2) (fr.set (aa x g).top.mu (aJ x g i.a))).length := by simp
  have hfr2 : (aa x g).fs.getD ((aa x g).fs.length - 2) ⟨0, 0, [], 0⟩ = fr := by rw [List.getD_eq_getElem?_getD, hfr]; rfl
  have h5 := oF (A := some ⟨b', 0, none⟩) (fs := ((aa x g).fs.take ((aa x g).fs.length - 1)).set ((aa x g).fs.length - 2) (fr.set (aa x g).top.mu (aJ x g i.a))) h gb hlen
  have hi := (List.getElem?_eq_some_iff.1 gm).1
  have h6 := h5.gM gj gb gm (by rw [List.length_zip]; omega)
  rw [Cg] at h6
  have dU : fS (gg.set g.toNat (some ⟨b', 0, none⟩, c')) a (x.bp g ((aa x g).back (aJ x g i.a))) := ⟨by simpa [Wd.bp] using l1, by simpa [Wd.bp] using l2, l3, l4⟩
  have e : (aa x g).back (aJ x g i.a) = ⟨(aa x g).st, ((aa x g).fs.take ((aa x g).fs.length - 1)).set ((aa x g).fs.length - 2) (fr.set (aa x g).top.mu (aJ x g i.a)), (aa x g).wt⟩ := by
   unfold gG.back; rw [hfr2]
  rw [e] at dU k
  have h7 := bq (a := a) (p := p) (pa := pa) (dr := dr) (gg := gg.set g.toNat (some ⟨b', 0, none⟩, c')) (x := x.bp g ⟨(aa x g).st, ((aa x g).fs.take ((aa x g).fs.length - 1)).set ((aa x g).fs.length - 2) (fr.set (aa x g).top.mu (aJ x g i.a)), (aa x g).wt⟩) dU h6 b
  exact k _ _ (h7.sub bx)
end
def Out.fin : Out Wd → Wd
 | .on y => y
 | .dg n y => { y with end_ := 2, code := n }
 | .fR _ y => y
def MG (op : Int) : Out Wd → Bool
 | .on _ => op == 12 || op == 17
 | .dg _ _ => false
 | .fR _ _ => false
inductive Step (R : Mem) (pa : PA) (p : cy) (dr : Value) (x : Wd) (g : Int) (code : List bY) : Out Wd → Bool → List HP → List HP → Prop where
 | out {L : List HP} (h : (code.length : Int) ≤ (aa x g).top.pc) : Step R pa p dr x g code (.dg (-7) x) false L L
 | pure {L : List HP} (i : bY) (h : code[(aa x g).top.pc.toNat]? = some i) (h0 : 0 ≤ i.op) (h8 : i.op ≤ 8) (hk : i.cM) : Step R pa p dr x g code (.on (x.bp g ((aa x g).bW ((aa x g).top.next.pure i)))) false L L
 | Eg {L L2 : List HP} {r : Out Wd} (i : bY) (h : code[(aa x g).top.pc.toNat]? = some i) (mL : i.op = 16) (hs : gJ R pa p dr 122 x g i r L L2) : Step R pa p dr x g code r false L L2
 | rnd {L L2 : List HP} {r : Out Wd} (i : bY) (h : code[(aa x g).top.pc.toNat]? = some i) (VW : i.op = 21) (hs : gJ R pa p dr 123 x g i r L L2) : Step R pa p dr x g code r false L L2
 | dflt {L L2 : List HP} {r : Out Wd} (i : bY) (fn : Nat) (h : code[(aa x g).top.pc.toNat]? = some i) (h8 : 8 < i.op) (mL : i.op ≠ 16) (VW : i.op ≠ 21) (hf : Dt wTab i.op = some (.func (.func fn) #[] #[])) (hn : 1 < fn ∧ fn < 228)
   (hs : gJ R pa p dr fn (x.next g) g i r L L2) : Step R pa p dr x g code r (MG i.op r) L L2
section
variable {R : Mem} {L L' L2 : List HP} {M : Mem} {K : Value → Mem → Prop} {Kp : List PanicEntry → Mem → Prop} {pa : PA} {p : cy} {gg : List GA} {dr : Value} {b : Nat} {x : Wd} {g : Int} {i : bY}
theorem f_ldFn {c bs j : Nat} {l : List eJ} {f : eJ} {G : Int → Prop} (h : Hp R L M) [q : dF (some ⟨bs, 0, none⟩) L eJ fV 234 c l L'] (hi : l[j]? = some f) (g : G f.fn) : bF (M.ld ⟨bs, j * 11, none⟩) .i64 G := by
 refine aj (Src.at (h.src (A := some ⟨bs, 0, none⟩)) h (i := j) (j := 0) hi rfl ?_) g
 show _ = 0 + (j * 11 + 0); omega
theorem Gl {n : Int} {v : Value} {Q : HP} (h : Hp R (bl (bI pa p gg dr) b x :: Q :: L) M) (k : ∀ M', Hp R (bl (bI pa p gg dr) b { x with end_ := 2, code := n } :: L) M' → K v M') :
  dk Tryz.prog 119 (.pointer (some ⟨b, 0, none⟩)) K Kp v (.panicking (Zm n)) M := by
 refine Mr ?_
 have h' := cV h (b := b)
 clear h
 obtain ⟨a, hl, h⟩ := h'
 repeat (first|(refine ai h ?_;clear h;intro kb M h)|(refine ak h ?_;clear h;intro M h)|refine St.to h ?_|(apply Exists.intro;(repeat apply Exists.intro);refine And.intro rfl ?_)|refine ay ?_|refine aq ?_|refine au ?_)
 exact k _ (kQ (a := a) (x := { x with end_ := 2, code := n }) hl (h.sub bx))
theorem AE {k : Nat} {bw : Nat} (h : Hp R L M) [o : nv k L [.int .i64 i.op, .int .i64 i.a, .int .i64 i.b, .int .i64 i.c] 34 L'] (g : K (.bool (i.op == 12 || i.op == 17)) M) :
  bF (M.ld ⟨k, 0, none⟩) .i64 fun n => aM (n == 12) (dk Tryz.prog 119 (.pointer (some ⟨bw, 0, none⟩)) K Kp (.bool true) .returning M)
   (bF (M.ld ⟨k, 0, none⟩) .i64 fun n => dk Tryz.prog 119 (.pointer (some ⟨bw, 0, none⟩)) K Kp (.bool (n == 17)) .returning M) := by
 have hp := h.pick o.pick
 refine az hp ?_
 refine bh.2 ⟨fun e => ?_, fun e => ?_⟩
 ·rw [e] at g; exact IX g
 ·refine az hp ?_
  have : (i.op == 12) = false := by simpa using e
  rw [this, Bool.false_or] at g
  exact IX g
def UO (R : Mem) (pa : PA) (p : cy) (dr : Value) (b : Nat) (L2 : List HP) (K : Value → Mem → Prop) (Kp : List PanicEntry → Mem → Prop) (r : Out Wd) (rest : Bool) : Prop := match r with
 | .fR l y => ∀ m9 M', Hp R (bl (bI pa p m9 dr) b y :: L2) M' → dk Tryz.prog 119 (.pointer (some ⟨b, 0, none⟩)) K Kp (.bool false) (.panicking l) M'
 | .on y => ∀ m9 M', Hp R (bl (bI pa p m9 dr) b y :: L2) M' → K (.bool rest) M'
 | .dg n y => ∀ m9 M', Hp R (bl (bI pa p m9 dr) b { y with end_ := 2, code := n } :: L2) M' → K (.bool rest) M'
theorem Jf {code : List bY} {r : Out Wd} {rest : Bool} (h : Hp R L M) [o : yT b L pa p gg dr x L'] (hp : oG R pa p) (hg : aW x g) (hfn : 0 ≤ (aa x g).top.fn) (fZ : p.funcs[(aa x g).top.fn.toNat]? = some code)
  (tH : 0 ≤ (aa x g).top.pc ∧ (aa x g).top.pc < 1000000000) (hs : Step R pa p dr x g code r rest L' L2)
  (k : UO R pa p dr b L2 K Kp r rest) : ae Tryz.prog 88 #[.pointer (some ⟨b, 0, none⟩), .int .i64 g] M K Kp := by
 refine xq ?_
 have Gj := hg
 obtain ⟨h0, h1, h2, h3⟩ := Gj
 have h' := kS h (b := b) h0 h1
 clear h
 obtain ⟨a, gb, A, c, hl, gm, fN, h⟩ := h'
 have hl' := hl
 obtain ⟨l1, l2, l3, l4⟩ := hl'
 obtain ⟨bs, rfl⟩ := h.bU (A := A) h2 (by decide)
 have Gm : ∀ {M : Mem}, Hp R (pt gb (sK (aa x g) (some ⟨bs, 0, none⟩) c) 182 :: vR (some ⟨bs, 0, none⟩) c (aa x g).fs :: pt b (nE pa p dr a x) 164 :: zx gj a.gb (x.gs.zip gg) g.toNat :: u9 a x L') M → Hp R (bl (bI pa p gg dr) b x :: L') M := by
  intro M h
  replace h := dx h gb hl gm fN
  have dU := dV (y := aa x g) (g := g) hl
  replace h := bq (a := a) (p := p) (pa := pa) (dr := dr) (gg := gg) (x := x.bp g (aa x g)) dU h b
  rwa [sx h0 h1] at h
 repeat (first|(refine ai h ?_;clear h;intro kb M h)|(refine ak h ?_;clear h;intro M h)|refine St.to h ?_|(apply Exists.intro;(repeat apply Exists.intro);refine And.intro rfl ?_)|refine ay ?_|refine aq ?_|refine au ?_)
 refine vT h gm fun q hq => ?_
 repeat (first|(refine ai h ?_;clear h;intro kb M h)|(refine ak h ?_;clear h;intro M h)|refine St.to h ?_|(apply Exists.intro;(repeat apply Exists.intro);refine And.intro rfl ?_)|refine ay ?_|refine aq ?_|refine au ?_)
 refine oE h2 (by omega) ?_
 repeat (first|(refine ai h ?_;clear h;intro kb M h)|(refine ak h ?_;clear h;intro M h)|refine St.to h ?_|(apply Exists.intro;(repeat apply Exists.intro);refine And.intro rfl ?_)|refine ay ?_|refine aq ?_|refine au ?_)
 refine f_ldFn h (bS h2) ?_
 obtain ⟨ts, hts, htl, hrow⟩ := hp.funcs
 have hfl := (List.getElem?_eq_some_iff.1 fZ).1
 obtain ⟨t, ht⟩ := aL (l := ts) (i := (aa x g).top.fn.toNat) (by omega)
 obtain ⟨Ag, QU⟩ := hrow _ t code ht fZ
 obtain ⟨tA, tn, tc⟩ := t
 dsimp only at Ag QU
 subst QU
 refine ⟨hfn, by omega, ?_⟩
 obtain ⟨fb, fo, hfb⟩ := hts.some (by omega) (by decide)
 rw [hfb] at hts ⊢
 refine aT ?_
 refine br (Src.at (hts.src (L := _)) h (i := (aa x g).top.fn.toNat) (j := 0) ht rfl (by simp [sN])) ?_
 dsimp only
 refine aT ?_
 refine Cd h (bS h2) rfl ?_
 refine aH.2 ⟨fun hge => ?_, fun hlt => ?_⟩
 ·cases hs with
  | out _ =>
   have h5 : Hp R (bl (bI pa p gg dr) b x :: fact True :: L') M := (Hp.kJ.2 ⟨trivial, Gm h⟩).swap
   exact Gl h5 fun M' h' => k gg M' h'
  | pure i hi => have := (List.getElem?_eq_some_iff.1 hi).1; omega
  | Eg i hi => have := (List.getElem?_eq_some_iff.1 hi).1; omega
  | rnd i hi => have := (List.getElem?_eq_some_iff.1 hi).1; omega
  | dflt i fn hi => have := (List.getElem?_eq_some_iff.1 hi).1; omega
 refine aT ?_
 refine Cd h (bS h2) rfl ?_
 refine ⟨tH.1, by omega, ?_⟩
 obtain ⟨i, hi⟩ := aL (l := code) (i := (aa x g).top.pc.toNat) (by omega)
 obtain ⟨ib, io, rfl⟩ := Ag.some (by omega) (by decide)
 refine aT ?_
 refine aj (Src.at (Ag.src (L := _)) h (i := (aa x g).top.pc.toNat) (j := 0) hi rfl (by simp [jf])) ?_
 refine aj (Src.at (Ag.src (L := _)) h (i := (aa x g).top.pc.toNat) (j := 1) hi rfl (by show _ = io + (_ * 4 + 1); omega)) ?_
 refine aj (Src.at (Ag.src (L := _)) h (i := (aa x g).top.pc.toNat) (j := 2) hi rfl (by show _ = io + (_ * 4 + 2); omega)) ?_
 refine aj (Src.at (Ag.src (L := _)) h (i := (aa x g).top.pc.toNat) (j := 3) hi rfl (by show _ = io + (_ * 4 + 3); omega)) ?_
 have hpure : i.cM ∧ 0 ≤ i.op ∨ 8 < i.op := by
  cases hs with
  | out h => omega
  | pure j hj a1 a2 a3 => rw [hi] at hj; cases hj; exact .inl ⟨a3, a1⟩
  | Eg j hj a1 => rw [hi] at hj; cases hj; exact .inr (by omega)
  | rnd j hj a1 => rw [hi] at hj; cases hj; exact .inr (by omega)
  | dflt j fn hj a1 => rw [hi] at hj; cases hj; exact .inr a1
 have hok : i.cM ∧ 0 ≤ i.op := by
  rcases hpure with h | h
  ·exact h
  ·exact ⟨⟨fun h => by simp at h; omega, fun h => by omega, fun h => by simp at h; omega⟩, by omega⟩
 refine ai h ?_
 clear h; intro ki M h
 refine ak h ?_
 clear h; intro M h
 refine ak h ?_
 clear h; intro M h
 refine ak h ?_
 clear h; intro M h
 refine ak h ?_
 clear h; intro M h
 refine az h (az h (az h (az h ?_)))
 refine Mt h (bS h2) hok.1 hok.2 tH ?_ ?_
 ·intro h8 M' h'
  clear h
  have h := h'
  clear h'
  refine mU (aq ?_)
  cases hs with
  | out h => omega
  | Eg j hj a1 => rw [hi] at hj; cases hj; omega
  | rnd j hj a1 => rw [hi] at hj; cases hj; omega
  | dflt j fn hj a1 => rw [hi] at hj; cases hj; omega
  | pure j hj a1 a2 a3 =>
   rw [hi] at hj; cases hj
   replace h := dx h gb hl gm fN (by simp)
   have dU := dV (y := (aa x g).bW ((aa x g).top.next.pure i)) (g := g) hl
   have h5 := bq (a := a) (p := p) (pa := pa) (dr := dr) (gg := gg) (x := x.bp g ((aa x g).bW ((aa x g).top.next.pure i))) dU h b
   refine AE h5 ?_
   have e1 : (i.op == 12) = false := by simp; omega
   have e2 : (i.op == 17) = false := by simp; omega
   rw [e1, e2]
   exact k gg _ h5.cG
 ·intro h8 M' h'
  clear h
  have h := h'
  clear h'
  refine mU (au ?_)
  refine az h ?_
  refine bh.2 ⟨fun Gk => ?_, fun Gk => ?_⟩
  ·refine az h (az h (az h (az h ?_)))
   cases hs with
   | out h => omega
   | pure j hj a1 a2 a3 => rw [hi] at hj; cases hj; omega
   | dflt j fn hj a1 a2 => rw [hi] at hj; cases hj; omega
   | rnd j hj a1 => rw [hi] at hj; cases hj; omega
   | Eg j hj a1 hop =>
    rw [hi] at hj; cases hj
    replace h := dx h gb hl gm fN
    have dU := dV (y := aa x g) (g := g) hl
    replace h := bq (a := a) (p := p) (pa := pa) (dr := dr) (gg := gg) (x := x.bp g (aa x g)) dU h b
    rw [sx h0 h1] at h
    refine hop gg b bs c M' _ _ _ h fN ?_
    cases r with
    | on y =>
     intro m9 M2 h
     refine ⟨rfl, AE h ?_⟩
     have e1 : (i.op == 12) = false := by simp; omega
     have e2 : (i.op == 17) = false := by simp; omega
     rw [e1, e2]
     exact k m9 _ h.cG
    | dg n y =>
     intro m9 M2 h
     exact Gl h fun M3 h3 => k m9 M3 h3
    | fR l y =>
     intro m9 M2 h
     exact k m9 M2 h.cG
  ·refine az h ?_
   refine bh.2 ⟨fun UP => ?_, fun UP => ?_⟩
   ·refine az h (az h (az h (az h ?_)))
    cases hs with
    | out h => omega
    | pure j hj a1 a2 a3 => rw [hi] at hj; cases hj; omega
    | Eg j hj a1 => rw [hi] at hj; cases hj; omega
    | dflt j fn hj a1 a2 a3 => rw [hi] at hj; cases hj; omega
    | rnd j hj a1 hop =>
     rw [hi] at hj; cases hj
     replace h := dx h gb hl gm fN
     have dU := dV (y := aa x g) (g := g) hl
     replace h := bq (a := a) (p := p) (pa := pa) (dr := dr) (gg := gg) (x := x.bp g (aa x g)) dU h b
     rw [sx h0 h1] at h
     refine hop gg b bs c M' _ _ _ h fN ?_
     cases r with
     | on y =>
      intro m9 M2 h
      refine ⟨rfl, AE h ?_⟩
      have e1 : (i.op == 12) = false := by simp; omega
      have e2 : (i.op == 17) = false := by simp; omega
      rw [e1, e2]
      exact k m9 _ h.cG
     | dg n y =>
      intro m9 M2 h
      exact Gl h fun M3 h3 => k m9 M3 h3
     | fR l y =>
      intro m9 M2 h
      exact k m9 M2 h.cG
   cases hs with
   | out h => omega
   | pure j hj a1 a2 a3 => rw [hi] at hj; cases hj; omega
   | Eg j hj a1 => rw [hi] at hj; cases hj; omega
   | rnd j hj a1 => rw [hi] at hj; cases hj; omega
   | dflt j fn hj a1 a2 a3 hf hn hop =>
    rw [hi] at hj; cases hj
    refine aT ?_
    refine Cd h (bS h2) rfl ?_
    refine aT ?_
    rw [jg tH.1 (by omega)]
    refine Ce h (bS h2) rfl ?_
    clear h; intro M h
    refine az h (az h (az h (az h (az h ?_))))
    refine Je h ?_
    clear h; intro mp M h
    refine ⟨nY (cw h) (nY (cw h) (nY (cw h) (nY (cw h) Aw))), cw h, ?_⟩
    have hu : Tryz.prog.underlying 261 = some (.map 32 260) := by kernel_rfl
    have hkk : Tryz.prog.underlying 32 = some (.int .i64) := by kernel_rfl
    obtain ⟨ti, hti, htz⟩ : ∃ ti, Tryz.prog.info? 260 = some ti ∧ ti.zero = some .nilFunc := ⟨_, rfl, rfl⟩
    refine UD h hu hkk hti htz ?_
    rw [hf]
    refine ⟨nY (cw h) (nY (cw h) (nY (cw h) (nY (cw h) Aw))), cw h, ?_⟩
    refine I7 hn ?_
    replace h := dx h gb hl gm fN (by simp)
    have dU := dV (y := (aa x g).bW (aa x g).top.next) (g := g) hl
    have h5 := bq (a := a) (p := p) (pa := pa) (dr := dr) (gg := gg) (x := x.next g) dU h b
    have h6 : Hp R (bl (bI pa p gg dr) b (x.next g) :: pt ki [.int .i64 i.op, .int .i64 i.a, .int .i64 i.b, .int .i64 i.c] 34 :: L') M := h5.sub bx
    clear h h5
    have hfl : (aa (x.next g) g).fs.length = (aa x g).fs.length := by
     unfold Wd.next; rw [iu h0 h1]; simp [gG.bW]
    have hc := hop gg b bs c M (fun Pm oa => (Pm = (.tuple #[])) ∧ ((Mem.fT oa ⟨ki, 0, none⟩ 0 4) = some [(.int .i64 i.op), (.int .i64 i.a), (.int .i64 i.b), (.int .i64 i.c)]) ∧ ((Mem.ld oa ⟨ki, 0, none⟩) = (some (.int .i64 i.op))) ∧
     bF (oa.ld ⟨ki, 0, none⟩) .i64 fun n => aM (n == 12) (dk Tryz.prog 119 (.pointer (some ⟨b, 0, none⟩)) K Kp (.bool true) .returning oa)
      (bF (oa.ld ⟨ki, 0, none⟩) .i64 fun n => dk Tryz.prog 119 (.pointer (some ⟨b, 0, none⟩)) K Kp (.bool (n == 17)) .returning oa))
     (fun l M => dk Tryz.prog 119 (.pointer (some ⟨b, 0, none⟩)) K Kp (.bool false) (.panicking l) M) _ h6 fN ?_
    ·rw [hfl] at hc
     exact hc
    cases r with
    | on y =>
     intro m9 M2 h
     exact ⟨rfl, nY (cw h) (nY (cw h) (nY (cw h) (nY (cw h) Aw))), cw h, AE h (k m9 _ h.cG)⟩
    | dg n y =>
     intro m9 M2 h
     exact Gl h fun M3 h3 => k m9 M3 h3
    | fR l y =>
     intro m9 M2 h
     exact k m9 M2 h.cG
end
abbrev pJ (pa : PA) (p : cy) (dr : Value) (a : WA) (x : Wd) (n : Nat) : List Value :=
 [.slice pa.f p.funcs.length pa.fc, .slice pa.c p.dB.length pa.cc, .int .i64 p.aC, .slice pa.k p.cases.length pa.kc, .slice a.ag a.gb.length a.cg, .int .u64 x.clock,
  .slice a.ac a.cb.length a.cc, .slice a.al a.lb.length a.cl, .slice a.ah x.hl.length a.ch, .int .u64 x.di, .slice a.ao x.out.length a.co, .int .i64 x.end_, .int .i64 x.code, .slice a.ar n a.cr, dr]
abbrev vU (a : WA) (x : Wd) (L : List HP) : List HP :=
 zD a.ag a.cg a.gb :: zE a.ac a.cc a.cb :: cN bL a.cb x.av :: zF a.al a.cl a.lb :: cN fh a.lb x.aC :: eV a.ah a.ch x.hl :: rf a.ao a.co x.out :: L
def cK (pa : PA) (p : cy) : xJ Wd := ⟨fun b x => exs fun q : WA × List GA × Value × Nat =>
 sep (pt b (pJ pa p q.2.2.1 q.1 x q.2.2.2) 164 :: cN gj q.1.gb (x.gs.zip q.2.1) :: fact (fS q.2.1 q.1 x) :: vU q.1 x [])⟩
section
variable {R : Mem} {L L' L2 : List HP} {M : Mem} {K : Value → Mem → Prop} {Kp : List PanicEntry → Mem → Prop} {pa : PA} {p : cy} {gg : List GA} {dr : Value} {b : Nat} {x : Wd} {g : Int}
class AG (b : Nat) (L : List HP) (pa : outParam PA) (p : outParam cy) (x : outParam Wd) (L' : outParam (List HP)) : Prop where
 pick : eB L (bl (cK pa p) b x) L'
instance AG.here : AG b (bl (cK pa p) b x :: L) pa p x L := ⟨.here⟩
instance (priority := low) AG.there {Q : HP} [h : AG b L pa p x L'] : AG b (Q :: L) pa p x (Q :: L') := ⟨.there h.pick⟩
theorem dh (h : Hp R L M) [o : AG b L pa p x L'] : ∃ (a : WA) (gg : List GA) (dr : Value) (n : Nat), fS gg a x ∧ Hp R (pt b (pJ pa p dr a x n) 164 :: cN gj a.gb (x.gs.zip gg) :: vU a x L') M := by
 have := h.pick o.pick
 unfold bl at this
 simp only [cK, vU, Hp.oY, Hp.cW, List.cons_append, List.nil_append] at this
 obtain ⟨⟨a, gg, dr, n⟩, h⟩ := this
 have h2 := h.pick (P := fact (fS gg a x)) (.there (.there .here))
 exact ⟨a, gg, dr, n, (Hp.kJ.1 h2).1, (Hp.kJ.1 h2).2⟩
theorem jV {a : WA} {n : Nat} (hl : fS gg a x) (h : Hp R (pt b (pJ pa p dr a x n) 164 :: cN gj a.gb (x.gs.zip gg) :: vU a x L) M) : Hp R (bl (cK pa p) b x :: L) M := by
 refine Hp.RL ?_
 simp only [cK, vU, Hp.oY, Hp.cW, List.cons_append, List.nil_append]
 refine ⟨(a, gg, dr, n), ?_⟩
 have h2 : Hp R (fact (fS gg a x) :: pt b (pJ pa p dr a x n) 164 :: cN gj a.gb (x.gs.zip gg) :: vU a x L) M := Hp.kJ.2 ⟨hl, h⟩
 exact h2.yd (.there (.there .here))
def mB (x : Wd) (g : Int) (rest : Bool) : Bool := !rest && x.end_ == 0 && (aa x g).st == 1
def DryOk (l l' : List PanicEntry) : Prop := ∀ (b : Nat) (v : Value) (M : Mem) (K : Value → Mem → Prop) (Kp : List PanicEntry → Mem → Prop), Kp l' M → dk Tryz.prog 119 (.pointer (some ⟨b, 0, none⟩)) K Kp v (.panicking l) M
def pK (R : Mem) (pa : PA) (p : cy) (b : Nat) (g : Int) (L2 : List HP) (K : Value → Mem → Prop) (Kp : List PanicEntry → Mem → Prop) (r : Out Wd) (rest : Bool) : Prop := match r with
 | .fR l y => ∃ l', DryOk l l' ∧ ∀ M', Hp R (bl (cK pa p) b y :: L2) M' → Kp l' M'
 | .on y => ∀ R' A c M', R.le R' → RS bR R' A c y.ready → Hp R' (bl (cK pa p) b y :: L2) M' → K (.agg #[.bool (mB y g rest), .slice A y.ready.length c]) M'
 | .dg n y => ∀ R' A c M', R.le R' → RS bR R' A c y.ready → Hp R' (bl (cK pa p) b { y with end_ := 2, code := n } :: L2) M' → K (.agg #[.bool (mB { y with end_ := 2, code := n } g rest), .slice A y.ready.length c]) M'
theorem UO.of {r : Out Wd} {rest : Bool} (hd : ¬ ∃ l y, r = .fR l y) (k : ∀ m9 M', Hp R (bl (bI pa p m9 dr) b r.fin :: L2) M' → K (.bool rest) M') : UO R pa p dr b L2 K Kp r rest := by
 cases r with
 | on y => exact k
 | dg n y => exact k
 | fR l y => exact absurd ⟨l, y, rfl⟩ hd
theorem pK.get {r : Out Wd} {rest : Bool} (hd : ¬ ∃ l y, r = .fR l y) (k : pK R pa p b g L2 K Kp r rest) :
  ∀ R' A c M', R.le R' → RS bR R' A c r.fin.ready → Hp R' (bl (cK pa p) b r.fin :: L2) M' → K (.agg #[.bool (mB r.fin g rest), .slice A r.fin.ready.length c]) M' := by
 cases r with
 | on y => exact k
 | dg n y => exact k
 | fR l y => exact absurd ⟨l, y, rfl⟩ hd
theorem MH {code : List bY} {r : Out Wd} {rest : Bool} (h : Hp R L M) [o : AG b L pa p x L'] (hp : oG R pa p) (hg : aW x g) (he : x.end_ = 0) (hst : (aa x g).st = 1)
  (hfn : 0 ≤ (aa x g).top.fn) (fZ : p.funcs[(aa x g).top.fn.toNat]? = some code)
  (tH : 0 ≤ (aa x g).top.pc ∧ (aa x g).top.pc < 1000000000) (J6 : ∃ f c d, dr = .func f c d) (hs : ∀ Q, Step R pa p dr { x with ready := [] } g code r rest (Q :: L') (Q :: L2)) (hlen : g < r.fin.gs.length)
  (k : pK R pa p b g L2 K Kp r rest) :
  ae Tryz.prog 41 #[.pointer (some ⟨b, 0, none⟩), .int .i64 g, dr] M K Kp := by
 refine lB ?_
 have Gj := hg
 obtain ⟨h0, h1, h2, h3⟩ := Gj
 refine ai h ?_
 clear h
 intro kb M h
 have h' := dh h (b := b)
 clear h
 obtain ⟨a, gg, dr0, n0, hl, h⟩ := h'
 have hl' := hl
 obtain ⟨l1, l2, l3, l4⟩ := hl'
 refine aH.2 ⟨fun hn => by omega, fun _ => ?_⟩
 refine ax h ?_
 refine aH.2 ⟨fun hn => by omega, fun _ => ?_⟩
 refine az h ?_
 refine dJ.2 ⟨fun hn => absurd he hn, fun _ => ?_⟩
 refine ax h ?_
 refine ⟨h0, by omega, ?_⟩
 obtain ⟨gb, gm⟩ := aL (l := a.gb) (i := g.toNat) (by omega)
 refine vT h gm fun q hq => ?_
 obtain ⟨ga, XW⟩ := aL (l := gg) (i := g.toNat) (by omega)
 obtain ⟨y, hy⟩ := aL (l := x.gs) (i := g.toNat) (by omega)
 have ey : aa x g = y := by simp [aa, hy]
 rw [ey] at hst
 refine aT ?_
 have J7 : M.ld ⟨gb, 0, none⟩ = some (.int .i64 y.st) := by
  have h9 := mz (b := gb) (h.eG gj gm (m6 hy XW))
  exact cw h9
 rw [J7]
 refine ff ?_
 refine dJ.2 ⟨fun hn => absurd hst hn, fun _ => ?_⟩
 refine ak h ?_
 clear h J7; intro M h
 have hpc2 : ∀ X : Prop, X → DD dr X := by
  obtain ⟨f, c, d, rfl⟩ := J6
  intro X hX; exact hX
 refine hpc2 _ ?_
 refine ak h ?_
 clear h; intro M h
 have h4 := h.dz bR 3
 have h5 : Hp R (bl (bI pa p gg dr) b { x with ready := [] } :: pt kb [.bool false, .slice none 0 0] 120 :: L') M := kQ (a := { a with ar := none, cr := 0 }) (x := { x with ready := [] }) hl (h4.sub bx)
 clear h h4
 by_cases hdry : ∃ l y, r = .fR l y
 ·obtain ⟨l, y, rfl⟩ := hdry
  refine Jf (b := b) (x := { x with ready := [] }) h5 hp hg hfn fZ tH (hs _) ?_
  clear h5
  intro m9 M h
  obtain ⟨l', hdr2, k⟩ := k
  refine hdr2 _ _ _ _ _ (k _ ?_)
  have h' := cV h (b := b)
  clear h
  obtain ⟨a2, dU, h⟩ := h'
  exact jV (a := a2) (n := y.ready.length) (gg := m9) (dr := dr) dU (h.sub bx)
 refine Jf (b := b) (x := { x with ready := [] }) h5 hp hg hfn fZ tH (hs _) (.of hdry ?_)
 clear h5
 intro m9 M h
 replace k := pK.get hdry k
 generalize r.fin = z at h k hlen
 have h' := cV h (b := b)
 clear h
 obtain ⟨a2, dU, h⟩ := h'
 have hl2' := dU
 obtain ⟨m1, m2, m3, m4⟩ := hl2'
 have fin : ∀ t : Bool, t = mB z g rest → b7 M ⟨kb, 0, none⟩ (.bool t) fun Zf =>
    b7 Zf ⟨kb, (0 + 1), none⟩ (.slice a2.ar z.ready.length a2.cr) fun eM =>
    dG (Mem.ld eM ⟨kb, 0, none⟩) fun t60 =>
    aF (Mem.ld eM ⟨kb, (0 + 1), none⟩) fun WJ BC JZ =>
    K (.agg #[(.bool t60), (.slice WJ BC JZ)]) eM := by
  intro t ht
  refine ak h ?_
  clear h; intro M h
  refine ak h ?_
  clear h; intro M h
  refine me h (ax h ?_)
  obtain ⟨R', hle, bu, h6⟩ := h.bz a2.ar
  subst ht
  exact k R' _ _ _ hle bu (jV (a := a2) (n := z.ready.length) (gg := m9) (dr := dr) dU (h6.sub bx))
 refine mU ?_
 cases rest with
 | true =>
  refine au ?_
  refine ax h ?_
  exact fin false (by simp [mB])
 | false =>
  refine aq ?_
  refine az h ?_
  refine bh.2 ⟨fun e0 => ?_, fun e0 => ?_⟩
  ·refine ax h ?_
   refine ⟨h0, by omega, ?_⟩
   obtain ⟨gb2, hgb2⟩ := aL (l := a2.gb) (i := g.toNat) (by omega)
   refine vT h hgb2 fun q2 Mx => ?_
   obtain ⟨ga2, hga2⟩ := aL (l := m9) (i := g.toNat) (by omega)
   obtain ⟨y2, hy2⟩ := aL (l := z.gs) (i := g.toNat) (by omega)
   have ey2 : aa z g = y2 := by simp [aa, hy2]
   refine aT ?_
   have J7 : M.ld ⟨gb2, 0, none⟩ = some (.int .i64 y2.st) := by
    have h9 := mz (b := gb2) (h.eG gj hgb2 (m6 hy2 hga2))
    exact cw h9
   rw [J7]
   refine ff ?_
   refine ax h ?_
   exact fin (y2.st == 1) (by simp [mB, e0, ey2])
  ·refine ax h ?_
   have : (z.end_ == 0) = false := by simpa using e0
   exact fin false (by simp [mB, this])
end
section
variable {R : Mem} {L L' L2 : List HP} {M : Mem} {K : Value → Mem → Prop} {Kp : List PanicEntry → Mem → Prop} {pa : PA} {p : cy} {gg : List GA} {dr : Value} {b : Nat} {x : Wd} {g : Int}
theorem P4 (h : Hp R L M) [o : AG b L pa p x L'] (k : K (.int .i64 (x.gs.length : Int)) M) : ae Tryz.prog 64 #[.pointer (some ⟨b, 0, none⟩)] M K Kp := by
 refine vB ?_
 have h' := dh h (b := b)
 clear h
 obtain ⟨a, gg, dr, n, hl, h⟩ := h'
 refine ax h ?_
 rw [hl.1]
 exact k
theorem Eh (h : Hp R L M) [o : AG b L pa p x L'] (k : K (.tuple #[.int .i64 x.end_, .int .i64 x.code]) M) : ae Tryz.prog 60 #[.pointer (some ⟨b, 0, none⟩)] M K Kp := by
 refine vC ?_
 have h' := dh h (b := b)
 clear h
 obtain ⟨a, gg, dr, n, hl, h⟩ := h'
 refine az h (az h ?_)
 exact k
theorem xA (h : Hp R L M) [o : AG b L pa p x L'] (h0 : 0 ≤ g) (h1 : g < x.gs.length) (k : K (.int .i64 (aa x g).st) M) : ae Tryz.prog 65 #[.pointer (some ⟨b, 0, none⟩), .int .i64 g] M K Kp := by
 refine qu ?_
 have h' := dh h (b := b)
 clear h
 obtain ⟨a, gg, dr, n, hl, h⟩ := h'
 have hl' := hl
 obtain ⟨l1, l2, l3, l4⟩ := hl'
 refine aH.2 ⟨fun hn => by omega, fun _ => ?_⟩
 refine ax h ?_
 refine aH.2 ⟨fun hn => by omega, fun _ => ?_⟩
 refine ax h ?_
 refine ⟨h0, by omega, ?_⟩
 obtain ⟨gb, gm⟩ := aL (l := a.gb) (i := g.toNat) (by omega)
 refine vT h gm fun q hq => ?_
 obtain ⟨ga, XW⟩ := aL (l := gg) (i := g.toNat) (by omega)
 obtain ⟨y, hy⟩ := aL (l := x.gs) (i := g.toNat) (by omega)
 have ey : aa x g = y := by simp [aa, hy]
 rw [ey] at k
 refine aT ?_
 have J7 : M.ld ⟨gb, 0, none⟩ = some (.int .i64 y.st) := by
  have h9 := mz (b := gb) (h.eG gj gm (m6 hy XW))
  exact cw h9
 rw [J7]
 exact ff k
theorem Jg (h : Hp R L M) [o : AG b L pa p x L'] (hg : aW x g)
  (k : ∀ bs c M', Hp R (vR (some ⟨bs, 0, none⟩) c (aa x g).fs :: L) M' → K (.slice (some ⟨bs, 0, none⟩) (aa x g).fs.length c) M') : ae Tryz.prog 84 #[.pointer (some ⟨b, 0, none⟩), .int .i64 g] M K Kp := by
 refine rz ?_
 obtain ⟨h0, h1, h2, h3⟩ := hg
 have hC := h
 have h' := dh h (b := b)
 clear h
 obtain ⟨a, gg, dr, n, hl, h⟩ := h'
 have hl' := hl
 obtain ⟨l1, l2, l3, l4⟩ := hl'
 refine aH.2 ⟨fun hn => by omega, fun _ => ?_⟩
 refine ax h ?_
 refine aH.2 ⟨fun hn => by omega, fun _ => ?_⟩
 refine ax h ?_
 refine ⟨h0, by omega, ?_⟩
 obtain ⟨gb, gm⟩ := aL (l := a.gb) (i := g.toNat) (by omega)
 refine vT h gm fun q hq => ?_
 obtain ⟨⟨A, c⟩, XW⟩ := aL (l := gg) (i := g.toNat) (by omega)
 obtain ⟨y, hy⟩ := aL (l := x.gs) (i := g.toNat) (by omega)
 have ey : aa x g = y := by simp [aa, hy]
 rw [ey] at k h2 h3
 refine aT ?_
 have h9 := mz (b := gb) (h.eG gj gm (m6 hy XW))
 refine ax h9 ?_
 have hsrc : Sl M A (fV.cells y.fs) := (h9.src (A := A)) M h9
 clear h9 h
 have hs2 : Src R (fact (Sl M A (fV.cells y.fs)) :: L) A (fV.cells y.fs) → True := fun _ => trivial
 refine rD ?_
 have Ka := hC.dz fV 234
 refine Hp.Cc Ka (l := []) Ms hsrc rfl (by simp; omega) ?_
 clear hC Ka hsrc
 intro A' c' M h
 refine aU (aU ?_)
 obtain ⟨bs, rfl⟩ := h.bU (A := A') (by simpa using h2) (by decide)
 exact k _ _ _ h
theorem Ei (h : Hp R L M) [o : AG b L pa p x L'] (hs : x.out.length ≤ 1000000) (k : ∀ A c M', Hp R (rf A c x.out :: L) M' → K (.slice A x.out.length c) M') : ae Tryz.prog 22 #[.pointer (some ⟨b, 0, none⟩)] M K Kp := by
 refine vD ?_
 refine ai h ?_
 clear h; intro kb M h
 have hC := h
 have h' := dh h (b := b)
 clear h
 obtain ⟨a, gg, dr, n, hl, h⟩ := h'
 refine ax h ?_
 have hsrc : Sl M a.ao (bR.cells x.out) := (h.src (A := a.ao)) M h
 clear h
 have Ka : Hp R (cu bR 2 (some ⟨kb, 0, none⟩) ([] : List Int).length [] :: L) M := hC.gY rfl
 refine Hp.Cc Ka (l := []) lp hsrc rfl (by simp; omega) ?_
 clear hC Ka hsrc
 intro A' c' M h
 exact aU (k _ _ _ h)
end
def Wd.new (p : cy) : Wd := ⟨[⟨1, [eJ.begin 0 0], .zero⟩], 0, p.dB.map aQ.new, List.replicate p.aC.toNat ⟨-1, []⟩, [], 0, [], 0, 0, []⟩
theorem Zn : bE Tryz.prog 159 183 1 8 [.pointer none] := bE.mk' (zv := .pointer none) (by kernel_rfl) (by kernel_rfl) rfl (by omega)
theorem Zo : bE Tryz.prog 160 185 1 8 [.pointer none] := bE.mk' (zv := .pointer none) (by kernel_rfl) (by kernel_rfl) rfl (by omega)
section
variable {R : Mem} {L L' L2 : List HP} {M : Mem} {K : Value → Mem → Prop} {Kp : List PanicEntry → Mem → Prop} {pa : PA} {p : cy} {gg : List GA} {dr : Value} {b : Nat} {x : Wd} {g : Int}
theorem MI {i : Int} (h : Hp R L M) [o : AG b L pa p x L'] (hk : nF x i) (hs : (aX x.av i).Small 1000000)
  (k : ∀ A ca B cb D cd M', Hp R (bl (cK pa p) b x :: ql D cd (aX x.av i).cH :: ql B cb (aX x.av i).snd :: rf A ca (aX x.av i).buf :: L') M' →
   K (.agg #[.slice A (aX x.av i).buf.length ca, .slice B (aX x.av i).snd.length cb, .slice D (aX x.av i).cH.length cd, .bool (aX x.av i).closed]) M') :
  ae Tryz.prog 86 #[.pointer (some ⟨b, 0, none⟩), .int .i64 i] M K Kp := by
 refine uf ?_
 obtain ⟨k0, k1⟩ := hk
 refine ai h ?_
 clear h
 intro kb M h
 have h' := dh h (b := b)
 clear h
 obtain ⟨a, gg, dr, n, hl, h⟩ := h'
 have hl' := hl
 obtain ⟨l1, l2, l3, l4⟩ := hl'
 refine aH.2 ⟨fun hn => by omega, fun _ => ?_⟩
 refine ax h ?_
 refine aH.2 ⟨fun hn => by omega, fun _ => ?_⟩
 refine ax h ?_
 refine ⟨k0, by omega, ?_⟩
 obtain ⟨cb, hcb⟩ := aL (l := a.cb) (i := i.toNat) (by omega)
 refine vT h hcb fun q hq => ?_
 obtain ⟨y, hy⟩ := aL (l := x.av) (i := i.toNat) (by omega)
 have e : aX x.av i = y := by simp [aX, hy]
 rw [e] at k hs
 replace h := h.eG bL hcb hy
 refine HW h (hs.mono (by omega)) ?_
 clear h
 intro A ca B cb' D cd M h
 repeat (first|(refine ai h ?_;clear h;intro kb M h)|(refine ak h ?_;clear h;intro M h)|refine St.to h ?_|(apply Exists.intro;(repeat apply Exists.intro);refine And.intro rfl ?_)|refine ay ?_|refine aq ?_|refine au ?_)
 replace h := h.od bL cb hcb hy
 exact k _ _ _ _ _ _ _ (jV (a := a) (gg := gg) (dr := dr) (n := n) hl (h.sub bx))
theorem UQ {j : Nat} {q A' : Nat} {c' : Nat} {v : Int} {a : WA} {n k : Nat} {Ac : Option Addr} {Q : List HP} (hl : fS gg a x)
  (h : Hp R (pt b (pJ pa p dr { a with ac := Ac, cc := c', cb := a.cb ++ [k] } x n) 164 :: zE Ac c' (a.cb ++ [k]) :: bl bL k (aQ.new v) :: cN bL a.cb x.av :: cN gj a.gb (x.gs.zip gg) :: zD a.ag a.cg a.gb :: zF a.al a.cl a.lb :: cN fh a.lb x.aC :: eV a.ah a.ch x.hl :: rf a.ao a.co x.out :: Q) M) :
  Hp R (bl (cK pa p) b { x with av := x.av ++ [aQ.new v] } :: Q) M := by
 obtain ⟨l1, l2, l3, l4⟩ := hl
 have h2 := h.tx bL k l3
 exact jV (a := { a with ac := Ac, cc := c', cb := a.cb ++ [k] }) (gg := gg) (dr := dr) (n := n) (x := { x with av := x.av ++ [aQ.new v] }) ⟨l1, l2, by simp [l3], l4⟩ (h2.sub bx)
theorem UR {c' : Nat} {a : WA} {n k : Nat} {Ac : Option Addr} {Q : List HP} (hl : fS gg a x)
  (h : Hp R (pt b (pJ pa p dr { a with al := Ac, cl := c', lb := a.lb ++ [k] } x n) 164 :: zF Ac c' (a.lb ++ [k]) :: bl fh k ⟨-1, []⟩ :: cN fh a.lb x.aC :: cN gj a.gb (x.gs.zip gg) :: zD a.ag a.cg a.gb :: zE a.ac a.cc a.cb :: cN bL a.cb x.av :: eV a.ah a.ch x.hl :: rf a.ao a.co x.out :: Q) M) :
  Hp R (bl (cK pa p) b { x with aC := x.aC ++ [⟨-1, []⟩] } :: Q) M := by
 obtain ⟨l1, l2, l3, l4⟩ := hl
 have h2 := h.tx fh k l4
 exact jV (a := { a with al := Ac, cl := c', lb := a.lb ++ [k] }) (gg := gg) (dr := dr) (n := n) (x := { x with aC := x.aC ++ [⟨-1, []⟩] }) ⟨l1, l2, l3, by simp [l4]⟩ (h2.sub bx)
theorem Ej (h : Hp R L M) (Ai : RS bR R pa.c pa.cc p.dB) (hc : p.dB.length ≤ 1000000) (hk : 0 ≤ p.aC ∧ p.aC ≤ 1000000)
  (k : ∀ b M', Hp R (bl (cK pa p) b (Wd.new p) :: L) M' → K (.pointer (some ⟨b, 0, none⟩)) M') :
  ae Tryz.prog 36 #[.agg #[.slice pa.f p.funcs.length pa.fc, .slice pa.c p.dB.length pa.cc, .int .i64 p.aC, .slice pa.k p.cases.length pa.kc]] M K Kp := by
 refine Fx ?_
 repeat (first|(refine ai h ?_;clear h;intro kb M h)|(refine ak h ?_;clear h;intro M h)|refine St.to h ?_|(apply Exists.intro;(repeat apply Exists.intro);refine And.intro rfl ?_)|refine ay ?_|refine aq ?_|refine au ?_)
 refine sJ h ?_
 clear h
 intro bs M h
 repeat (first|(refine ai h ?_;clear h;intro kb M h)|(refine ak h ?_;clear h;intro M h)|refine St.to h ?_|(apply Exists.intro;(repeat apply Exists.intro);refine And.intro rfl ?_)|refine ay ?_|refine aq ?_|refine au ?_)
 rename_i kp _ _ kr _ kw _
 replace h := oF h kr
 replace h := (h.By gj).tx gj kr rfl
 replace h := (h.pt kw).gY (E := nx) (l := [kr]) rfl
 replace h := (h.dz nx 183).By bL
 replace h := (h.dz nx 185).By fh
 replace h := (h.dz g6 205).dz bR 2
 have base : Hp R (bl (cK pa p) kb { Wd.new p with av := (p.dB.take 0).map aQ.new, aC := [] } :: pt kp [.slice pa.f p.funcs.length pa.fc, .slice pa.c p.dB.length pa.cc, .int .i64 p.aC, .slice pa.k p.cases.length pa.kc] 41 :: L) _ :=
  jV (a := ⟨some ⟨kw, 0, none⟩, 1, [kr], none, 0, [], none, 0, [], none, 0, none, 0, none, 0⟩) (gg := [(some ⟨bs, 0, none⟩, 1)]) (dr := .nilFunc) (n := 0) (x := { Wd.new p with av := [], aC := [] }) ⟨rfl, rfl, rfl, rfl⟩ (h.sub bx)
 clear h
 refine ⟨fun d vs M => ∃ j : Nat, vs = [.int .i64 (j : Int)] ∧ d = p.dB.length - j ∧ j ≤ p.dB.length ∧ Hp R (bl (cK pa p) kb { Wd.new p with av := (p.dB.take j).map aQ.new, aC := [] } :: pt kp [.slice pa.f p.funcs.length pa.fc, .slice pa.c p.dB.length pa.cc, .int .i64 p.aC, .slice pa.k p.cases.length pa.kc] 41 :: L) M,
  ⟨_, 0, rfl, rfl, by omega, base⟩, ?_⟩
 clear base
 rintro d _ nn M ⟨j, he, hd, hj, h⟩
 simp only [List.cons.injEq, Value.int.injEq, and_true, true_and] at he
 subst he
 refine aH.2 ⟨fun hlt => ?_, fun hge => ?_⟩
 ·obtain ⟨v, hv⟩ := aL (l := p.dB) (i := j) (by omega)
  have hsn : (p.dB.take (j + 1)).map aQ.new = (p.dB.take j).map aQ.new ++ [aQ.new v] := by rw [dw hv, List.map_append]; rfl
  have KF : ((p.dB.take j).map aQ.new).length ≤ 1000000 := by simp; omega
  rw [aS (by omega)]
  refine ⟨by omega, hlt, ?_⟩
  obtain ⟨cb, co, hcb⟩ := Ai.some (by omega) (by decide)
  have hch2 := Ai
  rw [hcb] at hch2 ⊢
  refine aT ?_
  simp only [Int.toNat_natCast]
  refine aj (Src.at (hch2.src (L := _)) h (i := j) (j := 0) hv rfl (by simp [bR])) ?_
  refine ⟨fun _ M => Hp R (bl (cK pa p) kb { Wd.new p with av := (p.dB.take j).map aQ.new ++ [aQ.new v], aC := [] } :: pt kp [.slice pa.f p.funcs.length pa.fc, .slice pa.c p.dB.length pa.cc, .int .i64 p.aC, .slice pa.k p.cases.length pa.kc] 41 :: L) M, ⟨?_, ?_, trivial⟩, ?_⟩
  ·have h' := dh h (b := kb)
   clear h
   obtain ⟨a, gg, dr, n, hl, h⟩ := h'
   have hl3 : a.cb.length = ((p.dB.take j).map aQ.new).length := hl.2.2.1
   refine ax h ?_
   refine D5 h ?_
   clear h
   intro kc M h
   repeat (first|(refine ai h ?_;clear h;intro kb M h)|(refine ak h ?_;clear h;intro M h)|refine St.to h ?_|(apply Exists.intro;(repeat apply Exists.intro);refine And.intro rfl ?_)|refine ay ?_|refine aq ?_|refine au ?_)
   refine h.aZ Zn [kc] rfl rfl (by simp only [List.length_singleton]; omega) ?_
   clear h
   intro A' c' M h
   repeat (first|(refine ai h ?_;clear h;intro kb M h)|(refine ak h ?_;clear h;intro M h)|refine St.to h ?_|(apply Exists.intro;(repeat apply Exists.intro);refine And.intro rfl ?_)|refine ay ?_|refine aq ?_|refine au ?_)
   exact UQ (j := j) (q := j) (A' := j) (a := a) (x := { Wd.new p with av := (p.dB.take j).map aQ.new, aC := [] }) hl (h.sub bx)
  ·have h' := dh h (b := kb)
   clear h
   obtain ⟨a, gg, dr, n, hl, h⟩ := h'
   have hl3 : a.cb.length = ((p.dB.take j).map aQ.new).length := hl.2.2.1
   refine D5 h ?_
   clear h
   intro kc M h
   repeat (first|(refine ai h ?_;clear h;intro kb M h)|(refine ak h ?_;clear h;intro M h)|refine St.to h ?_|(apply Exists.intro;(repeat apply Exists.intro);refine And.intro rfl ?_)|refine ay ?_|refine aq ?_|refine au ?_)
   refine h.aZ Zn [kc] rfl rfl (by simp only [List.length_singleton]; omega) ?_
   clear h
   intro A' c' M h
   repeat (first|(refine ai h ?_;clear h;intro kb M h)|(refine ak h ?_;clear h;intro M h)|refine St.to h ?_|(apply Exists.intro;(repeat apply Exists.intro);refine And.intro rfl ?_)|refine ay ?_|refine aq ?_|refine au ?_)
   exact UQ (j := j) (q := j) (A' := j) (a := a) (x := { Wd.new p with av := (p.dB.take j).map aQ.new, aC := [] }) hl (h.sub bx)
  ·clear h
   intro _ M h
   refine ⟨p.dB.length - (j + 1), by omega, j + 1, rfl, rfl, by omega, ?_⟩
   rw [hsn, ← hcb]; exact h
 ·obtain rfl : j = p.dB.length := by omega
  rw [List.take_length] at h
  refine az h ?_
  obtain ⟨nl, hnl⟩ := Int.eq_ofNat_of_zero_le hk.1
  refine ⟨fun d vs M => ∃ j : Nat, vs = [.int .i64 (j : Int)] ∧ d = nl - j ∧ j ≤ nl ∧ Hp R (bl (cK pa p) kb { Wd.new p with aC := List.replicate j ⟨-1, []⟩ } :: pt kp [.slice pa.f p.funcs.length pa.fc, .slice pa.c p.dB.length pa.cc, .int .i64 p.aC, .slice pa.k p.cases.length pa.kc] 41 :: L) M,
   ⟨_, 0, rfl, rfl, by omega, h⟩, ?_⟩
  clear h
  rintro d _ nn M ⟨j, he, hd, hj, h⟩
  simp only [List.cons.injEq, Value.int.injEq, and_true, true_and] at he
  subst he
  refine aH.2 ⟨fun hlt => ?_, fun hge => ?_⟩
  ·have hsn : List.replicate (j + 1) (⟨-1, []⟩ : Lk) = List.replicate j ⟨-1, []⟩ ++ [⟨-1, []⟩] := List.replicate_succ'
   rw [aS (by omega)]
   refine ⟨fun _ M => Hp R (bl (cK pa p) kb { Wd.new p with aC := List.replicate j ⟨-1, []⟩ ++ [⟨-1, []⟩] } :: pt kp [.slice pa.f p.funcs.length pa.fc, .slice pa.c p.dB.length pa.cc, .int .i64 p.aC, .slice pa.k p.cases.length pa.kc] 41 :: L) M, ⟨?_, ?_, trivial⟩, ?_⟩
   ·have h' := dh h (b := kb)
    clear h
    obtain ⟨a, gg, dr, n, hl, h⟩ := h'
    have hl3 : a.lb.length = (List.replicate j (⟨-1, []⟩ : Lk)).length := hl.2.2.2
    rw [List.length_replicate] at hl3
    refine ax h ?_
    refine Eb h ?_
    clear h
    intro kc M h
    repeat (first|(refine ai h ?_;clear h;intro kb M h)|(refine ak h ?_;clear h;intro M h)|refine St.to h ?_|(apply Exists.intro;(repeat apply Exists.intro);refine And.intro rfl ?_)|refine ay ?_|refine aq ?_|refine au ?_)
    refine h.aZ Zo [kc] rfl rfl (by simp only [List.length_singleton]; omega) ?_
    clear h
    intro A' c' M h
    repeat (first|(refine ai h ?_;clear h;intro kb M h)|(refine ak h ?_;clear h;intro M h)|refine St.to h ?_|(apply Exists.intro;(repeat apply Exists.intro);refine And.intro rfl ?_)|refine ay ?_|refine aq ?_|refine au ?_)
    exact UR (a := a) (x := { Wd.new p with aC := List.replicate j ⟨-1, []⟩ }) hl (h.sub bx)
   ·have h' := dh h (b := kb)
    clear h
    obtain ⟨a, gg, dr, n, hl, h⟩ := h'
    have hl3 : a.lb.length = (List.replicate j (⟨-1, []⟩ : Lk)).length := hl.2.2.2
    rw [List.length_replicate] at hl3
    refine Eb h ?_
    clear h
    intro kc M h
    repeat (first|(refine ai h ?_;clear h;intro kb M h)|(refine ak h ?_;clear h;intro M h)|refine St.to h ?_|(apply Exists.intro;(repeat apply Exists.intro);refine And.intro rfl ?_)|refine ay ?_|refine aq ?_|refine au ?_)
    refine h.aZ Zo [kc] rfl rfl (by simp only [List.length_singleton]; omega) ?_
    clear h
    intro A' c' M h
    repeat (first|(refine ai h ?_;clear h;intro kb M h)|(refine ak h ?_;clear h;intro M h)|refine St.to h ?_|(apply Exists.intro;(repeat apply Exists.intro);refine And.intro rfl ?_)|refine ay ?_|refine aq ?_|refine au ?_)
    exact UR (a := a) (x := { Wd.new p with aC := List.replicate j ⟨-1, []⟩ }) hl (h.sub bx)
   ·clear h
    intro _ M h
    refine ⟨nl - (j + 1), by omega, j + 1, rfl, rfl, by omega, ?_⟩
    rw [hsn]; exact h
  ·obtain rfl : j = nl := by omega
   have e : Wd.new p = { Wd.new p with aC := List.replicate j ⟨-1, []⟩ } := by unfold Wd.new; rw [hnl]; rfl
   rw [← e] at h
   exact k _ _ h.cG
end
def aB (p : cy) (i : bY) : List m5 := (p.cases.drop i.a.toNat).take i.b.toNat
def sO (f : eJ) : List Int := [f.r.getD 0 0, f.r.getD 1 0, f.r.getD 2 0, f.r.getD 3 0, f.r.getD 4 0, f.r.getD 5 0, f.r.getD 6 0, f.r.getD 7 0]
inductive iz where
 | num (d : Int)
 | fR (l : List PanicEntry)
def iT (R : Mem) (dr : Value) (kind n : Int) (d : iz) (L L2 : List HP) : Prop := ∀ (Q : HP) (M : Mem) (K : Value → Mem → Prop) (Kp : List PanicEntry → Mem → Prop), Hp R (Q :: L) M →
 (match d with
  | .num v => ∀ M', Hp R (Q :: L2) M' → K (.int .i64 v) M'
  | .fR l => ∀ M', Hp R (Q :: L2) M' → Kp l M') → pU Cx dr [.int .i64 kind, .int .i64 n] M K Kp
def Wd.kT (p : cy) (x : Wd) (g : Int) (i : bY) (k : Int) : Out Wd :=
 let c := (aB p i).getD k.toNat ⟨0, 0, 0⟩
 let x1 := x.next g
 if c.way = 1 then match x1.put p c.ch (aJ x1 g c.bH) with
  | .dg n y => .dg n y
  | .fR l y => .fR l y
  | .on (y, _) => .on (y.aV g i.c k)
 else .on (((x1.get c.ch).1.aV g c.bH (x1.get c.ch).2.1).aV g i.c k)
def Wd.kx (p : cy) (x : Wd) (g : Int) (i : bY) : Wd :=
 let x1 := x.next g
 match els (aB p i) with
  | some k => x1.aV g i.c (k : Int)
  | none => Wd.block { x1 with av := dm g (sO (aa x1 g).top) (aB p i) x1.av (aB p i).length } g i
def Wd.choose (p : cy) (x : Wd) (g : Int) (i : bY) (d : iz) : Out Wd :=
 if enabled (aB p i) x.av = [] then .on (x.kx p g i)
 else match d with
  | .num v => x.kT p g i ((enabled (aB p i) x.av).getD v.toNat 0)
  | .fR l => .fR l x
section
variable {R : Mem} {L L' L2 : List HP} {M : Mem} {K : Value → Mem → Prop} {Kp : List PanicEntry → Mem → Prop} {pa : PA} {p : cy} {gg : List GA} {dr : Value} {b : Nat} {x : Wd} {g : Int} {i : bY}
def ng (p : cy) (i : bY) : Prop := 0 ≤ i.a ∧ 0 ≤ i.b ∧ i.a + i.b ≤ p.cases.length ∧ p.cases.length ≤ 1000
instance (p : cy) (i : bY) : Decidable (ng p i) := by unfold ng; infer_instance
theorem Jh (h : Hp R L M) [o : yT b L pa p gg dr x L'] (hp : oG R pa p) (hk : ng p i)
  (k : ∀ A c M', RS gP R A c (aB p i) → Hp R (bl (bI pa p gg dr) b x :: L') M' → K (.slice A (aB p i).length c) M') :
  ae Tryz.prog 154 #[.pointer (some ⟨b, 0, none⟩), .agg #[.int .i64 i.op, .int .i64 i.a, .int .i64 i.b, .int .i64 i.c]] M K Kp := by
 refine rE ?_
 obtain ⟨a0, b0, hab, hl⟩ := hk
 have hcap := hp.cases.2
 refine ai h ?_
 clear h; intro kb M h
 have hC := h.drop.pick o.pick
 have h' := cV h (b := b)
 clear h
 obtain ⟨a, dU, h⟩ := h'
 refine ax h (az h (az h (az h ?_)))
 rw [dD (by omega) (by omega)]
 refine ⟨by omega, by omega, by omega, by omega, by omega, by omega, ?_⟩
 have e : (aB p i).length = (i.a + i.b).toNat - i.a.toNat := by
  unfold aB
  rw [List.length_take, List.length_drop]; omega
 rw [← e]
 simp only [Int.toNat_natCast]
 exact k _ _ _ ((hp.cases.drop i.a.toNat (by omega)).take i.b.toNat) hC
theorem US {bs j : Nat} {l : List eJ} {f : eJ} (hs : Src R L (some ⟨bs, 0, none⟩) (fV.cells l)) (hi : l[j]? = some f) : Src R L (iZ (some ⟨bs, j * 11 + 2, none⟩) 0 8 1) (bR.cells (sO f)) := by
 intro M h
 have e : iZ (some ⟨bs, j * 11 + 2, none⟩) 0 8 1 = some ⟨bs, j * 11 + 2, none⟩ := by
  unfold iZ; rw [if_neg (by omega)]; rfl
 rw [e]
 intro q hq
 have hq8 : q < 8 := by simpa [bR, jM.cells, sO] using hq
 have e2 : j * 11 + 2 + q = 0 + (j * fV.z + (2 + q)) := by show _ = 0 + (j * 11 + (2 + q)); omega
 obtain rfl | rfl | rfl | rfl | rfl | rfl | rfl | rfl : q = 0 ∨ q = 1 ∨ q = 2 ∨ q = 3 ∨ q = 4 ∨ q = 5 ∨ q = 6 ∨ q = 7 := by omega
 all_goals exact Src.at hs h (i := j) hi rfl e2
theorem MJ {bs c oo : Nat} {v : Int} {G : Mem → Prop} (h : Hp R L M) [o : yT b L pa p gg dr x L'] (hg : aW x g) (fN : gg[g.toNat]? = some (some ⟨bs, 0, none⟩, c)) (e : oo = ((aa x g).fs.length - 1) * 11 + 1) (hv : v = (aa x g).top.pc + 1)
  (k : ∀ M', Hp R (bl (bI pa p gg dr) b (x.next g) :: L') M' → G M') : b7 M ⟨bs, oo, none⟩ (.int .i64 v) G := by
 subst hv
 obtain ⟨h0, h1, h2, h3⟩ := hg
 obtain ⟨a, gb, hl, gm, h4⟩ := iw h (b := b) h0 h1 fN
 refine Ce h4 (bS h2) e fun M' h5 => ?_
 replace h5 := dx h5 gb hl gm fN (by simp)
 exact k M' (bq (a := a) (p := p) (pa := pa) (dr := dr) (gg := gg) (x := x.next g) (dV hl) h5 b)
theorem MK {bs c oo : Nat} {G : Int → Prop} (h : Hp R L M) [o : yT b L pa p gg dr x L'] (hg : aW x g) (fN : gg[g.toNat]? = some (some ⟨bs, 0, none⟩, c)) (e : oo = ((aa x g).fs.length - 1) * 11 + 1)
  (k : G (aa x g).top.pc) : bF (M.ld ⟨bs, oo, none⟩) .i64 G := by
 obtain ⟨h0, h1, h2, h3⟩ := hg
 obtain ⟨a, gb, hl, gm, h4⟩ := iw h (b := b) h0 h1 fN
 exact Cd h4 (bS h2) e k
theorem Ch (hg : aW x g) : aa (x.next g) g = (aa x g).bW (aa x g).top.next := iu hg.1 hg.2.1
theorem vV (hg : aW x g) : aW (x.next g) g := by
 have e := Ch hg
 obtain ⟨h0, h1, h2, h3⟩ := hg
 refine ⟨h0, by simpa [Wd.next, Wd.bp] using h1, ?_, ?_⟩ <;> rw [e] <;> simpa [gG.bW]
theorem Gn (hg : aW x g) : (aa (x.next g) g).fs.length = (aa x g).fs.length := by rw [Ch hg]; simp [gG.bW]
theorem P5 {q v : Int} (hg : aW x g) : (aa (x.aV g q v) g).fs.length = (aa x g).fs.length := by rw [jU hg]; simp [gG.bW]
theorem XX (hs : x.Sm) : (x.next g).Sm := AD hs
def Ji (p : cy) (x : Wd) (g : Int) (i : bY) (d : iz) : Prop := aW x g ∧ ng p i ∧ aR i.c ∧ x.Sm ∧ (aa x g).top.pc < 1000000000 ∧ 0 ≤ (aa x g).top.pc ∧ (∀ c ∈ aB p i, c.Ok x.av.length) ∧
 match enabled (aB p i) x.av, d with
 | [], _ => True
 | _, .fR _ => True
 | can, .num v => 0 ≤ v ∧ v < can.length ∧
  let k := can.getD v.toNat 0
  let c := (aB p i).getD k.toNat ⟨0, 0, 0⟩
  let x1 := x.next g
  0 ≤ k ∧ k < (aB p i).length ∧ aR c.bH ∧
  if c.way = 1 then mA p x1 c.ch (aJ x1 g c.bH) ∧ (match x1.put p c.ch (aJ x1 g c.bH) with
   | .on (y, _) => aW y g ∧ (aa y g).fs.length = (aa x g).fs.length
   | _ => True)
  else pZ x1 c.ch ∧ aW (x1.get c.ch).1 g ∧ (aa (x1.get c.ch).1 g).fs.length = (aa x g).fs.length
theorem P6 {d : iz} (hp : oG R pa p) (hk : Ji p x g i d) (hd : if enabled (aB p i) x.av = [] then L2 = L else iT R dr 3 ((enabled (aB p i) x.av).length : Int) d L L2) :
  gJ R pa p dr 122 x g i (x.choose p g i d) L L2 := by
 intro gg b bs c M K Kp Q h fN k
 obtain ⟨hg, hcs, XY, hs, tH, XZ, hok, hk⟩ := hk
 have Gj := hg
 obtain ⟨h0, h1, h2, h3⟩ := Gj
 have hs' := hs
 obtain ⟨s1, s2, s3, s4, s5, s6, s7, s8⟩ := hs'
 have Gm : (aB p i).length ≤ 1000 := by
  obtain ⟨_, _, _, hl⟩ := hcs
  unfold aB
  rw [List.length_take, List.length_drop]; omega
 refine qv ?_
 refine ai h ?_
 clear h; intro k1 M h
 refine az h (az h (az h (az h ?_)))
 refine Jh (b := b) h hp hcs ?_
 clear h; intro A ca M hA h
 refine aU ?_
 unfold Wd.choose at k
 have hen : ∀ {X : HP} {M : Mem} {L3 : List HP}, Hp R (bl (bI pa p gg dr) b x :: L3) M → ∀ (K1 : Value → Mem → Prop), (∀ A' c' M', Hp R (vS A' c' (enabled (aB p i) x.av) :: bl (bI pa p gg dr) b x :: L3) M' → K1 (.slice A' (enabled (aB p i) x.av).length c') M') →
   aF (M.ld ⟨b, 0 + 6, none⟩) fun mX eA fz => ae Tryz.prog 155 #[.slice A (aB p i).length ca, .slice mX eA fz] M K1 Kp := by
  intro X M L3 h K1 k1
  have h' := cV h (b := b)
  clear h
  obtain ⟨a, hl, h⟩ := h'
  have hl' := hl
  obtain ⟨l1, l2, l3, l4⟩ := hl'
  refine ax h ?_
  refine C6 h (hA.src) (Src.row (A := a.ac)) rfl rfl (by omega) l3 hok ?_
  clear h; intro A' c' M h
  exact k1 _ _ _ ((bq (a := a) (p := p) (pa := pa) (dr := dr) (gg := gg) (x := x) hl h b).swap)
 refine hen (X := Q) h _ ?_
 clear h hen; intro A2 c2 M h
 refine aU ?_
 by_cases hcan : enabled (aB p i) x.av = []
 ·rw [if_pos hcan] at k hd
  subst hd
  rw [hcan] at h ⊢
  refine aq ?_
  unfold Wd.kx at k
  dsimp only at k
  refine MK (b := b) h hg fN rfl ?_
  rw [jg XZ (by omega)]
  refine MJ (b := b) h hg fN rfl rfl ?_
  clear h; intro M h
  have hg1 := vV hg
  have HB := Gn hg
  refine KY h hA.src rfl (by omega) ?_
  clear h; intro M h
  refine ⟨_, _, rfl, ?_⟩
  cases he : els (aB p i) with
  | some q =>
   rw [he] at k
   dsimp only at k ⊢
   refine aq ?_
   refine az h ?_
   refine ⟨XY.1, XY.2, ?_⟩
   refine m8 (b := b) h hg1 fN XY (by rw [HB]) ?_
   clear h; intro M h
   exact k _ _ (h.sub bx)
  | none =>
   rw [he] at k
   dsimp only at k ⊢
   refine au ⟨by decide, by decide, by decide, by decide, by decide, by decide, ?_⟩
   have kW := hg1
   obtain ⟨g0, g1, g2, g3⟩ := kW
   have h' := iw h (b := b) g0 g1 fN
   clear h
   obtain ⟨a, gb, hl, gm, h⟩ := h'
   have hl' := hl
   obtain ⟨l1, l2, l3, l4⟩ := hl'
   refine ax h ?_
   refine KZ (ej := sO (aa (x.next g) g).top) h hA.src (Src.row (A := a.ac)) ?_ rfl rfl rfl rfl (by omega) l3 hok (fun c hc => s1 c hc) ?_
   ·have e9 : ∀ {L9 : List HP}, Src R L9 (some ⟨bs, 0, none⟩) (fV.cells (aa (x.next g) g).fs) → Src R L9 (iZ (some ⟨bs, ((aa x g).fs.length - 1) * 11 + 2, none⟩) 0 8 1) (bR.cells (sO (aa (x.next g) g).top)) := fun hs => by
     have := US hs (bS g2)
     rwa [HB] at this
    exact e9 Src.row
   clear h; intro M h
   refine ⟨rfl, ?_⟩
   refine az h (az h (az h (az h ?_)))
   replace h := dx h gb hl gm fN
   have dU := dV (y := aa (x.next g) g) (g := g) hl
   have hcl2 : ∀ x' : Wd, x' = { (x.next g).bp g (aa (x.next g) g) with av := dm g (sO (aa (x.next g) g).top) (aB p i) x.av (aB p i).length } → fS gg a x' := by
    rintro _ rfl
    obtain ⟨m1, m2, m3, m4⟩ := dU
    exact ⟨m1, m2, by show _ = List.length _; rw [jd]; exact l3, m4⟩
   replace h := bq (a := a) (p := p) (pa := pa) (dr := dr) (gg := gg) (x := { (x.next g).bp g (aa (x.next g) g) with av := dm g (sO (aa (x.next g) g).top) (aB p i) x.av (aB p i).length }) (hcl2 _ rfl) h b
   rw [sx g0 g1] at h
   refine m7 (b := b) (i := i) (x := { x.next g with av := dm g (sO (aa (x.next g) g).top) (aB p i) x.av (aB p i).length }) h g0 g1 ?_
   clear h; intro M h
   exact ⟨rfl, k _ _ (h.sub bx)⟩
 rw [if_neg hcan] at k hd
 have hcl0 : 0 < (enabled (aB p i) x.av).length := by
  cases hh : enabled (aB p i) x.av with
  | nil => exact absurd hh hcan
  | cons _ _ => simp
 refine aD (by simp; omega) ?_
 have J6 : M.ld ⟨b, 0 + 14, none⟩ = some dr := by
  obtain ⟨a, hl, h9⟩ := cV h (b := b)
  exact cw h9
 rw [J6]
 refine RI ?_
 have h5 : Hp R (sep [vS A2 c2 (enabled (aB p i) x.av), bl (bI pa p gg dr) b x, pt k1 [.int .i64 i.op, .int .i64 i.a, .int .i64 i.b, .int .i64 i.c] 34, Q] :: L) M := Hp.cW.2 (h.sub bx)
 refine hd _ _ _ _ h5 ?_
 clear h h5 J6
 cases d with
 | fR l =>
  dsimp only at k ⊢
  intro M h5
  have h : Hp R (vS A2 c2 (enabled (aB p i) x.av) :: bl (bI pa p gg dr) b x :: pt k1 [.int .i64 i.op, .int .i64 i.a, .int .i64 i.b, .int .i64 i.c] 34 :: Q :: L2) M := Hp.cW.1 h5
  exact k _ _ (h.sub bx)
 | num v =>
  dsimp only at k ⊢
  intro M h5
  have h : Hp R (vS A2 c2 (enabled (aB p i) x.av) :: bl (bI pa p gg dr) b x :: pt k1 [.int .i64 i.op, .int .i64 i.a, .int .i64 i.b, .int .i64 i.c] 34 :: Q :: L2) M := Hp.cW.1 h5
  clear h5
  have hk2 : 0 ≤ v ∧ v < (enabled (aB p i) x.av).length ∧
    0 ≤ (enabled (aB p i) x.av).getD v.toNat 0 ∧ (enabled (aB p i) x.av).getD v.toNat 0 < (aB p i).length ∧ aR ((aB p i).getD ((enabled (aB p i) x.av).getD v.toNat 0).toNat ⟨0, 0, 0⟩).bH ∧
    if ((aB p i).getD ((enabled (aB p i) x.av).getD v.toNat 0).toNat ⟨0, 0, 0⟩).way = 1 then mA p (x.next g) ((aB p i).getD ((enabled (aB p i) x.av).getD v.toNat 0).toNat ⟨0, 0, 0⟩).ch (aJ (x.next g) g ((aB p i).getD ((enabled (aB p i) x.av).getD v.toNat 0).toNat ⟨0, 0, 0⟩).bH) ∧
     (match (x.next g).put p ((aB p i).getD ((enabled (aB p i) x.av).getD v.toNat 0).toNat ⟨0, 0, 0⟩).ch (aJ (x.next g) g ((aB p i).getD ((enabled (aB p i) x.av).getD v.toNat 0).toNat ⟨0, 0, 0⟩).bH) with
      | .on (y, _) => aW y g ∧ (aa y g).fs.length = (aa x g).fs.length
      | _ => True)
    else pZ (x.next g) ((aB p i).getD ((enabled (aB p i) x.av).getD v.toNat 0).toNat ⟨0, 0, 0⟩).ch ∧ aW ((x.next g).get ((aB p i).getD ((enabled (aB p i) x.av).getD v.toNat 0).toNat ⟨0, 0, 0⟩).ch).1 g ∧ (aa ((x.next g).get ((aB p i).getD ((enabled (aB p i) x.av).getD v.toNat 0).toNat ⟨0, 0, 0⟩).ch).1 g).fs.length = (aa x g).fs.length := by
   revert hk
   cases hh : enabled (aB p i) x.av with
   | nil => exact absurd hh hcan
   | cons a l => exact fun hk => hk
  clear hk hcan hd
  generalize hcane : enabled (aB p i) x.av = can at h k hk2 hcl0 ⊢
  obtain ⟨v0, v1, q0, q1, Zp, hk3⟩ := hk2
  refine ff ⟨v0, v1, ?_⟩
  obtain ⟨ab, rfl⟩ := h.bU (A := A2) hcl0 (by decide)
  refine aT ?_
  obtain ⟨q, hq⟩ := aL (l := can) (i := v.toNat) (by omega)
  have hqe : can.getD v.toNat 0 = q := by simp [hq]
  rw [hqe] at k q0 q1 Zp hk3
  refine aj (Src.at (h.src (A := some ⟨ab, 0, none⟩)) h (i := v.toNat) (j := 0) hq rfl (by simp [bR])) ?_
  unfold Wd.kT at k
  dsimp only at k
  obtain ⟨cc, P7⟩ := aL (l := aB p i) (i := q.toNat) (by omega)
  have hce : (aB p i).getD q.toNat ⟨0, 0, 0⟩ = cc := by simp [P7]
  rw [hce] at k Zp hk3
  refine MK (b := b) h hg fN rfl ?_
  rw [jg XZ (by omega)]
  refine MJ (b := b) h hg fN rfl rfl ?_
  clear h; intro M h
  have hg1 := vV hg
  have HB := Gn hg
  have vl : (x.next g).Sm := XX hs
  generalize AH : x.next g = x1 at h k hk3 hg1 HB vl
  refine ⟨q0, q1, ?_⟩
  obtain ⟨cb, co, rfl⟩ := hA.some (by omega) (by decide)
  refine aT ?_
  refine aj (Src.at (hA.src (L := _)) h (i := q.toNat) (j := 0) P7 rfl (by simp [gP])) ?_
  refine aj (Src.at (hA.src (L := _)) h (i := q.toNat) (j := 1) P7 rfl (by show _ = co + (_ * 3 + 1); omega)) ?_
  refine aj (Src.at (hA.src (L := _)) h (i := q.toNat) (j := 2) P7 rfl (by show _ = co + (_ * 3 + 2); omega)) ?_
  refine ai h ?_
  clear h; intro kc M h
  refine ak h ?_
  clear h; intro M h
  refine ak h ?_
  clear h; intro M h
  refine ak h ?_
  clear h; intro M h
  refine az h ?_
  refine bh.2 ⟨fun e1 => ?_, fun e1 => ?_⟩
  ·rw [if_pos e1] at k hk3
   obtain ⟨hput, hy⟩ := hk3
   refine az h (az h ⟨Zp.1, Zp.2, ?_⟩)
   refine Jb (b := b) h hg1 fN Zp (by rw [HB]) ?_
   refine Ed (b := b) h hp.cases hput vl ?_ ?_
   ·clear h
    intro y ok M e h
    rw [e] at k hy
    dsimp only at k hy
    refine mU ?_
    refine az h ⟨XY.1, XY.2, ?_⟩
    refine m8 (b := b) h hy.1 fN XY (by rw [hy.2]) ?_
    clear h; intro M h
    exact k _ _ (h.sub bx)
   ·clear h
    intro y n M e h
    rw [e] at k
    exact k _ _ (h.sub bx)
  ·rw [if_neg e1] at k hk3
   obtain ⟨Du, Jc, hfl⟩ := hk3
   refine az h (az h ?_)
   refine Ee (b := b) h Du vl ?_
   clear h; intro M h
   generalize x1.get cc.ch = r at h k Jc hfl
   obtain ⟨y, w, sm, ok⟩ := r
   dsimp only at h k Jc hfl ⊢
   refine ⟨_, _, _, rfl, cw h, Zp.1, Zp.2, ?_⟩
   refine m8 (b := b) h Jc fN Zp (by rw [hfl]) ?_
   clear h; intro M h
   refine ⟨cw h, az h ⟨XY.1, XY.2, ?_⟩⟩
   refine m8 (b := b) h (gv Jc) fN XY (by rw [P5 Jc, hfl]) ?_
   clear h; intro M h
   exact k _ _ (h.sub bx)
end
def aN.before (a b : aN) : Bool := decide (a.t < b.t) || (a.t == b.t && decide (a.seq < b.seq))
def fx (l : List aN) (i : Nat) : aN := l.getD i ⟨0, 0, 0⟩
def ee (l : List aN) (i j : Nat) : List aN := (l.set i (fx l j)).set j (fx l i)
def N9 : Nat → Nat → List aN → List aN
 | 0, _, l => l
 | f + 1, i, l => if 0 < i ∧ (fx l i).before (fx l ((i - 1) / 4)) = true then N9 f ((i - 1) / 4) (ee l i ((i - 1) / 4)) else l
def dY (l : List aN) : Nat → Nat → Nat → Nat
 | 0, _, out => out
 | n + 1, k, out => if k < l.length then dY l n (k + 1) (if (fx l k).before (fx l out) then k else out) else out
def fj (l : List aN) (i : Nat) : Nat := dY l 4 (4 * i + 1) i
def nh : Nat → Nat → List aN → List aN
 | 0, _, l => l
 | f + 1, i, l => if fj l i = i then l else nh f (fj l i) (ee l i (fj l i))
def kU (l : List aN) (x : aN) : List aN := N9 l.length l.length (l ++ [x])
def cS (l : List aN) (i : Nat) : List aN :=
 if i < l.length - 1 then N9 i i (nh l.length i ((ee l i (l.length - 1)).take (l.length - 1))) else (ee l i (l.length - 1)).take (l.length - 1)
def dM : Nat → List aN → Int → List aN × List aN
 | 0, l, _ => (l, [])
 | f + 1, l, now => if 0 < l.length ∧ (fx l 0).t ≤ now then ((dM f (cS l 0) now).1, fx l 0 :: (dM f (cS l 0) now).2) else (l, [])
def cq : Nat → List aN → List aN
 | 0, _ => []
 | f + 1, l => if 0 < l.length then fx l 0 :: cq f (cS l 0) else []
theorem Ci {f i : Nat} {l : List aN} : N9 (f + 1) i l = if 0 < i ∧ (fx l i).before (fx l ((i - 1) / 4)) = true then N9 f ((i - 1) / 4) (ee l i ((i - 1) / 4)) else l := rfl
theorem qc {l : List aN} {n k out : Nat} : dY l (n + 1) k out = if k < l.length then dY l n (k + 1) (if (fx l k).before (fx l out) then k else out) else out := rfl
theorem Cj {f i : Nat} {l : List aN} : nh (f + 1) i l = if fj l i = i then l else nh f (fj l i) (ee l i (fj l i)) := rfl
theorem pL {f : Nat} {l : List aN} {now : Int} : dM (f + 1) l now = if 0 < l.length ∧ (fx l 0).t ≤ now then ((dM f (cS l 0) now).1, fx l 0 :: (dM f (cS l 0) now).2) else (l, []) := rfl
theorem iy {f : Nat} {l : List aN} : cq (f + 1) l = if 0 < l.length then fx l 0 :: cq f (cS l 0) else [] := rfl
theorem cO {l : List aN} {i j : Nat} : (ee l i j).length = l.length := by simp [ee]
theorem Gp : ∀ {f i : Nat} {l : List aN}, (N9 f i l).length = l.length
 | 0, _, _ => rfl
 | f + 1, i, l => by unfold N9; split; rw [Gp, cO]; rfl
theorem kA : ∀ {f i : Nat} {l : List aN}, (nh f i l).length = l.length
 | 0, _, _ => rfl
 | f + 1, i, l => by unfold nh; split; rfl; rw [kA, cO]
theorem jx {l : List aN} {i : Nat} : (cS l i).length = l.length - 1 := by
 unfold cS; split
 ·rw [Gp, kA, List.length_take, cO]; omega
 ·rw [List.length_take, cO]; omega
theorem P8 {l : List aN} {x : aN} : (kU l x).length = l.length + 1 := by unfold kU; rw [Gp]; simp
theorem nG {l : List aN} {i : Nat} (h : i < l.length) : l[i]? = some (fx l i) := by
 unfold fx; rw [List.getD_eq_getElem?_getD, List.getElem?_eq_getElem h]; rfl
theorem nH {l : List aN} : ∀ (n k out : Nat), out < l.length → out < k → dY l n k out < l.length ∧ (out ≤ dY l n k out)
 | 0, _, _, h, _ => ⟨h, Nat.le_refl _⟩
 | n + 1, k, out, h, hk => by
  unfold dY; split
  ·rename_i hl
   split
   ·have := nH n (k + 1) k hl (by omega); omega
   ·exact nH n (k + 1) out h (by omega)
  ·exact ⟨h, Nat.le_refl _⟩
theorem Ek {l : List aN} {i : Nat} (h : i < l.length) : fj l i < l.length ∧ i ≤ fj l i := nH 4 _ i h (by omega)
structure VX (b o : Nat) (P : Option Addr → Nat → Nat → Int → HP) : Prop where
 VY : ∀ (R : Mem) (L : List HP) (M : Mem) (A : Option Addr) (n c : Nat) (s : Int), Hp R (P A n c s :: L) M → M.ld ⟨b, o, none⟩ = some (.slice A n c)
 ldI : ∀ (R : Mem) (L : List HP) (M : Mem) (A : Option Addr) (n c : Nat) (s : Int), Hp R (P A n c s :: L) M → M.ld ⟨b, o + 1, none⟩ = some (.int .u64 s)
 stS : ∀ (R : Mem) (L : List HP) (M : Mem) (A A' : Option Addr) (n c n' c' : Nat) (s : Int) (G : Mem → Prop), Hp R (P A n c s :: L) M → (∀ M', Hp R (P A' n' c' s :: L) M' → G M') → b7 M ⟨b, o, none⟩ (.slice A' n' c') G
 stI : ∀ (R : Mem) (L : List HP) (M : Mem) (A : Option Addr) (n c : Nat) (s s' : Int) (G : Mem → Prop), Hp R (P A n c s :: L) M → (∀ M', Hp R (P A n c s' :: L) M' → G M') → b7 M ⟨b, o + 1, none⟩ (.int .u64 s') G
theorem AI : bE Tryz.prog 65 205 3 24 [.int .u64 0, .int .u64 0, .int .i64 0] := bE.mk' (zv := .agg #[.int .u64 0, .int .u64 0, .int .i64 0]) (by kernel_rfl) (by kernel_rfl) rfl (by omega)
section
variable {R : Mem} {L L' : List HP} {M : Mem} {K : Value → Mem → Prop} {Kp : List PanicEntry → Mem → Prop} {b o : Nat} {P : Option Addr → Nat → Nat → Int → HP} {A : Option Addr} {c : Nat} {s : Int} {l : List aN} {i j : Nat}
theorem ni {q o0 o1 o2 o3 : Nat} {x : aN} {G : Int → Int → Int → Prop} (h : Hp R L M) (hs : Src R L (some ⟨q, o0, none⟩) (g6.cells l)) (hi : l[i]? = some x) (e1 : o1 = o0 + i * 3) (e2 : o2 = o0 + i * 3 + 1) (e3 : o3 = o0 + i * 3 + 2) (g : G x.t x.seq x.id) :
  bF (M.ld ⟨q, o1, none⟩) .u64 fun a => bF (M.ld ⟨q, o2, none⟩) .u64 fun b => bF (M.ld ⟨q, o3, none⟩) .i64 fun d => G a b d := by
 refine aj (Src.at hs h (i := i) (j := 0) hi rfl (by rw [e1]; rfl)) ?_
 refine aj (Src.at hs h (i := i) (j := 1) hi rfl (by rw [e2]; show _ = o0 + (i * 3 + 1); omega)) ?_
 exact aj (Src.at hs h (i := i) (j := 2) hi rfl (by rw [e3]; show _ = o0 + (i * 3 + 2); omega)) g
theorem Oa {q o1 o2 o3 : Nat} {x y : aN} {G : Mem → Prop} (h : Hp R L M) [r : dF (some ⟨q, 0, none⟩) L aN g6 205 c l L'] (hi : l[i]? = some x) (e1 : o1 = i * 3) (e2 : o2 = i * 3 + 1) (e3 : o3 = i * 3 + 2)
  (k : ∀ M', Hp R (eV (some ⟨q, 0, none⟩) c (l.set i y) :: L') M' → G M') :
  b7 M ⟨q, o1, none⟩ (.int .u64 y.t) fun M1 => b7 M1 ⟨q, o2, none⟩ (.int .u64 y.seq) fun M2 => b7 M2 ⟨q, o3, none⟩ (.int .i64 y.id) G := by
 have hl := (List.getElem?_eq_some_iff.1 hi).1
 refine gK (E := g6) (a := x) (a' := ⟨y.t, x.seq, x.id⟩) i 0 h hi (by decide) rfl e1 ?_
 clear h; intro M h
 refine gK (E := g6) (a := ⟨y.t, x.seq, x.id⟩) (a' := ⟨y.t, y.seq, x.id⟩) i 1 h (by simp [hl]) (by decide) rfl e2 ?_
 clear h; intro M h
 refine gK (E := g6) (a := ⟨y.t, y.seq, x.id⟩) (a' := y) i 2 h (by simp [hl]) (by decide) rfl e3 ?_
 clear h; intro M h
 rw [sI, sI] at h
 exact k _ h
theorem zG {x y : aN} (h : Hp R L M) (k : ∀ M', Hp R L M' → K (.bool (x.before y)) M') : ae Tryz.prog 186 #[.agg #[.int .u64 x.t, .int .u64 x.seq, .int .i64 x.id], .agg #[.int .u64 y.t, .int .u64 y.seq, .int .i64 y.id]] M K Kp := by
 refine BK ?_
 repeat (first|(refine ai h ?_;clear h;intro kb M h)|(refine ak h ?_;clear h;intro M h)|refine St.to h ?_|(apply Exists.intro;(repeat apply Exists.intro);refine And.intro rfl ?_)|refine ay ?_|refine aq ?_|refine au ?_)
 unfold aN.before at k
 refine aH.2 ⟨fun h1 => ?_, fun h1 => ?_⟩
 ·have := k _ h.jb
  rwa [decide_eq_true h1, Bool.true_or] at this
 ·repeat (first|(refine ai h ?_;clear h;intro kb M h)|(refine ak h ?_;clear h;intro M h)|refine St.to h ?_|(apply Exists.intro;(repeat apply Exists.intro);refine And.intro rfl ?_)|refine ay ?_|refine aq ?_|refine au ?_)
  refine bh.2 ⟨fun h2 => ?_, fun h2 => ?_⟩
  ·repeat (first|(refine ai h ?_;clear h;intro kb M h)|(refine ak h ?_;clear h;intro M h)|refine St.to h ?_|(apply Exists.intro;(repeat apply Exists.intro);refine And.intro rfl ?_)|refine ay ?_|refine aq ?_|refine au ?_)
   have := k _ h.jb
   rwa [decide_eq_false h1, Bool.false_or, beq_iff_eq.2 h2, Bool.true_and] at this
  ·have := k _ h.jb
   rwa [decide_eq_false h1, Bool.false_or, show (x.t == y.t) = false from by simpa using h2, Bool.false_and] at this
theorem yW (D : VX b o P) (h : Hp R (P A l.length c s :: eV A c l :: L) M) (hi : i < l.length) (hj : j < l.length)
  (k : ∀ M', Hp R (P A l.length c s :: eV A c (ee l i j) :: L) M' → K (.tuple #[]) M') : ae Tryz.prog 136 #[.pointer (some ⟨b, o, none⟩), .int .i64 (i : Int), .int .i64 (j : Int)] M K Kp := by
 refine w7 ?_
 obtain ⟨q, rfl⟩ := h.bU (A := A) (by omega) (by decide)
 have hs := h.src (A := some ⟨q, 0, none⟩)
 rw [D.VY _ _ _ _ _ _ _ h]
 refine aU (aU (aU ⟨by omega, by omega, aT ?_⟩))
 refine ni h hs (nG hj) (by simp) (by simp) (by simp) ?_
 refine aU ⟨by omega, by omega, aT ?_⟩
 refine ni h hs (nG hi) (by simp) (by simp) (by simp) ?_
 clear hs
 refine ⟨by omega, by omega, aT ?_⟩
 refine Oa (y := fx l j) h (nG hi) (by simp) (by simp) (by simp) ?_
 clear h; intro M h
 refine ⟨by omega, by omega, aT ?_⟩
 have Y3 : (l.set i (fx l j))[j]? = some (fx l j) := by
  rw [List.getElem?_set]
  split
  ·rfl
  ·exact nG hj
 refine Oa (y := fx l i) h Y3 (by simp) (by simp) (by simp) ?_
 clear h; intro M h
 exact k _ (h.sub bx)
theorem Ck (D : VX b o P) (h : Hp R (P A l.length c s :: eV A c l :: L) M) (hi : i < l.length) (hl : l.length ≤ 1000000)
  (k : ∀ M', Hp R (P A l.length c s :: eV A c l :: L) M' → K (.int .i64 (fj l i : Int)) M') : ae Tryz.prog 185 #[.pointer (some ⟨b, o, none⟩), .int .i64 (i : Int)] M K Kp := by
 refine vM ?_
 have e1 : IntKind.wrap .i64 (IntKind.wrap .i64 (4 * (i : Int)) + 1) = ((4 * i + 1 : Nat) : Int) := by
  rw [dD (z := 4 * (i : Int)) (by omega) (by omega), dD (by omega) (by omega)]; omega
 have e4 : IntKind.wrap .i64 (IntKind.wrap .i64 (4 * (i : Int)) + 4) = ((4 * i + 4 : Nat) : Int) := by
  rw [dD (z := 4 * (i : Int)) (by omega) (by omega), dD (by omega) (by omega)]; omega
 rw [e1, e4]
 refine ⟨fun d vs M => ∃ kk out : Nat, vs = [.int .i64 (out : Int), .int .i64 (kk : Int)] ∧ d = 4 * i + 5 - kk ∧ kk ≤ 4 * i + 5 ∧ out < l.length ∧ out < kk ∧ dY l (4 * i + 5 - kk) kk out = fj l i ∧ Hp R (P A l.length c s :: eV A c l :: L) M,
  ⟨_, 4 * i + 1, i, rfl, rfl, by omega, hi, by omega, by rw [show 4 * i + 5 - (4 * i + 1) = 4 from by omega]; rfl, h⟩, ?_⟩
 clear h
 rintro d _ n5 n6 M ⟨kk, out, he, hd, hkk, ho, hok, hf, h⟩
 simp only [List.cons.injEq, Value.int.injEq, and_true, true_and] at he
 obtain ⟨rfl, rfl⟩ := he
 refine aH.2 ⟨fun hle => ?_, fun hgt => ?_⟩
 ·rw [D.VY _ _ _ _ _ _ _ h]
  obtain ⟨n, hn⟩ : ∃ n, 4 * i + 5 - kk = n + 1 := ⟨4 * i + 4 - kk, by omega⟩
  rw [hn] at hf
  rw [qc] at hf
  refine aU ?_
  refine aH.2 ⟨fun hlt => ?_, fun hge => ?_⟩
  ·rw [if_pos (by omega)] at hf
   obtain ⟨q, rfl⟩ := h.bU (A := A) (by omega) (by decide)
   have hs := h.src (A := some ⟨q, 0, none⟩)
   refine aU ⟨by omega, by omega, aT ?_⟩
   refine ni h hs (nG (i := kk) (by omega)) (by simp) (by simp) (by simp) ?_
   refine aU ⟨by omega, by omega, aT ?_⟩
   refine ni h hs (nG (i := out) (by omega)) (by simp) (by simp) (by simp) ?_
   refine zG h ?_
   clear h hs; intro M h
   refine mU ?_
   have e : IntKind.wrap .i64 ((kk : Int) + 1) = ((kk + 1 : Nat) : Int) := by rw [dD (by omega) (by omega)]; omega
   rw [e]
   cases hb : (fx l kk).before (fx l out) with
   | true =>
    rw [hb] at hf
    exact aq ⟨n, by omega, kk + 1, kk, rfl, by omega, by omega, by omega, by omega, by rw [show 4 * i + 5 - (kk + 1) = n from by omega]; exact hf, h⟩
   | false =>
    rw [hb] at hf
    exact au ⟨n, by omega, kk + 1, out, rfl, by omega, by omega, by omega, by omega, by rw [show 4 * i + 5 - (kk + 1) = n from by omega]; exact hf, h⟩
  ·rw [if_neg (by omega)] at hf
   subst hf
   exact k _ h
 ·have : 4 * i + 5 - kk = 0 := by omega
  rw [this] at hf
  have HC : out = fj l i := hf
  subst HC
  exact k _ h
theorem P9 (D : VX b o P) {f : Nat} (h : Hp R (P A l.length c s :: eV A c l :: L) M) (hi : i < l.length) (hl : l.length ≤ 1000000) (hf : l.length ≤ f + i)
  (k : ∀ M', Hp R (P A l.length c s :: eV A c (nh f i l) :: L) M' → K (.tuple #[]) M') : ae Tryz.prog 137 #[.pointer (some ⟨b, o, none⟩), .int .i64 (i : Int)] M K Kp := by
 refine w8 ?_
 refine Ck D h hi hl ?_
 clear h; intro M h
 refine ff ?_
 refine ⟨fun d vs M => ∃ (f' i' : Nat) (l' : List aN), vs = [.int .i64 (i' : Int), .int .i64 (fj l' i' : Int)] ∧ d = l.length - i' ∧ i' < l.length ∧ l'.length = l.length ∧ l.length ≤ f' + i' ∧ nh f' i' l' = nh f i l ∧ Hp R (P A l.length c s :: eV A c l' :: L) M,
  ⟨_, f, i, l, rfl, rfl, hi, rfl, hf, rfl, h⟩, ?_⟩
 clear h
 rintro d _ n5 n6 M ⟨f', i', l', he, hd, hi', hl', Kj, Ob, h⟩
 simp only [List.cons.injEq, Value.int.injEq, and_true, true_and] at he
 obtain ⟨rfl, rfl⟩ := he
 obtain ⟨g, rfl⟩ : ∃ g, f' = g + 1 := ⟨f' - 1, by omega⟩
 rw [Cj] at Ob
 obtain ⟨m1, m2⟩ := Ek (l := l') (i := i') (by omega)
 rw [← hl'] at h
 refine dJ.2 ⟨fun hne => ?_, fun heq => ?_⟩
 ·rw [if_neg (by intro e; apply hne; rw [e])] at Ob
  refine yW D h (i := i') (j := fj l' i') (by omega) (by omega) ?_
  clear h; intro M h
  refine ⟨rfl, ?_⟩
  have VZ : (ee l' i' (fj l' i')).length = l'.length := cO
  rw [← VZ] at h
  refine Ck D h (by omega) (by omega) ?_
  clear h; intro M h
  rw [VZ] at h
  refine ff ?_
  exact ⟨l.length - fj l' i', by omega, g, fj l' i', _, rfl, rfl, by omega, by omega, by omega, Ob, by rw [← hl']; exact h⟩
 ·rw [if_pos (by omega)] at Ob
  subst Ob
  rw [hl'] at h
  exact k _ h
theorem Oc (D : VX b o P) {f : Nat} (h : Hp R (P A l.length c s :: eV A c l :: L) M) (hi : i < l.length) (hl : l.length ≤ 1000000) (hf : i ≤ f)
  (k : ∀ M', Hp R (P A l.length c s :: eV A c (N9 f i l) :: L) M' → K (.tuple #[]) M') : ae Tryz.prog 138 #[.pointer (some ⟨b, o, none⟩), .int .i64 (i : Int)] M K Kp := by
 refine z5 ?_
 refine ⟨fun d vs M => ∃ (f' i' : Nat) (l' : List aN), vs = [.int .i64 (i' : Int)] ∧ d = i' ∧ i' < l.length ∧ l'.length = l.length ∧ i' ≤ f' ∧ N9 f' i' l' = N9 f i l ∧ Hp R (P A l.length c s :: eV A c l' :: L) M,
  ⟨_, f, i, l, rfl, rfl, hi, rfl, hf, rfl, h⟩, ?_⟩
 clear h
 rintro d _ n5 M ⟨f', i', l', he, hd, hi', hl', Kj, Ob, h⟩
 simp only [List.cons.injEq, Value.int.injEq, and_true, true_and] at he
 subst he
 refine aH.2 ⟨fun hgt => ?_, fun hle => ?_⟩
 ·obtain ⟨g, rfl⟩ : ∃ g, f' = g + 1 := ⟨f' - 1, by omega⟩
  rw [Ci] at Ob
  have ep : IntKind.wrap .i64 (Int.tdiv (IntKind.wrap .i64 ((i' : Int) - 1)) 4) = (((i' - 1) / 4 : Nat) : Int) := by
   rw [dD (z := (i' : Int) - 1) (by omega) (by omega), show ((i' : Int) - 1) = ((i' - 1 : Nat) : Int) from by omega, show (4 : Int) = ((4 : Nat) : Int) from rfl, ← Int.ofNat_tdiv, dD (by omega) (by omega)]
  have hp : (i' - 1) / 4 < i' := by omega
  generalize hpe : (i' - 1) / 4 = p at ep Ob hp
  rw [ep, D.VY _ _ _ _ _ _ _ h]
  obtain ⟨q, rfl⟩ := h.bU (A := A) (by omega) (by decide)
  have hs := h.src (A := some ⟨q, 0, none⟩)
  refine ⟨by omega, aU ⟨by omega, by omega, aT ?_⟩⟩
  refine ni h hs (nG (i := i') (by omega)) (by simp) (by simp) (by simp) ?_
  refine aU ⟨by omega, by omega, aT ?_⟩
  refine ni h hs (nG (i := p) (by omega)) (by simp) (by simp) (by simp) ?_
  refine zG h ?_
  clear h hs; intro M h
  refine mU ?_
  cases hb : (fx l' i').before (fx l' p) with
  | true =>
   rw [if_pos ⟨by omega, hb⟩] at Ob
   refine aq ⟨by omega, ?_⟩
   rw [← hl'] at h
   refine yW D h (i := i') (j := p) (by omega) (by omega) ?_
   clear h; intro M h
   rw [hl'] at h
   exact ⟨rfl, by omega, p, by omega, g, p, _, rfl, rfl, by omega, by rw [cO]; exact hl', by omega, Ob, h⟩
  | false =>
   rw [if_neg (by rintro ⟨_, h2⟩; rw [hb] at h2; cases h2)] at Ob
   refine au ?_
   subst Ob
   exact k _ h
 ·have : N9 f' i' l' = l' := by
   have h0 : i' = 0 := by omega
   subst h0
   cases f' with
   | zero => rfl
   | succ g => rw [Ci]; rw [if_neg (by omega)]
  rw [this] at Ob
  subst Ob
  exact k _ h
theorem Qa (D : VX b o P) {t id : Int} (h : Hp R (P A l.length c s :: eV A c l :: L) M) (hl : l.length < 1000000)
  (k : ∀ v A' c' M', Hp R (P A' (l.length + 1) c' (IntKind.wrap .u64 (s + 1)) :: eV A' c' (kU l ⟨t, s, id⟩) :: L) M' → K (.int .u64 v) M') : ae Tryz.prog 214 #[.pointer (some ⟨b, o, none⟩), .int .u64 t, .int .i64 id] M K Kp := by
 refine w9 ?_
 rw [D.VY _ _ _ _ _ _ _ h, D.ldI _ _ _ _ _ _ _ h]
 refine aU (ff ?_)
 refine ai h ?_
 clear h; intro kb M h
 replace h : Hp R (P A l.length c s :: eV A c l :: pt kb [.int .u64 t, .int .u64 s, .int .i64 id] 205 :: L) M := h.sub bx
 refine h.aZ (A := A) AI [(⟨t, s, id⟩ : aN)] rfl rfl (by simp only [List.length_singleton]; omega) ?_
 clear h; intro A' c' M h
 refine aU ?_
 have hlen : (l ++ [(⟨t, s, id⟩ : aN)]).length = l.length + 1 := by simp
 refine D.stS _ _ _ _ _ _ _ _ _ _ _ h.swap ?_
 clear h; intro M h
 rw [D.ldI _ _ _ _ _ _ _ h]
 refine ff ?_
 refine D.stI _ _ _ _ _ _ _ _ _ h ?_
 clear h; intro M h
 rw [D.VY _ _ _ _ _ _ _ h]
 refine aU ?_
 have e : IntKind.wrap .i64 (((l ++ [(⟨t, s, id⟩ : aN)]).length : Int) - 1) = ((l.length : Nat) : Int) := by
  rw [dD (by omega) (by omega)]; omega
 rw [e]
 refine Oc D (f := l.length) h (by omega) (by omega) (Nat.le_refl _) ?_
 clear h; intro M h
 refine ⟨rfl, ?_⟩
 rw [D.ldI _ _ _ _ _ _ _ h]
 refine ff ?_
 rw [hlen] at h
 exact k _ _ _ _ h
theorem zH (D : VX b o P) (h : Hp R (P A l.length c s :: eV A c l :: L) M) (hi : i < l.length) (hl : l.length ≤ 1000000)
  (k : ∀ M', Hp R (P A (l.length - 1) c s :: eV A c (cS l i) :: L) M' → K (.agg #[.int .u64 (fx l i).t, .int .u64 (fx l i).seq, .int .i64 (fx l i).id]) M') : ae Tryz.prog 106 #[.pointer (some ⟨b, o, none⟩), .int .i64 (i : Int)] M K Kp := by
 refine um ?_
 have hcap := h.nw A
 obtain ⟨q, rfl⟩ := h.bU (A := A) (by omega) (by decide)
 refine ai h ?_
 clear h; intro k1 M h
 have hs := h.src (A := some ⟨q, 0, none⟩)
 replace h : Hp R (P (some ⟨q, 0, none⟩) l.length c s :: eV (some ⟨q, 0, none⟩) c l :: pt k1 [.int .u64 0, .int .u64 0, .int .i64 0] 205 :: L) M := h.sub bx
 replace hs := h.src (A := some ⟨q, 0, none⟩)
 rw [D.VY _ _ _ _ _ _ _ h]
 refine aU ⟨by omega, by omega, aT ?_⟩
 refine ni h hs (nG hi) (by simp) (by simp) (by simp) ?_
 clear hs
 generalize hx : fx l i = x at k
 refine ai h ?_
 clear h; intro k2 M h
 refine ak h ?_
 clear h; intro M h
 refine ak h ?_
 clear h; intro M h
 refine ak h ?_
 clear h; intro M h
 replace h : Hp R (P (some ⟨q, 0, none⟩) l.length c s :: eV (some ⟨q, 0, none⟩) c l :: pt k2 [.int .u64 x.t, .int .u64 x.seq, .int .i64 x.id] 205 :: pt k1 [.int .u64 0, .int .u64 0, .int .i64 0] 205 :: L) M := h.sub bx
 rw [D.VY _ _ _ _ _ _ _ h]
 have e : IntKind.wrap .i64 ((l.length : Int) - 1) = ((l.length - 1 : Nat) : Int) := by
  rw [dD (by omega) (by omega)]; omega
 refine aU ?_
 rw [e]
 refine yW D h hi (j := l.length - 1) (by omega) ?_
 clear h; intro M h
 refine ⟨rfl, ?_⟩
 rw [D.VY _ _ _ _ _ _ _ h]
 refine aU ⟨by omega, by omega, by omega, by omega, by omega, by omega, ?_⟩
 have e2 : iZ (some ⟨q, 0, none⟩) 0 (Int.toNat (c : Int)) 3 = some ⟨q, 0, none⟩ := by
  unfold iZ; rw [if_neg (by simp; omega)]; rfl
 rw [e2]
 simp only [Int.toNat_natCast, Nat.sub_zero]
 refine D.stS _ _ _ _ _ _ _ _ _ _ _ h ?_
 clear h; intro M h
 have VZ : ((ee l i (l.length - 1)).take (l.length - 1)).length = l.length - 1 := by rw [List.length_take, cO]; omega
 have fin : ∀ (M : Mem) (Q : List HP), Hp R (P (some ⟨q, 0, none⟩) (l.length - 1) c s :: eV (some ⟨q, 0, none⟩) c (cS l i) :: pt k2 [.int .u64 x.t, .int .u64 x.seq, .int .i64 x.id] 205 :: pt k1 [.int .u64 0, .int .u64 0, .int .i64 0] 205 :: L) M →
   bF (Mem.ld M ⟨k2, 0, none⟩) .u64 fun yu => bF (Mem.ld M ⟨k2, (0 + 1), none⟩) .u64 fun w6 => bF (Mem.ld M ⟨k2, (0 + 2), none⟩) .i64 fun q9 =>
   b7 M ⟨k1, 0, none⟩ (.int .u64 yu) fun mJ => b7 mJ ⟨k1, (0 + 1), none⟩ (.int .u64 w6) fun pX => b7 pX ⟨k1, (0 + 2), none⟩ (.int .i64 q9) fun qI =>
   bF (Mem.ld qI ⟨k1, 0, none⟩) .u64 fun yz => bF (Mem.ld qI ⟨k1, (0 + 1), none⟩) .u64 fun tC => bF (Mem.ld qI ⟨k1, (0 + 2), none⟩) .i64 fun xK =>
   K (.agg #[(.int .u64 yz), (.int .u64 tC), (.int .i64 xK)]) qI := by
  intro M _ h
  refine az h (az h (az h ?_))
  refine ak h ?_
  clear h; intro M h
  refine ak h ?_
  clear h; intro M h
  refine ak h ?_
  clear h; intro M h
  refine az h (az h (az h ?_))
  exact k _ (h.sub bx)
 replace h : Hp R (P (some ⟨q, 0, none⟩) (l.length - 1) c s :: eV (some ⟨q, 0, none⟩) c ((ee l i (l.length - 1)).take (l.length - 1)) :: pt k2 [.int .u64 x.t, .int .u64 x.seq, .int .i64 x.id] 205 :: pt k1 [.int .u64 0, .int .u64 0, .int .i64 0] 205 :: L) M := (h.swap.RK (l.length - 1)).swap
 unfold cS at fin
 refine aH.2 ⟨fun hlt => ?_, fun hge => ?_⟩
 ·rw [if_pos (by omega)] at fin
  have h' : Hp R (P (some ⟨q, 0, none⟩) ((ee l i (l.length - 1)).take (l.length - 1)).length c s :: eV (some ⟨q, 0, none⟩) c ((ee l i (l.length - 1)).take (l.length - 1)) :: pt k2 [.int .u64 x.t, .int .u64 x.seq, .int .i64 x.id] 205 :: pt k1 [.int .u64 0, .int .u64 0, .int .i64 0] 205 :: L) M := by rw [VZ]; exact h
  clear h
  have h := h'
  clear h'
  refine P9 D (f := l.length) h (by omega) (by omega) (by omega) ?_
  clear h; intro M h
  refine ⟨rfl, ?_⟩
  rw [show ((ee l i (l.length - 1)).take (l.length - 1)).length = (nh l.length i ((ee l i (l.length - 1)).take (l.length - 1))).length from kA.symm] at h
  refine Oc D (f := i) h (by rw [kA]; omega) (by rw [kA]; omega) (Nat.le_refl _) ?_
  clear h; intro M h
  refine ⟨rfl, ?_⟩
  rw [kA, VZ] at h
  exact fin M [] h
 ·rw [if_neg (by omega)] at fin
  exact fin M [] h
theorem Qb (D : VX b o P) {now : Int} (h : Hp R (P A l.length c s :: eV A c l :: L) M) (hl : l.length ≤ 1000000)
  (k : ∀ A' c' M', Hp R (P A (dM l.length l now).1.length c s :: eV A c (dM l.length l now).1 :: eV A' c' (dM l.length l now).2 :: L) M' → K (.slice A' (dM l.length l now).2.length c') M') :
  ae Tryz.prog 89 #[.pointer (some ⟨b, o, none⟩), .int .u64 now] M K Kp := by
 refine wZ ?_
 have h0 := h.dz g6 205
 refine ⟨fun d vs M => ∃ (A' : Option Addr) (c' : Nat) (out l' : List aN), vs = [.slice A' out.length c'] ∧ d = l'.length ∧ l'.length + out.length = l.length ∧ (dM l'.length l' now).1 = (dM l.length l now).1 ∧ out ++ (dM l'.length l' now).2 = (dM l.length l now).2 ∧
   Hp R (P A l'.length c s :: eV A c l' :: eV A' c' out :: L) M, ⟨_, none, 0, [], l, rfl, rfl, rfl, rfl, rfl, h0.sub bx⟩, ?_⟩
 clear h h0
 rintro d _ A' n' c' M ⟨A2, c2, out, l', he, hd, VZ, e1, e2, h⟩
 simp only [List.cons.injEq, Value.slice.injEq, and_true, true_and] at he
 obtain ⟨rfl, rfl, rfl⟩ := he
 rw [D.VY _ _ _ _ _ _ _ h]
 have stop : ¬ (0 < l'.length ∧ (fx l' 0).t ≤ now) → K (.slice A' out.length c') M := by
  intro hn
  have e : dM l'.length l' now = (l', []) := by
   cases hl' : l'.length with
   | zero => rfl
   | succ m => rw [pL]; rw [if_neg hn]
  rw [e] at e1 e2
  dsimp only at e1 e2
  rw [List.append_nil] at e2
  subst e1; subst e2
  exact k _ _ _ h
 refine aU ?_
 refine aH.2 ⟨fun hgt => ?_, fun hle => stop (by omega)⟩
 have hcap := h.nw A
 obtain ⟨q, rfl⟩ := h.bU (A := A) (by omega) (by decide)
 have hs := h.src (A := some ⟨q, 0, none⟩)
 refine aU ⟨by omega, by omega, aT ?_⟩
 refine aj (Src.at hs h (i := 0) (j := 0) (nG (by omega)) rfl rfl) ?_
 clear hs
 refine aH.2 ⟨fun hle => ?_, fun hgt2 => stop (fun hn => hgt2 hn.2)⟩
 refine zH D h (i := 0) (by omega) (by omega) ?_
 clear h stop; intro M h
 refine ⟨_, _, _, rfl, ?_⟩
 refine ai h ?_
 clear h; intro kb M h
 refine h.aZ (A := A') AI [fx l' 0] rfl rfl (by simp only [List.length_singleton]; omega) ?_
 clear h; intro A3 c3 M h
 refine aU ?_
 have mN : (cS l' 0).length = l'.length - 1 := jx
 have hw : dM l'.length l' now = ((dM (cS l' 0).length (cS l' 0) now).1, fx l' 0 :: (dM (cS l' 0).length (cS l' 0) now).2) := by
  obtain ⟨m, hm⟩ : ∃ m, l'.length = m + 1 := ⟨l'.length - 1, by omega⟩
  rw [mN, hm]
  show dM (m + 1) l' now = _
  rw [pL]
  rw [if_pos ⟨by omega, hle⟩]; rfl
 rw [hw] at e1 e2
 rw [← mN] at h
 exact ⟨_, by omega, A3, c3, out ++ [fx l' 0], cS l' 0, rfl, rfl, by simp; omega, e1, by rw [List.append_assoc]; exact e2, h.sub bx⟩
theorem pt_hdr {kb T : Nat} : VX kb 0 (fun A n c s => pt kb [.slice A n c, .int .u64 s] T) :=
 ⟨fun R L M A n c s h => cw h, fun R L M A n c s h => cw h, fun R L M A A' n c n' c' s G h k => ak h k, fun R L M A n c s s' G h k => ak h k⟩
theorem Qc (D : VX b o P) (h : Hp R (P A l.length c s :: eV A c l :: L) M) (hl : l.length ≤ 1000000)
  (k : ∀ A' c' M', Hp R (eV A' c' (cq l.length l) :: P A l.length c s :: eV A c l :: L) M' → K (.slice A' (cq l.length l).length c') M') :
  ae Tryz.prog 61 #[.pointer (some ⟨b, o, none⟩)] M K Kp := by
 refine w5 ?_
 refine ai h ?_
 clear h; intro kb M h
 replace h : Hp R (P A l.length c s :: eV A c l :: pt kb [] 205 :: L) M := h.sub (by repeat (first | exact .refl | refine .cons (by repeat (first | exact .here | apply eB.there)) ?_ | apply Sub.drop))
 rw [D.VY _ _ _ _ _ _ _ h]
 refine aU ?_
 refine h.b6 g6 (k := kb) AI l (h.src (A := A)) rfl (by omega) ?_
 clear h; intro A1 c1 M h
 refine aU ?_
 refine ai h ?_
 clear h; intro kc M h
 refine ak h ?_
 clear h; intro M h
 refine ak h ?_
 clear h; intro M h
 have h0 := h.dz g6 205
 refine ⟨fun d vs M => ∃ (A' : Option Addr) (c' : Nat) (out l' : List aN), vs = [.slice A' out.length c'] ∧ d = l'.length ∧ l'.length + out.length = l.length ∧ out ++ cq l'.length l' = cq l.length l ∧
   Hp R (pt kc [.slice A1 l'.length c1, .int .u64 0] 162 :: eV A1 c1 l' :: eV A' c' out :: P A l.length c s :: eV A c l :: L) M, ⟨_, none, 0, [], l, rfl, rfl, rfl, rfl, h0.sub (by repeat (first | exact .refl | refine .cons (by repeat (first | exact .here | apply eB.there)) ?_ | apply Sub.drop))⟩, ?_⟩
 clear h h0
 rintro d _ A' n' c' M ⟨A2, c2, out, l', he, hd, VZ, e2, h⟩
 simp only [List.cons.injEq, Value.slice.injEq, and_true, true_and] at he
 obtain ⟨rfl, rfl, rfl⟩ := he
 refine ax h ?_
 refine aH.2 ⟨fun hgt => ?_, fun hle => ?_⟩
 ·refine zH pt_hdr h (i := 0) (by omega) (by omega) ?_
  clear h; intro M h
  refine ⟨_, _, _, rfl, ?_⟩
  refine ai h ?_
  clear h; intro kb2 M h
  refine h.aZ (A := A') AI [fx l' 0] rfl rfl (by simp only [List.length_singleton]; omega) ?_
  clear h; intro A3 c3 M h
  refine aU ?_
  have mN : (cS l' 0).length = l'.length - 1 := jx
  have hw : cq l'.length l' = fx l' 0 :: cq (cS l' 0).length (cS l' 0) := by
   obtain ⟨m, hm⟩ : ∃ m, l'.length = m + 1 := ⟨l'.length - 1, by omega⟩
   rw [mN, hm]
   show cq (m + 1) l' = _
   rw [iy]
   rw [if_pos (by omega)]; rfl
  rw [hw] at e2
  rw [← mN] at h
  exact ⟨_, by omega, A3, c3, out ++ [fx l' 0], cS l' 0, rfl, rfl, by simp; omega, by rw [List.append_assoc]; exact e2, h.sub (by repeat (first | exact .refl | refine .cons (by repeat (first | exact .here | apply eB.there)) ?_ | apply Sub.drop))⟩
 ·have hz : l'.length = 0 := by omega
  rw [hz] at e2
  have e3 : out = cq l.length l := by rw [← e2]; simp [cq]
  subst e3
  exact k _ _ _ (h.sub (by repeat (first | exact .refl | refine .cons (by repeat (first | exact .here | apply eB.there)) ?_ | apply Sub.drop)))
end
def cR (x : Wd) (k : Int) : Lk := x.aC.getD k.toNat ⟨-1, []⟩
def Wd.da (x : Wd) (k : Int) (c : Lk) : Wd := { x with aC := x.aC.set k.toNat c }
def Wd.lock (x : Wd) (g : Int) (i : bY) : Wd := if ((cR x i.a).take g).2 then x.da i.a ((cR x i.a).take g).1 else (x.da i.a ((cR x i.a).take g).1).block g i
def Wd.unlock (x : Wd) (g : Int) (i : bY) : Out Wd :=
 if ((cR x i.a).gR g).2.2 ≠ 0 then .dg (-3) (x.da i.a ((cR x i.a).gR g).1)
 else if ((cR x i.a).gR g).2.1 ≠ -1 then .on ((x.da i.a ((cR x i.a).gR g).1).eU ((cR x i.a).gR g).2.1) else .on (x.da i.a ((cR x i.a).gR g).1)
def Gq (x : Wd) (k : Int) : Prop := 0 ≤ k ∧ k < x.aC.length
instance (x : Wd) (k : Int) : Decidable (Gq x k) := by unfold Gq; infer_instance
def oH (x : Wd) (g : Int) (i : bY) : Prop := Gq x i.a ∧ (((cR x i.a).gR g).2.1 ≠ -1 → 0 ≤ ((cR x i.a).gR g).2.1 ∧ ((cR x i.a).gR g).2.1 < x.gs.length)
instance (x : Wd) (g : Int) (i : bY) : Decidable (oH x g i) := by unfold oH; infer_instance
def Wd.rand (x : Wd) (g : Int) (i : bY) : iz → Out Wd
 | .num d => .on ((x.next g).aV g i.a d)
 | .fR l => .fR l x
def gx (x : Wd) (g : Int) (i : bY) : Int := if 1048576 < aJ x g i.a then 1048576 else aJ x g i.a
def Wd.sleep (x : Wd) (g : Int) (i : bY) : Wd :=
 if 0 < gx x g i then { x.bp g { aa x g with st := 3 } with hl := kU x.hl ⟨IntKind.wrap .u64 (x.clock + IntKind.wrap .u64 (gx x g i)), x.di, g⟩, di := IntKind.wrap .u64 (x.di + 1) } else x
def Wd.tick (x : Wd) : Wd := if x.end_ ≠ 0 then { x with ready := [] } else
 let r := dM x.hl.length x.hl (IntKind.wrap .u64 (x.clock + 1))
 (r.2.map (·.id)).foldl Wd.eU { x with clock := IntKind.wrap .u64 (x.clock + 1), hl := r.1, ready := [] }
section
variable {R : Mem} {L L' L2 : List HP} {M : Mem} {K : Value → Mem → Prop} {Kp : List PanicEntry → Mem → Prop} {pa : PA} {p : cy} {gg : List GA} {dr : Value} {b : Nat} {x : Wd} {g : Int} {i : bY}
theorem X0 (hg : aW x g) (hb : aR i.b) : gJ R pa p dr 161 x g i (x.call g i) L L := by
 intro gg b bs c M K Kp Q h fN k
 refine uo ?_
 have Gj := hg
 obtain ⟨h0, h1, h2, h3⟩ := Gj
 unfold Wd.call at k
 refine ai h ?_
 clear h
 intro kb M h
 have hC := h
 have h' := iw h (b := b) h0 h1 fN
 clear h
 obtain ⟨a, gb, hl, gm, h⟩ := h'
 have hl' := hl
 obtain ⟨l1, l2, l3, l4⟩ := hl'
 repeat (first|(refine ai h ?_;clear h;intro kb M h)|(refine ak h ?_;clear h;intro M h)|refine St.to h ?_|(apply Exists.intro;(repeat apply Exists.intro);refine And.intro rfl ?_)|refine ay ?_|refine aq ?_|refine au ?_)
 refine vT h gm fun q hq => ?_
 repeat (first|(refine ai h ?_;clear h;intro kb M h)|(refine ak h ?_;clear h;intro M h)|refine St.to h ?_|(apply Exists.intro;(repeat apply Exists.intro);refine And.intro rfl ?_)|refine ay ?_|refine aq ?_|refine au ?_)
 refine ⟨hb.1, hb.2, xx h (bS h2) hb rfl ?_⟩
 repeat (first|(refine ai h ?_;clear h;intro kb M h)|(refine ak h ?_;clear h;intro M h)|refine St.to h ?_|(apply Exists.intro;(repeat apply Exists.intro);refine And.intro rfl ?_)|refine ay ?_|refine aq ?_|refine au ?_)
 refine Mu h h2 ?_ ?_
 ·intro mL
  rw [if_pos (by omega)] at k
  refine ⟨_, _, _, _, rfl, aq ?_⟩
  exact k _ _ (hC.sub bx)
 ·intro hlt b' c' M' h'
  clear h hC
  have h := h'
  clear h'
  rw [if_neg (by omega)] at k
  refine ⟨_, _, _, _, rfl, au ?_⟩
  repeat (first|(refine ai h ?_;clear h;intro kb M h)|(refine ak h ?_;clear h;intro M h)|refine St.to h ?_|(apply Exists.intro;(repeat apply Exists.intro);refine And.intro rfl ?_)|refine ay ?_|refine aq ?_|refine au ?_)
  refine vT h gm fun q2 Mx => ?_
  repeat (first|(refine ai h ?_;clear h;intro kb M h)|(refine ak h ?_;clear h;intro M h)|refine St.to h ?_|(apply Exists.intro;(repeat apply Exists.intro);refine And.intro rfl ?_)|refine ay ?_|refine aq ?_|refine au ?_)
  have hlen : (aa x g).fs.length + 1 = ((aa x g).fs ++ [(⟨i.a, 0, [aJ x g i.b, 0, 0, 0, 0, 0, 0, 0], i.c⟩ : eJ)]).length := by simp
  have h5 := oF (A := some ⟨b', 0, none⟩) (fs := (aa x g).fs ++ [⟨i.a, 0, [aJ x g i.b, 0, 0, 0, 0, 0, 0, 0], i.c⟩]) h gb hlen
  have hi := (List.getElem?_eq_some_iff.1 gm).1
  have h6 := h5.gM gj gb gm (by rw [List.length_zip]; omega)
  rw [Cg] at h6
  have dU : fS (gg.set g.toNat (some ⟨b', 0, none⟩, c')) a (x.bp g ⟨(aa x g).st, (aa x g).fs ++ [⟨i.a, 0, [aJ x g i.b, 0, 0, 0, 0, 0, 0, 0], i.c⟩], (aa x g).wt⟩) := ⟨by simpa [Wd.bp] using l1, by simpa [Wd.bp] using l2, l3, l4⟩
  have h7 := bq (a := a) (p := p) (pa := pa) (dr := dr) (gg := gg.set g.toNat (some ⟨b', 0, none⟩, c')) (x := x.bp g ⟨(aa x g).st, (aa x g).fs ++ [⟨i.a, 0, [aJ x g i.b, 0, 0, 0, 0, 0, 0, 0], i.c⟩], (aa x g).wt⟩) dU h6 b
  exact k _ _ (h7.sub bx)
theorem Od {a : WA} {k : Int} {c : Lk} (hl : fS gg a x) : fS gg a (x.da k c) := by
 obtain ⟨l1, l2, l3, l4⟩ := hl
 exact ⟨l1, l2, l3, by simpa [Wd.da] using l4⟩
theorem X1 (hg : aW x g) (hk : Gq x i.a) (hs : x.Sm) : gJ R pa p dr 169 x g i (.on (x.lock g i)) L L := by
 intro gg b bs c M K Kp Q h fN k
 refine uw ?_
 replace k : ∀ m9 M', Hp R (bl (bI pa p m9 dr) b (x.lock g i) :: Q :: L) M' → K (.tuple #[]) M' := k
 unfold Wd.lock at k
 obtain ⟨s1, s2, s3, s4, s5, s6, s7, s8⟩ := hs
 obtain ⟨k0, k1⟩ := hk
 refine ai h ?_
 clear h
 intro kb M h
 have h' := cV h (b := b)
 clear h
 obtain ⟨a, hl, h⟩ := h'
 have hl' := hl
 obtain ⟨l1, l2, l3, l4⟩ := hl'
 refine ax h (az h ⟨k0, by omega, ?_⟩)
 obtain ⟨lb, hlb⟩ := aL (l := a.lb) (i := i.a.toNat) (by omega)
 refine vT h hlb fun q hq => ?_
 obtain ⟨y, hy⟩ := aL (l := x.aC) (i := i.a.toNat) (by omega)
 have e : cR x i.a = y := by simp [cR, hy]
 rw [e] at k
 replace h := h.eG fh hlb hy
 refine Mv h (Nat.le_trans (s6 y (List.mem_of_getElem? hy)) (by decide)) ?_
 clear h; intro M h
 replace h := h.gM fh lb hlb (by omega)
 replace h := bq (a := a) (p := p) (pa := pa) (dr := dr) (gg := gg) (x := x.da i.a (y.take g).1) (Od hl) h b
 refine mU ?_
 cases ht : (y.take g).2 with
 | true =>
  rw [ht] at k
  simp only [if_true] at k
  refine au ?_
  exact k _ _ (h.sub bx)
 | false =>
  rw [ht] at k
  simp only [Bool.false_eq_true, if_false] at k
  refine aq ?_
  refine az h (az h (az h (az h ?_)))
  refine m7 (b := b) (i := i) h hg.1 (show g < (x.da i.a (y.take g).1).gs.length from hg.2.1) ?_
  clear h; intro M h
  exact ⟨rfl, k _ _ (h.sub bx)⟩
theorem Qd (hk : oH x g i) (hs : x.Sm) : gJ R pa p dr 170 x g i (x.unlock g i) L L := by
 intro gg b bs c M K Kp Q h fN k
 refine qw ?_
 unfold Wd.unlock at k
 obtain ⟨s1, s2, s3, s4, s5, s6, s7, s8⟩ := hs
 obtain ⟨⟨k0, k1⟩, hw⟩ := hk
 refine ai h ?_
 clear h
 intro kb M h
 have h' := cV h (b := b)
 clear h
 obtain ⟨a, hl, h⟩ := h'
 have hl' := hl
 obtain ⟨l1, l2, l3, l4⟩ := hl'
 refine ax h (az h ⟨k0, by omega, ?_⟩)
 obtain ⟨lb, hlb⟩ := aL (l := a.lb) (i := i.a.toNat) (by omega)
 refine vT h hlb fun q hq => ?_
 obtain ⟨y, hy⟩ := aL (l := x.aC) (i := i.a.toNat) (by omega)
 have e : cR x i.a = y := by simp [cR, hy]
 rw [e] at k hw
 replace h := h.eG fh hlb hy
 refine Mw h (Nat.le_trans (s6 y (List.mem_of_getElem? hy)) (by decide)) ?_
 clear h; intro M h
 replace h := h.gM fh lb hlb (by omega)
 replace h := bq (a := a) (p := p) (pa := pa) (dr := dr) (gg := gg) (x := x.da i.a (y.gR g).1) (Od hl) h b
 refine ⟨_, _, rfl, ?_⟩
 refine dJ.2 ⟨fun hn => ?_, fun hn => ?_⟩
 ·rw [if_pos hn] at k
  exact k _ _ (h.sub bx)
 rw [if_neg (by simpa using hn)] at k
 refine dJ.2 ⟨fun td => ?_, fun td => ?_⟩
 ·rw [if_pos td] at k
  obtain ⟨w0, w1⟩ := hw td
  refine jh (b := b) h w0 (show _ < ((x.da i.a (y.gR g).1).gs.length : Int) from w1) (by show x.ready.length ≤ _; omega) ?_
  clear h; intro M h
  exact ⟨rfl, k _ _ (h.sub bx)⟩
 ·rw [if_neg (by simpa using td)] at k
  exact k _ _ (h.sub bx)
theorem X2 : gJ R pa p dr 172 x g i (.dg i.a x) L L := by
 intro gg b bs c M K Kp Q h fN k
 refine uy ?_
 refine ai h ?_
 clear h
 intro kb M h
 refine az h ?_
 exact k _ _ (h.sub bx)
theorem UT : gJ R pa p dr 164 x g i (.on x) L L := by
 intro gg b bs c M K Kp Q h fN k
 refine rJ ?_
 refine ai h ?_
 clear h
 intro kb M h
 exact k _ _ (h.sub bx)
theorem X3 {d : iz} (hg : aW x g) (ha : aR i.a) (tH : 0 ≤ (aa x g).top.pc ∧ (aa x g).top.pc < 1000000000) (hd : iT R dr 4 i.b d L L2) : gJ R pa p dr 123 x g i (x.rand g i d) L L2 := by
 intro gg b bs c M K Kp Q h fN k
 refine uk ?_
 refine ai h ?_
 clear h
 intro kb M h
 have J6 : M.ld ⟨b, 0 + 14, none⟩ = some dr := by
  obtain ⟨a, hl, h9⟩ := cV h (b := b)
  exact cw h9
 rw [J6]
 refine RI (az h ?_)
 have h5 : Hp R (sep [bl (bI pa p gg dr) b x, pt kb [.int .i64 i.op, .int .i64 i.a, .int .i64 i.b, .int .i64 i.c] 34, Q] :: L) M := Hp.cW.2 (h.sub bx)
 refine hd _ _ _ _ h5 ?_
 clear h h5 J6
 cases d with
 | fR l =>
  dsimp only at k ⊢
  intro M h5
  have h : Hp R (bl (bI pa p gg dr) b x :: pt kb [.int .i64 i.op, .int .i64 i.a, .int .i64 i.b, .int .i64 i.c] 34 :: Q :: L2) M := Hp.cW.1 h5
  exact k _ _ (h.sub bx)
 | num v =>
  dsimp only at k ⊢
  intro M h5
  have h : Hp R (bl (bI pa p gg dr) b x :: pt kb [.int .i64 i.op, .int .i64 i.a, .int .i64 i.b, .int .i64 i.c] 34 :: Q :: L2) M := Hp.cW.1 h5
  clear h5
  refine ff ?_
  refine MK (b := b) h hg fN rfl ?_
  rw [jg tH.1 (by omega)]
  refine MJ (b := b) h hg fN rfl rfl ?_
  clear h; intro M h
  refine az h ⟨ha.1, ha.2, ?_⟩
  refine m8 (b := b) h (vV hg) fN ha (by rw [Gn hg]) ?_
  clear h; intro M h
  exact k _ _ (h.sub bx)
abbrev AJ (pa : PA) (p : cy) (dr : Value) (a : WA) (x : Wd) (nr : Nat) (A : Option Addr) (n c : Nat) (s : Int) : List Value :=
 [.slice pa.f p.funcs.length pa.fc, .slice pa.c p.dB.length pa.cc, .int .i64 p.aC, .slice pa.k p.cases.length pa.kc, .slice a.ag a.gb.length a.cg, .int .u64 x.clock,
  .slice a.ac a.cb.length a.cc, .slice a.al a.lb.length a.cl, .slice A n c, .int .u64 s, .slice a.ao x.out.length a.co, .int .i64 x.end_, .int .i64 x.code, .slice a.ar nr a.cr, dr]
theorem UU {a : WA} {nr T : Nat} : VX b (0 + 8) (fun A n c s => pt b (AJ pa p dr a x nr A n c s) T) :=
 ⟨fun R L M A n c s h => cw h, fun R L M A n c s h => cw h, fun R L M A A' n c n' c' s G h k => ak h k, fun R L M A n c s s' G h k => ak h k⟩
theorem UW (hg : aW x g) (ha : aR i.a) (hs : x.hl.length < 1000000) : gJ R pa p dr 168 x g i (.on (x.sleep g i)) L L := by
 intro gg b bs c M K Kp Q h fN k
 refine rK ?_
 replace k : ∀ m9 M', Hp R (bl (bI pa p m9 dr) b (x.sleep g i) :: Q :: L) M' → K (.tuple #[]) M' := k
 have Gj := hg
 obtain ⟨h0, h1, h2, h3⟩ := Gj
 unfold Wd.sleep at k
 refine ai h ?_
 clear h
 intro kb M h
 refine az h ⟨ha.1, ha.2, ?_⟩
 refine Jb (b := b) h hg fN ha rfl ?_
 have hC := h
 have h' := cV h (b := b)
 clear h
 obtain ⟨a, hl, h⟩ := h'
 have hl' := hl
 obtain ⟨l1, l2, l3, l4⟩ := hl'
 have e : (if (1048576 : Int) < aJ x g i.a then 1048576 else aJ x g i.a) = gx x g i := rfl
 rw [e]
 refine aH.2 ⟨fun hn => ?_, fun hn => ?_⟩
 ·rw [if_pos (by omega)] at k
  refine az h ?_
  clear hC
  replace h : Hp R (pt b (AJ pa p dr a x x.ready.length a.ah x.hl.length a.ch x.di) 164 :: eV a.ah a.ch x.hl :: cN gj a.gb (x.gs.zip gg) :: zD a.ag a.cg a.gb :: zE a.ac a.cc a.cb :: cN bL a.cb x.av :: zF a.al a.cl a.lb :: cN fh a.lb x.aC :: rf a.ao a.co x.out :: vS a.ar a.cr x.ready :: Q :: L) M := h.sub bx
  refine Qa (UU (a := a) (x := x)) h hs ?_
  clear h; intro v A' c' M h
  refine ff ?_
  have h9 : Hp R (bl (bI pa p gg dr) b { x with hl := kU x.hl ⟨IntKind.wrap .u64 (x.clock + IntKind.wrap .u64 (gx x g i)), x.di, g⟩, di := IntKind.wrap .u64 (x.di + 1) } :: Q :: L) M := by
   have := P8 (l := x.hl) (x := ⟨IntKind.wrap .u64 (x.clock + IntKind.wrap .u64 (gx x g i)), x.di, g⟩)
   rw [← this] at h
   exact kQ (a := { a with ah := A', ch := c' }) (x := { x with hl := kU x.hl ⟨IntKind.wrap .u64 (x.clock + IntKind.wrap .u64 (gx x g i)), x.di, g⟩, di := IntKind.wrap .u64 (x.di + 1) }) ⟨l1, l2, l3, l4⟩ (h.sub bx)
  clear h hl l1 l2 l3 l4
  have h := h9
  clear h9
  have h' := iw (x := { x with hl := kU x.hl ⟨IntKind.wrap .u64 (x.clock + IntKind.wrap .u64 (gx x g i)), x.di, g⟩, di := IntKind.wrap .u64 (x.di + 1) }) h (b := b) h0 h1 fN
  clear h
  obtain ⟨a2, gb, hl, gm, h⟩ := h'
  have hl' := hl
  obtain ⟨l1, l2, l3, l4⟩ := hl'
  refine ax h ⟨h0, by dsimp only at l1; omega, ?_⟩
  refine vT h gm fun q hq => ?_
  refine aT ?_
  refine ak h ?_
  clear h; intro M h
  replace h := dx h gb hl gm fN
  have dU := dV (y := { aa x g with st := 3 }) (g := g) hl
  replace h := bq (a := a2) (p := p) (pa := pa) (dr := dr) (gg := gg) (x := { x.bp g { aa x g with st := 3 } with hl := kU x.hl ⟨IntKind.wrap .u64 (x.clock + IntKind.wrap .u64 (gx x g i)), x.di, g⟩, di := IntKind.wrap .u64 (x.di + 1) }) dU h b
  exact k _ _ (h.sub bx)
 ·rw [if_neg (by omega)] at k
  exact k _ _ (hC.sub bx)
theorem X4 {l : List Int} : ∀ {x : Wd}, (l.foldl Wd.eU x).gs.length = x.gs.length := by
 induction l with
 | nil => intro x; rfl
 | cons a l ih => intro x; rw [List.foldl_cons, ih]; simp [Wd.eU, Wd.bp]
theorem ML {l : List Int} : ∀ {x : Wd}, (l.foldl Wd.eU x).ready = x.ready ++ l := by
 induction l with
 | nil => intro x; simp
 | cons a l ih => intro x; rw [List.foldl_cons, ih]; simp [Wd.eU]
theorem Cl (h : Hp R L M) [o : AG b L pa p x L'] (hs : x.hl.length ≤ 1000000) (hw : ∀ y ∈ (dM x.hl.length x.hl (IntKind.wrap .u64 (x.clock + 1))).2, 0 ≤ y.id ∧ y.id < x.gs.length)
  (k : ∀ R' A c M', R.le R' → RS bR R' A c x.tick.ready → Hp R' (bl (cK pa p) b x.tick :: L') M' → K (.slice A x.tick.ready.length c) M') :
  ae Tryz.prog 43 #[.pointer (some ⟨b, 0, none⟩)] M K Kp := by
 refine ug ?_
 have h' := dh h (b := b)
 clear h
 obtain ⟨a, gg, dr, n, hl, h⟩ := h'
 have hl' := hl
 obtain ⟨l1, l2, l3, l4⟩ := hl'
 unfold Wd.tick at k
 dsimp only at k
 refine az h ?_
 refine dJ.2 ⟨fun he => ?_, fun he => ?_⟩
 ·rw [if_pos he] at k
  exact k R none 0 M (Mem.le_refl _) (RS.nil _ _) (jV (a := a) (gg := gg) (dr := dr) (n := n) (x := { x with ready := [] }) hl h)
 rw [if_neg (by simpa using he)] at k
 refine az h ?_
 refine ak h ?_
 clear h; intro M h
 refine ak h ?_
 clear h; intro M h
 refine az h ?_
 replace h : Hp R (pt b (AJ pa p dr { a with ar := none, cr := 0 } { x with clock := IntKind.wrap .u64 (x.clock + 1) } 0 a.ah x.hl.length a.ch x.di) 164 :: eV a.ah a.ch x.hl :: cN gj a.gb (x.gs.zip gg) :: zD a.ag a.cg a.gb :: zE a.ac a.cc a.cb :: cN bL a.cb x.av :: zF a.al a.cl a.lb :: cN fh a.lb x.aC :: rf a.ao a.co x.out :: L') M := h.sub (by repeat (first | exact .refl | refine .cons (by repeat (first | exact .here | apply eB.there)) ?_ | apply Sub.drop))
 refine Qb (UU (a := { a with ar := none, cr := 0 }) (x := { x with clock := IntKind.wrap .u64 (x.clock + 1) })) h hs ?_
 clear h; intro A' c' M h
 have hlen : (dM x.hl.length x.hl (IntKind.wrap .u64 (x.clock + 1))).2.length ≤ x.hl.length := by
  have : ∀ (f : Nat) (l : List aN) (now : Int), (dM f l now).2.length ≤ f := by
   intro f
   induction f with
   | zero => intro l now; exact Nat.le_refl _
   | succ f ih =>
    intro l now; unfold dM; split
    ·have := ih (cS l 0) now; simp; exact this
    ·exact Nat.zero_le _
  exact this _ _ _
 generalize dM x.hl.length x.hl (IntKind.wrap .u64 (x.clock + 1)) = r at h k hw hlen
 refine aU ?_
 have h0 := h.dz bR 3
 have hW : Hp R (bl (bI pa p gg dr) b { x with clock := IntKind.wrap .u64 (x.clock + 1), hl := r.1, ready := [] } :: eV A' c' r.2 :: L') M :=
  kQ (a := { a with ar := none, cr := 0 }) (x := { x with clock := IntKind.wrap .u64 (x.clock + 1), hl := r.1, ready := [] }) ⟨l1, l2, l3, l4⟩ (h0.sub (by repeat (first | exact .refl | refine .cons (by repeat (first | exact .here | apply eB.there)) ?_ | apply Sub.drop)))
 clear h h0
 generalize AH : ({ x with clock := IntKind.wrap .u64 (x.clock + 1), hl := r.1, ready := [] } : Wd) = x1 at hW k
 have hgs : x1.gs.length = x.gs.length := by rw [← AH]
 have hrd : x1.ready = [] := by rw [← AH]
 refine ⟨fun d vs M => ∃ j : Nat, vs = [.int .i64 (j : Int)] ∧ d = r.2.length - j ∧ j ≤ r.2.length ∧ Hp R (bl (bI pa p gg dr) b (((r.2.take j).map (·.id)).foldl Wd.eU x1) :: eV A' c' r.2 :: L') M, ⟨_, 0, rfl, rfl, by omega, hW⟩, ?_⟩
 clear hW
 rintro d _ nn M ⟨j, Zl, hd, hj, h⟩
 simp only [List.cons.injEq, Value.int.injEq, and_true, true_and] at Zl
 subst Zl
 refine aH.2 ⟨fun hlt => ?_, fun hge => ?_⟩
 ·obtain ⟨w, hww⟩ := aL (l := r.2) (i := j) (by omega)
  have hwm := hw w (List.mem_of_getElem? hww)
  obtain ⟨q, rfl⟩ := h.bU (A := A') (by omega) (by decide)
  have hsr := h.src (A := some ⟨q, 0, none⟩)
  refine ⟨by omega, hlt, aT ?_⟩
  refine ni h hsr hww (by simp) (by simp) (by simp) ?_
  clear hsr
  refine ai h ?_
  clear h; intro kw M h
  refine ak h ?_
  clear h; intro M h
  refine ak h ?_
  clear h; intro M h
  refine ak h ?_
  clear h; intro M h
  refine az h ?_
  refine jh (b := b) h hwm.1 (by rw [X4, hgs]; exact hwm.2) (by rw [ML, hrd]; simp; omega) ?_
  clear h; intro M h
  refine ⟨rfl, r.2.length - (j + 1), by omega, j + 1, by rw [aS (by omega)], rfl, by omega, ?_⟩
  rw [dw hww, List.map_append, List.foldl_append]
  exact h.sub (by repeat (first | exact .refl | refine .cons (by repeat (first | exact .here | apply eB.there)) ?_ | apply Sub.drop))
 ·have KF : j = r.2.length := by omega
  subst KF
  rw [List.take_length] at h
  generalize hz : (r.2.map (·.id)).foldl Wd.eU x1 = z at h k
  have h' := cV h (b := b)
  clear h
  obtain ⟨a2, dU, h⟩ := h'
  refine ax h ?_
  obtain ⟨R', hle, bu, h6⟩ := h.bz a2.ar
  exact k R' _ _ _ hle bu (jV (a := a2) (n := z.ready.length) (gg := gg) (dr := dr) dU (h6.sub (by repeat (first | exact .refl | refine .cons (by repeat (first | exact .here | apply eB.there)) ?_ | apply Sub.drop))))
theorem Cm (h : Hp R L M) [o : AG b L pa p x L'] (hs : x.hl.length ≤ 1000000)
  (k : ∀ A c M', Hp R (eV A c (cq x.hl.length x.hl) :: bl (cK pa p) b x :: L') M' → K (.slice A (cq x.hl.length x.hl).length c) M') :
  ae Tryz.prog 24 #[.pointer (some ⟨b, 0, none⟩)] M K Kp := by
 refine oq ?_
 have h' := dh h (b := b)
 clear h
 obtain ⟨a, gg, dr, n, hl, h⟩ := h'
 replace h : Hp R (pt b (AJ pa p dr a x n a.ah x.hl.length a.ch x.di) 164 :: eV a.ah a.ch x.hl :: cN gj a.gb (x.gs.zip gg) :: zD a.ag a.cg a.gb :: zE a.ac a.cc a.cb :: cN bL a.cb x.av :: zF a.al a.cl a.lb :: cN fh a.lb x.aC :: rf a.ao a.co x.out :: L') M := h.sub bx
 refine Qc (UU (a := a) (x := x)) h hs ?_
 clear h; intro A' c' M h
 refine aU ?_
 have h2 : Hp R (pt b (pJ pa p dr a x n) 164 :: cN gj a.gb (x.gs.zip gg) :: vU a x (eV A' c' (cq x.hl.length x.hl) :: L')) M := h.sub bx
 have h3 := jV (a := a) (gg := gg) (dr := dr) (n := n) (x := x) hl h2
 exact k _ _ _ h3.swap
end
def xB (x : Wd) (g : Int) (i : bY) : Out (Wd × Bool) → Prop
 | .on (y, false) => aW y g ∧ (aa y g).fs.length = (aa x g).fs.length ∧ Cf y i.a
 | .on (_, true) => True
 | .dg _ _ => True
 | .fR _ _ => True
instance (x : Wd) (g : Int) (i : bY) (r : Out (Wd × Bool)) : Decidable (xB x g i r) := match r with
 | .on (y, false) => by unfold xB; infer_instance
 | .on (_, true) => isTrue trivial
 | .dg _ _ => isTrue trivial
 | .fR _ _ => isTrue trivial
theorem Qe {p : cy} {x : Wd} {g : Int} {i : bY} (h : aW x g ∧ aR i.b ∧ mA p x i.a (aJ x g i.b) ∧ xB x g i (x.put p i.a (aJ x g i.b))) : MA p x g i := by
 obtain ⟨h1, h2, h3, h4⟩ := h
 refine ⟨h1, h2, h3, ?_⟩
 generalize x.put p i.a (aJ x g i.b) = r at h4
 match r, h4 with
 | .on (y, false), h4 => exact h4
 | .on (y, true), _ => trivial
 | .dg _ _, _ => trivial
 | .fR _ _, _ => trivial
instance (x : Wd) (g : Int) (i : bY) : Decidable (yU x g i) := by unfold yU; infer_instance
instance (p : cy) (x : Wd) (i : bY) : Decidable (pI p x i) := by unfold pI; infer_instance
def Cn (p : cy) (x : Wd) (g : Int) (i : bY) (k : Int) : Prop :=
 let c := (aB p i).getD k.toNat ⟨0, 0, 0⟩
 let x1 := x.next g
 0 ≤ k ∧ k < (aB p i).length ∧ aR c.bH ∧
  if c.way = 1 then mA p x1 c.ch (aJ x1 g c.bH) ∧ (match x1.put p c.ch (aJ x1 g c.bH) with
   | .on (y, _) => aW y g ∧ (aa y g).fs.length = (aa x g).fs.length
   | _ => True)
  else pZ x1 c.ch ∧ aW (x1.get c.ch).1 g ∧ (aa (x1.get c.ch).1 g).fs.length = (aa x g).fs.length
instance (g : Int) (n : Nat) (r : Out (Wd × Bool)) : Decidable (match r with
   | .on (y, _) => aW y g ∧ (aa y g).fs.length = n
   | _ => True) := match r with
 | .on (y, _) => by dsimp only; infer_instance
 | .dg _ _ => isTrue trivial
 | .fR _ _ => isTrue trivial
instance (p : cy) (x : Wd) (g : Int) (i : bY) (k : Int) : Decidable (Cn p x g i k) := by unfold Cn; infer_instance
def oI (p : cy) (x : Wd) (g : Int) (i : bY) (d : iz) : Bool :=
 decide (aW x g ∧ ng p i ∧ aR i.c ∧ x.Sm ∧ (aa x g).top.pc < 1000000000 ∧ 0 ≤ (aa x g).top.pc ∧ (∀ c ∈ aB p i, c.Ok x.av.length)) &&
 (match d with
  | .fR _ => true
  | .num v => (enabled (aB p i) x.av).isEmpty || decide (0 ≤ v ∧ v < (enabled (aB p i) x.av).length ∧ Cn p x g i ((enabled (aB p i) x.av).getD v.toNat 0)))
theorem Jj {p : cy} {x : Wd} {g : Int} {i : bY} {d : iz} (h : oI p x g i d = true) : Ji p x g i d := by
 unfold oI at h
 rw [Bool.and_eq_true] at h
 obtain ⟨h1, h2⟩ := h
 obtain ⟨a1, a2, a3, a4, a5, a6, a7⟩ := of_decide_eq_true h1
 refine ⟨a1, a2, a3, a4, a5, a6, a7, ?_⟩
 cases d with
 | fR l => split <;> trivial
 | num v =>
  dsimp only at h2
  cases he : enabled (aB p i) x.av with
  | nil => trivial
  | cons q l =>
   rw [he] at h2
   rw [List.isEmpty_cons, Bool.false_or] at h2
   have h3 := of_decide_eq_true h2
   exact h3
def j7 (p : cy) (x : Wd) (g : Int) (i : bY) : Option (Out Wd) :=
 if i.op = 10 then (if aW x g ∧ aR i.a ∧ aR (aa x g).top.mu then some (.on (x.back g i)) else none)
 else if i.op = 11 then (if aW x g ∧ aR i.b ∧ aR i.c ∧ x.Sm then some (x.spawn g i) else none)
 else if i.op = 13 then (if (aW x g ∧ aR i.b ∧ mA p x i.a (aJ x g i.b) ∧ xB x g i (x.put p i.a (aJ x g i.b))) ∧ x.Sm then some (x.send p g i) else none)
 else if i.op = 14 then (if yU x g i ∧ x.Sm then some (.on (x.recv g i)) else none)
 else if i.op = 15 then (if pI p x i ∧ x.Sm then some (x.shut p i) else none)
 else if i.op = 20 then (if aW x g ∧ aR i.a ∧ x.Sm then some (x.emit g i) else none)
 else if i.op = 9 then (if aW x g ∧ aR i.b then some (x.call g i) else none)
 else if i.op = 12 then some (.on x)
 else if i.op = 17 then (if aW x g ∧ aR i.a ∧ x.hl.length < 1000000 then some (.on (x.sleep g i)) else none)
 else if i.op = 18 then (if aW x g ∧ Gq x i.a ∧ x.Sm then some (.on (x.lock g i)) else none)
 else if i.op = 19 then (if oH x g i ∧ x.Sm then some (x.unlock g i) else none)
 else if i.op = 22 then some (.dg i.a x)
 else none
def qd (p : cy) (x : Wd) (g : Int) : Option bY := match p.funcs[(aa x g).top.fn.toNat]? with
 | none => none
 | some code => code[(aa x g).top.pc.toNat]?
def jy (x : Wd) (g : Int) : Prop := 0 ≤ g ∧ g < x.gs.length ∧ x.end_ = 0 ∧ (aa x g).st = 1
instance (x : Wd) (g : Int) : Decidable (jy x g) := by unfold jy; infer_instance
def asks (p : cy) (x : Wd) (g : Int) : Option (Int × Int) :=
 if jy x g then match qd p x g with
  | none => none
  | some i => if i.op = 21 then some (4, i.b) else if i.op = 16 then (if enabled (aB p i) x.av = [] then none else some (3, (enabled (aB p i) x.av).length)) else none
 else none
def lC (p : cy) (x0 : Wd) (g : Int) (d : iz) : Option (Out Wd × Bool) :=
 let x := { x0 with ready := [] }
 if jy x g then
  if aW x g ∧ 0 ≤ (aa x g).top.fn ∧ 0 ≤ (aa x g).top.pc ∧ (aa x g).top.pc < 1000000000 then
   match p.funcs[(aa x g).top.fn.toNat]? with
   | none => none
   | some code => match code[(aa x g).top.pc.toNat]? with
    | none => some (.dg (-7) x, false)
    | some i =>
     if 0 ≤ i.op ∧ i.op ≤ 8 then (if i.cM then some (.on (x.bp g ((aa x g).bW ((aa x g).top.next.pure i))), false) else none)
     else if i.op = 16 then (if oI p x g i d = true then (if g < (x.choose p g i d).fin.gs.length then some (x.choose p g i d, false) else none) else none)
     else if i.op = 21 then (if aR i.a then (if g < (x.rand g i d).fin.gs.length then some (x.rand g i d, false) else none) else none)
     else match j7 p (x.next g) g i with
      | none => none
      | some r => if g < r.fin.gs.length then some (r, MG i.op r) else none
  else none
 else some (.on x, true)
def exec (p : cy) (x : Wd) (g : Int) (d : iz) : Option (Wd × Bool) := match lC p x g d with
 | some (.on y, rest) => some (y, mB y g rest)
 | some (.dg n y, rest) => some ({ y with end_ := 2, code := n }, mB { y with end_ := 2, code := n } g rest)
 | _ => none
section
variable {R : Mem} {L L' L2 : List HP} {M : Mem} {K : Value → Mem → Prop} {Kp : List PanicEntry → Mem → Prop} {pa : PA} {p : cy} {gg : List GA} {dr : Value} {b : Nat} {x : Wd} {g : Int}
theorem bM {α : Type} {c : Prop} [Decidable c] {a b : α} (h : (if c then some a else none) = some b) : c ∧ b = a := by
 split at h
 ·rename_i hc; cases h; exact ⟨hc, rfl⟩
 ·cases h
theorem Qf {i : bY} {r : Out Wd} (hp : oG R pa p) (h : j7 p x g i = some r) : ∃ fn, Dt wTab i.op = some (.func (.func fn) #[] #[]) ∧ (1 < fn ∧ fn < 228) ∧ i.op ≠ 16 ∧ i.op ≠ 21 ∧ 8 < i.op ∧ ∀ L, gJ R pa p dr fn x g i r L L := by
 unfold j7 at h
 by_cases e : i.op = 10
 ·rw [if_pos e] at h
  obtain ⟨hc, rfl⟩ := bM h
  exact ⟨162, by rw [e]; rfl, by decide, by omega, by omega, by omega, fun L => XV hc.1 hc.2.1 hc.2.2⟩
 rw [if_neg e] at h
 clear e
 by_cases e : i.op = 11
 ·rw [if_pos e] at h
  obtain ⟨hc, rfl⟩ := bM h
  exact ⟨163, by rw [e]; rfl, by decide, by omega, by omega, by omega, fun L => UN hc.1 hc.2.1 hc.2.2.1 hc.2.2.2⟩
 rw [if_neg e] at h
 clear e
 by_cases e : i.op = 13
 ·rw [if_pos e] at h
  obtain ⟨hc, rfl⟩ := bM h
  exact ⟨165, by rw [e]; rfl, by decide, by omega, by omega, by omega, fun L => XR hp (Qe hc.1) hc.2⟩
 rw [if_neg e] at h
 clear e
 by_cases e : i.op = 14
 ·rw [if_pos e] at h
  obtain ⟨hc, rfl⟩ := bM h
  exact ⟨166, by rw [e]; rfl, by decide, by omega, by omega, by omega, fun L => XS hc.1 hc.2⟩
 rw [if_neg e] at h
 clear e
 by_cases e : i.op = 15
 ·rw [if_pos e] at h
  obtain ⟨hc, rfl⟩ := bM h
  exact ⟨167, by rw [e]; rfl, by decide, by omega, by omega, by omega, fun L => XU hp hc.1 hc.2⟩
 rw [if_neg e] at h
 clear e
 by_cases e : i.op = 20
 ·rw [if_pos e] at h
  obtain ⟨hc, rfl⟩ := bM h
  exact ⟨171, by rw [e]; rfl, by decide, by omega, by omega, by omega, fun L => XT hc.1 hc.2.1 hc.2.2⟩
 rw [if_neg e] at h
 clear e
 by_cases e : i.op = 9
 ·rw [if_pos e] at h
  obtain ⟨hc, rfl⟩ := bM h
  exact ⟨161, by rw [e]; rfl, by decide, by omega, by omega, by omega, fun L => X0 hc.1 hc.2⟩
 rw [if_neg e] at h
 clear e
 by_cases e : i.op = 12
 ·rw [if_pos e] at h
  cases h
  exact ⟨164, by rw [e]; rfl, by decide, by omega, by omega, by omega, fun L => UT⟩
 rw [if_neg e] at h
 clear e
 by_cases e : i.op = 17
 ·rw [if_pos e] at h
  obtain ⟨hc, rfl⟩ := bM h
  exact ⟨168, by rw [e]; rfl, by decide, by omega, by omega, by omega, fun L => UW hc.1 hc.2.1 hc.2.2⟩
 rw [if_neg e] at h
 clear e
 by_cases e : i.op = 18
 ·rw [if_pos e] at h
  obtain ⟨hc, rfl⟩ := bM h
  exact ⟨169, by rw [e]; rfl, by decide, by omega, by omega, by omega, fun L => X1 hc.1 hc.2.1 hc.2.2⟩
 rw [if_neg e] at h
 clear e
 by_cases e : i.op = 19
 ·rw [if_pos e] at h
  obtain ⟨hc, rfl⟩ := bM h
  exact ⟨170, by rw [e]; rfl, by decide, by omega, by omega, by omega, fun L => Qd hc.1 hc.2⟩
 rw [if_neg e] at h
 clear e
 by_cases e : i.op = 22
 ·rw [if_pos e] at h
  cases h
  exact ⟨172, by rw [e]; rfl, by decide, by omega, by omega, by omega, fun L => X2⟩
 rw [if_neg e] at h
 clear e
 cases h
theorem MM {l : List Int} (h : Hp R (bl (cK pa p) b x :: L) M) : Hp R (bl (cK pa p) b { x with ready := l } :: L) M := by
 obtain ⟨a, gg, dr, n, hl, h⟩ := dh h (b := b)
 exact jV (a := a) (gg := gg) (dr := dr) (n := n) (x := { x with ready := l }) hl h
theorem iT.cons {kind n : Int} {d : iz} {Q : HP} (h : iT R dr kind n d L L2) : iT R dr kind n d (Q :: L) (Q :: L2) := by
 intro Q' M K Kp hM k
 refine h (sep [Q', Q]) M K Kp (Hp.cW.2 hM) ?_
 cases d with
 | num v => exact fun M' h' => k M' (Hp.cW.1 h')
 | fR l => exact fun M' h' => k M' (Hp.cW.1 h')
theorem tJ {d : iz} {r : Out Wd} {rest : Bool} (h : Hp R L M) [o : AG b L pa p x L'] (hp : oG R pa p) (J6 : ∃ f c d, dr = .func f c d) (he : lC p x g d = some (r, rest))
  (hd : match asks p { x with ready := [] } g with | none => L2 = L' | some (kd, n) => iT R dr kd n d L' L2) (k : pK R pa p b g L2 K Kp r rest) :
  ae Tryz.prog 41 #[.pointer (some ⟨b, 0, none⟩), .int .i64 g, dr] M K Kp := by
 unfold lC at he
 dsimp only at he
 split at he
 ·rename_i hg
  have Gj := hg
  obtain ⟨h0, h1, Em, Ag⟩ := Gj
  split at he
  ·rename_i tH
   obtain ⟨AK, hf0, hp0, hp1⟩ := tH
   split at he
   ·cases he
   ·rename_i code fZ
    have done : ∀ (r : Out Wd) (rest : Bool), pK R pa p b g L2 K Kp r rest → (∀ Q, Step R pa p dr { x with ready := [] } g code r rest (Q :: L') (Q :: L2)) → g < r.fin.gs.length → ae Tryz.prog 41 #[.pointer (some ⟨b, 0, none⟩), .int .i64 g, dr] M K Kp := by
     intro r rest k hs hl
     exact MH (x := x) h hp (show aW x g from AK) Em Ag hf0 fZ ⟨hp0, hp1⟩ J6 hs hl k
    have nI : ∀ i, code[(aa x g).top.pc.toNat]? = some i → asks p { x with ready := [] } g = if i.op = 21 then some (4, i.b) else if i.op = 16 then (if enabled (aB p i) x.av = [] then none else some (3, ((enabled (aB p i) x.av).length : Int))) else none := by
     intro i hi
     unfold asks
     rw [if_pos hg]
     unfold qd
     rw [show p.funcs[(aa { x with ready := [] } g).top.fn.toNat]? = some code from fZ]
     dsimp only
     rw [show code[(aa { x with ready := [] } g).top.pc.toNat]? = some i from hi]
    split at he
    ·rename_i hnone
     cases he
     have e : asks p { x with ready := [] } g = none := by
      unfold asks
      rw [if_pos hg]
      unfold qd
      rw [show p.funcs[(aa { x with ready := [] } g).top.fn.toNat]? = some code from fZ]
      dsimp only
      rw [hnone]
     rw [e] at hd
     dsimp only at hd
     subst hd
     refine done (.dg (-7) { x with ready := [] }) false k (fun Q => .out ?_) h1
     have := List.getElem?_eq_none_iff.1 hnone
     omega
    ·rename_i i hi
     have e := nI i hi
     rw [e] at hd
     clear e nI
     split at he
     ·rename_i h8
      split at he
      ·rename_i hok
       cases he
       rw [if_neg (by omega), if_neg (by omega)] at hd
       dsimp only at hd
       subst hd
       exact done (.on _) false k (fun Q => .pure i hi h8.1 h8.2 hok) (by simpa [Out.fin, Wd.bp] using h1)
      ·cases he
     split at he
     ·rename_i Gk
      split at he
      ·rename_i hok
       split at he
       ·rename_i hl
        cases he
        rw [if_neg (by omega), if_pos Gk] at hd
        refine done _ false k (fun Q => .Eg i hi Gk (P6 hp (Jj hok) ?_)) hl
        split at hd
        ·rename_i hq
         split at hq
         ·rename_i Mx
          rw [if_pos (by exact Mx), hd]
         ·cases hq
        ·rename_i kd n hq
         split at hq
         ·cases hq
         ·rename_i Mx
          cases hq
          rw [if_neg (by exact Mx)]
          exact hd.cons
       ·cases he
      ·cases he
     split at he
     ·rename_i UP
      split at he
      ·rename_i hok
       split at he
       ·rename_i hl
        cases he
        rw [if_pos UP] at hd
        exact done _ false k (fun Q => .rnd i hi UP (X3 AK hok ⟨hp0, hp1⟩ (iT.cons hd))) hl
       ·cases he
      ·cases he
     split at he
     ·cases he
     ·rename_i Gk UP _ r' hdd
      split at he
      ·rename_i hl
       cases he
       rw [if_neg UP, if_neg Gk] at hd
       dsimp only at hd
       subst hd
       obtain ⟨fn, f1, f2, f3, f4, f5, f6⟩ := Qf (R := R) (pa := pa) (dr := dr) hp hdd
       exact done _ _ k (fun Q => .dflt i fn hi f5 f3 f4 f1 f2 (f6 _)) hl
      ·cases he
  ·cases he
 ·rename_i hr
  cases he
  have e : asks p { x with ready := [] } g = none := by
   unfold asks
   rw [if_neg hr]
  rw [e] at hd
  dsimp only at hd
  subst hd
  refine lB ?_
  refine ai h ?_
  clear h
  intro kb M h
  have hC := h
  have h' := dh h (b := b)
  clear h
  obtain ⟨a, gg, dr0, n0, hl, h⟩ := h'
  have hl' := hl
  obtain ⟨l1, l2, l3, l4⟩ := hl'
  have fin : b7 M ⟨kb, 0, none⟩ (.bool false) fun qI => b7 qI ⟨kb, (0 + 1), none⟩ (.slice none 0 0) fun u7 =>
    dG (Mem.ld u7 ⟨kb, 0, none⟩) fun t36 => aF (Mem.ld u7 ⟨kb, (0 + 1), none⟩) fun z6 fB lH => K (.agg #[(.bool t36), (.slice z6 fB lH)]) u7 := by
   have h := hC
   clear hC
   refine ak h ?_
   clear h; intro M h
   refine ak h ?_
   clear h; intro M h
   refine me h (ax h ?_)
   have k2 := k R none 0 M (Mem.le_refl _) (RS.nil _ _) (MM (h.drop.pick o.pick))
   exact k2
  refine aH.2 ⟨fun hn => fin, fun h0 => ?_⟩
  refine ax h ?_
  refine aH.2 ⟨fun hn => fin, fun h1 => ?_⟩
  refine az h ?_
  refine dJ.2 ⟨fun hn => fin, fun he0 => ?_⟩
  refine ax h ?_
  refine ⟨by omega, by omega, ?_⟩
  obtain ⟨gb, gm⟩ := aL (l := a.gb) (i := g.toNat) (by omega)
  refine vT h gm fun q hq => ?_
  obtain ⟨ga, XW⟩ := aL (l := gg) (i := g.toNat) (by omega)
  obtain ⟨z, hy⟩ := aL (l := x.gs) (i := g.toNat) (by omega)
  have ey : aa x g = z := by simp [aa, hy]
  refine aT ?_
  have J7 : M.ld ⟨gb, 0, none⟩ = some (.int .i64 z.st) := by
   have h9 := mz (b := gb) (h.eG gj gm (m6 hy XW))
   exact cw h9
  rw [J7]
  refine ff ?_
  refine dJ.2 ⟨fun hn => fin, fun hn => ?_⟩
  exact absurd ⟨by omega, by show g < (x.gs.length : Int); omega, he0, by show (aa x g).st = 1; rw [ey]; exact hn⟩ hr
theorem UX {d : iz} {y : Wd} {kp : Bool} (h : Hp R L M) [o : AG b L pa p x L'] (hp : oG R pa p) (J6 : ∃ f c d, dr = .func f c d) (he : exec p x g d = some (y, kp))
  (hd : match asks p { x with ready := [] } g with | none => L2 = L' | some (kd, n) => iT R dr kd n d L' L2)
  (k : ∀ R' A c M', R.le R' → RS bR R' A c y.ready → Hp R' (bl (cK pa p) b y :: L2) M' → K (.agg #[.bool kp, .slice A y.ready.length c]) M') :
  ae Tryz.prog 41 #[.pointer (some ⟨b, 0, none⟩), .int .i64 g, dr] M K Kp := by
 unfold exec at he
 cases hr : lC p x g d with
 | none => rw [hr] at he; cases he
 | some q =>
  obtain ⟨r, rest⟩ := q
  rw [hr] at he
  cases r with
  | on z => cases he; exact tJ h hp J6 hr hd k
  | dg n z => cases he; exact tJ h hp J6 hr hd k
  | fR l z => cases he
end
theorem xC {b : Nat} : ∀ (n : Nat) (l : List Int), (∀ g ∈ l, 0 ≤ g ∧ g < (n : Int)) → (∀ g, l.count g ≤ b) → l.length ≤ b * n
 | 0, l, h, _ => by
  cases l with
  | nil => simp
  | cons a l => have := h a (by simp); omega
 | n + 1, l, h, hc => by
  have h1 : (l.filter (fun g => g != (n : Int))).length ≤ b * n := by
   refine xC n _ (fun g hg => ?_) (fun g => ?_)
   ·obtain ⟨hm, hne⟩ := List.mem_filter.1 hg
    have := h g hm
    simp at hne
    omega
   ·exact Nat.le_trans (List.Sublist.count_le _ List.filter_sublist) (hc g)
  have h2 : l.length = l.count (n : Int) + (l.filter (fun g => g != (n : Int))).length := by
   have := List.length_eq_countP_add_countP (l := l) (fun g => g == (n : Int))
   rw [this, List.count, List.countP_eq_length_filter (p := fun a => decide ¬(a == (n : Int)) = true)]
   congr 2
   apply List.filter_congr
   intro a _
   cases h : (a == (n : Int)) <;> simp_all
  have := hc (n : Int)
  rw [h2, Nat.mul_succ]; omega
theorem nj {α : Type} (f : α → Nat) : ∀ (l : List α) (k : Nat) (c d : α), l[k]? = some d → ((l.set k c).map f).sum + f d = (l.map f).sum + f c
 | [], k, c, d, h => by simp at h
 | a :: l, 0, c, d, h => by simp at h; subst h; simp; omega
 | a :: l, k + 1, c, d, h => by
  have := nj f l k c d (by simpa using h)
  simp only [List.set_cons_succ, List.map_cons, List.sum_cons]; omega
theorem Co {α : Type} (f : α → Nat) : ∀ (l : List α), (l.map f).sum = 0 → ∀ a ∈ l, f a = 0
 | [], _, a, h => by cases h
 | b :: l, hs, a, h => by
  simp only [List.map_cons, List.sum_cons] at hs
  rcases List.mem_cons.1 h with rfl | h
  ·omega
  ·exact Co f l (by omega) a h
theorem Cp {α : Type} (f : α → Nat) : ∀ (l : List α) (a : α), a ∈ l → f a ≤ (l.map f).sum
 | b :: l, a, h => by
  simp only [List.map_cons, List.sum_cons]
  rcases List.mem_cons.1 h with rfl | h
  ·omega
  ·have := Cp f l a h; omega
theorem sP {α : Type} (f : α → Nat) : ∀ (l : List α), (∀ a ∈ l, f a = 0) → (l.map f).sum = 0
 | [], _ => rfl
 | b :: l, h => by
  simp only [List.map_cons, List.sum_cons]
  rw [h b (by simp), sP f l fun a ha => h a (by simp [ha])]
def cX (c : aQ) : List Int := c.snd.map Wt.g ++ c.cH.map Wt.g
def cD (cs : List aQ) (g : Int) : Nat := (cs.map fun c => (cX c).count g).sum
def hG (ls : List Lk) (g : Int) : Nat := (ls.map fun l => l.waits.count g).sum
def Dv (hl : List aN) (g : Int) : Nat := (hl.map aN.id).count g
def oJ (x : Wd) (g : Int) : Prop := (∀ c ∈ x.av, g ∉ cX c) ∧ (∀ l ∈ x.aC, g ∉ l.waits) ∧ ∀ y ∈ x.hl, y.id ≠ g
theorem sQ {cs : List aQ} {g : Int} : cD cs g = 0 ↔ ∀ c ∈ cs, g ∉ cX c := by
 constructor
 ·intro h c hc
  exact List.count_eq_zero.1 (Co _ cs h c hc)
 ·intro h
  exact sP _ cs fun c hc => List.count_eq_zero.2 (h c hc)
theorem xD {ls : List Lk} {g : Int} : hG ls g = 0 ↔ ∀ l ∈ ls, g ∉ l.waits := by
 constructor
 ·intro h c hc
  exact List.count_eq_zero.1 (Co _ ls h c hc)
 ·intro h
  exact sP _ ls fun c hc => List.count_eq_zero.2 (h c hc)
def At (x : Wd) (g s : Int) : Prop := 0 ≤ g ∧ g < x.gs.length ∧ (aa x g).st = s
def iA (p : cy) (f : List bY) (i : bY) : Prop := 0 ≤ i.op ∧ i.op < 23 ∧ i.cM ∧ (i.op = 7 → 0 ≤ i.a ∧ i.a < f.length) ∧ (i.op = 8 → 0 ≤ i.b ∧ i.b < f.length) ∧
 (i.op = 9 ∨ i.op = 11 → 0 ≤ i.a ∧ i.a < p.funcs.length ∧ aR i.b ∧ aR i.c) ∧ (i.op = 10 ∨ i.op = 17 ∨ i.op = 20 ∨ i.op = 21 → aR i.a) ∧
 (i.op = 13 ∨ i.op = 14 ∨ i.op = 15 → 0 ≤ i.a ∧ i.a < p.dB.length) ∧ (i.op = 13 ∨ i.op = 14 → aR i.b) ∧ (i.op = 14 ∨ i.op = 16 → aR i.c) ∧
 (i.op = 16 → 0 ≤ i.a ∧ 1 ≤ i.b ∧ i.a + i.b ≤ p.cases.length) ∧ (i.op = 18 ∨ i.op = 19 → 0 ≤ i.a ∧ i.a < p.aC) ∧ (i.op = 21 → 1 ≤ i.b ∧ i.b < 1099511627776)
structure eK (p : cy) : Prop where
 f1 : 0 < p.funcs.length
 ch : p.dB.length ≤ 8
 lk : 0 ≤ p.aC ∧ p.aC ≤ 8
 cs : p.cases.length ≤ 32
 cas : ∀ c ∈ p.cases, c.Ok p.dB.length ∧ aR c.bH
 code : ∀ f ∈ p.funcs, 0 < f.length ∧ f.length ≤ 64 ∧ ∀ i ∈ f, iA p f i
def Jk (p : cy) (f : eJ) : Prop := 0 ≤ f.fn ∧ f.fn < p.funcs.length ∧ 0 ≤ f.pc ∧ f.pc ≤ 64 ∧ aR f.mu
structure qF (p : cy) (y : gG) : Prop where
 l1 : 0 < y.fs.length
 l2 : y.fs.length ≤ 16
 fr : ∀ f ∈ y.fs, Jk p f
 wt : y.st = 2 → ∃ f ∈ p.funcs, iA p f y.wt
 st : 1 ≤ y.st ∧ y.st ≤ 4
structure WV (p : cy) (x : Wd) : Prop where
 n1 : 0 < x.gs.length
 n2 : x.gs.length ≤ 100
 G7 : ∀ y ∈ x.gs, qF p y
 ch : x.av.length = p.dB.length
 lk : (x.aC.length : Int) = p.aC
 buf : ∀ c ∈ x.av, c.buf.length ≤ c.room ∧ c.room ≤ 16
 cH : ∀ c ∈ x.av, ∀ v ∈ c.cH, At x v.g 2 ∧ ((aa x v.g).wt.op = 14 ∨ (aa x v.g).wt.op = 16 ∧ 0 ≤ v.cs ∧ v.cs < (aa x v.g).wt.b)
 snd : ∀ c ∈ x.av, ∀ v ∈ c.snd, At x v.g 2 ∧ ((aa x v.g).wt.op = 13 ∨ (aa x v.g).wt.op = 16 ∧ 0 ≤ v.cs ∧ v.cs < (aa x v.g).wt.b)
 lw : ∀ l ∈ x.aC, ∀ g ∈ l.waits, At x g 2 ∧ (aa x g).wt.op = 18
 hl : ∀ y ∈ x.hl, At x y.id 3
 one : ∀ g, 0 ≤ g → (aa x g).wt.op ≠ 16 → cD x.av g + hG x.aC g ≤ 1
 Eg : ∀ g, cD x.av g ≤ 32
 h1 : ∀ g, Dv x.hl g ≤ 1
 out : x.out.length ≤ 1000
section
variable {p : cy} {x : Wd} {g : Int}
theorem WV.UY (h : WV p x) {c : aQ} (hc : c ∈ x.av) {q : Int} (hq : q ∈ cX c) : At x q 2 ∧ ((aa x q).wt.op = 13 ∨ (aa x q).wt.op = 14 ∨ (aa x q).wt.op = 16) := by
 unfold cX at hq
 rcases List.mem_append.1 hq with hq | hq
 ·obtain ⟨v, hv, rfl⟩ := List.mem_map.1 hq
  obtain ⟨a, b⟩ := h.snd c hc v hv
  exact ⟨a, by rcases b with b | b; exact .inl b; exact .inr (.inr b.1)⟩
 ·obtain ⟨v, hv, rfl⟩ := List.mem_map.1 hq
  obtain ⟨a, b⟩ := h.cH c hc v hv
  exact ⟨a, by rcases b with b | b; exact .inr (.inl b); exact .inr (.inr b.1)⟩
theorem WV.free (h : WV p x) (h2 : (aa x g).st ≠ 2) (h3 : (aa x g).st ≠ 3) : oJ x g :=
 ⟨fun c hc hg => h2 (h.UY hc hg).1.2.2, fun l hl hg => h2 (h.lw l hl g hg).1.2.2, fun y hy e => h3 (by have := (h.hl y hy).2.2; rwa [e] at this)⟩
theorem WV.Oe (h : WV p x) {c : aQ} (hc : c ∈ x.av) : (cX c).length ≤ 3200 := by
 have h1 := xC (b := 32) x.gs.length (cX c) (fun q hq => ⟨(h.UY hc hq).1.1, (h.UY hc hq).1.2.1⟩) (fun q => Nat.le_trans (Cp (fun c => (cX c).count q) x.av c hc) (h.Eg q))
 have := h.n2
 omega
theorem WV.Gr (h : WV p x) {l : Lk} (hl : l ∈ x.aC) : l.waits.length ≤ 100 := by
 have h1 := xC (b := 1) x.gs.length l.waits (fun q hq => ⟨(h.lw l hl q hq).1.1, (h.lw l hl q hq).1.2.1⟩) (fun q => by
  by_cases hq : q ∈ l.waits
  ·have := h.one q (h.lw l hl q hq).1.1 (by rw [(h.lw l hl q hq).2]; decide)
   have := Cp (fun l : Lk => l.waits.count q) x.aC l hl
   unfold hG at *
   omega
  ·rw [List.count_eq_zero.2 hq]; omega)
 have := h.n2
 omega
theorem WV.En (h : WV p x) : x.hl.length ≤ 100 := by
 have h1 := xC (b := 1) x.gs.length (x.hl.map aN.id) (fun q hq => by
  obtain ⟨y, hy, rfl⟩ := List.mem_map.1 hq
  exact ⟨(h.hl y hy).1, (h.hl y hy).2.1⟩) h.h1
 rw [List.length_map] at h1
 have := h.n2
 omega
theorem WV.sm (h : WV p x) (hp : eK p) (hr : x.ready.length ≤ 1000000) : x.Sm := by
 refine ⟨fun c hc => ?_, by have := h.ch; have := hp.ch; omega, by have := h.n2; omega, hr, by have := h.out; omega, fun l hl => by have := h.Gr hl; omega, by have := h.lk; have := hp.lk; omega, by have := h.En; omega⟩
 have h1 := h.Oe hc
 unfold cX at h1
 rw [List.length_append, List.length_map, List.length_map] at h1
 have := h.buf c hc
 exact ⟨by omega, by omega, by omega⟩
end
section
variable {p : cy} {x y : Wd} {g q k v : Int} {f : List bY} {i : bY}
theorem ji {z : gG} (hg : g < x.gs.length) (h0 : 0 ≤ g) : aa (x.bp g z) q = if q.toNat = g.toNat then z else aa x q := by
 unfold aa Wd.bp
 dsimp only
 by_cases e : q.toNat = g.toNat
 ·rw [if_pos e, e]
  simp [List.getD_eq_getElem?_getD, List.getElem?_set_self (show g.toNat < x.gs.length by omega)]
 ·rw [if_neg e, List.getD_eq_getElem?_getD, List.getD_eq_getElem?_getD, List.getElem?_set_ne (Ne.symm e)]
theorem yX (h0 : 0 ≤ g) (hg : g < x.gs.length) : aa x g ∈ x.gs := by
 unfold aa
 rw [List.getD_eq_getElem?_getD, List.getElem?_eq_getElem (by omega), Option.getD_some]
 exact List.getElem_mem _
theorem WV.congr (h : WV p x) (hl : y.gs.length = x.gs.length) (hst : ∀ q, (aa y q).st = (aa x q).st ∧ (aa y q).wt = (aa x q).wt) (hg : ∀ z ∈ y.gs, qF p z) (e1 : y.av = x.av) (e2 : y.aC = x.aC) (e3 : y.hl = x.hl) (e4 : y.out.length ≤ 1000) : WV p y := by
 have at_ : ∀ q s, At x q s → At y q s := fun q s ha => ⟨ha.1, by rw [hl]; exact ha.2.1, by rw [(hst q).1]; exact ha.2.2⟩
 refine ⟨by rw [hl]; exact h.n1, by rw [hl]; exact h.n2, hg, by rw [e1]; exact h.ch, by rw [e2]; exact h.lk, by rw [e1]; exact h.buf, ?_, ?_, ?_, ?_, ?_, by rw [e1]; exact h.Eg, by rw [e3]; exact h.h1, e4⟩
 ·intro c hc v hv
  rw [e1] at hc
  rw [(hst v.g).2]
  exact ⟨at_ _ _ (h.cH c hc v hv).1, (h.cH c hc v hv).2⟩
 ·intro c hc v hv
  rw [e1] at hc
  rw [(hst v.g).2]
  exact ⟨at_ _ _ (h.snd c hc v hv).1, (h.snd c hc v hv).2⟩
 ·intro l hl q hq
  rw [e2] at hl
  rw [(hst q).2]
  exact ⟨at_ _ _ (h.lw l hl q hq).1, (h.lw l hl q hq).2⟩
 ·intro z hz
  rw [e3] at hz
  exact at_ _ _ (h.hl z hz)
 ·intro q h0 hq
  rw [(hst q).2] at hq
  rw [e1, e2]
  exact h.one q h0 hq
theorem Cq {l : List gG} {n : Nat} {z w : gG} (h : w ∈ l.set n z) : w ∈ l ∨ w = z := List.mem_or_eq_of_mem_set h
theorem WV.bp (h : WV p x) (h0 : 0 ≤ g) (hg : g < x.gs.length) {z : gG} (hz : qF p z) (e1 : z.st = (aa x g).st) (e2 : z.wt = (aa x g).wt) : WV p (x.bp g z) := by
 refine h.congr (by simp [Wd.bp]) (fun q => ?_) (fun w hw => ?_) rfl rfl rfl h.out
 ·rw [ji hg h0]
  split
  ·rename_i e
   have : aa x q = aa x g := by unfold aa; rw [e]
   rw [this]; exact ⟨e1, e2⟩
  ·exact ⟨rfl, rfl⟩
 ·rcases Cq hw with hw | rfl
  ·exact h.G7 w hw
  ·exact hz
theorem WV.ready (h : WV p x) {r : List Int} : WV p { x with ready := r } := h.congr rfl (fun _ => ⟨rfl, rfl⟩) h.G7 rfl rfl rfl h.out
theorem WV.fin (h : WV p x) {e c : Int} : WV p { x with end_ := e, code := c } := h.congr rfl (fun _ => ⟨rfl, rfl⟩) h.G7 rfl rfl rfl h.out
theorem WV.Of (h : WV p x) (h0 : 0 ≤ g) (hg : g < x.gs.length) (hf : oJ x g) {z : gG} (hz : qF p z) : WV p (x.bp g z) := by
 have ne : ∀ q, 0 ≤ q → q ≠ g → aa (x.bp g z) q = aa x q := fun q q0 hq => by rw [ji hg h0, if_neg (by omega)]
 have at_ : ∀ q s, q ≠ g → At x q s → At (x.bp g z) q s := fun q s hq ha => ⟨ha.1, by simpa [Wd.bp] using ha.2.1, by rw [ne q ha.1 hq]; exact ha.2.2⟩
 refine ⟨by simpa [Wd.bp] using h.n1, by simpa [Wd.bp] using h.n2, fun w hw => ?_, h.ch, h.lk, h.buf, ?_, ?_, ?_, ?_, ?_, h.Eg, h.h1, h.out⟩
 ·rcases Cq hw with hw | rfl
  ·exact h.G7 w hw
  ·exact hz
 ·intro c hc v hv
  have hne : v.g ≠ g := fun e => hf.1 c hc (by rw [← e]; exact List.mem_append_right _ (List.mem_map.2 ⟨v, hv, rfl⟩))
  obtain ⟨a, b⟩ := h.cH c hc v hv
  rw [ne _ a.1 hne]
  exact ⟨at_ _ _ hne a, b⟩
 ·intro c hc v hv
  have hne : v.g ≠ g := fun e => hf.1 c hc (by rw [← e]; exact List.mem_append_left _ (List.mem_map.2 ⟨v, hv, rfl⟩))
  obtain ⟨a, b⟩ := h.snd c hc v hv
  rw [ne _ a.1 hne]
  exact ⟨at_ _ _ hne a, b⟩
 ·intro l hl q hq
  have hne : q ≠ g := fun e => hf.2.1 l hl (by rw [← e]; exact hq)
  obtain ⟨a, b⟩ := h.lw l hl q hq
  rw [ne _ a.1 hne]
  exact ⟨at_ _ _ hne a, b⟩
 ·intro w hw
  have hne : w.id ≠ g := hf.2.2 w hw
  exact at_ _ _ hne (h.hl w hw)
 ·intro q q0 hq
  by_cases e : q = g
  ·subst e
   have a := sQ.2 hf.1
   have b := xD.2 hf.2.1
   show cD x.av q + hG x.aC q ≤ 1
   omega
  ·rw [ne q q0 e] at hq
   exact h.one q q0 hq
theorem qF.UZ {z : gG} (h : qF p z) {s : Int} (h1 : s ≠ 2) (h2 : 1 ≤ s ∧ s ≤ 4) : qF p { z with st := s } := ⟨h.l1, h.l2, h.fr, fun e => absurd e h1, h2⟩
theorem WV.eU (h : WV p x) (h0 : 0 ≤ g) (hg : g < x.gs.length) (hf : oJ x g) : WV p (x.eU g) :=
 WV.ready (h.Of h0 hg hf ((h.G7 _ (yX h0 hg)).UZ (by decide) (by decide)))
theorem WV.block (h : WV p x) (ha : At x g 1) (hf : f ∈ p.funcs) (hi : iA p f i) : WV p (x.block g i) := by
 have hz := h.G7 _ (yX ha.1 ha.2.1)
 exact h.Of ha.1 ha.2.1 (h.free (by rw [ha.2.2]; decide) (by rw [ha.2.2]; decide)) ⟨hz.l1, hz.l2, hz.fr, fun _ => ⟨f, hf, hi⟩, by show (1 : Int) ≤ 2 ∧ (2 : Int) ≤ 4; decide⟩
theorem nk {α : Type} {l : List α} {n : Nat} {a b : α} (h : b ∈ l.set n a) : b ∈ l ∨ b = a := List.mem_or_eq_of_mem_set h
theorem WV.less (h : WV p x) {c c' : aQ} (hc : x.av[k.toNat]? = some c) (hb : c'.buf.length ≤ c'.room ∧ c'.room ≤ 16) (hr : ∀ v ∈ c'.cH, v ∈ c.cH) (hs : ∀ v ∈ c'.snd, v ∈ c.snd) (hn : ∀ q, (cX c').count q ≤ (cX c).count q) : WV p (x.bg k c') := by
 have hm : c ∈ x.av := List.mem_of_getElem? hc
 have U0 : ∀ q, cD (x.av.set k.toNat c') q ≤ cD x.av q := by
  intro q
  have := nj (fun c : aQ => (cX c).count q) x.av k.toNat c' c hc
  have := hn q
  unfold cD
  omega
 refine ⟨h.n1, h.n2, h.G7, by simpa [Wd.bg] using h.ch, h.lk, ?_, ?_, ?_, h.lw, h.hl, ?_, ?_, h.h1, h.out⟩
 ·intro d hd
  rcases nk hd with hd | rfl
  ·exact h.buf d hd
  ·exact hb
 ·intro d hd v hv
  rcases nk hd with hd | rfl
  ·exact h.cH d hd v hv
  ·exact h.cH c hm v (hr v hv)
 ·intro d hd v hv
  rcases nk hd with hd | rfl
  ·exact h.snd d hd v hv
  ·exact h.snd c hm v (hs v hv)
 ·intro q q0 hq
  have := h.one q q0 hq
  have := U0 q
  show cD (x.av.set k.toNat c') q + hG x.aC q ≤ 1
  omega
 ·intro q
  exact Nat.le_trans (U0 q) (h.Eg q)
theorem WV.more (h : WV p x) {c c' : aQ} {w : Wt} (hc : x.av[k.toNat]? = some c) (hb : c'.buf.length ≤ c'.room ∧ c'.room ≤ 16)
  (hr : ∀ v ∈ c'.cH, v ∈ c.cH ∨ v = w ∧ At x w.g 2 ∧ ((aa x w.g).wt.op = 14 ∨ (aa x w.g).wt.op = 16 ∧ 0 ≤ w.cs ∧ w.cs < (aa x w.g).wt.b))
  (hs : ∀ v ∈ c'.snd, v ∈ c.snd ∨ v = w ∧ At x w.g 2 ∧ ((aa x w.g).wt.op = 13 ∨ (aa x w.g).wt.op = 16 ∧ 0 ≤ w.cs ∧ w.cs < (aa x w.g).wt.b))
  (hn : ∀ q, (cX c').count q ≤ (cX c).count q + (if q = w.g then 1 else 0)) (hz : (aa x w.g).wt.op ≠ 16 → cD x.av w.g + hG x.aC w.g = 0) (h32 : cD x.av w.g < 32) : WV p (x.bg k c') := by
 have hm : c ∈ x.av := List.mem_of_getElem? hc
 have U0 : ∀ q, cD (x.av.set k.toNat c') q ≤ cD x.av q + (if q = w.g then 1 else 0) := by
  intro q
  have := nj (fun c : aQ => (cX c).count q) x.av k.toNat c' c hc
  have := hn q
  unfold cD
  omega
 refine ⟨h.n1, h.n2, h.G7, by simpa [Wd.bg] using h.ch, h.lk, ?_, ?_, ?_, h.lw, h.hl, ?_, ?_, h.h1, h.out⟩
 ·intro d hd
  rcases nk hd with hd | rfl
  ·exact h.buf d hd
  ·exact hb
 ·intro d hd v hv
  rcases nk hd with hd | rfl
  ·exact h.cH d hd v hv
  ·rcases hr v hv with hv | ⟨rfl, hv⟩
   ·exact h.cH c hm v hv
   ·exact hv
 ·intro d hd v hv
  rcases nk hd with hd | rfl
  ·exact h.snd d hd v hv
  ·rcases hs v hv with hv | ⟨rfl, hv⟩
   ·exact h.snd c hm v hv
   ·exact hv
 ·intro q q0 hq
  have a := U0 q
  show cD (x.av.set k.toNat c') q + hG x.aC q ≤ 1
  by_cases e : q = w.g
  ·subst e
   have := hz hq
   rw [if_pos rfl] at a
   omega
  ·have := h.one q q0 hq
   rw [if_neg e] at a
   omega
 ·intro q
  have a := U0 q
  show cD (x.av.set k.toNat c') q ≤ 32
  by_cases e : q = w.g
  ·subst e
   rw [if_pos rfl] at a
   omega
  ·have := h.Eg q
   rw [if_neg e] at a
   omega
end
section
variable {p : cy} {x y : Wd} {g q k n : Int} {f : List bY} {i : bY} {v : Wt}
theorem U1 {α : Type} (f g : α → Nat) : ∀ (l : List α), (∀ a ∈ l, f a ≤ g a) → (l.map f).sum ≤ (l.map g).sum
 | [], _ => Nat.le_refl _
 | b :: l, h => by
  simp only [List.map_cons, List.sum_cons]
  have := h b (by simp)
  have := U1 f g l fun a ha => h a (by simp [ha])
  omega
theorem Cr (c : aQ) : cX (c.drop g) = (cX c).filter (fun q => q != g) := by
 unfold cX aQ.drop wo
 simp only [List.filter_append, List.filter_map]
 rfl
theorem Jl (cs : List aQ) (q : Int) : cD (cs.map fun c => c.drop g) q ≤ cD cs q := by
 unfold cD
 rw [List.map_map]
 refine U1 _ _ cs fun c _ => ?_
 show (cX (c.drop g)).count q ≤ _
 rw [Cr]
 exact List.Sublist.count_le _ List.filter_sublist
theorem WV.leave (h : WV p x) : WV p (x.leave g) := by
 refine ⟨h.n1, h.n2, h.G7, by simpa [Wd.leave] using h.ch, h.lk, ?_, ?_, ?_, h.lw, h.hl, ?_, ?_, h.h1, h.out⟩
 ·intro d hd
  obtain ⟨c, hc, rfl⟩ := List.mem_map.1 hd
  exact h.buf c hc
 ·intro d hd v hv
  obtain ⟨c, hc, rfl⟩ := List.mem_map.1 hd
  exact h.cH c hc v (List.mem_filter.1 hv).1
 ·intro d hd v hv
  obtain ⟨c, hc, rfl⟩ := List.mem_map.1 hd
  exact h.snd c hc v (List.mem_filter.1 hv).1
 ·intro q q0 hq
  have := Jl (g := g) x.av q
  have := h.one q q0 hq
  show cD (x.av.map fun c => c.drop g) q + hG x.aC q ≤ 1
  omega
 ·intro q
  exact Nat.le_trans (Jl x.av q) (h.Eg q)
theorem MN (h : WV p x) (h3 : (aa x g).wt.op ≠ 18) (h2 : (aa x g).st = 2) : oJ (x.leave g) g := by
 refine ⟨fun d hd hg => ?_, fun l hl hg => h3 (h.lw l hl g hg).2, fun w hw e => ?_⟩
 ·obtain ⟨c, hc, rfl⟩ := List.mem_map.1 hd
  rw [Cr] at hg
  have := (List.mem_filter.1 hg).2
  simp at this
 ·have := (h.hl w hw).2.2
  rw [e, h2] at this
  cases this
theorem Jk.set {r : eJ} (h : Jk p r) (q v : Int) : Jk p (r.set q v) := h
theorem qF.bW {z : gG} (h : qF p z) {r : eJ} (hr : Jk p r) : qF p (z.bW r) :=
 ⟨by simpa [gG.bW] using h.l1, by simpa [gG.bW] using h.l2, fun f hf => by
  rcases List.mem_or_eq_of_mem_set hf with hf | rfl
  ·exact h.fr f hf
  ·exact hr, h.wt, h.st⟩
theorem qF.top {z : gG} (h : qF p z) : Jk p z.top := by
 unfold gG.top
 have := h.l1
 rw [List.getD_eq_getElem?_getD, List.getElem?_eq_getElem (by omega), Option.getD_some]
 exact h.fr _ (List.getElem_mem _)
theorem WV.iF (h : WV p x) (h0 : 0 ≤ g) (hg : g < x.gs.length) : qF p (aa x g) := h.G7 _ (yX h0 hg)
theorem WV.aV (h : WV p x) (h0 : 0 ≤ g) (hg : g < x.gs.length) : WV p (x.aV g q n) :=
 h.bp h0 hg ((h.iF h0 hg).bW ((h.iF h0 hg).top.set q n)) rfl rfl
theorem tK (h0 : 0 ≤ g) (hg : g < x.gs.length) {m : Int} : (aa (x.aV g q n) m).st = (aa x m).st ∧ (aa (x.aV g q n) m).wt = (aa x m).wt ∧ (aa (x.aV g q n) m).fs.length = (aa x m).fs.length := by
 unfold Wd.aV
 rw [ji hg h0]
 split
 ·rename_i e
  have : aa x m = aa x g := by unfold aa; rw [e]
  rw [this]
  exact ⟨rfl, rfl, by simp [gG.bW]⟩
 ·exact ⟨rfl, rfl, rfl⟩
theorem oK (h0 : 0 ≤ g) (hg : g < x.gs.length) {m : Int} (h1 : 0 ≤ m) (hne : m ≠ g) : aa (x.aV g q n) m = aa x m := by
 unfold Wd.aV
 rw [ji hg h0, if_neg (by omega)]
theorem WV.aW (h : WV p x) (h0 : 0 ≤ g) (hg : g < x.gs.length) : aW x g := ⟨h0, hg, (h.iF h0 hg).l1, by have := (h.iF h0 hg).l2; omega⟩
theorem Qg (hp : eK p) {a : Int} (h0 : 0 ≤ a) (h1 : a < p.cases.length) : mw p a ∈ p.cases := by
 unfold mw
 rw [List.getD_eq_getElem?_getD, List.getElem?_eq_getElem (by omega), Option.getD_some]
 exact List.getElem_mem _
theorem WV.lA (h : WV p x) (hp : eK p) (ha : At x v.g 2) (hw : (aa x v.g).wt.op = 14 ∨ (aa x v.g).wt.op = 16 ∧ 0 ≤ v.cs ∧ v.cs < (aa x v.g).wt.b) : lA p x v := by
 refine ⟨h.aW ha.1 ha.2.1, ?_⟩
 obtain ⟨f, hf, hi⟩ := (h.iF ha.1 ha.2.1).wt ha.2.2
 obtain ⟨_, _, _, _, _, _, _, _, i13, i14, i16, _⟩ := hi
 split
 ·rename_i e
  rcases hw with hw | ⟨_, c0, c1⟩
  ·rw [e] at hw; cases hw
  ·obtain ⟨a0, a1, a2⟩ := i16 e
   refine ⟨by omega, by omega, by have := hp.cs; omega, (hp.cas _ (Qg hp (by omega) (by omega))).2, i14 (.inr e)⟩
 ·rename_i e
  rcases hw with hw | ⟨hw, _⟩
  ·exact ⟨i13 (.inr hw), i14 (.inl hw)⟩
  ·exact absurd hw e
theorem WV.u5 (h : WV p x) (ha : At x v.g 2) : u5 x v := by
 refine ⟨h.aW ha.1 ha.2.1, fun e => ?_⟩
 obtain ⟨f, hf, hi⟩ := (h.iF ha.1 ha.2.1).wt ha.2.2
 obtain ⟨_, _, _, _, _, _, _, _, _, i14, _⟩ := hi
 exact i14 (.inr e)
theorem oJ.bH (h : oJ x g) : oJ (x.aV q k n) g := h
theorem cj {m : Int} : (x.aV g q m).gs.length = x.gs.length := by simp [Wd.aV, Wd.bp]
theorem oL : (x.eU g).gs.length = x.gs.length := by simp [Wd.eU, Wd.bp]
theorem tL (h0 : 0 ≤ g) (hg : g < x.gs.length) {m : Int} (h1 : 0 ≤ m) (hne : m ≠ g) : aa (x.eU g) m = aa x m := by
 show aa (x.bp g _) m = _
 rw [ji hg h0, if_neg (by omega)]
theorem xE (h0 : 0 ≤ g) (hg : g < x.gs.length) : (aa (x.eU g) g).st = 1 := by
 show (aa (x.bp g _) g).st = _
 rw [ji hg h0, if_pos rfl]
theorem WV.cU (h : WV p x) (ha : At x g 2) (QV : (aa x g).wt.op ≠ 18) : WV p (x.cU g k) ∧ oJ (x.cU g k) g := by
 obtain ⟨h0, hg, h2⟩ := ha
 unfold Wd.cU
 have r2 := h.aV (q := (aa x g).wt.c) (n := k) h0 hg
 have e2 := tK (x := x) (q := (aa x g).wt.c) (n := k) h0 hg (m := g)
 exact ⟨r2.leave, MN r2 (by rw [e2.2.1]; exact QV) (by rw [e2.1]; exact h2)⟩
theorem hH : (x.cU g k).gs.length = x.gs.length := by simp [Wd.cU, Wd.leave, cj]
theorem Eo (h0 : 0 ≤ g) (hg : g < x.gs.length) {m : Int} (h1 : 0 ≤ m) (hne : m ≠ g) : aa (x.cU g k) m = aa x m := by
 show aa (x.aV g _ _) m = _
 exact oK h0 hg h1 hne
theorem WV.received (h : WV p x) (ha : At x v.g 2) (QV : (aa x v.g).wt.op ≠ 18) (hf : (aa x v.g).wt.op ≠ 16 → oJ x v.g) {s : Int} : WV p (x.received p v s) := by
 have ha' := ha
 obtain ⟨h0, hg, h2⟩ := ha'
 unfold Wd.received
 dsimp only
 split
 ·have r1 := h.aV (q := (mw p ((aa x v.g).wt.a + v.cs)).bH) (n := v.v) h0 hg
  have e1 := tK (x := x) (q := (mw p ((aa x v.g).wt.a + v.cs)).bH) (n := v.v) h0 hg (m := v.g)
  have l1 := cj (x := x) (g := v.g) (q := (mw p ((aa x v.g).wt.a + v.cs)).bH) (m := v.v)
  obtain ⟨r2, f2⟩ := r1.cU (k := v.cs) ⟨h0, by rw [l1]; exact hg, by rw [e1.1]; exact h2⟩ (by rw [e1.2.1]; exact QV)
  exact r2.eU h0 (by rw [hH, l1]; exact hg) f2
 ·rename_i e
  have r1 := h.aV (q := (aa x v.g).wt.b) (n := v.v) h0 hg
  have r2 := r1.aV (g := v.g) (q := (aa x v.g).wt.c) (n := s) h0 (by rw [cj]; exact hg)
  exact r2.eU h0 (by rw [cj, cj]; exact hg) (hf e)
theorem pM {s : Int} : (x.received p v s).gs.length = x.gs.length := by
 unfold Wd.received
 dsimp only
 split
 ·rw [oL, hH, cj]
 ·rw [oL, cj, cj]
theorem zI (h0 : 0 ≤ v.g) (hg : v.g < x.gs.length) {s m : Int} (h1 : 0 ≤ m) (hne : m ≠ v.g) : aa (x.received p v s) m = aa x m := by
 unfold Wd.received
 dsimp only
 split
 ·rw [tL h0 (by rw [hH, cj]; exact hg) h1 hne, Eo h0 (by rw [cj]; exact hg) h1 hne, oK h0 hg h1 hne]
 ·rw [tL h0 (by rw [cj, cj]; exact hg) h1 hne, oK h0 (by rw [cj]; exact hg) h1 hne, oK h0 hg h1 hne]
theorem nm (h0 : 0 ≤ v.g) (hg : v.g < x.gs.length) {s : Int} : (aa (x.received p v s) v.g).st = 1 ∧ (x.received p v s).ready = x.ready ++ [v.g] := by
 unfold Wd.received
 dsimp only
 split
 ·exact ⟨xE h0 (by rw [hH, cj]; exact hg), rfl⟩
 ·exact ⟨xE h0 (by rw [cj, cj]; exact hg), rfl⟩
theorem WV.sent (h : WV p x) (ha : At x v.g 2) (QV : (aa x v.g).wt.op ≠ 18) (hf : (aa x v.g).wt.op ≠ 16 → oJ x v.g) : WV p (x.sent v) := by
 have ha' := ha
 obtain ⟨h0, hg, h2⟩ := ha'
 unfold Wd.sent
 split
 ·obtain ⟨r2, f2⟩ := h.cU (k := v.cs) ha QV
  exact r2.eU h0 (by rw [hH]; exact hg) f2
 ·rename_i e
  exact h.eU h0 hg (hf e)
theorem U2 : (x.sent v).gs.length = x.gs.length := by
 unfold Wd.sent
 split
 ·rw [oL, hH]
 ·rw [oL]
theorem X5 (h0 : 0 ≤ v.g) (hg : v.g < x.gs.length) {m : Int} (h1 : 0 ≤ m) (hne : m ≠ v.g) : aa (x.sent v) m = aa x m := by
 unfold Wd.sent
 split
 ·rw [tL h0 (by rw [hH]; exact hg) h1 hne, Eo h0 hg h1 hne]
 ·rw [tL h0 hg h1 hne]
theorem Og (h0 : 0 ≤ v.g) (hg : v.g < x.gs.length) : (aa (x.sent v) v.g).st = 1 ∧ (x.sent v).ready = x.ready ++ [v.g] := by
 unfold Wd.sent
 split
 ·exact ⟨xE h0 (by rw [hH]; exact hg), rfl⟩
 ·exact ⟨xE h0 hg, rfl⟩
theorem Ep (hk : nF x k) : ∃ c, x.av[k.toNat]? = some c ∧ aX x.av k = c := by
 obtain ⟨k0, k1⟩ := hk
 obtain ⟨c, hc⟩ := aL (l := x.av) (i := k.toNat) (by omega)
 exact ⟨c, hc, by simp [aX, hc]⟩
theorem AM (h : WV p x) {c c' : aQ} (hc : x.av[k.toNat]? = some c) (h0 : 0 ≤ g) (h2 : (aa x g).st = 2) (mL : (aa x g).wt.op ≠ 16) (hn : (cX c').count g + 1 ≤ (cX c).count g) : oJ (x.bg k c') g := by
 have a := h.one g h0 mL
 have b := nj (fun c : aQ => (cX c).count g) x.av k.toNat c' c hc
 have e1 : cD (x.av.set k.toNat c') g = 0 := by unfold cD at *; omega
 have e2 : hG x.aC g = 0 := by
  have := Cp (fun c : aQ => (cX c).count g) x.av c (List.mem_of_getElem? hc)
  unfold cD at a
  omega
 refine ⟨sQ.1 e1, xD.1 e2, fun w hw e => ?_⟩
 have := (h.hl w hw).2.2
 rw [e, h2] at this
 cases this
end
def Wk (x y : Wd) : Prop := y.gs.length = x.gs.length ∧ ∃ l : List Int, y.ready = x.ready ++ l ∧ l.Nodup ∧ (∀ q ∈ l, 0 ≤ q ∧ q < x.gs.length ∧ (aa x q).st ≠ 1 ∧ (aa y q).st = 1) ∧ ∀ q, 0 ≤ q → q ∉ l → aa y q = aa x q
section
variable {p : cy} {x y z : Wd} {g q k n : Int} {f : List bY} {i : bY} {v : Wt}
theorem Wk.refl (x : Wd) : Wk x x := ⟨rfl, [], by simp, List.nodup_nil, (fun q h => by cases h), fun q _ _ => rfl⟩
theorem Wk.same (h1 : y.gs = x.gs) (h2 : y.ready = x.ready) : Wk x y := ⟨by rw [h1], [], by simp [h2], List.nodup_nil, fun q h => by (cases h), fun q _ _ => by unfold aa; rw [h1]⟩
theorem Wk.trans (h : Wk x y) (h' : Wk y z) : Wk x z := by
 obtain ⟨a1, l, a2, a3, a4, a5⟩ := h
 obtain ⟨b1, m, b2, b3, b4, b5⟩ := h'
 refine ⟨by rw [b1, a1], l ++ m, by rw [b2, a2, List.append_assoc], ?_, ?_, ?_⟩
 ·refine List.nodup_append.2 ⟨a3, b3, fun q hq r hr e => ?_⟩
  subst e
  exact (b4 q hr).2.2.1 (a4 q hq).2.2.2
 ·intro q hq
  rcases List.mem_append.1 hq with hq | hq
  ·obtain ⟨c1, c2, c3, c4⟩ := a4 q hq
   refine ⟨c1, c2, c3, ?_⟩
   by_cases hm : q ∈ m
   ·exact (b4 q hm).2.2.2
   ·rw [b5 q c1 hm]; exact c4
  ·obtain ⟨c1, c2, c3, c4⟩ := b4 q hq
   by_cases hl : q ∈ l
   ·exact absurd (a4 q hl).2.2.2 c3
   ·exact ⟨c1, by rw [← a1]; exact c2, by rw [← a5 q c1 hl]; exact c3, c4⟩
 ·intro q q0 hq
  rw [List.mem_append] at hq
  rw [b5 q q0 (fun h => hq (.inr h)), a5 q q0 (fun h => hq (.inl h))]
theorem Wk.keep (h : Wk x y) (h0 : 0 ≤ q) (h1 : (aa x q).st = 1) : aa y q = aa x q := by
 obtain ⟨_, l, _, _, a4, a5⟩ := h
 exact a5 q h0 fun hq => (a4 q hq).2.2.1 h1
theorem Wk.received (h0 : 0 ≤ v.g) (hg : v.g < x.gs.length) (h1 : (aa x v.g).st ≠ 1) {s : Int} : Wk x (x.received p v s) :=
 ⟨pM, [v.g], (nm h0 hg).2, by simp, fun q hq => by
  simp only [List.mem_singleton] at hq; subst hq
  exact ⟨h0, hg, h1, (nm h0 hg).1⟩, fun q q0 hq => zI h0 hg q0 (by simpa using hq)⟩
theorem Wk.sent (h0 : 0 ≤ v.g) (hg : v.g < x.gs.length) (h1 : (aa x v.g).st ≠ 1) : Wk x (x.sent v) :=
 ⟨U2, [v.g], (Og h0 hg).2, by simp, fun q hq => by
  simp only [List.mem_singleton] at hq; subst hq
  exact ⟨h0, hg, h1, (Og h0 hg).1⟩, fun q q0 hq => X5 h0 hg q0 (by simpa using hq)⟩
theorem Wk.eU (h0 : 0 ≤ g) (hg : g < x.gs.length) (h1 : (aa x g).st ≠ 1) : Wk x (x.eU g) :=
 ⟨oL, [g], rfl, by simp, fun q hq => by
  simp only [List.mem_singleton] at hq; subst hq
  exact ⟨h0, hg, h1, xE h0 hg⟩, fun q q0 hq => tL h0 hg q0 (by simpa using hq)⟩
theorem Wk.bg {c : aQ} : Wk x (x.bg k c) := Wk.same rfl rfl
theorem oM (h : WV p x) {c : aQ} (hc : c ∈ x.av) : c.buf.length ≤ 16 ∧ c.snd.length ≤ 3200 ∧ c.cH.length ≤ 3200 := by
 have h1 := h.Oe hc
 unfold cX at h1
 rw [List.length_append, List.length_map, List.length_map] at h1
 have := h.buf c hc
 omega
def PutEnd (p : cy) (x : Wd) : Out (Wd × Bool) → Prop
 | .dg _ y => WV p y ∧ y.gs = x.gs ∧ y.ready = x.ready
 | .on (y, true) => WV p y ∧ Wk x y
 | .on (y, false) => y = x
 | .fR _ _ => False
theorem fY {α : Type} : ∀ (l : List α) (n : Nat) (a : α), l[n]? = some a → l.set n a = l
 | [], _, _, _ => rfl
 | b :: l, 0, a, h => by simp at h; subst h; rfl
 | b :: l, n + 1, a, h => by rw [List.set_cons_succ, fY l n a (by simpa using h)]
theorem pN {c : aQ} (hc : x.av[k.toNat]? = some c) : x.bg k c = x := by
 unfold Wd.bg
 rw [fY _ _ _ hc]
theorem WV.put (h : WV p x) (hp : eK p) (hk : nF x k) : mA p x k n ∧ PutEnd p x (x.put p k n) := by
 obtain ⟨c, hc, e⟩ := Ep hk
 have hm := List.mem_of_getElem? hc
 obtain ⟨s1, s2, s3⟩ := oM h hm
 have hb := h.buf c hm
 have hr := h.cH c hm
 unfold mA Wd.put
 rw [e]
 refine ⟨⟨hk, ?_, ?_⟩, ?_⟩
 ·unfold aQ.send
  split
  ·intro h; cases h
  ·split
   ·rename_i w r hw
    intro _
    obtain ⟨a, b⟩ := hr w (by rw [hw]; simp)
    exact h.lA (v := ⟨w.g, w.cs, n⟩) hp a b
   ·split <;> (intro h; cases h)
 ·have : c.Small 3200 := ⟨by omega, s2, s3⟩
  exact (this.send n).mono (by omega)
 ·unfold aQ.send
  split
  ·dsimp only
   rw [if_pos rfl, pN hc]
   exact ⟨h, rfl, rfl⟩
  ·split
   ·rename_i w r hw
    dsimp only
    obtain ⟨a, b⟩ := hr w (by rw [hw]; simp)
    have hl : WV p (x.bg k { c with cH := r }) := h.less hc hb (fun v hv => by rw [hw]; exact List.mem_cons_of_mem _ hv) (fun v hv => hv) (fun q => by
     unfold cX; rw [hw]; simp only [List.map_cons, List.count_append, List.count_cons]; omega)
    have hne : (aa x w.g).wt.op ≠ 18 := by rcases b with b | b; rw [b]; decide; rw [b.1]; decide
    rw [if_neg (by decide), if_pos rfl]
    refine ⟨hl.received (v := ⟨w.g, w.cs, n⟩) a hne (fun mL => ?_), Wk.bg.trans (Wk.received (x := x.bg k { c with cH := r }) (v := ⟨w.g, w.cs, n⟩) a.1 a.2.1 (by show (aa x w.g).st ≠ 1; rw [a.2.2]; decide))⟩
    exact AM h hc a.1 a.2.2 mL (by unfold cX; rw [hw]; simp only [List.map_cons, List.count_append, List.count_cons, beq_self_eq_true, if_true]; omega)
   ·rename_i hw
    split
    ·dsimp only
     rw [if_neg (by decide), if_neg (by decide)]
     exact ⟨h.less hc ⟨by simp; omega, hb.2⟩ (fun v hv => hv) (fun v hv => hv) (fun q => Nat.le_refl _), Wk.bg⟩
    ·dsimp only
     rw [if_neg (by decide), if_neg (by decide), pN hc]
     exact rfl
theorem WV.get (h : WV p x) (hp : eK p) (hk : nF x k) : pZ x k ∧ WV p (x.get k).1 ∧ Wk x (x.get k).1 ∧ ((x.get k).2.2.2 = false → (x.get k).1 = x) := by
 obtain ⟨c, hc, e⟩ := Ep hk
 have hm := List.mem_of_getElem? hc
 obtain ⟨s1, s2, s3⟩ := oM h hm
 have hb := h.buf c hm
 have hs := h.snd c hm
 unfold pZ Wd.get
 rw [e]
 obtain ⟨room, buf, snd, cH, closed⟩ := c
 cases snd with
 | cons w r =>
  obtain ⟨a, b⟩ := hs w (by simp)
  obtain ⟨v, l, hv⟩ : ∃ v l, buf ++ [w.v] = v :: l := by
   cases buf with
   | nil => exact ⟨_, _, rfl⟩
   | cons q t => exact ⟨q, t ++ [w.v], rfl⟩
  have hlen : l.length = buf.length := by
   have := congrArg List.length hv
   simp at this; omega
  have er : aQ.recv ⟨room, buf, w :: r, cH, closed⟩ = (⟨room, l, r, cH, closed⟩, v, true, w, true, 0) := by
   unfold aQ.recv aQ.all
   dsimp only
   rw [hv]
   rfl
  rw [er]
  dsimp only
  have hl : WV p (x.bg k ⟨room, l, r, cH, closed⟩) := h.less hc (by rw [hlen]; exact hb) (fun v hv => hv) (fun v hv => List.mem_cons_of_mem _ hv) (fun q => by
   unfold cX; simp only [List.map_cons, List.cons_append, List.count_cons]; omega)
  have hne : (aa x w.g).wt.op ≠ 18 := by rcases b with b | b; rw [b]; decide; rw [b.1]; decide
  rw [if_pos rfl, if_pos rfl]
  refine ⟨⟨hk, fun _ => h.u5 a, ⟨by dsimp only at *; omega, by simp only [List.length_cons] at s2; dsimp only; omega, by dsimp only at *; omega⟩⟩, hl.sent a hne (fun mL => ?_), Wk.bg.trans (Wk.sent (x := x.bg k ⟨room, l, r, cH, closed⟩) a.1 a.2.1 (by show (aa x w.g).st ≠ 1; rw [a.2.2]; decide)), (fun h => by cases h)⟩
  exact AM h hc a.1 a.2.2 mL (by unfold cX; simp only [List.map_cons, List.cons_append, List.count_cons, beq_self_eq_true, if_true]; omega)
 | nil =>
  cases buf with
  | cons q t =>
   have er : aQ.recv ⟨room, q :: t, [], cH, closed⟩ = (⟨room, t, [], cH, closed⟩, q, true, .zero, false, 0) := rfl
   rw [er]
   dsimp only
   simp only [Bool.false_eq_true, if_false, if_true]
   simp only [List.length_cons] at s1 hb
   exact ⟨⟨hk, (fun h => by cases h), ⟨by dsimp only; omega, by dsimp only at *; omega, by dsimp only at *; omega⟩⟩, h.less hc ⟨by dsimp only; omega, hb.2⟩ (fun v hv => hv) (fun v hv => hv) (fun q => Nat.le_refl _), Wk.bg, (fun h => by cases h)⟩
  | nil =>
   have er : aQ.recv ⟨room, [], [], cH, closed⟩ = (⟨room, [], [], cH, closed⟩, 0, false, .zero, false, if closed then 0 else 5) := rfl
   rw [er]
   dsimp only
   simp only [Bool.false_eq_true, if_false, pN hc]
   exact ⟨⟨hk, (fun h => by cases h), ⟨by dsimp only at *; omega, by dsimp only at *; omega, by dsimp only at *; omega⟩⟩, h, Wk.refl _, fun _ => trivial⟩
end
section
variable {p : cy} {x y z : Wd} {g q k n : Int} {f : List bY} {i : bY} {v : Wt}
def ShutAt (x : Wd) (v : Wt) : Prop := 0 ≤ v.g ∧ v.g < x.gs.length ∧ ((aa x v.g).st = 2 → (aa x v.g).wt.op = 14 ∧ oJ x v.g ∨ (aa x v.g).wt.op = 16 ∧ 0 ≤ v.cs ∧ v.cs < (aa x v.g).wt.b)
def Cs (x y : Wd) : Prop := (∀ d ∈ y.av, ∃ c ∈ x.av, ∀ q ∈ cX d, q ∈ cX c) ∧ y.aC = x.aC ∧ y.hl = x.hl
theorem Cs.refl (x : Wd) : Cs x x := ⟨fun d hd => ⟨d, hd, fun _ h => h⟩, rfl, rfl⟩
theorem Cs.free (h : Cs x y) (hf : oJ x g) : oJ y g := by
 obtain ⟨a, b, c⟩ := h
 refine ⟨fun d hd hg => ?_, by rw [b]; exact hf.2.1, by rw [c]; exact hf.2.2⟩
 obtain ⟨e, he, hs⟩ := a d hd
 exact hf.1 e he (hs g hg)
theorem Cs.leave : Cs x (x.leave g) := ⟨fun d hd => by
 obtain ⟨c, hc, rfl⟩ := List.mem_map.1 hd
 exact ⟨c, hc, fun q hq => by rw [Cr] at hq; exact (List.mem_filter.1 hq).1⟩, rfl, rfl⟩
theorem Cs.received {s : Int} : Cs x (x.received p v s) := by
 unfold Wd.received
 dsimp only
 split
 ·exact Cs.leave (x := (x.aV v.g (mw p ((aa x v.g).wt.a + v.cs)).bH v.v).aV v.g _ _)
 ·exact Cs.refl x
theorem tM (hp : eK p) : ∀ (l : List Wt) (x : Wd), WV p x → x.ready.length + l.length ≤ 1000000 → (∀ v ∈ l, ShutAt x v) → sM p x l ∧ WV p (l.foldl (cJ p) x) ∧ Wk x (l.foldl (cJ p) x)
 | [], x, h, _, _ => ⟨trivial, h, Wk.refl x⟩
 | v :: l, x, h, hr, ha => by
  obtain ⟨h0, hg, h2⟩ := ha v (by simp)
  have mN : x.ready.length ≤ 1000000 := by simp only [List.length_cons] at hr; omega
  by_cases e : (aa x v.g).st = 2
  ·have hat : At x v.g 2 := ⟨h0, hg, e⟩
   have hne : (aa x v.g).wt.op ≠ 18 := by rcases h2 e with b | b; rw [b.1]; decide; rw [b.1]; decide
   have hw := h.received (v := { v with v := 0 }) hat hne (fun mL => by
    rcases h2 e with b | b
    ·exact b.2
    ·exact absurd b.1 mL) (s := 0)
   have hk : Wk x (x.received p { v with v := 0 } 0) := Wk.received (v := { v with v := 0 }) h0 hg (by rw [e]; decide)
   have es : cJ p x v = x.received p { v with v := 0 } 0 := by unfold cJ; rw [if_pos e]
   have hrd : (x.received p { v with v := 0 } 0).ready = x.ready ++ [v.g] := (nm (v := { v with v := 0 }) h0 hg).2
   obtain ⟨r1, r2, r3⟩ := tM hp l (x.received p { v with v := 0 } 0) hw (by rw [hrd]; simp only [List.length_append, List.length_cons, List.length_nil] at *; omega) (fun w QE => by
    obtain ⟨b0, b1, b2⟩ := ha w (List.mem_cons_of_mem _ QE)
    refine ⟨b0, by rw [pM]; exact b1, fun h2' => ?_⟩
    by_cases ew : w.g = v.g
    ·rw [ew, (nm (v := { v with v := 0 }) h0 hg).1] at h2'; cases h2'
    ·rw [zI (v := { v with v := 0 }) h0 hg b0 ew] at h2' ⊢
     rcases b2 h2' with c | c
     ·exact .inl ⟨c.1, Cs.received.free c.2⟩
     ·exact .inr c)
   refine ⟨⟨h.sm hp mN, h0, hg, fun _ => h.lA (v := { v with v := 0 }) hp hat ?_, by rw [es]; exact r1⟩, by rw [List.foldl_cons, es]; exact r2, by rw [List.foldl_cons, es]; exact hk.trans r3⟩
   rcases h2 e with b | b
   ·exact .inl b.1
   ·exact .inr b
  ·have es : cJ p x v = x := by unfold cJ; rw [if_neg e]
   obtain ⟨r1, r2, r3⟩ := tM hp l x h (by simp only [List.length_cons] at hr; omega) (fun w QE => ha w (List.mem_cons_of_mem _ QE))
   exact ⟨⟨h.sm hp mN, h0, hg, fun h2' => absurd h2' e, by rw [es]; exact r1⟩, by rw [List.foldl_cons, es]; exact r2, by rw [List.foldl_cons, es]; exact r3⟩
end
theorem Gs {l : List aN} {i : Nat} (h : i < l.length) : fx l i = l[i] := by
 unfold fx; rw [List.getD_eq_getElem?_getD, List.getElem?_eq_getElem h]; rfl
theorem vW {l : List aN} {i j : Nat} (hi : i < l.length) (hj : j < l.length) : (ee l i j).Perm l := by
 unfold ee
 rw [Gs hi, Gs hj]
 exact List.set_set_perm hi hj
theorem Ct : ∀ (f i : Nat) (l : List aN), i < l.length → (N9 f i l).Perm l
 | 0, _, l, _ => List.Perm.refl l
 | f + 1, i, l, h => by
  unfold N9
  split
  ·exact (Ct f _ _ (by rw [cO]; omega)).trans (vW h (by omega))
  ·exact List.Perm.refl l
theorem Cu : ∀ (f i : Nat) (l : List aN), i < l.length → (nh f i l).Perm l
 | 0, _, l, _ => List.Perm.refl l
 | f + 1, i, l, h => by
  unfold nh
  split
  ·exact List.Perm.refl l
  ·have := (Ek h).1
   exact (Cu f _ _ (by rw [cO]; exact this)).trans (vW h this)
theorem pO {l : List aN} {x : aN} : (kU l x).Perm (l ++ [x]) := Ct _ _ _ (by simp)
theorem xF {l : List aN} {i : Nat} (h : i < l.length) : l.Perm (fx l i :: cS l i) := by
 have hn : l.length - 1 < l.length := by omega
 have h1 : (ee l i (l.length - 1)).Perm l := vW h hn
 have UF : (ee l i (l.length - 1))[l.length - 1]? = some (fx l i) := by
  unfold ee
  rw [List.getElem?_set_self (by rw [List.length_set]; exact hn)]
 have h2 : ee l i (l.length - 1) = (ee l i (l.length - 1)).take (l.length - 1) ++ [fx l i] := by
  have e : ee l i (l.length - 1) = (ee l i (l.length - 1)).take (l.length - 1 + 1) := by
   rw [List.take_of_length_le (by rw [cO]; omega)]
  conv => lhs; rw [e]
  rw [List.take_add_one, UF]
  rfl
 have h3 : l.Perm (fx l i :: (ee l i (l.length - 1)).take (l.length - 1)) := by
  refine h1.symm.trans ?_
  rw [h2]
  have : (List.take (l.length - 1) (ee l i (l.length - 1)) ++ [fx l i]).take (l.length - 1) = (ee l i (l.length - 1)).take (l.length - 1) := by rw [← h2]
  rw [this]
  exact List.perm_append_comm
 unfold cS
 split
 ·rename_i hlt
  have hlen : ((ee l i (l.length - 1)).take (l.length - 1)).length = l.length - 1 := by rw [List.length_take, cO]; omega
  refine h3.trans (List.Perm.cons _ ?_)
  exact ((Ct _ _ _ (by rw [kA, hlen]; exact hlt)).trans (Cu _ _ _ (by rw [hlen]; exact hlt))).symm
 ·exact h3
theorem vX : ∀ (f : Nat) (l : List aN) (now : Int), l.Perm ((dM f l now).2 ++ (dM f l now).1)
 | 0, l, _ => by simp [dM]
 | f + 1, l, now => by
  unfold dM
  split
  ·rename_i h
   refine (xF h.1).trans ?_
   dsimp only
   exact List.Perm.cons _ (vX f _ now)
  ·simp
def jG (g : Int) (x y : Wd) : Prop := y.ready.Nodup ∧ g ∉ y.ready ∧ (∀ q ∈ y.ready, 0 ≤ q ∧ q < y.gs.length ∧ ¬ At x q 1 ∧ (aa y q).st = 1) ∧
 (∀ q, 0 ≤ q → q ≠ g → q ∉ y.ready → aa y q = aa x q) ∧ x.gs.length ≤ y.gs.length ∧ ∀ q : Int, x.gs.length ≤ q → q < y.gs.length → q ∈ y.ready
section
variable {p : cy} {x y z : Wd} {g q k n : Int} {f : List bY} {i : bY} {v : Wt}
theorem jG.refl (hr : x.ready = []) : jG g x x := by
 refine ⟨by rw [hr]; exact List.nodup_nil, by rw [hr]; simp, fun q hq => ?_, fun _ _ _ _ => rfl, Nat.le_refl _, fun q a b => by omega⟩
 rw [hr] at hq; cases hq
theorem jG.of (h : Wk x y) (hr : x.ready = []) (hg : At x g 1) : jG g x y := by
 obtain ⟨a1, l, a2, a3, a4, a5⟩ := h
 rw [hr, List.nil_append] at a2
 rw [jG, a2]
 refine ⟨a3, fun hm => (a4 g hm).2.2.1 hg.2.2, fun q hq => ?_, fun q q0 _ hn => a5 q q0 hn, by omega, fun q b c => by omega⟩
 obtain ⟨b1, b2, b3, b4⟩ := a4 q hq
 exact ⟨b1, by omega, fun ha => b3 ha.2.2, b4⟩
theorem jG.QW (h : jG g x y) (h1 : z.ready = y.ready) (h2 : z.gs.length = y.gs.length) (h3 : ∀ q, 0 ≤ q → q ≠ g → aa z q = aa y q) : jG g x z := by
 obtain ⟨a1, a2, a3, a4, a5, a6⟩ := h
 rw [jG, h1, h2]
 refine ⟨a1, a2, fun q hq => ?_, fun q q0 hne hn => by rw [h3 q q0 hne]; exact a4 q q0 hne hn, a5, a6⟩
 have hne : q ≠ g := fun e => a2 (e ▸ hq)
 obtain ⟨b1, b2, b3, b4⟩ := a3 q hq
 exact ⟨b1, b2, b3, by rw [h3 q b1 hne]; exact b4⟩
theorem jG.pre (h : jG g y z) (h2 : y.gs.length = x.gs.length) (h3 : ∀ q, 0 ≤ q → q ≠ g → aa y q = aa x q) : jG g x z := by
 obtain ⟨a1, a2, a3, a4, a5, a6⟩ := h
 refine ⟨a1, a2, fun q hq => ?_, fun q q0 hne hn => by rw [a4 q q0 hne hn, h3 q q0 hne], by omega, fun q a b => a6 q (by omega) b⟩
 have hne : q ≠ g := fun e => a2 (e ▸ hq)
 obtain ⟨b1, b2, b3, b4⟩ := a3 q hq
 exact ⟨b1, b2, fun ha => b3 ⟨ha.1, by rw [h2]; exact ha.2.1, by rw [h3 q b1 hne]; exact ha.2.2⟩, b4⟩
theorem jG.bH (h : jG g x y) (h0 : 0 ≤ g) (hg : g < y.gs.length) : jG g x (y.aV g q n) := h.QW rfl cj fun m m0 hne => oK h0 hg m0 hne
theorem tN {w : gG} (h0 : 0 ≤ g) (hg : g < x.gs.length) {m : Int} (m0 : 0 ≤ m) (hne : m ≠ g) : aa (x.bp g w) m = aa x m := by
 rw [ji hg h0, if_neg (by omega)]
theorem jG.bp {w : gG} (h : jG g x y) (h0 : 0 ≤ g) (hg : g < y.gs.length) : jG g x (y.bp g w) := h.QW rfl (by simp [Wd.bp]) fun m m0 hne => tN h0 hg m0 hne
def gN (p : cy) (g : Int) (x : Wd) : Out Wd → Prop
 | .dg _ y => WV p y ∧ jG g x y
 | .on y => WV p y ∧ jG g x y
 | .fR _ _ => False
theorem gN.lt {r : Out Wd} (h : gN p g x r) (hg : At x g 1) : g < r.fin.gs.length := by
 cases r with
 | on y => have := h.2.2.2.2.2.1; have := hg.2.1; show g < y.gs.length; omega
 | dg n y => have := h.2.2.2.2.2.1; have := hg.2.1; show g < y.gs.length; omega
 | fR l y => exact h.elim
theorem oJ.Aq (h : oJ x g) : cD x.av g = 0 ∧ hG x.aC g = 0 ∧ Dv x.hl g = 0 :=
 ⟨sQ.2 h.1, xD.2 h.2.1, List.count_eq_zero.2 fun hm => by
  obtain ⟨y, hy, e⟩ := List.mem_map.1 hm
  exact h.2.2 y hy e⟩
theorem At.free (hg : At x g 1) (h : WV p x) : oJ x g := h.free (by rw [hg.2.2]; decide) (by rw [hg.2.2]; decide)
theorem X6 (h : WV p x) (hg : At x g 1) (hi : iA p f i) (h9 : i.op = 9) (hr : x.ready = []) : (aW x g ∧ aR i.b) ∧ gN p g x (x.call g i) := by
 obtain ⟨_, _, _, _, _, i9, _⟩ := hi
 obtain ⟨a0, a1, b1, c1⟩ := i9 (.inl h9)
 have hz := h.iF hg.1 hg.2.1
 refine ⟨⟨h.aW hg.1 hg.2.1, b1⟩, ?_⟩
 unfold Wd.call
 split
 ·exact ⟨h, jG.refl hr⟩
 ·rename_i hn
  refine ⟨h.bp hg.1 hg.2.1 ⟨by simp, by simp; omega, fun r hr => ?_, hz.wt, hz.st⟩ rfl rfl, (jG.refl hr).bp hg.1 hg.2.1⟩
  rcases List.mem_append.1 hr with hr | hr
  ·exact hz.fr r hr
  ·simp only [List.mem_singleton] at hr; subst hr
   exact ⟨a0, a1, Int.le_refl 0, (by show (0 : Int) ≤ 64; decide), c1⟩
theorem X7 (h : WV p x) (hp : eK p) (hg : At x g 1) (hi : iA p f i) (h20 : i.op = 20) (hr : x.ready = []) : (aW x g ∧ aR i.a ∧ x.Sm) ∧ gN p g x (x.emit g i) := by
 obtain ⟨_, _, _, _, _, _, i10, _⟩ := hi
 refine ⟨⟨h.aW hg.1 hg.2.1, i10 (.inr (.inr (.inl h20))), h.sm hp (by rw [hr]; decide)⟩, ?_⟩
 unfold Wd.emit
 split
 ·exact ⟨h, jG.refl hr⟩
 ·rename_i hn
  exact ⟨h.congr rfl (fun _ => ⟨rfl, rfl⟩) h.G7 rfl rfl rfl (by simp; omega), (jG.refl hr).QW rfl rfl fun _ _ _ => rfl⟩
theorem X8 (h : WV p x) (hg : At x g 1) (hi : iA p f i) (Ka : i.op = 10) (hr : x.ready = []) : (aW x g ∧ aR i.a ∧ aR (aa x g).top.mu) ∧ gN p g x (.on (x.back g i)) := by
 obtain ⟨_, _, _, _, _, _, i10, _⟩ := hi
 have hz := h.iF hg.1 hg.2.1
 refine ⟨⟨h.aW hg.1 hg.2.1, i10 (.inl Ka), hz.top.2.2.2.2⟩, ?_⟩
 have hf := hg.free h
 unfold Wd.back
 split
 ·rename_i h2
  refine ⟨h.bp hg.1 hg.2.1 ⟨by simp [gG.back]; omega, by have := hz.l2; simp [gG.back]; omega, fun r hr => ?_, hz.wt, hz.st⟩ rfl rfl, (jG.refl hr).bp hg.1 hg.2.1⟩
  rcases List.mem_or_eq_of_mem_set hr with hr | rfl
  ·exact hz.fr r (List.mem_of_mem_take hr)
  ·refine Jk.set ?_ _ _
   rw [List.getD_eq_getElem?_getD, List.getElem?_eq_getElem (by omega), Option.getD_some]
   exact hz.fr _ (List.getElem_mem _)
 ·have hd : WV p (x.bp g { aa x g with st := 4 }) := h.Of hg.1 hg.2.1 hf (hz.UZ (by decide) (by decide))
  have Zq : jG g x (x.bp g { aa x g with st := 4 }) := (jG.refl hr).bp hg.1 hg.2.1
  split
  ·exact ⟨hd.congr rfl (fun _ => ⟨rfl, rfl⟩) hd.G7 rfl rfl rfl hd.out, Zq.QW rfl rfl fun _ _ _ => rfl⟩
  ·exact ⟨hd, Zq⟩
theorem X9 (h : WV p x) (hp : eK p) (hg : At x g 1) (hf : f ∈ p.funcs) (hi : iA p f i) (h13 : i.op = 13) (hr : x.ready = []) :
  ((aW x g ∧ aR i.b ∧ mA p x i.a (aJ x g i.b) ∧ xB x g i (x.put p i.a (aJ x g i.b))) ∧ x.Sm) ∧ gN p g x (x.send p g i) := by
 have hi' := hi
 obtain ⟨_, _, _, _, _, _, _, i13, Jm, _⟩ := hi'
 obtain ⟨a0, a1⟩ := i13 (.inl h13)
 have hk : nF x i.a := ⟨a0, by rw [h.ch]; exact a1⟩
 obtain ⟨p1, p2⟩ := h.put (n := aJ x g i.b) hp hk
 have AK := h.aW hg.1 hg.2.1
 have hs := h.sm hp (by rw [hr]; decide)
 have hfr := hg.free h
 obtain ⟨c, hc, ec⟩ := Ep hk
 have hm := List.mem_of_getElem? hc
 obtain ⟨s1, s2, s3⟩ := oM h hm
 unfold Wd.send
 generalize hpr : x.put p i.a (aJ x g i.b) = r at p2
 match r, p2 with
 | .dg n y, p2 =>
  exact ⟨⟨⟨AK, Jm (.inl h13), p1, trivial⟩, hs⟩, p2.1, jG.of (Wk.same p2.2.1 p2.2.2) hr hg⟩
 | .on (y, true), p2 =>
  exact ⟨⟨⟨AK, Jm (.inl h13), p1, trivial⟩, hs⟩, p2.1, jG.of p2.2 hr hg⟩
 | .on (y, false), p2 =>
  have p3 : y = x := p2
  subst p3
  refine ⟨⟨⟨AK, Jm (.inl h13), p1, AK, rfl, hk, by rw [ec]; exact ⟨by omega, by omega, by omega⟩⟩, hs⟩, ?_, ?_⟩
  ·have hb := h.block hg hf hi
   have eg : aa (y.block g i) g = { aa y g with st := 2, wt := i } := iu hg.1 hg.2.1
   show WV p ((y.block g i).bg i.a { aX y.av i.a with snd := (aX y.av i.a).snd ++ [⟨g, 0, aJ y g i.b⟩] })
   rw [ec]
   refine hb.more (c := c) (w := ⟨g, 0, aJ y g i.b⟩) hc (h.buf c hm) (fun v hv => .inl hv) (fun v hv => ?_) (fun q => ?_) (fun _ => ?_) ?_
   ·rcases List.mem_append.1 hv with hv | hv
    ·exact .inl hv
    ·refine .inr ⟨by simpa using hv, ⟨hg.1, by simpa [Wd.block, Wd.bp] using hg.2.1, by rw [eg]⟩, .inl (by rw [eg]; exact h13)⟩
   ·unfold cX
    simp only [List.map_append, List.map_cons, List.map_nil, List.count_append, List.count_cons, List.count_nil]
    by_cases e : q = g
    ·subst e; simp; omega
    ·rw [if_neg e]
     have : (g == q) = false := by simp; exact fun h => e h.symm
     simp [this]
   ·have := hfr.Aq
    show cD y.av g + hG y.aC g = 0
    omega
   ·have := hfr.Aq
    show cD y.av g < 32
    omega
  ·exact (jG.refl hr).QW rfl (by simp [Wd.block, Wd.N7, Wd.bp, Wd.bg]) fun m m0 hne => by
    show aa (y.bp g _) m = _
    exact tN hg.1 hg.2.1 m0 hne
 | .fR l y, p2 => exact p2.elim
end
section
variable {p : cy} {x y z : Wd} {g q k n : Int} {f : List bY} {i : bY} {v : Wt}
theorem mC (l : List Int) (q g : Int) : (l ++ [g]).count q ≤ l.count q + (if q = g then 1 else 0) := by
 rw [List.count_append, List.count_cons, List.count_nil]
 by_cases e : q = g
 ·subst e; simp
 ·rw [if_neg e]
  have : (g == q) = false := by simp; exact fun h => e h.symm
  simp [this]
theorem Ya (h : WV p x) (hp : eK p) (hg : At x g 1) (hf : f ∈ p.funcs) (hi : iA p f i) (h14 : i.op = 14) (hr : x.ready = []) :
  (yU x g i ∧ x.Sm) ∧ gN p g x (.on (x.recv g i)) := by
 have hi' := hi
 obtain ⟨_, _, _, _, _, _, _, i13, Jm, i14, _⟩ := hi'
 obtain ⟨a0, a1⟩ := i13 (.inr (.inl h14))
 have hk : nF x i.a := ⟨a0, by rw [h.ch]; exact a1⟩
 obtain ⟨p1, p2, p3, p4⟩ := h.get hp hk
 have AK := h.aW hg.1 hg.2.1
 have hs := h.sm hp (by rw [hr]; decide)
 have hfr := hg.free h
 obtain ⟨c, hc, ec⟩ := Ep hk
 have hm := List.mem_of_getElem? hc
 obtain ⟨s1, s2, s3⟩ := oM h hm
 have ek := p3.keep hg.1 hg.2.2
 have el := p3.1
 refine ⟨⟨⟨AK, Jm (.inr h14), i14 (.inl h14), p1, p2.aW hg.1 (by rw [el]; exact hg.2.1), by rw [ek], fun e => ?_⟩, hs⟩, ?_⟩
 ·rw [p4 e]
  exact ⟨hk, by rw [ec]; exact ⟨by omega, by omega, by omega⟩⟩
 ·unfold Wd.recv
  have Zq : jG g x (x.get i.a).1 := jG.of p3 hr hg
  split
  ·have r1 := p2.aV (g := g) (q := i.b) (n := (x.get i.a).2.1) hg.1 (by rw [el]; exact hg.2.1)
   refine ⟨r1.aV hg.1 (by rw [cj, el]; exact hg.2.1), (Zq.bH hg.1 (by rw [el]; exact hg.2.1)).bH hg.1 (by rw [cj, el]; exact hg.2.1)⟩
  ·rename_i e
   rw [p4 (by simpa using e)]
   have hb := h.block hg hf hi
   have eg : aa (x.block g i) g = { aa x g with st := 2, wt := i } := iu hg.1 hg.2.1
   refine ⟨?_, ?_⟩
   ·show WV p ((x.block g i).bg i.a { aX x.av i.a with cH := (aX x.av i.a).cH ++ [⟨g, 0, 0⟩] })
    rw [ec]
    refine hb.more (c := c) (w := ⟨g, 0, 0⟩) hc (h.buf c hm) (fun v hv => ?_) (fun v hv => .inl hv) (fun q => ?_) (fun _ => ?_) ?_
    ·rcases List.mem_append.1 hv with hv | hv
     ·exact .inl hv
     ·exact .inr ⟨by simpa using hv, ⟨hg.1, by simpa [Wd.block, Wd.bp] using hg.2.1, by rw [eg]⟩, .inl (by rw [eg]; exact h14)⟩
    ·unfold cX
     rw [List.map_append, ← List.append_assoc]
     exact mC _ _ _
    ·have := hfr.Aq
     show cD x.av g + hG x.aC g = 0
     omega
    ·have := hfr.Aq
     show cD x.av g < 32
     omega
   ·exact (jG.refl hr).QW rfl (by simp [Wd.block, Wd.N8, Wd.bp, Wd.bg]) fun m m0 hne => by
     show aa (x.bp g _) m = _
     exact tN hg.1 hg.2.1 m0 hne
theorem Yb (h : WV p x) (hp : eK p) (hg : At x g 1) (hi : iA p f i) (h15 : i.op = 15) (hr : x.ready = []) :
  (pI p x i ∧ x.Sm) ∧ gN p g x (x.shut p i) := by
 have hi' := hi
 obtain ⟨_, _, _, _, _, _, _, i13, _⟩ := hi'
 obtain ⟨a0, a1⟩ := i13 (.inr (.inr h15))
 have hk : nF x i.a := ⟨a0, by rw [h.ch]; exact a1⟩
 have hs := h.sm hp (by rw [hr]; decide)
 obtain ⟨c, hc, ec⟩ := Ep hk
 have hm := List.mem_of_getElem? hc
 obtain ⟨s1, s2, s3⟩ := oM h hm
 have hb := h.buf c hm
 have hrc := h.cH c hm
 unfold pI Wd.shut
 rw [ec]
 obtain ⟨room, buf, snd, cH, closed⟩ := c
 cases closed with
 | true =>
  refine ⟨⟨⟨hk, by dsimp only at *; omega, fun e => by simp [aQ.close] at e⟩, hs⟩, ?_⟩
  simp only [aQ.close, if_true]
  rw [pN hc]
  exact ⟨h, jG.refl hr⟩
 | false =>
  have Gm : WV p (x.bg i.a ⟨room, buf, [], [], true⟩) := h.less hc hb (fun v hv => by cases hv) (fun v hv => by cases hv) (fun q => by simp [cX])
  have U3 := tM hp cH (x.bg i.a ⟨room, buf, [], [], true⟩) Gm (by show x.ready.length + cH.length ≤ 1000000; rw [hr]; dsimp only [List.length_nil] at *; omega) (fun v hv => by
   obtain ⟨a, b⟩ := hrc v hv
   refine ⟨a.1, a.2.1, fun _ => ?_⟩
   rcases b with b | b
   ·refine .inl ⟨b, AM h hc a.1 a.2.2 (by rw [b]; decide) ?_⟩
    have : 0 < List.count v.g (cX ⟨room, buf, snd, cH, false⟩) := List.count_pos_iff.2 (List.mem_append_right _ (List.mem_map.2 ⟨v, hv, rfl⟩))
    show List.count v.g (cX ⟨room, buf, [], [], true⟩) + 1 ≤ _
    simp only [cX, List.map_nil, List.append_nil, List.count_nil] at *
    omega
   ·exact .inr b)
  refine ⟨⟨⟨hk, by dsimp only at *; omega, fun _ _ => ?_⟩, hs⟩, ?_⟩
  ·simp only [aQ.close, Bool.false_eq_true, if_false]
   exact U3.1
  ·simp only [aQ.close, Bool.false_eq_true, if_false]
   rw [if_neg (by decide)]
   split
   ·exact ⟨Gm, (jG.refl hr).QW rfl rfl fun _ _ _ => rfl⟩
   ·exact ⟨U3.2.1, jG.of (Wk.bg.trans U3.2.2) hr hg⟩
theorem U4 (h : WV p x) (hp : eK p) (hg : At x g 1) (hi : iA p f i) (h17 : i.op = 17) (hr : x.ready = []) :
  (aW x g ∧ aR i.a ∧ x.hl.length < 1000000) ∧ gN p g x (.on (x.sleep g i)) := by
 obtain ⟨_, _, _, _, _, _, i10, _⟩ := hi
 refine ⟨⟨h.aW hg.1 hg.2.1, i10 (.inr (.inl h17)), by have := h.En; omega⟩, ?_⟩
 unfold Wd.sleep
 split
 ·have hf := hg.free h
  have hz := h.iF hg.1 hg.2.1
  have h1 := h.Of hg.1 hg.2.1 hf (hz.UZ (s := 3) (by decide) (by decide))
  have Zq : jG g x (x.bp g { aa x g with st := 3 }) := (jG.refl hr).bp hg.1 hg.2.1
  refine ⟨⟨h1.n1, h1.n2, h1.G7, h1.ch, h1.lk, h1.buf, h1.cH, h1.snd, h1.lw, fun w hw => ?_, h1.one, h1.Eg, fun q => ?_, h1.out⟩, Zq.QW rfl rfl fun _ _ _ => rfl⟩
  ·have cv := pO.mem_iff.1 hw
   rcases List.mem_append.1 cv with cv | cv
   ·exact h1.hl w cv
   ·simp only [List.mem_singleton] at cv; subst cv
    refine ⟨hg.1, by simpa [Wd.bp] using hg.2.1, ?_⟩
    show (aa (x.bp g { aa x g with st := 3 }) g).st = 3
    rw [iu hg.1 hg.2.1]
  ·show Dv (kU x.hl _) q ≤ 1
   unfold Dv
   rw [(pO.map aN.id).count_eq, List.map_append, List.map_cons, List.map_nil]
   have a := mC (x.hl.map aN.id) q g
   have b := h.h1 q
   unfold Dv at b
   by_cases e : q = g
   ·subst e
    have := hf.Aq.2.2
    unfold Dv at this
    rw [if_pos rfl] at a
    dsimp only at *
    omega
   ·rw [if_neg e] at a
    dsimp only at *
    omega
 ·exact ⟨h, jG.refl hr⟩
theorem Zr (hk : Gq x k) : ∃ c, x.aC[k.toNat]? = some c ∧ cR x k = c := by
 obtain ⟨k0, k1⟩ := hk
 obtain ⟨c, hc⟩ := aL (l := x.aC) (i := k.toNat) (by omega)
 exact ⟨c, hc, by simp [cR, hc]⟩
theorem WV.MO (h : WV p x) {c c' : Lk} (hc : x.aC[k.toNat]? = some c) (hr : ∀ v ∈ c'.waits, v ∈ c.waits) (hn : ∀ q, c'.waits.count q ≤ c.waits.count q) : WV p (x.da k c') := by
 have hm : c ∈ x.aC := List.mem_of_getElem? hc
 refine ⟨h.n1, h.n2, h.G7, h.ch, by simpa [Wd.da] using h.lk, h.buf, h.cH, h.snd, fun d hd v hv => ?_, h.hl, fun q q0 hq => ?_, h.Eg, h.h1, h.out⟩
 ·rcases nk hd with hd | rfl
  ·exact h.lw d hd v hv
  ·exact h.lw c hm v (hr v hv)
 ·have a := h.one q q0 hq
  have b := nj (fun l : Lk => l.waits.count q) x.aC k.toNat c' c hc
  have := hn q
  show cD x.av q + hG (x.aC.set k.toNat c') q ≤ 1
  unfold hG at *
  omega
theorem Yc (h : WV p x) (hp : eK p) (hg : At x g 1) (hf : f ∈ p.funcs) (hi : iA p f i) (QV : i.op = 18) (hr : x.ready = []) :
  (aW x g ∧ Gq x i.a ∧ x.Sm) ∧ gN p g x (.on (x.lock g i)) := by
 have hi' := hi
 obtain ⟨_, _, _, _, _, _, _, _, _, _, _, i18, _⟩ := hi'
 obtain ⟨a0, a1⟩ := i18 (.inl QV)
 have hk : Gq x i.a := ⟨a0, by rw [h.lk]; exact a1⟩
 refine ⟨⟨h.aW hg.1 hg.2.1, hk, h.sm hp (by rw [hr]; decide)⟩, ?_⟩
 obtain ⟨c, hc, ec⟩ := Zr hk
 have hm := List.mem_of_getElem? hc
 have hfr := hg.free h
 unfold Wd.lock
 rw [ec]
 unfold Lk.take
 split
 ·dsimp only
  rw [if_pos rfl]
  exact ⟨h.MO hc (fun v hv => hv) (fun q => Nat.le_refl _), (jG.refl hr).QW rfl rfl fun _ _ _ => rfl⟩
 ·dsimp only
  rw [if_neg (by decide)]
  have hb := h.block hg hf hi
  have eg : aa (x.block g i) g = { aa x g with st := 2, wt := i } := iu hg.1 hg.2.1
  refine ⟨?_, ?_⟩
  ·show WV p ((x.block g i).da i.a ⟨c.owner, c.waits ++ [g]⟩)
   refine ⟨hb.n1, hb.n2, hb.G7, hb.ch, by simpa [Wd.da] using hb.lk, hb.buf, hb.cH, hb.snd, fun d hd v hv => ?_, hb.hl, fun q q0 hq => ?_, hb.Eg, hb.h1, hb.out⟩
   ·rcases nk hd with hd | rfl
    ·exact hb.lw d hd v hv
    ·rcases List.mem_append.1 hv with hv | hv
     ·exact hb.lw c hm v hv
     ·simp only [List.mem_singleton] at hv; subst hv
      exact ⟨⟨hg.1, by simpa [Wd.da, Wd.block, Wd.bp] using hg.2.1, by show (aa (x.block v i) v).st = 2; rw [eg]⟩, by show (aa (x.block v i) v).wt.op = 18; rw [eg]; exact QV⟩
   ·have a := hb.one q q0 hq
    have b := nj (fun l : Lk => l.waits.count q) x.aC i.a.toNat ⟨c.owner, c.waits ++ [g]⟩ c hc
    have d := mC c.waits q g
    show cD x.av q + hG (x.aC.set i.a.toNat _) q ≤ 1
    have a' : cD x.av q + hG x.aC q ≤ 1 := a
    by_cases e : q = g
    ·subst e
     have := hfr.Aq
     rw [if_pos rfl] at d
     unfold hG at *
     dsimp only at *
     omega
    ·rw [if_neg e] at d
     unfold hG at *
     dsimp only at *
     omega
  ·exact (jG.refl hr).QW rfl (by simp [Wd.block, Wd.da, Wd.bp]) fun m m0 hne => by
    show aa (x.bp g _) m = _
    exact tN hg.1 hg.2.1 m0 hne
theorem Qh (h : WV p x) (hp : eK p) (hg : At x g 1) (hi : iA p f i) (h19 : i.op = 19) (hr : x.ready = []) :
  (oH x g i ∧ x.Sm) ∧ gN p g x (x.unlock g i) := by
 have hi' := hi
 obtain ⟨_, _, _, _, _, _, _, _, _, _, _, i18, _⟩ := hi'
 obtain ⟨a0, a1⟩ := i18 (.inr h19)
 have hk : Gq x i.a := ⟨a0, by rw [h.lk]; exact a1⟩
 have hs := h.sm hp (by rw [hr]; decide)
 obtain ⟨c, hc, ec⟩ := Zr hk
 have hm := List.mem_of_getElem? hc
 have hw := h.lw c hm
 unfold oH Wd.unlock
 rw [ec]
 unfold Lk.gR
 split
 ·refine ⟨⟨⟨hk, fun e => absurd rfl e⟩, hs⟩, ?_⟩
  dsimp only
  rw [if_pos (by decide)]
  have e : x.da i.a c = x := by unfold Wd.da; rw [fY _ _ _ hc]
  rw [e]
  exact ⟨h, jG.refl hr⟩
 ·obtain ⟨o, ws⟩ := c
  cases ws with
  | nil =>
   refine ⟨⟨⟨hk, fun e => absurd rfl e⟩, hs⟩, ?_⟩
   split
   ·rename_i e; exact absurd rfl e
   ·split
    ·rename_i e; exact absurd rfl e
    ·exact ⟨h.MO (c' := ⟨-1, []⟩) hc (fun v hv => by cases hv) (fun q => by simp), (jG.refl hr).QW rfl rfl fun _ _ _ => rfl⟩
  | cons w ws =>
   obtain ⟨a, b⟩ := hw w (by simp)
   refine ⟨⟨⟨hk, fun _ => ⟨a.1, a.2.1⟩⟩, hs⟩, ?_⟩
   have hne : w ≠ -1 := by have := a.1; omega
   have hl : WV p (x.da i.a ⟨w, ws⟩) := h.MO hc (fun v hv => List.mem_cons_of_mem _ hv) (fun q => by simp only [List.count_cons]; omega)
   have hfr : oJ (x.da i.a ⟨w, ws⟩) w := by
    have o1 := h.one w a.1 (by rw [b]; decide)
    have s := nj (fun l : Lk => l.waits.count w) x.aC i.a.toNat ⟨w, ws⟩ ⟨o, w :: ws⟩ hc
    simp only [List.count_cons, beq_self_eq_true, if_true] at s
    have e1 : hG (x.aC.set i.a.toNat ⟨w, ws⟩) w = 0 := by unfold hG at *; omega
    have e2 : cD x.av w = 0 := by
     have := Cp (fun l : Lk => l.waits.count w) x.aC ⟨o, w :: ws⟩ hm
     simp only [List.count_cons, beq_self_eq_true, if_true] at this
     unfold hG at *; omega
    refine ⟨sQ.1 e2, xD.1 e1, fun y hy e => ?_⟩
    have := (h.hl y hy).2.2
    rw [e, a.2.2] at this
    cases this
   have hres : gN p g x (.on ((x.da i.a ⟨w, ws⟩).eU w)) := ⟨hl.eU a.1 a.2.1 hfr, jG.of (Wk.trans (Wk.same rfl rfl) (Wk.eU (x := x.da i.a ⟨w, ws⟩) a.1 a.2.1 (by show (aa x w).st ≠ 1; rw [a.2.2]; decide))) hr hg⟩
   split
   ·rename_i e; exact absurd rfl e
   ·split
    ·exact hres
    ·rename_i e; exact absurd hne e
end
section
variable {p : cy} {x y z : Wd} {g q k n : Int} {f : List bY} {i : bY} {v : Wt}
theorem lV {w : gG} (h0 : 0 ≤ q) (hq : q < x.gs.length) : aa { x with gs := x.gs ++ [w] } q = aa x q := by
 unfold aa
 dsimp only
 rw [List.getD_eq_getElem?_getD, List.getD_eq_getElem?_getD, List.getElem?_append_left (by omega)]
theorem Er {w : gG} : aa { x with gs := x.gs ++ [w] } (x.gs.length : Int) = w := by
 unfold aa
 dsimp only
 rw [Int.toNat_natCast, List.getD_eq_getElem?_getD, List.getElem?_append_right (Nat.le_refl _)]
 simp
theorem WV.spawn (h : WV p x) (hn : x.gs.length < 100) {w : gG} (hw : qF p w) : WV p { x with gs := x.gs ++ [w] } := by
 have at_ : ∀ q s, At x q s → At { x with gs := x.gs ++ [w] } q s := fun q s ha => ⟨ha.1, by have := ha.2.1; simp; omega, by rw [lV ha.1 ha.2.1]; exact ha.2.2⟩
 refine ⟨by simp, by simp; omega, fun z hz => ?_, h.ch, h.lk, h.buf, fun c hc v hv => ?_, fun c hc v hv => ?_, fun l hl q hq => ?_, fun z hz => at_ _ _ (h.hl z hz), fun q q0 hq => ?_, h.Eg, h.h1, h.out⟩
 ·rcases List.mem_append.1 hz with hz | hz
  ·exact h.G7 z hz
  ·simp only [List.mem_singleton] at hz; subst hz; exact hw
 ·obtain ⟨a, b⟩ := h.cH c hc v hv
  rw [lV a.1 a.2.1]
  exact ⟨at_ _ _ a, b⟩
 ·obtain ⟨a, b⟩ := h.snd c hc v hv
  rw [lV a.1 a.2.1]
  exact ⟨at_ _ _ a, b⟩
 ·obtain ⟨a, b⟩ := h.lw l hl q hq
  rw [lV a.1 a.2.1]
  exact ⟨at_ _ _ a, b⟩
 ·by_cases hlt : q < x.gs.length
  ·rw [lV q0 hlt] at hq
   exact h.one q q0 hq
  ·refine h.one q q0 ?_
   unfold aa
   rw [List.getD_eq_getElem?_getD, List.getElem?_eq_none (by omega)]
   decide
theorem U5 {w : gG} : Wd.eU { x with gs := x.gs ++ [{ w with st := 0 }] } (x.gs.length : Int) = { x with gs := x.gs ++ [{ w with st := 1 }], ready := x.ready ++ [(x.gs.length : Int)] } := by
 unfold Wd.eU Wd.bp
 rw [Er]
 simp [List.set_append_right]
theorem U6 (h : WV p x) (hp : eK p) (hg : At x g 1) (hi : iA p f i) (h11 : i.op = 11) (hr : x.ready = []) : (aW x g ∧ aR i.b ∧ aR i.c ∧ x.Sm) ∧ gN p g x (x.spawn g i) := by
 obtain ⟨_, _, _, _, _, i9, _⟩ := hi
 obtain ⟨a0, a1, b1, c1⟩ := i9 (.inr h11)
 refine ⟨⟨h.aW hg.1 hg.2.1, b1, c1, h.sm hp (by rw [hr]; decide)⟩, ?_⟩
 unfold Wd.spawn
 split
 ·exact ⟨h, jG.refl hr⟩
 ·rename_i hn
  rw [U5 (w := ⟨0, [eJ.begin i.a (aJ x g i.b)], .zero⟩)]
  have hw : qF p ⟨1, [eJ.begin i.a (aJ x g i.b)], .zero⟩ := ⟨by simp, by simp, fun r hr => by
   simp only [List.mem_singleton] at hr; subst hr
   exact ⟨a0, a1, Int.le_refl 0, (by show (0 : Int) ≤ 64; decide), by show aR 0; decide⟩, (fun e => by cases e), by show (1 : Int) ≤ 1 ∧ (1 : Int) ≤ 4; decide⟩
  have h1 := (h.spawn (by omega) hw).ready (r := x.ready ++ [(x.gs.length : Int)])
  have hlen : g < (x.gs ++ [(⟨1, [eJ.begin i.a (aJ x g i.b)], .zero⟩ : gG)]).length := by have := hg.2.1; simp; omega
  refine ⟨h1.aV hg.1 hlen, ?_⟩
  have Zq : jG g x { x with gs := x.gs ++ [⟨1, [eJ.begin i.a (aJ x g i.b)], .zero⟩], ready := x.ready ++ [(x.gs.length : Int)] } := by
   rw [jG, hr]
   simp only [List.nil_append, List.length_append, List.length_cons, List.length_nil]
   refine ⟨by simp, by have := hg.2.1; simp; omega, fun q hq => ?_, fun q q0 _ hn => ?_, by omega, fun q a b => by simp; omega⟩
   ·simp only [List.mem_singleton] at hq; subst hq
    exact ⟨by omega, by omega, fun ha => by have := ha.2.1; omega, by show (aa { x with gs := x.gs ++ [_] } _).st = 1; rw [Er]⟩
   ·show aa { x with gs := x.gs ++ [_] } q = aa x q
    by_cases hlt : q < x.gs.length
    ·exact lV q0 hlt
    ·simp only [List.mem_singleton] at hn
     unfold aa
     dsimp only
     rw [List.getD_eq_getElem?_getD, List.getD_eq_getElem?_getD, List.getElem?_eq_none (by simp; omega), List.getElem?_eq_none (by omega)]
  exact Zq.bH hg.1 hlen
theorem Oh (h : WV p x) (hg : At x g 2) (mL : (aa x g).wt.op = 16) (hf : oJ x g) {ej : List Int} {cases : List m5} (hc : ∀ c ∈ cases, c.Ok x.av.length) (hb : (cases.length : Int) ≤ (aa x g).wt.b) (h32 : cases.length ≤ 32) :
  ∀ j, j ≤ cases.length → WV p { x with av := dm g ej cases x.av j } ∧ cD (dm g ej cases x.av j) g ≤ j
 | 0, _ => ⟨h, by show cD x.av g ≤ 0; have := hf.Aq; omega⟩
 | j + 1, hj => by
  obtain ⟨ih, ic⟩ := Oh h hg mL hf (ej := ej) hc hb h32 j (by omega)
  obtain ⟨c, wH⟩ := aL (l := cases) (i := j) (by omega)
  have ok := hc c (List.mem_of_getElem? wH)
  unfold dm
  rw [wH]
  dsimp only
  unfold iW
  generalize hcs : dm g ej cases x.av j = cs at ih ic
  have hlen : cs.length = x.av.length := by
   have a := ih.ch
   have b := h.ch
   dsimp only at a
   omega
  have key : ∀ d : aQ, (c.way = 0 ∨ c.way = 1) → aX cs c.ch = d → ∀ d' : aQ, d'.buf = d.buf → d'.room = d.room →
    ((∀ v ∈ d'.cH, v ∈ d.cH ∨ v = ⟨g, j, 0⟩) ∧ d'.snd = d.snd ∨ (∀ v ∈ d'.snd, v ∈ d.snd ∨ v = ⟨g, j, ej.getD c.bH.toNat 0⟩) ∧ d'.cH = d.cH) →
    (∀ q, (cX d').count q ≤ (cX d).count q + (if q = g then 1 else 0)) →
    WV p { x with av := cs.set c.ch.toNat d' } ∧ cD (cs.set c.ch.toNat d') g ≤ j + 1 := by
   intro d U7 hd d' e1 e2 e3 hn
   obtain ⟨k0, k1, _⟩ := ok.2.2 (by rcases U7 with e | e <;> rw [e] <;> decide)
   obtain ⟨d2, Jn⟩ := aL (l := cs) (i := c.ch.toNat) (by omega)
   have : d2 = d := by rw [← hd]; simp [aX, Jn]
   subst this
   have hm : d2 ∈ cs := List.mem_of_getElem? Jn
   have hbuf := ih.buf d2 hm
   refine ⟨?_, ?_⟩
   ·rcases e3 with ⟨e3, e4⟩ | ⟨e3, e4⟩
    ·exact ih.more (k := c.ch) (w := ⟨g, j, 0⟩) Jn (by rw [e1, e2]; exact hbuf) (fun v hv => by
      rcases e3 v hv with e | e
      ·exact .inl e
      ·exact .inr ⟨e, hg, .inr ⟨mL, by dsimp only; omega, by dsimp only; show (j : Int) < (aa x g).wt.b; omega⟩⟩) (fun v hv => .inl (by rw [← e4]; exact hv)) hn (fun e => absurd mL e) (by show cD cs g < 32; omega)
    ·exact ih.more (k := c.ch) (w := ⟨g, j, ej.getD c.bH.toNat 0⟩) Jn (by rw [e1, e2]; exact hbuf) (fun v hv => .inl (by rw [← e4]; exact hv)) (fun v hv => by
      rcases e3 v hv with e | e
      ·exact .inl e
      ·exact .inr ⟨e, hg, .inr ⟨mL, by dsimp only; omega, by dsimp only; show (j : Int) < (aa x g).wt.b; omega⟩⟩) hn (fun e => absurd mL e) (by show cD cs g < 32; omega)
   ·have a := nj (fun c : aQ => (cX c).count g) cs c.ch.toNat d' d2 Jn
    have b := hn g
    rw [if_pos rfl] at b
    unfold cD at *
    omega
  split
  ·rename_i hw
   refine key _ (.inl hw) rfl _ rfl rfl (.inl ⟨fun v hv => ?_, rfl⟩) (fun q => ?_)
   ·rcases List.mem_append.1 hv with hv | hv
    ·exact .inl hv
    ·exact .inr (by simpa using hv)
   ·unfold cX
    rw [List.map_append, ← List.append_assoc]
    exact mC _ _ _
  ·split
   ·rename_i hw
    refine key _ (.inr hw) rfl _ rfl rfl (.inr ⟨fun v hv => ?_, rfl⟩) (fun q => ?_)
    ·rcases List.mem_append.1 hv with hv | hv
     ·exact .inl hv
     ·exact .inr (by simpa using hv)
    ·unfold cX
     have := mC ((aX cs c.ch).snd.map Wt.g) q g
     simp only [List.map_append, List.map_cons, List.map_nil, List.count_append] at *
     omega
   ·exact ⟨ih, by omega⟩
end
section
variable {p : cy} {x y z : Wd} {g q k n : Int} {f : List bY} {i : bY} {v : Wt} {d : iz}
theorem qF.Yd {w : gG} (h : qF p w) (tH : w.top.pc + 1 ≤ 64) : qF p (w.bW w.top.next) :=
 h.bW ⟨h.top.1, h.top.2.1, by have := h.top.2.2.1; show 0 ≤ w.top.pc + 1; omega, tH, h.top.2.2.2.2⟩
theorem WV.next (h : WV p x) (hg : At x g 1) (tH : (aa x g).top.pc + 1 ≤ 64) : WV p (x.next g) ∧ At (x.next g) g 1 ∧ (x.next g).gs.length = x.gs.length ∧ (∀ q, 0 ≤ q → q ≠ g → aa (x.next g) q = aa x q) ∧ (aa (x.next g) g).fs.length = (aa x g).fs.length := by
 have hz := (h.iF hg.1 hg.2.1).Yd tH
 have e : aa (x.next g) g = (aa x g).bW (aa x g).top.next := iu hg.1 hg.2.1
 refine ⟨h.bp hg.1 hg.2.1 hz rfl rfl, ⟨hg.1, by simpa [Wd.next, Wd.bp] using hg.2.1, by rw [e]; exact hg.2.2⟩, by simp [Wd.next, Wd.bp], fun q q0 hne => tN hg.1 hg.2.1 q0 hne, by rw [e]; simp [gG.bW]⟩
theorem oN {c : m5} (h : c ∈ aB p i) : c ∈ p.cases := List.mem_of_mem_drop (List.mem_of_mem_take h)
theorem zJ {cases : List m5} {cs : List aQ} (h : k ∈ enabled cases cs) : ∃ (j : Nat) (c : m5), k = (j : Int) ∧ j < cases.length ∧ cases[j]? = some c ∧ can cs c = true := by
 unfold enabled z4 at h
 obtain ⟨j, hj, rfl⟩ := List.mem_map.1 h
 obtain ⟨h1, h2⟩ := List.mem_filter.1 hj
 rw [List.mem_range] at h1
 obtain ⟨c, hc⟩ := aL (l := cases) (i := j) (by omega)
 unfold NV at h2
 rw [hc] at h2
 exact ⟨j, c, rfl, h1, hc, h2⟩
theorem Qi (h : WV p x) (hp : eK p) (hg : At x g 1) (hf : f ∈ p.funcs) (hi : iA p f i) (mL : i.op = 16) (hr : x.ready = []) (tH : (aa x g).top.pc + 1 ≤ 64)
  (hd : ∀ v, d = .num v → enabled (aB p i) x.av ≠ [] → 0 ≤ v ∧ v < (enabled (aB p i) x.av).length) :
  oI p x g i d = true ∧ (gN p g x (x.choose p g i d) ∨ ∃ l, d = .fR l ∧ x.choose p g i d = .fR l x) := by
 have hi' := hi
 obtain ⟨_, _, _, _, _, _, _, _, _, i14, i16, _⟩ := hi'
 have hc := i14 (.inr mL)
 obtain ⟨a0, b1, ab⟩ := i16 mL
 have hcs := hp.cs
 have AK := h.aW hg.1 hg.2.1
 have hs := h.sm hp (by rw [hr]; decide)
 obtain ⟨n1, n2, n3, n4, n5⟩ := h.next hg tH
 have XZ := (h.iF hg.1 hg.2.1).top.2.2.1
 have Gm : (aB p i).length = i.b.toNat := by
  unfold aB
  rw [List.length_take, List.length_drop]; omega
 have hcok : ∀ c ∈ aB p i, c.Ok x.av.length := fun c hc => by rw [h.ch]; exact (hp.cas c (oN hc)).1
 have hne1 : (x.next g).av = x.av := rfl
 have Zs : ∀ k, k ∈ enabled (aB p i) x.av → Cn p x g i k ∧ gN p g x (x.kT p g i k) := by
  intro k hk
  obtain ⟨j, c, rfl, hj, wH, hcan⟩ := zJ hk
  have hm : c ∈ aB p i := List.mem_of_getElem? wH
  have hrg := (hp.cas c (oN hm)).2
  have hok := hcok c hm
  have ec : (aB p i).getD (j : Int).toNat ⟨0, 0, 0⟩ = c := by rw [Int.toNat_natCast, List.getD_eq_getElem?_getD, wH]; rfl
  have U7 : c.way = 0 ∨ c.way = 1 := by
   unfold can at hcan
   split at hcan
   ·rename_i e; exact .inl e
   ·split at hcan
    ·rename_i e; exact .inr e
    ·cases hcan
  obtain ⟨k0, k1, _⟩ := hok.2.2 (by rcases U7 with e | e <;> rw [e] <;> decide)
  have hk1 : nF (x.next g) c.ch := ⟨k0, k1⟩
  unfold Cn Wd.kT
  rw [ec]
  dsimp only
  by_cases hw : c.way = 1
  ·rw [if_pos hw, if_pos hw]
   obtain ⟨p1, p2⟩ := n1.put (n := aJ (x.next g) g c.bH) hp hk1
   generalize (x.next g).put p c.ch (aJ (x.next g) g c.bH) = r at p2
   match r, p2 with
   | .dg n y, p2 => exact ⟨⟨by omega, by omega, hrg, p1, trivial⟩, p2.1, (jG.of (Wk.same p2.2.1 p2.2.2) hr n2).pre n3 n4⟩
   | .on (y, true), p2 =>
    have ek := p2.2.keep hg.1 n2.2.2
    have el : g < y.gs.length := by rw [p2.2.1, n3]; exact hg.2.1
    exact ⟨⟨by omega, by omega, hrg, p1, p2.1.aW hg.1 el, by rw [ek, n5]⟩, p2.1.aV hg.1 el, ((jG.of p2.2 hr n2).pre n3 n4).bH hg.1 el⟩
   | .on (y, false), p2 =>
    have p3 : y = x.next g := p2
    subst p3
    have el : g < (x.next g).gs.length := by rw [n3]; exact hg.2.1
    exact ⟨⟨by omega, by omega, hrg, p1, n1.aW hg.1 el, n5⟩, n1.aV hg.1 el, ((jG.refl (x := x.next g) hr).pre n3 n4).bH hg.1 el⟩
   | .fR l y, p2 => exact p2.elim
  ·rw [if_neg hw, if_neg hw]
   obtain ⟨p1, p2, p3, _⟩ := n1.get hp hk1
   have ek := p3.keep hg.1 n2.2.2
   have el : g < ((x.next g).get c.ch).1.gs.length := by rw [p3.1, n3]; exact hg.2.1
   have r1 := p2.aV (g := g) (q := c.bH) (n := ((x.next g).get c.ch).2.1) hg.1 el
   exact ⟨⟨by omega, by omega, hrg, p1, p2.aW hg.1 el, by rw [ek, n5]⟩, r1.aV hg.1 (by rw [cj]; exact el), (((jG.of p3 hr n2).pre n3 n4).bH hg.1 el).bH hg.1 (by rw [cj]; exact el)⟩
 refine ⟨?_, ?_⟩
 ·unfold oI
  rw [Bool.and_eq_true]
  refine ⟨decide_eq_true ⟨AK, ⟨a0, by omega, ab, by omega⟩, hc, hs, by omega, XZ, hcok⟩, ?_⟩
  cases d with
  | fR l => rfl
  | num v =>
   dsimp only
   cases he : enabled (aB p i) x.av with
   | nil => rfl
   | cons q t =>
    rw [List.isEmpty_cons, Bool.false_or]
    obtain ⟨v0, v1⟩ := hd v rfl (by rw [he]; simp)
    rw [he] at v1
    refine decide_eq_true ⟨v0, v1, (Zs _ ?_).1⟩
    rw [he, List.getD_eq_getElem?_getD, List.getElem?_eq_getElem (by omega), Option.getD_some]
    exact List.getElem_mem _
 ·unfold Wd.choose
  split
  ·refine .inl ?_
   unfold Wd.kx
   dsimp only
   split
   ·exact ⟨n1.aV hg.1 (by rw [n3]; exact hg.2.1), ((jG.refl (x := x.next g) hr).pre n3 n4).bH hg.1 (by rw [n3]; exact hg.2.1)⟩
   ·have hb := n1.block n2 hf hi
    have eg : aa ((x.next g).block g i) g = { aa (x.next g) g with st := 2, wt := i } := iu hg.1 (by rw [n3]; exact hg.2.1)
    have hfr := n2.free n1
    have hw := (Oh (x := (x.next g).block g i) hb ⟨hg.1, by simpa [Wd.block, Wd.bp, n3] using hg.2.1, by rw [eg]⟩ (by rw [eg]; exact mL) hfr (ej := sO (aa (x.next g) g).top) (cases := aB p i) hcok (by rw [eg, Gm]; show ((i.b.toNat : Nat) : Int) ≤ i.b; omega) (by omega) (aB p i).length (Nat.le_refl _)).1
    refine ⟨hw, ((jG.refl (x := x.next g) hr).pre n3 n4).QW rfl (by simp [Wd.block, Wd.bp]) fun m m0 hne => ?_⟩
    show aa ((x.next g).bp g _) m = _
    exact tN hg.1 (by rw [n3]; exact hg.2.1) m0 hne
  ·rename_i hne
   cases d with
   | num v =>
    refine .inl (Zs _ ?_).2
    obtain ⟨v0, v1⟩ := hd v rfl hne
    rw [List.getD_eq_getElem?_getD, List.getElem?_eq_getElem (by omega), Option.getD_some]
    exact List.getElem_mem _
   | fR l => exact .inr ⟨l, rfl, rfl⟩
theorem U8 (h : WV p x) (hp : eK p) (h0 : 0 ≤ g) (hd : ∀ v kd n, d = .num v → asks p { x with ready := [] } g = some (kd, n) → 0 ≤ v ∧ v < n) :
  ∃ r rest, lC p x g d = some (r, rest) ∧ (gN p g { x with ready := [] } r ∧ (jy { x with ready := [] } g ∨ r = .on { x with ready := [] } ∧ rest = true) ∨ ∃ l, d = .fR l ∧ r = .fR l { x with ready := [] } ∧ rest = false ∧ jy { x with ready := [] } g ∧ asks p { x with ready := [] } g ≠ none) := by
 have h := h.ready (r := [])
 generalize hx : ({ x with ready := [] } : Wd) = x' at h hd
 have hr : x'.ready = [] := by rw [← hx]
 unfold lC
 rw [hx]
 dsimp only
 split
 ·rename_i va
  have hg : At x' g 1 := ⟨va.1, va.2.1, va.2.2.2⟩
  have hz := h.iF hg.1 hg.2.1
  obtain ⟨t1, t2, t3, t4, t5⟩ := hz.top
  rw [if_pos ⟨h.aW hg.1 hg.2.1, t1, t3, by omega⟩]
  obtain ⟨code, fZ⟩ := aL (l := p.funcs) (i := (aa x' g).top.fn.toNat) (by omega)
  rw [fZ]
  dsimp only
  have hf : code ∈ p.funcs := List.mem_of_getElem? fZ
  obtain ⟨c1, c2, c3⟩ := hp.code code hf
  cases iG : code[(aa x' g).top.pc.toNat]? with
  | none => exact ⟨_, _, rfl, .inl ⟨⟨h, jG.refl hr⟩, .inl va⟩⟩
  | some i =>
   dsimp only
   have hi : iA p code i := c3 i (List.mem_of_getElem? iG)
   have hi' := hi
   obtain ⟨o0, o1, o2, o7, o8, o9, o10, o13, o13b, o14, o16, o18, o21⟩ := hi'
   have YV := (List.getElem?_eq_some_iff.1 iG).1
   have tH : (aa x' g).top.pc + 1 ≤ 64 := by omega
   obtain ⟨n1, n2, n3, n4, n5⟩ := h.next hg tH
   have Ag : (x'.next g).ready = [] := hr
   have nI : asks p x' g = if i.op = 21 then some (4, i.b) else if i.op = 16 then (if enabled (aB p i) x'.av = [] then none else some (3, (enabled (aB p i) x'.av).length)) else none := by
    unfold asks qd
    rw [if_pos va, fZ]
    dsimp only
    rw [iG]
   have fin : ∀ {r : Out Wd}, gN p g (x'.next g) r → gN p g x' r := by
    intro r hres
    cases r with
    | on y => exact ⟨hres.1, hres.2.pre n3 n4⟩
    | dg n y => exact ⟨hres.1, hres.2.pre n3 n4⟩
    | fR l y => exact hres.elim
   split
   ·rename_i h8
    try rw [if_pos o2]
    refine ⟨_, _, rfl, .inl ⟨⟨h.bp hg.1 hg.2.1 (hz.bW ?_) rfl rfl, (jG.refl hr).bp hg.1 hg.2.1⟩, .inl va⟩⟩
    unfold eJ.pure
    have base : Jk p (aa x' g).top.next := ⟨t1, t2, by show 0 ≤ (aa x' g).top.pc + 1; omega, tH, t5⟩
    split; exact base
    split; exact base.set _ _
    split; exact base.set _ _
    split; exact base.set _ _
    split; exact base.set _ _
    split; exact base.set _ _
    split; exact base.set _ _
    split
    ·rename_i e
     exact ⟨t1, t2, (o7 e).1, by have := (o7 e).2; show i.a ≤ 64; omega, t5⟩
    ·split
     ·have := o8 (by omega)
      exact ⟨t1, t2, this.1, by show i.b ≤ 64; omega, t5⟩
     ·exact base
   ·rename_i h8
    split
    ·rename_i mL
     have hw := Qi (d := d) h hp hg hf hi mL hr tH (fun v hv hne => by
      refine hd v 3 _ hv ?_
      rw [nI, if_neg (by omega), if_pos mL, if_neg hne])
     rw [if_pos hw.1]
     rcases hw.2 with cv | ⟨l, VL, cv⟩
     ·rw [if_pos (cv.lt hg)]
      exact ⟨_, _, rfl, .inl ⟨cv, .inl va⟩⟩
     ·rw [cv, if_pos (show g < (Out.fin (.fR l x')).gs.length from hg.2.1)]
      refine ⟨_, _, rfl, .inr ⟨l, VL, rfl, rfl, va, ?_⟩⟩
      rw [nI, if_neg (by omega), if_pos mL]
      split
      ·rename_i e
       unfold Wd.choose at cv
       rw [if_pos e] at cv
       cases cv
      ·simp
    ·rename_i mL
     split
     ·rename_i VW
      rw [if_pos (o10 (.inr (.inr (.inr VW))))]
      cases d with
      | num v =>
       have hl : g < (x'.next g).gs.length := by rw [n3]; exact hg.2.1
       have hres : gN p g x' (x'.rand g i (.num v)) := ⟨n1.aV hg.1 hl, ((jG.refl (x := x'.next g) hr).pre n3 n4).bH hg.1 hl⟩
       rw [if_pos (hres.lt hg)]
       exact ⟨_, _, rfl, .inl ⟨hres, .inl va⟩⟩
      | fR l =>
       rw [if_pos (show g < (Out.fin (x'.rand g i (.fR l))).gs.length from hg.2.1)]
       exact ⟨_, _, rfl, .inr ⟨l, rfl, rfl, rfl, va, by rw [nI, if_pos VW]; simp⟩⟩
     ·rename_i VW
      have go : ∀ r, j7 p (x'.next g) g i = some r → gN p g (x'.next g) r → ∃ r rest, (match j7 p (x'.next g) g i with
        | none => none
        | some r => if g < r.fin.gs.length then some (r, MG i.op r) else none) = some (r, rest) ∧ (gN p g x' r ∧ (jy x' g ∨ r = .on x' ∧ rest = true) ∨ ∃ l, d = .fR l ∧ r = .fR l x' ∧ rest = false ∧ jy x' g ∧ asks p x' g ≠ none) := by
       intro r QU hres
       rw [QU]
       dsimp only
       rw [if_pos (hres.lt n2)]
       exact ⟨_, _, rfl, .inl ⟨fin hres, .inl va⟩⟩
      have hop : i.op = 9 ∨ i.op = 10 ∨ i.op = 11 ∨ i.op = 12 ∨ i.op = 13 ∨ i.op = 14 ∨ i.op = 15 ∨ i.op = 17 ∨ i.op = 18 ∨ i.op = 19 ∨ i.op = 20 ∨ i.op = 22 := by omega
      rcases hop with e | e | e | e | e | e | e | e | e | e | e | e
      ·have w := X6 n1 n2 hi e Ag
       refine go _ ?_ w.2
       unfold j7
       rw [e]; simp only [Int.reduceEq, if_false, if_true]
       rw [if_pos w.1]
      ·have w := X8 n1 n2 hi e Ag
       refine go _ ?_ w.2
       unfold j7
       rw [e]; simp only [if_true]
       rw [if_pos w.1]
      ·have w := U6 n1 hp n2 hi e Ag
       refine go _ ?_ w.2
       unfold j7
       rw [e]; simp only [Int.reduceEq, if_false, if_true]
       rw [if_pos w.1]
      ·refine go (.on (x'.next g)) ?_ ⟨n1, jG.refl Ag⟩
       unfold j7
       rw [e]; simp only [Int.reduceEq, if_false, if_true]
      ·have w := X9 n1 hp n2 hf hi e Ag
       refine go _ ?_ w.2
       unfold j7
       rw [e]; simp only [Int.reduceEq, if_false, if_true]
       rw [if_pos w.1]
      ·have w := Ya n1 hp n2 hf hi e Ag
       refine go _ ?_ w.2
       unfold j7
       rw [e]; simp only [Int.reduceEq, if_false, if_true]
       rw [if_pos w.1]
      ·have w := Yb n1 hp n2 hi e Ag
       refine go _ ?_ w.2
       unfold j7
       rw [e]; simp only [Int.reduceEq, if_false, if_true]
       rw [if_pos w.1]
      ·have w := U4 n1 hp n2 hi e Ag
       refine go _ ?_ w.2
       unfold j7
       rw [e]; simp only [Int.reduceEq, if_false, if_true]
       rw [if_pos w.1]
      ·have w := Yc n1 hp n2 hf hi e Ag
       refine go _ ?_ w.2
       unfold j7
       rw [e]; simp only [Int.reduceEq, if_false, if_true]
       rw [if_pos w.1]
      ·have w := Qh n1 hp n2 hi e Ag
       refine go _ ?_ w.2
       unfold j7
       rw [e]; simp only [Int.reduceEq, if_false, if_true]
       rw [if_pos w.1]
      ·have w := X7 n1 hp n2 hi e Ag
       refine go _ ?_ w.2
       unfold j7
       rw [e]; simp only [Int.reduceEq, if_false, if_true]
       rw [if_pos w.1]
      ·refine go (.dg i.a (x'.next g)) ?_ ⟨n1, jG.refl Ag⟩
       unfold j7
       rw [e]; simp only [Int.reduceEq, if_false, if_true]
 ·exact ⟨_, _, rfl, .inl ⟨⟨h, jG.refl hr⟩, .inr ⟨rfl, rfl⟩⟩⟩
theorem Ye {w : Wd} {k n : Int} (hp : eK p) (h : asks p w g = some (k, n)) : 1 ≤ n ∧ n < 1099511627776 := by
 unfold asks at h
 split at h
 ·split at h
  ·cases h
  ·rename_i ins hi
   have hio : ∃ f ∈ p.funcs, ins ∈ f := by
    unfold qd at hi
    split at hi
    ·cases hi
    ·rename_i code hc
     exact ⟨code, List.mem_of_getElem? hc, List.mem_of_getElem? hi⟩
   obtain ⟨f, hf, hm⟩ := hio
   have hok := (hp.code f hf).2.2 ins hm
   split at h
   ·rename_i e
    simp only [Option.some.injEq, Prod.mk.injEq] at h
    have := hok.2.2.2.2.2.2.2.2.2.2.2.2 e
    omega
   ·split at h
    ·split at h
     ·cases h
     ·rename_i hne
      simp only [Option.some.injEq, Prod.mk.injEq] at h
      have h1 : (enabled (aB p ins) w.av).length ≤ (aB p ins).length := BD _ _ _
      have h2 : (aB p ins).length ≤ p.cases.length := by
       unfold aB
       rw [List.length_take, List.length_drop]; omega
      have := hp.cs
      have h3 : 0 < (enabled (aB p ins) w.av).length := by
       rcases hl : enabled (aB p ins) w.av with _ | ⟨q, t⟩
       ·exact absurd hl hne
       ·simp
      omega
    ·cases h
 ·cases h
end
section
variable {p : cy} {x y z : Wd} {g q k n : Int}
theorem Es : ∀ (l : List Int) (x : Wd), WV p x → l.Nodup → (∀ q ∈ l, 0 ≤ q ∧ q < x.gs.length ∧ (aa x q).st ≠ 1 ∧ oJ x q) → WV p (l.foldl Wd.eU x) ∧ Wk x (l.foldl Wd.eU x) ∧ (l.foldl Wd.eU x).ready = x.ready ++ l
 | [], x, h, _, _ => ⟨h, Wk.refl x, by simp⟩
 | q :: l, x, h, hn, ha => by
  obtain ⟨q0, q1, q2, q3⟩ := ha q (by simp)
  obtain ⟨hn1, td⟩ := List.nodup_cons.1 hn
  obtain ⟨r1, r2, r3⟩ := Es l (x.eU q) (h.eU q0 q1 q3) td (fun m hm => by
   obtain ⟨m0, m1, m2, m3⟩ := ha m (List.mem_cons_of_mem _ hm)
   have hne : m ≠ q := fun e => hn1 (e ▸ hm)
   exact ⟨m0, by rw [oL]; exact m1, by rw [tL q0 q1 m0 hne]; exact m2, m3⟩)
  refine ⟨r1, (Wk.eU q0 q1 q2).trans r2, ?_⟩
  rw [List.foldl_cons, r3]
  show (x.ready ++ [q]) ++ l = _
  simp
def N6 (x : Wd) : List Int := (dM x.hl.length x.hl (IntKind.wrap .u64 (x.clock + 1))).2.map aN.id
theorem Yf (he : x.end_ = 0) : x.tick = (N6 x).foldl Wd.eU { x with clock := IntKind.wrap .u64 (x.clock + 1), hl := (dM x.hl.length x.hl (IntKind.wrap .u64 (x.clock + 1))).1, ready := [] } := by
 unfold Wd.tick
 rw [if_neg (by rw [he]; decide)]
 rfl
theorem Gt (h : WV p x) : (∀ y ∈ (dM x.hl.length x.hl (IntKind.wrap .u64 (x.clock + 1))).2, 0 ≤ y.id ∧ y.id < x.gs.length) ∧ WV p x.tick ∧ Wk { x with ready := [] } x.tick ∧ x.tick.ready.length ≤ 100 := by
 generalize hr : dM x.hl.length x.hl (IntKind.wrap .u64 (x.clock + 1)) = r
 have hp : x.hl.Perm (r.2 ++ r.1) := by rw [← hr]; exact vX _ _ _
 have m2 : ∀ y ∈ r.2, y ∈ x.hl := fun y hy => hp.mem_iff.2 (List.mem_append_left _ hy)
 have m1 : ∀ y ∈ r.1, y ∈ x.hl := fun y hy => hp.mem_iff.2 (List.mem_append_right _ hy)
 have hc : ∀ q, (r.2.map aN.id).count q + (r.1.map aN.id).count q ≤ 1 := fun q => by
  have a := h.h1 q
  unfold Dv at a
  rw [(hp.map aN.id).count_eq, List.map_append, List.count_append] at a
  exact a
 refine ⟨fun y hy => ⟨(h.hl y (m2 y hy)).1, (h.hl y (m2 y hy)).2.1⟩, ?_⟩
 by_cases he : x.end_ = 0
 ·rw [Yf he]
  unfold N6
  rw [hr]
  have h1 : WV p { x with clock := IntKind.wrap .u64 (x.clock + 1), hl := r.1, ready := [] } :=
   ⟨h.n1, h.n2, h.G7, h.ch, h.lk, h.buf, h.cH, h.snd, h.lw, fun y hy => h.hl y (m1 y hy), h.one, h.Eg, fun q => by have := hc q; unfold Dv; dsimp only; omega, h.out⟩
  have V0 : (r.2.map aN.id).Nodup := List.nodup_iff_count.2 fun q => by have := hc q; omega
  obtain ⟨r1, r2, r3⟩ := Es (r.2.map aN.id) { x with clock := IntKind.wrap .u64 (x.clock + 1), hl := r.1, ready := [] } h1 V0 (fun q hq => by
   obtain ⟨y, hy, rfl⟩ := List.mem_map.1 hq
   have a := h.hl y (m2 y hy)
   refine ⟨a.1, a.2.1, by show (aa x y.id).st ≠ 1; rw [a.2.2]; decide, fun c P7 hg => ?_, fun l hl hg => ?_, fun w hw e => ?_⟩
   ·have := (h.UY P7 hg).1.2.2
    rw [a.2.2] at this; cases this
   ·have := (h.lw l hl _ hg).1.2.2
    rw [a.2.2] at this; cases this
   ·have b := hc y.id
    have c1 : 0 < (r.2.map aN.id).count y.id := List.count_pos_iff.2 hq
    have c2 : 0 < (r.1.map aN.id).count y.id := List.count_pos_iff.2 (List.mem_map.2 ⟨w, hw, e⟩)
    omega)
  refine ⟨r1, Wk.trans (Wk.same rfl rfl) r2, ?_⟩
  rw [r3]
  have a := h.En
  have b := hp.length_eq
  simp only [List.length_append, List.length_map, List.nil_append] at *
  omega
 ·have e : x.tick = { x with ready := [] } := by unfold Wd.tick; rw [if_pos he]
  rw [e]
  exact ⟨h.ready, Wk.refl _, by simp⟩
theorem wv_new (hp : eK p) : WV p (Wd.new p) := by
 have e : ∀ q, aa (Wd.new p) q = if q.toNat = 0 then ⟨1, [eJ.begin 0 0], .zero⟩ else ⟨0, [], .zero⟩ := by
  intro q
  unfold aa Wd.new
  dsimp only
  split
  ·rename_i e; rw [e]; rfl
  ·rename_i e
   rw [List.getD_eq_getElem?_getD, List.getElem?_eq_none (by simp; omega)]; rfl
 have Ai : ∀ c ∈ (Wd.new p).av, ∃ n, c = aQ.new n := fun c hc => by
  obtain ⟨n, _, rfl⟩ := List.mem_map.1 hc
  exact ⟨n, rfl⟩
 have hlk : ∀ l ∈ (Wd.new p).aC, l.waits = [] := fun l hl => by
  have := List.eq_of_mem_replicate hl
  rw [this]
 have z1 : ∀ q, cD (Wd.new p).av q = 0 := fun q => sP _ _ fun c hc => by
  obtain ⟨n, rfl⟩ := Ai c hc
  rfl
 have z2 : ∀ q, hG (Wd.new p).aC q = 0 := fun q => sP _ _ fun l hl => by rw [hlk l hl]; rfl
 refine ⟨by simp [Wd.new], by simp [Wd.new], fun y hy => ?_, by simp [Wd.new], by (simp [Wd.new]; have := hp.lk.1; omega), fun c hc => ?_, fun c hc v hv => ?_, fun c hc v hv => ?_, fun l hl q hq => ?_, fun y hy => by simp [Wd.new] at hy, fun q _ _ => by rw [z1, z2]; omega, fun q => by rw [z1]; omega, fun q => by simp [Dv, Wd.new], by simp [Wd.new]⟩
 ·simp only [Wd.new, List.mem_singleton] at hy
  subst hy
  refine ⟨by simp, by simp, fun r hr => ?_, (fun e => by cases e), by show (1 : Int) ≤ 1 ∧ (1 : Int) ≤ 4; decide⟩
  simp only [List.mem_singleton] at hr; subst hr
  exact ⟨Int.le_refl 0, by have := hp.f1; show (0 : Int) < _; omega, Int.le_refl 0, (by show (0 : Int) ≤ 64; decide), by show aR 0; decide⟩
 ·obtain ⟨n, rfl⟩ := Ai c hc
  exact ⟨Nat.zero_le _, RQ n⟩
 ·obtain ⟨n, rfl⟩ := Ai c hc
  cases hv
 ·obtain ⟨n, rfl⟩ := Ai c hc
  cases hv
 ·rw [hlk l hl] at hq; cases hq
end
def Dw (y : gG) : Bool := y.st == 1 || y.st == 3
def Wd.stuck (x : Wd) : Bool := x.end_ == 0 && !(x.gs.any Dw)
section
variable {R : Mem} {L L' L2 : List HP} {M : Mem} {K : Value → Mem → Prop} {Kp : List PanicEntry → Mem → Prop} {pa : PA} {p : cy} {b : Nat} {x : Wd} {g : Int}
theorem Jo (h : Hp R L M) [o : AG b L pa p x L'] (k : K (.int .u64 x.clock) M) : ae Tryz.prog 81 #[.pointer (some ⟨b, 0, none⟩)] M K Kp := by
 refine rM ?_
 have h' := dh h (b := b)
 clear h
 obtain ⟨a, gg, dr, n, hl, h⟩ := h'
 exact az h k
theorem zK (h : Hp R L M) [o : AG b L pa p x L'] (hs : x.gs.length ≤ 1000000) (k : K (.bool x.stuck) M) : ae Tryz.prog 44 #[.pointer (some ⟨b, 0, none⟩)] M K Kp := by
 refine rL ?_
 unfold Wd.stuck at k
 have h' := dh h (b := b)
 clear h
 obtain ⟨a, gg, dr, n, hl, h⟩ := h'
 have hl' := hl
 obtain ⟨l1, l2, l3, l4⟩ := hl'
 refine az h ?_
 refine dJ.2 ⟨fun he => ?_, fun he => ?_⟩
 ·rw [show (x.end_ == 0) = false from by simpa using he, Bool.false_and] at k
  exact k
 rw [show (x.end_ == 0) = true from by simpa using he, Bool.true_and] at k
 refine ax h ?_
 refine ⟨fun d vs M' => ∃ j : Nat, vs = [.int .i64 (j : Int)] ∧ d = x.gs.length - j ∧ j ≤ x.gs.length ∧ (x.gs.take j).any Dw = false ∧ M' = M, ⟨_, 0, rfl, rfl, by omega, rfl, rfl⟩, ?_⟩
 rintro d _ nn M' ⟨j, Zl, hd, hj, ha, rfl⟩
 simp only [List.cons.injEq, Value.int.injEq, and_true, true_and] at Zl
 subst Zl
 refine aH.2 ⟨fun hlt => ?_, fun hge => ?_⟩
 ·obtain ⟨gb, gm⟩ := aL (l := a.gb) (i := j) (by omega)
  obtain ⟨ga, XW⟩ := aL (l := gg) (i := j) (by omega)
  obtain ⟨y, hy⟩ := aL (l := x.gs) (i := j) (by omega)
  have J7 : M'.ld ⟨gb, 0, none⟩ = some (.int .i64 y.st) := by
   have h9 := mz (b := gb) (h.eG gj gm (m6 hy XW))
   exact cw h9
  refine ⟨by omega, by omega, ?_⟩
  refine vT h gm fun q hq => ?_
  refine aT ?_
  rw [J7]
  refine ff ?_
  have hym := List.mem_of_getElem? hy
  refine bh.2 ⟨fun e1 => ?_, fun e1 => ?_⟩
  ·have : x.gs.any Dw = true := List.any_eq_true.2 ⟨y, hym, by simp [Dw, e1]⟩
   rw [this] at k
   exact k
  refine aT ?_
  rw [J7]
  refine ff ?_
  refine bh.2 ⟨fun e3 => ?_, fun e3 => ?_⟩
  ·have : x.gs.any Dw = true := List.any_eq_true.2 ⟨y, hym, by simp [Dw, e3]⟩
   rw [this] at k
   exact k
  refine ⟨x.gs.length - (j + 1), by omega, j + 1, by rw [aS (by omega)], rfl, by omega, ?_, rfl⟩
  rw [dw hy, List.any_append, ha]
  simp [Dw, e1, e3]
 ·have KF : j = x.gs.length := by omega
  subst KF
  rw [List.take_length] at ha
  rw [ha] at k
  exact k
theorem Jp {y : Lk} (h : Hp R L M) [o : gk fh b L y L'] (k : K (.int .i64 y.owner) M) : ae Tryz.prog 151 #[.pointer (some ⟨b, 0, none⟩)] M K Kp := by
 refine uF ?_
 have h' := tD h (b := b)
 clear h
 obtain ⟨A, c, h⟩ := h'
 exact az h k
theorem Jq {y : Lk} (h : Hp R L M) [o : gk fh b L y L'] (hs : y.waits.length ≤ 1000000) (k : ∀ A c M', Hp R (vS A c y.waits :: bl fh b y :: L') M' → K (.slice A y.waits.length c) M') : ae Tryz.prog 152 #[.pointer (some ⟨b, 0, none⟩)] M K Kp := by
 refine uG ?_
 have h' := tD h (b := b)
 clear h
 obtain ⟨A, c, h⟩ := h'
 refine ai h ?_
 clear h; intro k1 M h
 refine ax h ?_
 refine h.b6 bR jP y.waits (h.src (A := A)) rfl (by omega) ?_
 clear h; intro A' c' M h
 refine aU ?_
 have h2 : Hp R (pt b [.int .i64 y.owner, .slice A y.waits.length c] 238 :: vS A c y.waits :: vS A' c' y.waits :: L') M := h.sub bx
 exact k _ _ _ ((g9 h2 b).sub bx)
theorem MP (h : Hp R L M) [o : AG b L pa p x L'] (h0 : 0 ≤ g) (h1 : g < x.aC.length) (hs : (cR x g).waits.length ≤ 1000000) (k : ∀ A c M', Hp R (vS A c (cR x g).waits :: bl (cK pa p) b x :: L') M' → K (.tuple #[.int .i64 (cR x g).owner, .slice A (cR x g).waits.length c]) M') : ae Tryz.prog 118 #[.pointer (some ⟨b, 0, none⟩), .int .i64 g] M K Kp := by
 refine uE ?_
 have h' := dh h (b := b)
 clear h
 obtain ⟨a, gg, dr, n, hl, h⟩ := h'
 have hl' := hl
 obtain ⟨l1, l2, l3, l4⟩ := hl'
 refine aH.2 ⟨fun hn => by omega, fun _ => ?_⟩
 refine ax h ?_
 refine aH.2 ⟨fun hn => by omega, fun _ => ?_⟩
 refine ax h ⟨h0, by omega, ?_⟩
 obtain ⟨lb, hlb⟩ := aL (l := a.lb) (i := g.toNat) (by omega)
 obtain ⟨y, hy⟩ := aL (l := x.aC) (i := g.toNat) (by omega)
 have e : cR x g = y := by simp [cR, hy]
 rw [e] at k hs
 refine vT h hlb fun q hq => ?_
 refine ax h ⟨h0, by omega, ?_⟩
 rw [hq]
 refine aT ?_
 have hp1 := UG h hq hlb
 rw [hp1]
 refine Bl ?_
 have h2 := h.eG fh hlb hy
 refine Jp h2 ?_
 refine ff ⟨hp1, ?_⟩
 refine ⟨by have := cw h (b := b) (o := 0 + 7) (v := .slice a.al a.lb.length a.cl); rw [hq] at this; exact this, ?_⟩
 refine Jq h2 hs ?_
 clear h h2 hp1; intro A c M h
 refine aU ⟨UG h hq hlb, ?_⟩
 refine ⟨by have := cw h (b := b) (o := 0 + 7) (v := .slice a.al a.lb.length a.cl); rw [hq] at this; exact this, ?_⟩
 replace h := h.od fh lb hlb hy
 exact k _ _ _ ((jV (a := a) (gg := gg) (dr := dr) (n := n) (x := x) hl (h.sub bx)).swap)
end
def recE : jM (Int × Int) := ⟨2, fun w => [.int .i64 w.1, .int .u64 w.2], fun _ => rfl, fun w v hv => by
 simp only [List.mem_cons, List.not_mem_nil, or_false] at hv; obtain rfl | rfl := hv <;> rfl⟩
inductive Gu where
 | orc (l : List Int) (at_ : Nat)
 | tape (l : List (Int × Int)) (at_ : Nat)
structure U9 where
 k : Gu
 taken : List (Int × Int)
def dryV : List PanicEntry := [{ v := .iface 227 (.agg #[]), recovered := false }]
def unV (at_ kind n k v : Int) : List PanicEntry := [{ v := .iface 155 (.agg #[.int .i64 at_, .int .i64 kind, .int .i64 n, .int .i64 k, .int .u64 v]), recovered := false }]
def max1 (n : Int) : Int := if 1 > n then 1 else n
def Gu.next (k : Gu) (kind m : Int) : Gu × iz := match k with
 | .orc l i => match l[i]? with
  | none => (.orc l i, .fR dryV)
  | some v => (.orc l (i + 1), .num (Int.tmod v m))
 | .tape l i => match l[i]? with
  | none => (.tape l i, .fR dryV)
  | some (q, v) => if q ≠ kind then (.tape l i, .fR (unV i kind m q v)) else if v ≥ m then (.tape l i, .fR (unV i kind m q v)) else (.tape l (i + 1), .num v)
def U9.draw (x : U9) (kind n : Int) : U9 × iz := match x.k.next kind (max1 n) with
 | (k', .num v) => (⟨k', x.taken ++ [(kind, v)]⟩, .num v)
 | (k', .fR l) => (⟨k', x.taken⟩, .fR l)
def Gu.Ok : Gu → Prop
 | .orc l i => l.length ≤ 1000000000 ∧ i ≤ l.length ∧ ∀ v ∈ l, 0 ≤ v ∧ v < 18446744073709551616
 | .tape l i => l.length ≤ 1000000000 ∧ i ≤ l.length ∧ ∀ v ∈ l, 0 ≤ v.2 ∧ v.2 < 18446744073709551616
def U9.Ok (x : U9) : Prop := x.k.Ok ∧ x.taken.length ≤ 1000000000
abbrev Va (A : Option Addr) (c : Nat) (l : List (Int × Int)) : HP := cu recE 153 A c l
abbrev rowU (A : Option Addr) (c : Nat) (l : List Int) : HP := cu u64E 36 A c l
def kR : xJ Gu := ⟨fun b k => match k with
 | .orc l i => exs fun A : Option Addr => exs fun c : Nat => sep [pt b [.slice A l.length c, .int .i64 (i : Int)] 147, rowU A c l]
 | .tape l i => exs fun A : Option Addr => exs fun c : Nat => sep [pt b [.slice A l.length c, .int .i64 (i : Int)] 175, Va A c l]⟩
def nextV : Gu → Nat → Value
 | .orc _ _, b => .func (.func 54) #[.pointer (some ⟨b, 0, none⟩)] #[]
 | .tape _ _, b => .func (.func 66) #[.pointer (some ⟨b, 0, none⟩)] #[]
def leftV : Gu → Nat → Value
 | .orc _ _, b => .func (.func 55) #[.pointer (some ⟨b, 0, none⟩)] #[]
 | .tape _ _, b => .func (.func 67) #[.pointer (some ⟨b, 0, none⟩)] #[]
def souR (see : Value) : xJ U9 := ⟨fun b x => exs fun A : Option Addr => exs fun c : Nat => exs fun kb : Nat =>
 sep [pt b [nextV x.k kb, leftV x.k kb, .slice A x.taken.length c, see] 151, Va A c x.taken, bl kR kb x.k]⟩
end Go.Proofs
