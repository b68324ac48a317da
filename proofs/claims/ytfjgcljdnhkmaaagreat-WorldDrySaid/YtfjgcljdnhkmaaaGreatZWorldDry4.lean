/- A part of proofs about one program. -/
import Derived.Test.YtfjgcljdnhkmaaaGreatZWorldDry2
import Derived.Test.YtfjgcljdnhkmaaaGreatZWorldDry3
set_option linter.unusedVariables false
namespace Go.Proofs
open Go.AF
set_option maxRecDepth 100000
set_option maxHeartbeats 1000000
attribute [local irreducible] bG dF ff dP aF fa aE b7 aO bk bJ aM
def tL : jP (Option Addr × Nat × Nat) := ⟨1, fun t => [.slice t.1 t.2.1 t.2.2], fun _ => rfl, fun w v hv => by simp only [List.mem_singleton] at hv; subst hv; rfl⟩
structure nQ (R : Mem) (pa : PA) (p : cy) : Prop where
 funcs : ∃ ts : List (Option Addr × Nat × Nat), RS tL R pa.f pa.fc ts ∧ ts.length = p.funcs.length ∧ ∀ (i : Nat) t f, ts[i]? = some t → p.funcs[i]? = some f → RS jE R t.1 t.2.2 f ∧ t.2.1 = f.length
 cases : RS gT R pa.k pa.kc p.cases
theorem nQ.le {R R' : Mem} {pa : PA} {p : cy} (h : nQ R pa p) (hle : R.le R') : nQ R' pa p := by
 obtain ⟨⟨ts, h1, h2, h3⟩, h4⟩ := h
 exact ⟨⟨ts, h1.le hle, h2, fun i t f a b => ⟨(h3 i t f a b).1.le hle, (h3 i t f a b).2⟩⟩, h4.le hle⟩
def Wd.next (x : Wd) (g : Int) : Wd := x.bp g ((aa x g).bW (aa x g).top.next)
def Z3 (n : Int) : List PanicEntry := [{ v := .iface 256 (.int .i64 n), recovered := false }]
def gO (R : Mem) (pa : PA) (p : cy) (dr : Value) (fnum : Nat) (x : Wd) (g : Int) (i : bZ) (r : Out Wd) (L L2 : List HP) : Prop :=
 ∀ (gg : List GA) (b bs c : Nat) (M : Mem) (K : Value → Mem → Prop) (Kp : List PanicEntry → Mem → Prop) (Q : HP), Hp R (bj (bI pa p gg dr) b x :: Q :: L) M → gg[g.toNat]? = some (some ⟨bs, 0, none⟩, c) →
  Out.Ok r (fun y => ∀ nq M', Hp R (bj (bI pa p nq dr) b y :: Q :: L2) M' → K (.tuple #[]) M') (fun n y => ∀ nq M', Hp R (bj (bI pa p nq dr) b y :: Q :: L2) M' → Kp (Z3 n) M') (fun l y => ∀ nq M', Hp R (bj (bI pa p nq dr) b y :: Q :: L2) M' → Kp l M') →
  ae Tryz.prog fnum #[.pointer (some ⟨b, 0, none⟩), .int .i64 g, .pointer (some ⟨bs, ((aa x g).fs.length - 1) * 11, none⟩), .agg #[.int .i64 i.op, .int .i64 i.a, .int .i64 i.b, .int .i64 i.c]] M K Kp
theorem Out.Ok.mono {α : Type} {r : Out α} {k1 k1' : α → Prop} {k2 k2' : Int → Wd → Prop} {k3 : List PanicEntry → Wd → Prop} (h : r.Ok k1 k2 k3) (h1 : ∀ y, k1 y → k1' y) (h2 : ∀ n y, k2 n y → k2' n y) : r.Ok k1' k2' := by
 cases r with
 | on y => exact h1 y h
 | dg n y => exact h2 n y h
 | fF l y => trivial
section
variable {R : Mem} {L L' L2 : List HP} {M : Mem} {K : Value → Mem → Prop} {Kp : List PanicEntry → Mem → Prop} {pa : PA} {p : cy} {gg : List GA} {dr : Value} {b : Nat} {x : Wd} {g : Int} {i : bZ}
theorem Yv (hp : nQ R pa p) (hk : Nj p x g i) (hs : x.Sm) : gO R pa p dr 165 x g i (x.send p g i) L L := fun gg b bs c M K Kp Q h fS k =>
 Nk h hp.cases fS hk hs (k.mono (fun y hy M' h' => hy gg M' h') (fun n y hy M' h' => hy gg M' h'))
theorem Yw (hk : y9 x g i) (hs : x.Sm) : gO R pa p dr 166 x g i (.on (x.recv g i)) L L := fun gg b bs c M K Kp Q h fS k =>
 Nl h fS hk hs fun M' h' => k gg M' h'
theorem Yx (hg : aT x g) (ha : aR i.a) (hs : x.Sm) : gO R pa p dr 171 x g i (x.emit g i) L L := fun gg b bs c M K Kp Q h fS k =>
 Nm h fS hg ha hs (k.mono (fun y hy M' h' => hy gg M' h') (fun n y hy M' h' => hy gg M' h'))
theorem Vr (hg : aT x g) (hb : aR i.b) (hc : aR i.c) (hs : x.Sm) : gO R pa p dr 163 x g i (x.spawn g i) L L := fun gg b bs c M K Kp Q h fS k =>
 JB h fS hg hb hc hs (k.mono (fun y hy => hy) (fun n y hy M' h' => hy gg M' h'))
theorem Yy (hp : nQ R pa p) (hk : pP p x i) (hs : x.Sm) : gO R pa p dr 167 x g i (x.shut p i) L L := fun gg b bs c M K Kp Q h fS k =>
 No (f := .nilFunc) h hp.cases hk hs (k.mono (fun y hy M' h' => hy gg M' h') (fun n y hy M' h' => hy gg M' h'))
def wTab : AL := [(9, .func (.func 161) #[] #[]), (10, .func (.func 162) #[] #[]), (11, .func (.func 163) #[] #[]), (12, .func (.func 164) #[] #[]), (13, .func (.func 165) #[] #[]), (14, .func (.func 166) #[] #[]), (15, .func (.func 167) #[] #[]), (17, .func (.func 168) #[] #[]), (18, .func (.func 169) #[] #[]), (19, .func (.func 170) #[] #[]), (20, .func (.func 171) #[] #[]), (22, .func (.func 172) #[] #[])]
theorem JC (h : Hp R L M) (k : ∀ m M', Hp R (ob m (mY wTab) :: L) M' → K (.map (some m)) M') : ae Tryz.prog 124 #[] M K Kp := by
 refine BM ?_
 refine ZI h ?_
 clear h
 intro m M h
 replace h : Hp R (ob m (mY []) :: L) M := h
 have hu : Tryz.prog.underlying 261 = some (.map 32 260) := by kernel_rfl
 have hk : Tryz.prog.underlying 32 = some (.int .i64) := by kernel_rfl
 iterate 12
  refine zI h hu hk ?_
  clear h
  intro M h
 exact k _ _ h
end
theorem Cr {α β : Type} : ∀ {l : List α} {m : List β} {i : Nat} {u : α} {v : β}, (l.zip m).set i (u, v) = (l.set i u).zip (m.set i v)
 | [], _, _, _, _ => by simp
 | a :: l, [], i, u, v => by simp
 | a :: l, w :: m, 0, u, v => rfl
 | a :: l, w :: m, i + 1, u, v => by
  have := Cr (l := l) (m := m) (i := i) (u := u) (v := v)
  simp [this]
theorem sx {x : Wd} {g : Int} (h0 : 0 ≤ g) (h1 : g < x.gs.length) : x.bp g (aa x g) = x := by
 obtain ⟨y, hy⟩ := aJ (l := x.gs) (i := g.toNat) (by omega)
 have e : aa x g = y := by simp [aa, hy]
 rw [e]
 obtain ⟨hi, rfl⟩ := List.getElem?_eq_some_iff.1 hy
 simp [Wd.bp]
section
variable {R : Mem} {L L' L2 : List HP} {M : Mem} {K : Value → Mem → Prop} {Kp : List PanicEntry → Mem → Prop} {pa : PA} {p : cy} {gg : List GA} {dr : Value} {b : Nat} {x : Wd} {g : Int} {i : bZ}
theorem Yz (hg : aT x g) (ha : aR i.a) (hin : aR (aa x g).top.mF) : gO R pa p dr 162 x g i (.on (x.back g i)) L L := by
 intro gg b bs c M K Kp Q h fS k
 refine ux ?_
 replace k : ∀ nq M', Hp R (bj (bI pa p nq dr) b (x.back g i) :: Q :: L) M' → K (.tuple #[]) M' := k
 have GO := hg
 obtain ⟨h0, h1, h2, h3⟩ := GO
 unfold Wd.back at k
 refine ai h ?_
 clear h
 intro kb M h
 have h' := iF h (b := b) h0 h1 fS
 clear h
 obtain ⟨a, gb, hl, gp, h⟩ := h'
 have hl' := hl
 obtain ⟨l1, l2, l3, l4⟩ := hl'
 repeat (first|(refine ai h ?_;clear h;intro kb M h)|(refine ak h ?_;clear h;intro M h)|refine St.to h ?_|(apply Exists.intro;(repeat apply Exists.intro);refine And.intro rfl ?_)|refine ay ?_|refine aq ?_|refine au ?_)
 refine wh h gp fun q hq => ?_
 repeat (first|(refine ai h ?_;clear h;intro kb M h)|(refine ak h ?_;clear h;intro M h)|refine St.to h ?_|(apply Exists.intro;(repeat apply Exists.intro);refine And.intro rfl ?_)|refine ay ?_|refine aq ?_|refine au ?_)
 refine ⟨ha.1, ha.2, xH h (bR h2) ha rfl ?_⟩
 refine GN h h2 (by omega) (bR h2) hin ?_ ?_
 ·intro hlt
  rw [if_neg (by omega)] at k
  refine ⟨_, _, _, _, rfl, au ?_⟩
  repeat (first|(refine ai h ?_;clear h;intro kb M h)|(refine ak h ?_;clear h;intro M h)|refine St.to h ?_|(apply Exists.intro;(repeat apply Exists.intro);refine And.intro rfl ?_)|refine ay ?_|refine aq ?_|refine au ?_)
  refine wh h gp fun q2 Ng => ?_
  repeat (first|(refine ai h ?_;clear h;intro kb M h)|(refine ak h ?_;clear h;intro M h)|refine St.to h ?_|(apply Exists.intro;(repeat apply Exists.intro);refine And.intro rfl ?_)|refine ay ?_|refine aq ?_|refine au ?_)
  refine bh.2 ⟨fun e0 => ?_, fun e0 => ?_⟩
  ·rw [if_pos e0] at k
   repeat (first|(refine ai h ?_;clear h;intro kb M h)|(refine ak h ?_;clear h;intro M h)|refine St.to h ?_|(apply Exists.intro;(repeat apply Exists.intro);refine And.intro rfl ?_)|refine ay ?_|refine aq ?_|refine au ?_)
   replace h := dx h gb hl gp fS
   have dQ := dU (y := { aa x g with st := 4 }) (g := g) hl
   replace h := br (a := a) (p := p) (pa := pa) (dr := dr) (gg := gg) (x := { x.bp g { aa x g with st := 4 } with end_ := 1 }) dQ h b
   exact k _ _ h.cG
  ·rw [if_neg e0] at k
   replace h := dx h gb hl gp fS
   have dQ := dU (y := { aa x g with st := 4 }) (g := g) hl
   replace h := br (a := a) (p := p) (pa := pa) (dr := dr) (gg := gg) (x := x.bp g { aa x g with st := 4 }) dQ h b
   exact k _ _ h.cG
 ·intro hge b' c' M' fr hfr h'
  clear h
  have h := h'
  clear h'
  rw [if_pos hge] at k
  refine ⟨_, _, _, _, rfl, aq ?_⟩
  repeat (first|(refine ai h ?_;clear h;intro kb M h)|(refine ak h ?_;clear h;intro M h)|refine St.to h ?_|(apply Exists.intro;(repeat apply Exists.intro);refine And.intro rfl ?_)|refine ay ?_|refine aq ?_|refine au ?_)
  refine wh h gp fun q2 Ng => ?_
  repeat (first|(refine ai h ?_;clear h;intro kb M h)|(refine ak h ?_;clear h;intro M h)|refine St.to h ?_|(apply Exists.intro;(repeat apply Exists.intro);refine And.intro rfl ?_)|refine ay ?_|refine aq ?_|refine au ?_)
  have hlen : (aa x g).fs.length - 1 = (((aa x g).fs.take ((aa x g).fs.length - 1)).set ((aa x g).fs.length - 2) (fr.set (aa x g).top.mF (aK x g i.a))).length := by simp
  have hfr2 : (aa x g).fs.getD ((aa x g).fs.length - 2) ⟨0, 0, [], 0⟩ = fr := by rw [List.getD_eq_getElem?_getD, hfr]; rfl
  have h5 := oL (A := some ⟨b', 0, none⟩) (fs := ((aa x g).fs.take ((aa x g).fs.length - 1)).set ((aa x g).fs.length - 2) (fr.set (aa x g).top.mF (aK x g i.a))) h gb hlen
  have hi := (List.getElem?_eq_some_iff.1 gp).1
  have h6 := h5.gP gm gb gp (by rw [List.length_zip]; omega)
  rw [Cr] at h6
  have dQ : fW (gg.set g.toNat (some ⟨b', 0, none⟩, c')) a (x.bp g ((aa x g).back (aK x g i.a))) := ⟨by simpa [Wd.bp] using l1, by simpa [Wd.bp] using l2, l3, l4⟩
  have e : (aa x g).back (aK x g i.a) = ⟨(aa x g).st, ((aa x g).fs.take ((aa x g).fs.length - 1)).set ((aa x g).fs.length - 2) (fr.set (aa x g).top.mF (aK x g i.a)), (aa x g).wt⟩ := by
   unfold gK.back; rw [hfr2]
  rw [e] at dQ k
  have h7 := br (a := a) (p := p) (pa := pa) (dr := dr) (gg := gg.set g.toNat (some ⟨b', 0, none⟩, c')) (x := x.bp g ⟨(aa x g).st, ((aa x g).fs.take ((aa x g).fs.length - 1)).set ((aa x g).fs.length - 2) (fr.set (aa x g).top.mF (aK x g i.a)), (aa x g).wt⟩) dQ h6 b
  exact k _ _ (h7.sub bz)
end
def Out.fin : Out Wd → Wd
 | .on y => y
 | .dg n y => { y with end_ := 2, code := n }
 | .fF _ y => y
def Np (op : Int) : Out Wd → Bool
 | .on _ => op == 12 || op == 17
 | .dg _ _ => false
 | .fF _ _ => false
inductive Step (R : Mem) (pa : PA) (p : cy) (dr : Value) (x : Wd) (g : Int) (code : List bZ) : Out Wd → Bool → List HP → List HP → Prop where
 | out {L : List HP} (h : (code.length : Int) ≤ (aa x g).top.pc) : Step R pa p dr x g code (.dg (-7) x) false L L
 | pure {L : List HP} (i : bZ) (h : code[(aa x g).top.pc.toNat]? = some i) (h0 : 0 ≤ i.op) (h8 : i.op ≤ 8) (hk : i.cO) : Step R pa p dr x g code (.on (x.bp g ((aa x g).bW ((aa x g).top.next.pure i)))) false L L
 | EG {L L2 : List HP} {r : Out Wd} (i : bZ) (h : code[(aa x g).top.pc.toNat]? = some i) (mh : i.op = 16) (hs : gO R pa p dr 122 x g i r L L2) : Step R pa p dr x g code r false L L2
 | rnd {L L2 : List HP} {r : Out Wd} (i : bZ) (h : code[(aa x g).top.pc.toNat]? = some i) (RB : i.op = 21) (hs : gO R pa p dr 123 x g i r L L2) : Step R pa p dr x g code r false L L2
 | dflt {L L2 : List HP} {r : Out Wd} (i : bZ) (fn : Nat) (h : code[(aa x g).top.pc.toNat]? = some i) (h8 : 8 < i.op) (mh : i.op ≠ 16) (RB : i.op ≠ 21) (hf : DP wTab i.op = some (.func (.func fn) #[] #[])) (hn : 1 < fn ∧ fn < 228)
   (hs : gO R pa p dr fn (x.next g) g i r L L2) : Step R pa p dr x g code r (Np i.op r) L L2
section
variable {R : Mem} {L L' L2 : List HP} {M : Mem} {K : Value → Mem → Prop} {Kp : List PanicEntry → Mem → Prop} {pa : PA} {p : cy} {gg : List GA} {dr : Value} {b : Nat} {x : Wd} {g : Int} {i : bZ}
theorem f_ldFn {c bs j : Nat} {l : List eH} {f : eH} {G : Int → Prop} (h : Hp R L M) [q : dG (some ⟨bs, 0, none⟩) L eH fZ 234 c l L'] (hi : l[j]? = some f) (g : G f.fn) : bG (M.ld ⟨bs, j * 11, none⟩) .i64 G := by
 refine aj (Src.at (h.src (A := some ⟨bs, 0, none⟩)) h (i := j) (j := 0) hi rfl ?_) g
 show _ = 0 + (j * 11 + 0); omega
theorem GP {n : Int} {v : Value} {Q : HP} (h : Hp R (bj (bI pa p gg dr) b x :: Q :: L) M) (k : ∀ M', Hp R (bj (bI pa p gg dr) b { x with end_ := 2, code := n } :: L) M' → K v M') :
  di Tryz.prog 119 (.pointer (some ⟨b, 0, none⟩)) K Kp v (.panicking (Z3 n)) M := by
 refine MY ?_
 have h' := cV h (b := b)
 clear h
 obtain ⟨a, hl, h⟩ := h'
 repeat (first|(refine ai h ?_;clear h;intro kb M h)|(refine ak h ?_;clear h;intro M h)|refine St.to h ?_|(apply Exists.intro;(repeat apply Exists.intro);refine And.intro rfl ?_)|refine ay ?_|refine aq ?_|refine au ?_)
 exact k _ (kV (a := a) (x := { x with end_ := 2, code := n }) hl (h.sub bz))
theorem AN {k : Nat} {bw : Nat} (h : Hp R L M) [o : nE k L [.int .i64 i.op, .int .i64 i.a, .int .i64 i.b, .int .i64 i.c] 34 L'] (g : K (.bool (i.op == 12 || i.op == 17)) M) :
  bG (M.ld ⟨k, 0, none⟩) .i64 fun n => aM (n == 12) (di Tryz.prog 119 (.pointer (some ⟨bw, 0, none⟩)) K Kp (.bool true) .returning M)
   (bG (M.ld ⟨k, 0, none⟩) .i64 fun n => di Tryz.prog 119 (.pointer (some ⟨bw, 0, none⟩)) K Kp (.bool (n == 17)) .returning M) := by
 have hp := h.pick o.pick
 refine az hp ?_
 refine bh.2 ⟨fun e => ?_, fun e => ?_⟩
 ·rw [e] at g; exact Jq g
 ·refine az hp ?_
  have : (i.op == 12) = false := by simpa using e
  rw [this, Bool.false_or] at g
  exact Jq g
def Vs (R : Mem) (pa : PA) (p : cy) (dr : Value) (b : Nat) (L2 : List HP) (K : Value → Mem → Prop) (Kp : List PanicEntry → Mem → Prop) (r : Out Wd) (rest : Bool) : Prop := match r with
 | .fF l y => ∀ nq M', Hp R (bj (bI pa p nq dr) b y :: L2) M' → di Tryz.prog 119 (.pointer (some ⟨b, 0, none⟩)) K Kp (.bool false) (.panicking l) M'
 | .on y => ∀ nq M', Hp R (bj (bI pa p nq dr) b y :: L2) M' → K (.bool rest) M'
 | .dg n y => ∀ nq M', Hp R (bj (bI pa p nq dr) b { y with end_ := 2, code := n } :: L2) M' → K (.bool rest) M'
theorem JD {code : List bZ} {r : Out Wd} {rest : Bool} (h : Hp R L M) [o : y8 b L pa p gg dr x L'] (hp : nQ R pa p) (hg : aT x g) (hfn : 0 ≤ (aa x g).top.fn) (fC : p.funcs[(aa x g).top.fn.toNat]? = some code)
  (sS : 0 ≤ (aa x g).top.pc ∧ (aa x g).top.pc < 1000000000) (hs : Step R pa p dr x g code r rest L' L2)
  (k : Vs R pa p dr b L2 K Kp r rest) : ae Tryz.prog 88 #[.pointer (some ⟨b, 0, none⟩), .int .i64 g] M K Kp := by
 refine xE ?_
 have GO := hg
 obtain ⟨h0, h1, h2, h3⟩ := GO
 have h' := kW h (b := b) h0 h1
 clear h
 obtain ⟨a, gb, A, c, hl, gp, fS, h⟩ := h'
 have hl' := hl
 obtain ⟨l1, l2, l3, l4⟩ := hl'
 obtain ⟨bs, rfl⟩ := h.bU (A := A) h2 (by decide)
 have GQ : ∀ {M : Mem}, Hp R (pt gb (sP (aa x g) (some ⟨bs, 0, none⟩) c) 182 :: we (some ⟨bs, 0, none⟩) c (aa x g).fs :: pt b (nO pa p dr a x) 164 :: zD gm a.gb (x.gs.zip gg) g.toNat :: vk a x L') M → Hp R (bj (bI pa p gg dr) b x :: L') M := by
  intro M h
  replace h := dx h gb hl gp fS
  have dQ := dU (y := aa x g) (g := g) hl
  replace h := br (a := a) (p := p) (pa := pa) (dr := dr) (gg := gg) (x := x.bp g (aa x g)) dQ h b
  rwa [sx h0 h1] at h
 repeat (first|(refine ai h ?_;clear h;intro kb M h)|(refine ak h ?_;clear h;intro M h)|refine St.to h ?_|(apply Exists.intro;(repeat apply Exists.intro);refine And.intro rfl ?_)|refine ay ?_|refine aq ?_|refine au ?_)
 refine wh h gp fun q hq => ?_
 repeat (first|(refine ai h ?_;clear h;intro kb M h)|(refine ak h ?_;clear h;intro M h)|refine St.to h ?_|(apply Exists.intro;(repeat apply Exists.intro);refine And.intro rfl ?_)|refine ay ?_|refine aq ?_|refine au ?_)
 refine oK h2 (by omega) ?_
 repeat (first|(refine ai h ?_;clear h;intro kb M h)|(refine ak h ?_;clear h;intro M h)|refine St.to h ?_|(apply Exists.intro;(repeat apply Exists.intro);refine And.intro rfl ?_)|refine ay ?_|refine aq ?_|refine au ?_)
 refine f_ldFn h (bR h2) ?_
 obtain ⟨ts, hts, htl, hrow⟩ := hp.funcs
 have hfl := (List.getElem?_eq_some_iff.1 fC).1
 obtain ⟨t, ht⟩ := aJ (l := ts) (i := (aa x g).top.fn.toNat) (by omega)
 obtain ⟨Al, Ey⟩ := hrow _ t code ht fC
 obtain ⟨tA, tn, tc⟩ := t
 dsimp only at Al Ey
 subst Ey
 refine ⟨hfn, by omega, ?_⟩
 obtain ⟨fb, fo, hfb⟩ := hts.some (by omega) (by decide)
 rw [hfb] at hts ⊢
 refine aV ?_
 refine bu (Src.at (hts.src (L := _)) h (i := (aa x g).top.fn.toNat) (j := 0) ht rfl (by simp [tL])) ?_
 dsimp only
 refine aV ?_
 refine Co h (bR h2) rfl ?_
 refine aH.2 ⟨fun hge => ?_, fun hlt => ?_⟩
 ·cases hs with
  | out _ =>
   have h5 : Hp R (bj (bI pa p gg dr) b x :: fact True :: L') M := (Hp.kO.2 ⟨trivial, GQ h⟩).swap
   exact GP h5 fun M' h' => k gg M' h'
  | pure i hi => have := (List.getElem?_eq_some_iff.1 hi).1; omega
  | EG i hi => have := (List.getElem?_eq_some_iff.1 hi).1; omega
  | rnd i hi => have := (List.getElem?_eq_some_iff.1 hi).1; omega
  | dflt i fn hi => have := (List.getElem?_eq_some_iff.1 hi).1; omega
 refine aV ?_
 refine Co h (bR h2) rfl ?_
 refine ⟨sS.1, by omega, ?_⟩
 obtain ⟨i, hi⟩ := aJ (l := code) (i := (aa x g).top.pc.toNat) (by omega)
 obtain ⟨ib, io, rfl⟩ := Al.some (by omega) (by decide)
 refine aV ?_
 refine aj (Src.at (Al.src (L := _)) h (i := (aa x g).top.pc.toNat) (j := 0) hi rfl (by simp [jE])) ?_
 refine aj (Src.at (Al.src (L := _)) h (i := (aa x g).top.pc.toNat) (j := 1) hi rfl (by show _ = io + (_ * 4 + 1); omega)) ?_
 refine aj (Src.at (Al.src (L := _)) h (i := (aa x g).top.pc.toNat) (j := 2) hi rfl (by show _ = io + (_ * 4 + 2); omega)) ?_
 refine aj (Src.at (Al.src (L := _)) h (i := (aa x g).top.pc.toNat) (j := 3) hi rfl (by show _ = io + (_ * 4 + 3); omega)) ?_
 have hpure : i.cO ∧ 0 ≤ i.op ∨ 8 < i.op := by
  cases hs with
  | out h => omega
  | pure j hj a1 a2 a3 => rw [hi] at hj; cases hj; exact .inl ⟨a3, a1⟩
  | EG j hj a1 => rw [hi] at hj; cases hj; exact .inr (by omega)
  | rnd j hj a1 => rw [hi] at hj; cases hj; exact .inr (by omega)
  | dflt j fn hj a1 => rw [hi] at hj; cases hj; exact .inr a1
 have hok : i.cO ∧ 0 ≤ i.op := by
  rcases hpure with h | h
  ·exact h
  ·exact ⟨⟨fun h => by simp at h; omega, fun h => by omega, fun h => by simp at h; omega⟩, by omega⟩
 refine ai h ?_
 clear h; intro ki M h
 refine ak h ?_
 clear h; intro M h
 refine ak h ?_
 clear h; intro M h
 refine ak h ?_
 clear h; intro M h
 refine ak h ?_
 clear h; intro M h
 refine az h (az h (az h (az h ?_)))
 refine Nb h (bR h2) hok.1 hok.2 sS ?_ ?_
 ·intro h8 M' h'
  clear h
  have h := h'
  clear h'
  refine lF (aq ?_)
  cases hs with
  | out h => omega
  | EG j hj a1 => rw [hi] at hj; cases hj; omega
  | rnd j hj a1 => rw [hi] at hj; cases hj; omega
  | dflt j fn hj a1 => rw [hi] at hj; cases hj; omega
  | pure j hj a1 a2 a3 =>
   rw [hi] at hj; cases hj
   replace h := dx h gb hl gp fS (by simp)
   have dQ := dU (y := (aa x g).bW ((aa x g).top.next.pure i)) (g := g) hl
   have h5 := br (a := a) (p := p) (pa := pa) (dr := dr) (gg := gg) (x := x.bp g ((aa x g).bW ((aa x g).top.next.pure i))) dQ h b
   refine AN h5 ?_
   have e1 : (i.op == 12) = false := by simp; omega
   have e2 : (i.op == 17) = false := by simp; omega
   rw [e1, e2]
   exact k gg _ h5.cG
 ·intro h8 M' h'
  clear h
  have h := h'
  clear h'
  refine lF (au ?_)
  refine az h ?_
  refine bh.2 ⟨fun C5 => ?_, fun C5 => ?_⟩
  ·refine az h (az h (az h (az h ?_)))
   cases hs with
   | out h => omega
   | pure j hj a1 a2 a3 => rw [hi] at hj; cases hj; omega
   | dflt j fn hj a1 a2 => rw [hi] at hj; cases hj; omega
   | rnd j hj a1 => rw [hi] at hj; cases hj; omega
   | EG j hj a1 hop =>
    rw [hi] at hj; cases hj
    replace h := dx h gb hl gp fS
    have dQ := dU (y := aa x g) (g := g) hl
    replace h := br (a := a) (p := p) (pa := pa) (dr := dr) (gg := gg) (x := x.bp g (aa x g)) dQ h b
    rw [sx h0 h1] at h
    refine hop gg b bs c M' _ _ _ h fS ?_
    cases r with
    | on y =>
     intro nq M2 h
     refine ⟨rfl, AN h ?_⟩
     have e1 : (i.op == 12) = false := by simp; omega
     have e2 : (i.op == 17) = false := by simp; omega
     rw [e1, e2]
     exact k nq _ h.cG
    | dg n y =>
     intro nq M2 h
     exact GP h fun M3 h3 => k nq M3 h3
    | fF l y =>
     intro nq M2 h
     exact k nq M2 h.cG
  ·refine az h ?_
   refine bh.2 ⟨fun QG => ?_, fun QG => ?_⟩
   ·refine az h (az h (az h (az h ?_)))
    cases hs with
    | out h => omega
    | pure j hj a1 a2 a3 => rw [hi] at hj; cases hj; omega
    | EG j hj a1 => rw [hi] at hj; cases hj; omega
    | dflt j fn hj a1 a2 a3 => rw [hi] at hj; cases hj; omega
    | rnd j hj a1 hop =>
     rw [hi] at hj; cases hj
     replace h := dx h gb hl gp fS
     have dQ := dU (y := aa x g) (g := g) hl
     replace h := br (a := a) (p := p) (pa := pa) (dr := dr) (gg := gg) (x := x.bp g (aa x g)) dQ h b
     rw [sx h0 h1] at h
     refine hop gg b bs c M' _ _ _ h fS ?_
     cases r with
     | on y =>
      intro nq M2 h
      refine ⟨rfl, AN h ?_⟩
      have e1 : (i.op == 12) = false := by simp; omega
      have e2 : (i.op == 17) = false := by simp; omega
      rw [e1, e2]
      exact k nq _ h.cG
     | dg n y =>
      intro nq M2 h
      exact GP h fun M3 h3 => k nq M3 h3
     | fF l y =>
      intro nq M2 h
      exact k nq M2 h.cG
   cases hs with
   | out h => omega
   | pure j hj a1 a2 a3 => rw [hi] at hj; cases hj; omega
   | EG j hj a1 => rw [hi] at hj; cases hj; omega
   | rnd j hj a1 => rw [hi] at hj; cases hj; omega
   | dflt j fn hj a1 a2 a3 hf hn hop =>
    rw [hi] at hj; cases hj
    refine aV ?_
    refine Co h (bR h2) rfl ?_
    refine aV ?_
    rw [ji sS.1 (by omega)]
    refine Cp h (bR h2) rfl ?_
    clear h; intro M h
    refine az h (az h (az h (az h (az h ?_))))
    refine JC h ?_
    clear h; intro mp M h
    refine ⟨oq (cv h) (oq (cv h) (oq (cv h) (oq (cv h) AG))), cv h, ?_⟩
    have hu : Tryz.prog.underlying 261 = some (.map 32 260) := by kernel_rfl
    have hkk : Tryz.prog.underlying 32 = some (.int .i64) := by kernel_rfl
    obtain ⟨ti, hti, htz⟩ : ∃ ti, Tryz.prog.info? 260 = some ti ∧ ti.zero = some .nilFunc := ⟨_, rfl, rfl⟩
    refine Vh h hu hkk hti htz ?_
    rw [hf]
    refine ⟨oq (cv h) (oq (cv h) (oq (cv h) (oq (cv h) AG))), cv h, ?_⟩
    refine Jv hn ?_
    replace h := dx h gb hl gp fS (by simp)
    have dQ := dU (y := (aa x g).bW (aa x g).top.next) (g := g) hl
    have h5 := br (a := a) (p := p) (pa := pa) (dr := dr) (gg := gg) (x := x.next g) dQ h b
    have h6 : Hp R (bj (bI pa p gg dr) b (x.next g) :: pt ki [.int .i64 i.op, .int .i64 i.a, .int .i64 i.b, .int .i64 i.c] 34 :: L') M := h5.sub bz
    clear h h5
    have hfl : (aa (x.next g) g).fs.length = (aa x g).fs.length := by
     unfold Wd.next; rw [iE h0 h1]; simp [gK.bW]
    have hc := hop gg b bs c M (fun PY ov => (PY = (.tuple #[])) ∧ ((Mem.fX ov ⟨ki, 0, none⟩ 0 4) = some [(.int .i64 i.op), (.int .i64 i.a), (.int .i64 i.b), (.int .i64 i.c)]) ∧ ((Mem.ld ov ⟨ki, 0, none⟩) = (some (.int .i64 i.op))) ∧
     bG (ov.ld ⟨ki, 0, none⟩) .i64 fun n => aM (n == 12) (di Tryz.prog 119 (.pointer (some ⟨b, 0, none⟩)) K Kp (.bool true) .returning ov)
      (bG (ov.ld ⟨ki, 0, none⟩) .i64 fun n => di Tryz.prog 119 (.pointer (some ⟨b, 0, none⟩)) K Kp (.bool (n == 17)) .returning ov))
     (fun l M => di Tryz.prog 119 (.pointer (some ⟨b, 0, none⟩)) K Kp (.bool false) (.panicking l) M) _ h6 fS ?_
    ·rw [hfl] at hc
     exact hc
    cases r with
    | on y =>
     intro nq M2 h
     exact ⟨rfl, oq (cv h) (oq (cv h) (oq (cv h) (oq (cv h) AG))), cv h, AN h (k nq _ h.cG)⟩
    | dg n y =>
     intro nq M2 h
     exact GP h fun M3 h3 => k nq M3 h3
    | fF l y =>
     intro nq M2 h
     exact k nq M2 h.cG
end
abbrev pQ (pa : PA) (p : cy) (dr : Value) (a : WA) (x : Wd) (n : Nat) : List Value :=
 [.slice pa.f p.funcs.length pa.fc, .slice pa.c p.dB.length pa.cc, .int .i64 p.aC, .slice pa.k p.cases.length pa.kc, .slice a.ag a.gb.length a.cg, .int .u64 x.clock,
  .slice a.ac a.cb.length a.cc, .slice a.al a.lb.length a.cl, .slice a.ah x.hl.length a.ch, .int .u64 x.dk, .slice a.ao x.out.length a.co, .int .i64 x.end_, .int .i64 x.code, .slice a.ar n a.cr, dr]
abbrev wj (a : WA) (x : Wd) (L : List HP) : List HP :=
 zJ a.ag a.cg a.gb :: zK a.ac a.cc a.cb :: cN bL a.cb x.av :: zL a.al a.cl a.lb :: cN fh a.lb x.aC :: eX a.ah a.ch x.hl :: rz a.ao a.co x.out :: L
def cq (pa : PA) (p : cy) : xT Wd := ⟨fun b x => exs fun q : WA × List GA × Value × Nat =>
 sep (pt b (pQ pa p q.2.2.1 q.1 x q.2.2.2) 164 :: cN gm q.1.gb (x.gs.zip q.2.1) :: fact (fW q.2.1 q.1 x) :: wj q.1 x [])⟩
section
variable {R : Mem} {L L' L2 : List HP} {M : Mem} {K : Value → Mem → Prop} {Kp : List PanicEntry → Mem → Prop} {pa : PA} {p : cy} {gg : List GA} {dr : Value} {b : Nat} {x : Wd} {g : Int}
class Ap (b : Nat) (L : List HP) (pa : outParam PA) (p : outParam cy) (x : outParam Wd) (L' : outParam (List HP)) : Prop where
 pick : eA L (bj (cq pa p) b x) L'
instance Ap.here : Ap b (bj (cq pa p) b x :: L) pa p x L := ⟨.here⟩
instance (priority := low) Ap.there {Q : HP} [h : Ap b L pa p x L'] : Ap b (Q :: L) pa p x (Q :: L') := ⟨.there h.pick⟩
theorem dh (h : Hp R L M) [o : Ap b L pa p x L'] : ∃ (a : WA) (gg : List GA) (dr : Value) (n : Nat), fW gg a x ∧ Hp R (pt b (pQ pa p dr a x n) 164 :: cN gm a.gb (x.gs.zip gg) :: wj a x L') M := by
 have := h.pick o.pick
 unfold bj at this
 simp only [cq, wj, Hp.po, Hp.cW, List.cons_append, List.nil_append] at this
 obtain ⟨⟨a, gg, dr, n⟩, h⟩ := this
 have h2 := h.pick (P := fact (fW gg a x)) (.there (.there .here))
 exact ⟨a, gg, dr, n, (Hp.kO.1 h2).1, (Hp.kO.1 h2).2⟩
theorem jX {a : WA} {n : Nat} (hl : fW gg a x) (h : Hp R (pt b (pQ pa p dr a x n) 164 :: cN gm a.gb (x.gs.zip gg) :: wj a x L) M) : Hp R (bj (cq pa p) b x :: L) M := by
 refine Hp.SE ?_
 simp only [cq, wj, Hp.po, Hp.cW, List.cons_append, List.nil_append]
 refine ⟨(a, gg, dr, n), ?_⟩
 have h2 : Hp R (fact (fW gg a x) :: pt b (pQ pa p dr a x n) 164 :: cN gm a.gb (x.gs.zip gg) :: wj a x L) M := Hp.kO.2 ⟨hl, h⟩
 exact h2.yp (.there (.there .here))
def mJ (x : Wd) (g : Int) (rest : Bool) : Bool := !rest && x.end_ == 0 && (aa x g).st == 1
def DryOk (l l' : List PanicEntry) : Prop := ∀ (b : Nat) (v : Value) (M : Mem) (K : Value → Mem → Prop) (Kp : List PanicEntry → Mem → Prop), Kp l' M → di Tryz.prog 119 (.pointer (some ⟨b, 0, none⟩)) K Kp v (.panicking l) M
def pR (R : Mem) (pa : PA) (p : cy) (b : Nat) (g : Int) (L2 : List HP) (K : Value → Mem → Prop) (Kp : List PanicEntry → Mem → Prop) (r : Out Wd) (rest : Bool) : Prop := match r with
 | .fF l y => ∃ l', DryOk l l' ∧ ∀ M', Hp R (bj (cq pa p) b y :: L2) M' → Kp l' M'
 | .on y => ∀ R' A c M', R.le R' → RS bS R' A c y.ready → Hp R' (bj (cq pa p) b y :: L2) M' → K (.agg #[.bool (mJ y g rest), .slice A y.ready.length c]) M'
 | .dg n y => ∀ R' A c M', R.le R' → RS bS R' A c y.ready → Hp R' (bj (cq pa p) b { y with end_ := 2, code := n } :: L2) M' → K (.agg #[.bool (mJ { y with end_ := 2, code := n } g rest), .slice A y.ready.length c]) M'
theorem Vs.of {r : Out Wd} {rest : Bool} (hd : ¬ ∃ l y, r = .fF l y) (k : ∀ nq M', Hp R (bj (bI pa p nq dr) b r.fin :: L2) M' → K (.bool rest) M') : Vs R pa p dr b L2 K Kp r rest := by
 cases r with
 | on y => exact k
 | dg n y => exact k
 | fF l y => exact absurd ⟨l, y, rfl⟩ hd
theorem pR.get {r : Out Wd} {rest : Bool} (hd : ¬ ∃ l y, r = .fF l y) (k : pR R pa p b g L2 K Kp r rest) :
  ∀ R' A c M', R.le R' → RS bS R' A c r.fin.ready → Hp R' (bj (cq pa p) b r.fin :: L2) M' → K (.agg #[.bool (mJ r.fin g rest), .slice A r.fin.ready.length c]) M' := by
 cases r with
 | on y => exact k
 | dg n y => exact k
 | fF l y => exact absurd ⟨l, y, rfl⟩ hd
theorem Nq {code : List bZ} {r : Out Wd} {rest : Bool} (h : Hp R L M) [o : Ap b L pa p x L'] (hp : nQ R pa p) (hg : aT x g) (he : x.end_ = 0) (hst : (aa x g).st = 1)
  (hfn : 0 ≤ (aa x g).top.fn) (fC : p.funcs[(aa x g).top.fn.toNat]? = some code)
  (sS : 0 ≤ (aa x g).top.pc ∧ (aa x g).top.pc < 1000000000) (KB : ∃ f c d, dr = .func f c d) (hs : ∀ Q, Step R pa p dr { x with ready := [] } g code r rest (Q :: L') (Q :: L2)) (hlen : g < r.fin.gs.length)
  (k : pR R pa p b g L2 K Kp r rest) :
  ae Tryz.prog 41 #[.pointer (some ⟨b, 0, none⟩), .int .i64 g, dr] M K Kp := by
 refine lJ ?_
 have GO := hg
 obtain ⟨h0, h1, h2, h3⟩ := GO
 refine ai h ?_
 clear h
 intro kb M h
 have h' := dh h (b := b)
 clear h
 obtain ⟨a, gg, dr0, n0, hl, h⟩ := h'
 have hl' := hl
 obtain ⟨l1, l2, l3, l4⟩ := hl'
 refine aH.2 ⟨fun hn => by omega, fun _ => ?_⟩
 refine ax h ?_
 refine aH.2 ⟨fun hn => by omega, fun _ => ?_⟩
 refine az h ?_
 refine cY.2 ⟨fun hn => absurd he hn, fun _ => ?_⟩
 refine ax h ?_
 refine ⟨h0, by omega, ?_⟩
 obtain ⟨gb, gp⟩ := aJ (l := a.gb) (i := g.toNat) (by omega)
 refine wh h gp fun q hq => ?_
 obtain ⟨ga, YA⟩ := aJ (l := gg) (i := g.toNat) (by omega)
 obtain ⟨y, hy⟩ := aJ (l := x.gs) (i := g.toNat) (by omega)
 have ey : aa x g = y := by simp [aa, hy]
 rw [ey] at hst
 refine aV ?_
 have Vt : M.ld ⟨gb, 0, none⟩ = some (.int .i64 y.st) := by
  have h9 := mH (b := gb) (h.eF gm gp (nj hy YA))
  exact cv h9
 rw [Vt]
 refine eY ?_
 refine cY.2 ⟨fun hn => absurd hst hn, fun _ => ?_⟩
 refine ak h ?_
 clear h Vt; intro M h
 have hpc2 : ∀ X : Prop, X → DZ dr X := by
  obtain ⟨f, c, d, rfl⟩ := KB
  intro X hX; exact hX
 refine hpc2 _ ?_
 refine ak h ?_
 clear h; intro M h
 have h4 := h.dz bS 3
 have h5 : Hp R (bj (bI pa p gg dr) b { x with ready := [] } :: pt kb [.bool false, .slice none 0 0] 120 :: L') M := kV (a := { a with ar := none, cr := 0 }) (x := { x with ready := [] }) hl (h4.sub bz)
 clear h h4
 by_cases hdry : ∃ l y, r = .fF l y
 ·obtain ⟨l, y, rfl⟩ := hdry
  refine JD (b := b) (x := { x with ready := [] }) h5 hp hg hfn fC sS (hs _) ?_
  clear h5
  intro nq M h
  obtain ⟨l', hdr2, k⟩ := k
  refine hdr2 _ _ _ _ _ (k _ ?_)
  have h' := cV h (b := b)
  clear h
  obtain ⟨a2, dQ, h⟩ := h'
  exact jX (a := a2) (n := y.ready.length) (gg := nq) (dr := dr) dQ (h.sub bz)
 refine JD (b := b) (x := { x with ready := [] }) h5 hp hg hfn fC sS (hs _) (.of hdry ?_)
 clear h5
 intro nq M h
 replace k := pR.get hdry k
 generalize r.fin = z at h k hlen
 have h' := cV h (b := b)
 clear h
 obtain ⟨a2, dQ, h⟩ := h'
 have hl2' := dQ
 obtain ⟨m1, m2, m3, m4⟩ := hl2'
 have fin : ∀ t : Bool, t = mJ z g rest → b7 M ⟨kb, 0, none⟩ (.bool t) fun ZU =>
    b7 ZU ⟨kb, (0 + 1), none⟩ (.slice a2.ar z.ready.length a2.cr) fun eL =>
    dF (Mem.ld eL ⟨kb, 0, none⟩) fun t60 =>
    aF (Mem.ld eL ⟨kb, (0 + 1), none⟩) fun Xr BG Kv =>
    K (.agg #[(.bool t60), (.slice Xr BG Kv)]) eL := by
  intro t ht
  refine ak h ?_
  clear h; intro M h
  refine ak h ?_
  clear h; intro M h
  refine m6 h (ax h ?_)
  obtain ⟨R', hle, bx, h6⟩ := h.bB a2.ar
  subst ht
  exact k R' _ _ _ hle bx (jX (a := a2) (n := z.ready.length) (gg := nq) (dr := dr) dQ (h6.sub bz))
 refine lF ?_
 cases rest with
 | true =>
  refine au ?_
  refine ax h ?_
  exact fin false (by simp [mJ])
 | false =>
  refine aq ?_
  refine az h ?_
  refine bh.2 ⟨fun e0 => ?_, fun e0 => ?_⟩
  ·refine ax h ?_
   refine ⟨h0, by omega, ?_⟩
   obtain ⟨gb2, hgb2⟩ := aJ (l := a2.gb) (i := g.toNat) (by omega)
   refine wh h hgb2 fun q2 Ng => ?_
   obtain ⟨ga2, hga2⟩ := aJ (l := nq) (i := g.toNat) (by omega)
   obtain ⟨y2, hy2⟩ := aJ (l := z.gs) (i := g.toNat) (by omega)
   have ey2 : aa z g = y2 := by simp [aa, hy2]
   refine aV ?_
   have Vt : M.ld ⟨gb2, 0, none⟩ = some (.int .i64 y2.st) := by
    have h9 := mH (b := gb2) (h.eF gm hgb2 (nj hy2 hga2))
    exact cv h9
   rw [Vt]
   refine eY ?_
   refine ax h ?_
   exact fin (y2.st == 1) (by simp [mJ, e0, ey2])
  ·refine ax h ?_
   have : (z.end_ == 0) = false := by simpa using e0
   exact fin false (by simp [mJ, this])
end
section
variable {R : Mem} {L L' L2 : List HP} {M : Mem} {K : Value → Mem → Prop} {Kp : List PanicEntry → Mem → Prop} {pa : PA} {p : cy} {gg : List GA} {dr : Value} {b : Nat} {x : Wd} {g : Int}
theorem QH (h : Hp R L M) [o : Ap b L pa p x L'] (k : K (.int .i64 (x.gs.length : Int)) M) : ae Tryz.prog 64 #[.pointer (some ⟨b, 0, none⟩)] M K Kp := by
 refine vK ?_
 have h' := dh h (b := b)
 clear h
 obtain ⟨a, gg, dr, n, hl, h⟩ := h'
 refine ax h ?_
 rw [hl.1]
 exact k
theorem EH (h : Hp R L M) [o : Ap b L pa p x L'] (k : K (.tuple #[.int .i64 x.end_, .int .i64 x.code]) M) : ae Tryz.prog 60 #[.pointer (some ⟨b, 0, none⟩)] M K Kp := by
 refine vL ?_
 have h' := dh h (b := b)
 clear h
 obtain ⟨a, gg, dr, n, hl, h⟩ := h'
 refine az h (az h ?_)
 exact k
theorem xK (h : Hp R L M) [o : Ap b L pa p x L'] (h0 : 0 ≤ g) (h1 : g < x.gs.length) (k : K (.int .i64 (aa x g).st) M) : ae Tryz.prog 65 #[.pointer (some ⟨b, 0, none⟩), .int .i64 g] M K Kp := by
 refine qx ?_
 have h' := dh h (b := b)
 clear h
 obtain ⟨a, gg, dr, n, hl, h⟩ := h'
 have hl' := hl
 obtain ⟨l1, l2, l3, l4⟩ := hl'
 refine aH.2 ⟨fun hn => by omega, fun _ => ?_⟩
 refine ax h ?_
 refine aH.2 ⟨fun hn => by omega, fun _ => ?_⟩
 refine ax h ?_
 refine ⟨h0, by omega, ?_⟩
 obtain ⟨gb, gp⟩ := aJ (l := a.gb) (i := g.toNat) (by omega)
 refine wh h gp fun q hq => ?_
 obtain ⟨ga, YA⟩ := aJ (l := gg) (i := g.toNat) (by omega)
 obtain ⟨y, hy⟩ := aJ (l := x.gs) (i := g.toNat) (by omega)
 have ey : aa x g = y := by simp [aa, hy]
 rw [ey] at k
 refine aV ?_
 have Vt : M.ld ⟨gb, 0, none⟩ = some (.int .i64 y.st) := by
  have h9 := mH (b := gb) (h.eF gm gp (nj hy YA))
  exact cv h9
 rw [Vt]
 exact eY k
theorem JE (h : Hp R L M) [o : Ap b L pa p x L'] (hg : aT x g)
  (k : ∀ bs c M', Hp R (we (some ⟨bs, 0, none⟩) c (aa x g).fs :: L) M' → K (.slice (some ⟨bs, 0, none⟩) (aa x g).fs.length c) M') : ae Tryz.prog 84 #[.pointer (some ⟨b, 0, none⟩), .int .i64 g] M K Kp := by
 refine rL ?_
 obtain ⟨h0, h1, h2, h3⟩ := hg
 have hC := h
 have h' := dh h (b := b)
 clear h
 obtain ⟨a, gg, dr, n, hl, h⟩ := h'
 have hl' := hl
 obtain ⟨l1, l2, l3, l4⟩ := hl'
 refine aH.2 ⟨fun hn => by omega, fun _ => ?_⟩
 refine ax h ?_
 refine aH.2 ⟨fun hn => by omega, fun _ => ?_⟩
 refine ax h ?_
 refine ⟨h0, by omega, ?_⟩
 obtain ⟨gb, gp⟩ := aJ (l := a.gb) (i := g.toNat) (by omega)
 refine wh h gp fun q hq => ?_
 obtain ⟨⟨A, c⟩, YA⟩ := aJ (l := gg) (i := g.toNat) (by omega)
 obtain ⟨y, hy⟩ := aJ (l := x.gs) (i := g.toNat) (by omega)
 have ey : aa x g = y := by simp [aa, hy]
 rw [ey] at k h2 h3
 refine aV ?_
 have h9 := mH (b := gb) (h.eF gm gp (nj hy YA))
 refine ax h9 ?_
 have hsrc : Sl M A (fZ.cells y.fs) := (h9.src (A := A)) M h9
 clear h9 h
 have hs2 : Src R (fact (Sl M A (fZ.cells y.fs)) :: L) A (fZ.cells y.fs) → True := fun _ => trivial
 refine rM ?_
 have KC := hC.dz fZ 234
 refine Hp.Cn KC (l := []) Na hsrc rfl (by simp; omega) ?_
 clear hC KC hsrc
 intro A' c' M h
 refine aY (aY ?_)
 obtain ⟨bs, rfl⟩ := h.bU (A := A') (by simpa using h2) (by decide)
 exact k _ _ _ h
theorem EI (h : Hp R L M) [o : Ap b L pa p x L'] (hs : x.out.length ≤ 1000000) (k : ∀ A c M', Hp R (rz A c x.out :: L) M' → K (.slice A x.out.length c) M') : ae Tryz.prog 22 #[.pointer (some ⟨b, 0, none⟩)] M K Kp := by
 refine vM ?_
 refine ai h ?_
 clear h; intro kb M h
 have hC := h
 have h' := dh h (b := b)
 clear h
 obtain ⟨a, gg, dr, n, hl, h⟩ := h'
 refine ax h ?_
 have hsrc : Sl M a.ao (bS.cells x.out) := (h.src (A := a.ao)) M h
 clear h
 have KC : Hp R (cw bS 2 (some ⟨kb, 0, none⟩) ([] : List Int).length [] :: L) M := hC.g8 rfl
 refine Hp.Cn KC (l := []) lC hsrc rfl (by simp; omega) ?_
 clear hC KC hsrc
 intro A' c' M h
 exact aY (k _ _ _ h)
end
def Wd.new (p : cy) : Wd := ⟨[⟨1, [eH.begin 0 0], .zero⟩], 0, p.dB.map aQ.new, List.replicate p.aC.toNat ⟨-1, []⟩, [], 0, [], 0, 0, []⟩
theorem Z4 : bF Tryz.prog 159 183 1 8 [.pointer none] := bF.mk' (zv := .pointer none) (by kernel_rfl) (by kernel_rfl) rfl (by omega)
theorem Z5 : bF Tryz.prog 160 185 1 8 [.pointer none] := bF.mk' (zv := .pointer none) (by kernel_rfl) (by kernel_rfl) rfl (by omega)
section
variable {R : Mem} {L L' L2 : List HP} {M : Mem} {K : Value → Mem → Prop} {Kp : List PanicEntry → Mem → Prop} {pa : PA} {p : cy} {gg : List GA} {dr : Value} {b : Nat} {x : Wd} {g : Int}
theorem Nr {i : Int} (h : Hp R L M) [o : Ap b L pa p x L'] (hk : nP x i) (hs : (aX x.av i).Small 1000000)
  (k : ∀ A ca B cb D cd M', Hp R (bj (cq pa p) b x :: qp D cd (aX x.av i).cH :: qp B cb (aX x.av i).snd :: rz A ca (aX x.av i).buf :: L') M' →
   K (.agg #[.slice A (aX x.av i).buf.length ca, .slice B (aX x.av i).snd.length cb, .slice D (aX x.av i).cH.length cd, .bool (aX x.av i).closed]) M') :
  ae Tryz.prog 86 #[.pointer (some ⟨b, 0, none⟩), .int .i64 i] M K Kp := by
 refine um ?_
 obtain ⟨k0, k1⟩ := hk
 refine ai h ?_
 clear h
 intro kb M h
 have h' := dh h (b := b)
 clear h
 obtain ⟨a, gg, dr, n, hl, h⟩ := h'
 have hl' := hl
 obtain ⟨l1, l2, l3, l4⟩ := hl'
 refine aH.2 ⟨fun hn => by omega, fun _ => ?_⟩
 refine ax h ?_
 refine aH.2 ⟨fun hn => by omega, fun _ => ?_⟩
 refine ax h ?_
 refine ⟨k0, by omega, ?_⟩
 obtain ⟨cb, hcb⟩ := aJ (l := a.cb) (i := i.toNat) (by omega)
 refine wh h hcb fun q hq => ?_
 obtain ⟨y, hy⟩ := aJ (l := x.av) (i := i.toNat) (by omega)
 have e : aX x.av i = y := by simp [aX, hy]
 rw [e] at k hs
 replace h := h.eF bL hcb hy
 refine Is h (hs.mono (by omega)) ?_
 clear h
 intro A ca B cb' D cd M h
 repeat (first|(refine ai h ?_;clear h;intro kb M h)|(refine ak h ?_;clear h;intro M h)|refine St.to h ?_|(apply Exists.intro;(repeat apply Exists.intro);refine And.intro rfl ?_)|refine ay ?_|refine aq ?_|refine au ?_)
 replace h := h.ox bL cb hcb hy
 exact k _ _ _ _ _ _ _ (jX (a := a) (gg := gg) (dr := dr) (n := n) hl (h.sub bz))
theorem Vu {j : Nat} {q A' : Nat} {c' : Nat} {v : Int} {a : WA} {n k : Nat} {Ac : Option Addr} {Q : List HP} (hl : fW gg a x)
  (h : Hp R (pt b (pQ pa p dr { a with ac := Ac, cc := c', cb := a.cb ++ [k] } x n) 164 :: zK Ac c' (a.cb ++ [k]) :: bj bL k (aQ.new v) :: cN bL a.cb x.av :: cN gm a.gb (x.gs.zip gg) :: zJ a.ag a.cg a.gb :: zL a.al a.cl a.lb :: cN fh a.lb x.aC :: eX a.ah a.ch x.hl :: rz a.ao a.co x.out :: Q) M) :
  Hp R (bj (cq pa p) b { x with av := x.av ++ [aQ.new v] } :: Q) M := by
 obtain ⟨l1, l2, l3, l4⟩ := hl
 have h2 := h.tE bL k l3
 exact jX (a := { a with ac := Ac, cc := c', cb := a.cb ++ [k] }) (gg := gg) (dr := dr) (n := n) (x := { x with av := x.av ++ [aQ.new v] }) ⟨l1, l2, by simp [l3], l4⟩ (h2.sub bz)
theorem Vv {c' : Nat} {a : WA} {n k : Nat} {Ac : Option Addr} {Q : List HP} (hl : fW gg a x)
  (h : Hp R (pt b (pQ pa p dr { a with al := Ac, cl := c', lb := a.lb ++ [k] } x n) 164 :: zL Ac c' (a.lb ++ [k]) :: bj fh k ⟨-1, []⟩ :: cN fh a.lb x.aC :: cN gm a.gb (x.gs.zip gg) :: zJ a.ag a.cg a.gb :: zK a.ac a.cc a.cb :: cN bL a.cb x.av :: eX a.ah a.ch x.hl :: rz a.ao a.co x.out :: Q) M) :
  Hp R (bj (cq pa p) b { x with aC := x.aC ++ [⟨-1, []⟩] } :: Q) M := by
 obtain ⟨l1, l2, l3, l4⟩ := hl
 have h2 := h.tE fh k l4
 exact jX (a := { a with al := Ac, cl := c', lb := a.lb ++ [k] }) (gg := gg) (dr := dr) (n := n) (x := { x with aC := x.aC ++ [⟨-1, []⟩] }) ⟨l1, l2, l3, by simp [l4]⟩ (h2.sub bz)
theorem EJ (h : Hp R L M) (Ao : RS bS R pa.c pa.cc p.dB) (hc : p.dB.length ≤ 1000000) (hk : 0 ≤ p.aC ∧ p.aC ≤ 1000000)
  (k : ∀ b M', Hp R (bj (cq pa p) b (Wd.new p) :: L) M' → K (.pointer (some ⟨b, 0, none⟩)) M') :
  ae Tryz.prog 36 #[.agg #[.slice pa.f p.funcs.length pa.fc, .slice pa.c p.dB.length pa.cc, .int .i64 p.aC, .slice pa.k p.cases.length pa.kc]] M K Kp := by
 refine FR ?_
 repeat (first|(refine ai h ?_;clear h;intro kb M h)|(refine ak h ?_;clear h;intro M h)|refine St.to h ?_|(apply Exists.intro;(repeat apply Exists.intro);refine And.intro rfl ?_)|refine ay ?_|refine aq ?_|refine au ?_)
 refine sO h ?_
 clear h
 intro bs M h
 repeat (first|(refine ai h ?_;clear h;intro kb M h)|(refine ak h ?_;clear h;intro M h)|refine St.to h ?_|(apply Exists.intro;(repeat apply Exists.intro);refine And.intro rfl ?_)|refine ay ?_|refine aq ?_|refine au ?_)
 rename_i kp _ _ kr _ kw _
 replace h := oL h kr
 replace h := (h.BC gm).tE gm kr rfl
 replace h := (h.pt kw).g8 (E := nG) (l := [kr]) rfl
 replace h := (h.dz nG 183).BC bL
 replace h := (h.dz nG 185).BC fh
 replace h := (h.dz hH 205).dz bS 2
 have base : Hp R (bj (cq pa p) kb { Wd.new p with av := (p.dB.take 0).map aQ.new, aC := [] } :: pt kp [.slice pa.f p.funcs.length pa.fc, .slice pa.c p.dB.length pa.cc, .int .i64 p.aC, .slice pa.k p.cases.length pa.kc] 41 :: L) _ :=
  jX (a := ⟨some ⟨kw, 0, none⟩, 1, [kr], none, 0, [], none, 0, [], none, 0, none, 0, none, 0⟩) (gg := [(some ⟨bs, 0, none⟩, 1)]) (dr := .nilFunc) (n := 0) (x := { Wd.new p with av := [], aC := [] }) ⟨rfl, rfl, rfl, rfl⟩ (h.sub bz)
 clear h
 refine ⟨fun d vs M => ∃ j : Nat, vs = [.int .i64 (j : Int)] ∧ d = p.dB.length - j ∧ j ≤ p.dB.length ∧ Hp R (bj (cq pa p) kb { Wd.new p with av := (p.dB.take j).map aQ.new, aC := [] } :: pt kp [.slice pa.f p.funcs.length pa.fc, .slice pa.c p.dB.length pa.cc, .int .i64 p.aC, .slice pa.k p.cases.length pa.kc] 41 :: L) M,
  ⟨_, 0, rfl, rfl, by omega, base⟩, ?_⟩
 clear base
 rintro d _ nn M ⟨j, he, hd, hj, h⟩
 simp only [List.cons.injEq, Value.int.injEq, and_true, true_and] at he
 subst he
 refine aH.2 ⟨fun hlt => ?_, fun hge => ?_⟩
 ·obtain ⟨v, hv⟩ := aJ (l := p.dB) (i := j) (by omega)
  have hsn : (p.dB.take (j + 1)).map aQ.new = (p.dB.take j).map aQ.new ++ [aQ.new v] := by rw [dw hv, List.map_append]; rfl
  have K8 : ((p.dB.take j).map aQ.new).length ≤ 1000000 := by simp; omega
  rw [aS (by omega)]
  refine ⟨by omega, hlt, ?_⟩
  obtain ⟨cb, co, hcb⟩ := Ao.some (by omega) (by decide)
  have hch2 := Ao
  rw [hcb] at hch2 ⊢
  refine aV ?_
  simp only [Int.toNat_natCast]
  refine aj (Src.at (hch2.src (L := _)) h (i := j) (j := 0) hv rfl (by simp [bS])) ?_
  refine ⟨fun _ M => Hp R (bj (cq pa p) kb { Wd.new p with av := (p.dB.take j).map aQ.new ++ [aQ.new v], aC := [] } :: pt kp [.slice pa.f p.funcs.length pa.fc, .slice pa.c p.dB.length pa.cc, .int .i64 p.aC, .slice pa.k p.cases.length pa.kc] 41 :: L) M, ⟨?_, ?_, trivial⟩, ?_⟩
  ·have h' := dh h (b := kb)
   clear h
   obtain ⟨a, gg, dr, n, hl, h⟩ := h'
   have hl3 : a.cb.length = ((p.dB.take j).map aQ.new).length := hl.2.2.1
   refine ax h ?_
   refine Es h ?_
   clear h
   intro kc M h
   repeat (first|(refine ai h ?_;clear h;intro kb M h)|(refine ak h ?_;clear h;intro M h)|refine St.to h ?_|(apply Exists.intro;(repeat apply Exists.intro);refine And.intro rfl ?_)|refine ay ?_|refine aq ?_|refine au ?_)
   refine h.be Z4 [kc] rfl rfl (by simp only [List.length_singleton]; omega) ?_
   clear h
   intro A' c' M h
   repeat (first|(refine ai h ?_;clear h;intro kb M h)|(refine ak h ?_;clear h;intro M h)|refine St.to h ?_|(apply Exists.intro;(repeat apply Exists.intro);refine And.intro rfl ?_)|refine ay ?_|refine aq ?_|refine au ?_)
   exact Vu (j := j) (q := j) (A' := j) (a := a) (x := { Wd.new p with av := (p.dB.take j).map aQ.new, aC := [] }) hl (h.sub bz)
  ·have h' := dh h (b := kb)
   clear h
   obtain ⟨a, gg, dr, n, hl, h⟩ := h'
   have hl3 : a.cb.length = ((p.dB.take j).map aQ.new).length := hl.2.2.1
   refine Es h ?_
   clear h
   intro kc M h
   repeat (first|(refine ai h ?_;clear h;intro kb M h)|(refine ak h ?_;clear h;intro M h)|refine St.to h ?_|(apply Exists.intro;(repeat apply Exists.intro);refine And.intro rfl ?_)|refine ay ?_|refine aq ?_|refine au ?_)
   refine h.be Z4 [kc] rfl rfl (by simp only [List.length_singleton]; omega) ?_
   clear h
   intro A' c' M h
   repeat (first|(refine ai h ?_;clear h;intro kb M h)|(refine ak h ?_;clear h;intro M h)|refine St.to h ?_|(apply Exists.intro;(repeat apply Exists.intro);refine And.intro rfl ?_)|refine ay ?_|refine aq ?_|refine au ?_)
   exact Vu (j := j) (q := j) (A' := j) (a := a) (x := { Wd.new p with av := (p.dB.take j).map aQ.new, aC := [] }) hl (h.sub bz)
  ·clear h
   intro _ M h
   refine ⟨p.dB.length - (j + 1), by omega, j + 1, rfl, rfl, by omega, ?_⟩
   rw [hsn, ← hcb]; exact h
 ·obtain rfl : j = p.dB.length := by omega
  rw [List.take_length] at h
  refine az h ?_
  obtain ⟨nl, hnl⟩ := Int.eq_ofNat_of_zero_le hk.1
  refine ⟨fun d vs M => ∃ j : Nat, vs = [.int .i64 (j : Int)] ∧ d = nl - j ∧ j ≤ nl ∧ Hp R (bj (cq pa p) kb { Wd.new p with aC := List.replicate j ⟨-1, []⟩ } :: pt kp [.slice pa.f p.funcs.length pa.fc, .slice pa.c p.dB.length pa.cc, .int .i64 p.aC, .slice pa.k p.cases.length pa.kc] 41 :: L) M,
   ⟨_, 0, rfl, rfl, by omega, h⟩, ?_⟩
  clear h
  rintro d _ nn M ⟨j, he, hd, hj, h⟩
  simp only [List.cons.injEq, Value.int.injEq, and_true, true_and] at he
  subst he
  refine aH.2 ⟨fun hlt => ?_, fun hge => ?_⟩
  ·have hsn : List.replicate (j + 1) (⟨-1, []⟩ : Lk) = List.replicate j ⟨-1, []⟩ ++ [⟨-1, []⟩] := List.replicate_succ'
   rw [aS (by omega)]
   refine ⟨fun _ M => Hp R (bj (cq pa p) kb { Wd.new p with aC := List.replicate j ⟨-1, []⟩ ++ [⟨-1, []⟩] } :: pt kp [.slice pa.f p.funcs.length pa.fc, .slice pa.c p.dB.length pa.cc, .int .i64 p.aC, .slice pa.k p.cases.length pa.kc] 41 :: L) M, ⟨?_, ?_, trivial⟩, ?_⟩
   ·have h' := dh h (b := kb)
    clear h
    obtain ⟨a, gg, dr, n, hl, h⟩ := h'
    have hl3 : a.lb.length = (List.replicate j (⟨-1, []⟩ : Lk)).length := hl.2.2.2
    rw [List.length_replicate] at hl3
    refine ax h ?_
    refine EB h ?_
    clear h
    intro kc M h
    repeat (first|(refine ai h ?_;clear h;intro kb M h)|(refine ak h ?_;clear h;intro M h)|refine St.to h ?_|(apply Exists.intro;(repeat apply Exists.intro);refine And.intro rfl ?_)|refine ay ?_|refine aq ?_|refine au ?_)
    refine h.be Z5 [kc] rfl rfl (by simp only [List.length_singleton]; omega) ?_
    clear h
    intro A' c' M h
    repeat (first|(refine ai h ?_;clear h;intro kb M h)|(refine ak h ?_;clear h;intro M h)|refine St.to h ?_|(apply Exists.intro;(repeat apply Exists.intro);refine And.intro rfl ?_)|refine ay ?_|refine aq ?_|refine au ?_)
    exact Vv (a := a) (x := { Wd.new p with aC := List.replicate j ⟨-1, []⟩ }) hl (h.sub bz)
   ·have h' := dh h (b := kb)
    clear h
    obtain ⟨a, gg, dr, n, hl, h⟩ := h'
    have hl3 : a.lb.length = (List.replicate j (⟨-1, []⟩ : Lk)).length := hl.2.2.2
    rw [List.length_replicate] at hl3
    refine EB h ?_
    clear h
    intro kc M h
    repeat (first|(refine ai h ?_;clear h;intro kb M h)|(refine ak h ?_;clear h;intro M h)|refine St.to h ?_|(apply Exists.intro;(repeat apply Exists.intro);refine And.intro rfl ?_)|refine ay ?_|refine aq ?_|refine au ?_)
    refine h.be Z5 [kc] rfl rfl (by simp only [List.length_singleton]; omega) ?_
    clear h
    intro A' c' M h
    repeat (first|(refine ai h ?_;clear h;intro kb M h)|(refine ak h ?_;clear h;intro M h)|refine St.to h ?_|(apply Exists.intro;(repeat apply Exists.intro);refine And.intro rfl ?_)|refine ay ?_|refine aq ?_|refine au ?_)
    exact Vv (a := a) (x := { Wd.new p with aC := List.replicate j ⟨-1, []⟩ }) hl (h.sub bz)
   ·clear h
    intro _ M h
    refine ⟨nl - (j + 1), by omega, j + 1, rfl, rfl, by omega, ?_⟩
    rw [hsn]; exact h
  ·obtain rfl : j = nl := by omega
   have e : Wd.new p = { Wd.new p with aC := List.replicate j ⟨-1, []⟩ } := by unfold Wd.new; rw [hnl]; rfl
   rw [← e] at h
   exact k _ _ h.cG
end
def aB (p : cy) (i : bZ) : List nh := (p.cases.drop i.a.toNat).take i.b.toNat
def sU (f : eH) : List Int := [f.r.getD 0 0, f.r.getD 1 0, f.r.getD 2 0, f.r.getD 3 0, f.r.getD 4 0, f.r.getD 5 0, f.r.getD 6 0, f.r.getD 7 0]
inductive iZ where
 | num (d : Int)
 | fF (l : List PanicEntry)
def ie (R : Mem) (dr : Value) (kind n : Int) (d : iZ) (L L2 : List HP) : Prop := ∀ (Q : HP) (M : Mem) (K : Value → Mem → Prop) (Kp : List PanicEntry → Mem → Prop), Hp R (Q :: L) M →
 (match d with
  | .num v => ∀ M', Hp R (Q :: L2) M' → K (.int .i64 v) M'
  | .fF l => ∀ M', Hp R (Q :: L2) M' → Kp l M') → qc Cx dr [.int .i64 kind, .int .i64 n] M K Kp
def Wd.kX (p : cy) (x : Wd) (g : Int) (i : bZ) (k : Int) : Out Wd :=
 let c := (aB p i).getD k.toNat ⟨0, 0, 0⟩
 let x1 := x.next g
 if c.way = 1 then match x1.put p c.ch (aK x1 g c.bH) with
  | .dg n y => .dg n y
  | .fF l y => .fF l y
  | .on (y, _) => .on (y.aW g i.c k)
 else .on (((x1.get c.ch).1.aW g c.bH (x1.get c.ch).2.1).aW g i.c k)
def Wd.kF (p : cy) (x : Wd) (g : Int) (i : bZ) : Wd :=
 let x1 := x.next g
 match els (aB p i) with
  | some k => x1.aW g i.c (k : Int)
  | none => Wd.block { x1 with av := dm g (sU (aa x1 g).top) (aB p i) x1.av (aB p i).length } g i
def Wd.choose (p : cy) (x : Wd) (g : Int) (i : bZ) (d : iZ) : Out Wd :=
 if enabled (aB p i) x.av = [] then .on (x.kF p g i)
 else match d with
  | .num v => x.kX p g i ((enabled (aB p i) x.av).getD v.toNat 0)
  | .fF l => .fF l x
section
variable {R : Mem} {L L' L2 : List HP} {M : Mem} {K : Value → Mem → Prop} {Kp : List PanicEntry → Mem → Prop} {pa : PA} {p : cy} {gg : List GA} {dr : Value} {b : Nat} {x : Wd} {g : Int} {i : bZ}
def nt (p : cy) (i : bZ) : Prop := 0 ≤ i.a ∧ 0 ≤ i.b ∧ i.a + i.b ≤ p.cases.length ∧ p.cases.length ≤ 1000
instance (p : cy) (i : bZ) : Decidable (nt p i) := by unfold nt; infer_instance
theorem JF (h : Hp R L M) [o : y8 b L pa p gg dr x L'] (hp : nQ R pa p) (hk : nt p i)
  (k : ∀ A c M', RS gT R A c (aB p i) → Hp R (bj (bI pa p gg dr) b x :: L') M' → K (.slice A (aB p i).length c) M') :
  ae Tryz.prog 154 #[.pointer (some ⟨b, 0, none⟩), .agg #[.int .i64 i.op, .int .i64 i.a, .int .i64 i.b, .int .i64 i.c]] M K Kp := by
 refine rN ?_
 obtain ⟨a0, b0, hab, hl⟩ := hk
 have hcap := hp.cases.2
 refine ai h ?_
 clear h; intro kb M h
 have hC := h.drop.pick o.pick
 have h' := cV h (b := b)
 clear h
 obtain ⟨a, dQ, h⟩ := h'
 refine ax h (az h (az h (az h ?_)))
 rw [dD (by omega) (by omega)]
 refine ⟨by omega, by omega, by omega, by omega, by omega, by omega, ?_⟩
 have e : (aB p i).length = (i.a + i.b).toNat - i.a.toNat := by
  unfold aB
  rw [List.length_take, List.length_drop]; omega
 rw [← e]
 simp only [Int.toNat_natCast]
 exact k _ _ _ ((hp.cases.drop i.a.toNat (by omega)).take i.b.toNat) hC
theorem Vw {bs j : Nat} {l : List eH} {f : eH} (hs : Src R L (some ⟨bs, 0, none⟩) (fZ.cells l)) (hi : l[j]? = some f) : Src R L (jt (some ⟨bs, j * 11 + 2, none⟩) 0 8 1) (bS.cells (sU f)) := by
 intro M h
 have e : jt (some ⟨bs, j * 11 + 2, none⟩) 0 8 1 = some ⟨bs, j * 11 + 2, none⟩ := by
  unfold jt; rw [if_neg (by omega)]; rfl
 rw [e]
 intro q hq
 have hq8 : q < 8 := by simpa [bS, jP.cells, sU] using hq
 have e2 : j * 11 + 2 + q = 0 + (j * fZ.z + (2 + q)) := by show _ = 0 + (j * 11 + (2 + q)); omega
 obtain rfl | rfl | rfl | rfl | rfl | rfl | rfl | rfl : q = 0 ∨ q = 1 ∨ q = 2 ∨ q = 3 ∨ q = 4 ∨ q = 5 ∨ q = 6 ∨ q = 7 := by omega
 all_goals exact Src.at hs h (i := j) hi rfl e2
theorem Ns {bs c oo : Nat} {v : Int} {G : Mem → Prop} (h : Hp R L M) [o : y8 b L pa p gg dr x L'] (hg : aT x g) (fS : gg[g.toNat]? = some (some ⟨bs, 0, none⟩, c)) (e : oo = ((aa x g).fs.length - 1) * 11 + 1) (hv : v = (aa x g).top.pc + 1)
  (k : ∀ M', Hp R (bj (bI pa p gg dr) b (x.next g) :: L') M' → G M') : b7 M ⟨bs, oo, none⟩ (.int .i64 v) G := by
 subst hv
 obtain ⟨h0, h1, h2, h3⟩ := hg
 obtain ⟨a, gb, hl, gp, h4⟩ := iF h (b := b) h0 h1 fS
 refine Cp h4 (bR h2) e fun M' h5 => ?_
 replace h5 := dx h5 gb hl gp fS (by simp)
 exact k M' (br (a := a) (p := p) (pa := pa) (dr := dr) (gg := gg) (x := x.next g) (dU hl) h5 b)
theorem Nt {bs c oo : Nat} {G : Int → Prop} (h : Hp R L M) [o : y8 b L pa p gg dr x L'] (hg : aT x g) (fS : gg[g.toNat]? = some (some ⟨bs, 0, none⟩, c)) (e : oo = ((aa x g).fs.length - 1) * 11 + 1)
  (k : G (aa x g).top.pc) : bG (M.ld ⟨bs, oo, none⟩) .i64 G := by
 obtain ⟨h0, h1, h2, h3⟩ := hg
 obtain ⟨a, gb, hl, gp, h4⟩ := iF h (b := b) h0 h1 fS
 exact Co h4 (bR h2) e k
theorem Cs (hg : aT x g) : aa (x.next g) g = (aa x g).bW (aa x g).top.next := iE hg.1 hg.2.1
theorem wm (hg : aT x g) : aT (x.next g) g := by
 have e := Cs hg
 obtain ⟨h0, h1, h2, h3⟩ := hg
 refine ⟨h0, by simpa [Wd.next, Wd.bp] using h1, ?_, ?_⟩ <;> rw [e] <;> simpa [gK.bW]
theorem GR (hg : aT x g) : (aa (x.next g) g).fs.length = (aa x g).fs.length := by rw [Cs hg]; simp [gK.bW]
theorem QI {q v : Int} (hg : aT x g) : (aa (x.aW g q v) g).fs.length = (aa x g).fs.length := by rw [jW hg]; simp [gK.bW]
theorem YB (hs : x.Sm) : (x.next g).Sm := AM hs
def JG (p : cy) (x : Wd) (g : Int) (i : bZ) (d : iZ) : Prop := aT x g ∧ nt p i ∧ aR i.c ∧ x.Sm ∧ (aa x g).top.pc < 1000000000 ∧ 0 ≤ (aa x g).top.pc ∧ (∀ c ∈ aB p i, c.Ok x.av.length) ∧
 match enabled (aB p i) x.av, d with
 | [], _ => True
 | _, .fF _ => True
 | can, .num v => 0 ≤ v ∧ v < can.length ∧
  let k := can.getD v.toNat 0
  let c := (aB p i).getD k.toNat ⟨0, 0, 0⟩
  let x1 := x.next g
  0 ≤ k ∧ k < (aB p i).length ∧ aR c.bH ∧
  if c.way = 1 then mI p x1 c.ch (aK x1 g c.bH) ∧ (match x1.put p c.ch (aK x1 g c.bH) with
   | .on (y, _) => aT y g ∧ (aa y g).fs.length = (aa x g).fs.length
   | _ => True)
  else qh x1 c.ch ∧ aT (x1.get c.ch).1 g ∧ (aa (x1.get c.ch).1 g).fs.length = (aa x g).fs.length
theorem QJ {d : iZ} (hp : nQ R pa p) (hk : JG p x g i d) (hd : if enabled (aB p i) x.av = [] then L2 = L else ie R dr 3 ((enabled (aB p i) x.av).length : Int) d L L2) :
  gO R pa p dr 122 x g i (x.choose p g i d) L L2 := by
 intro gg b bs c M K Kp Q h fS k
 obtain ⟨hg, hcs, YC, hs, sS, YD, hok, hk⟩ := hk
 have GO := hg
 obtain ⟨h0, h1, h2, h3⟩ := GO
 have hs' := hs
 obtain ⟨s1, s2, s3, s4, s5, s6, s7, s8⟩ := hs'
 have GQ : (aB p i).length ≤ 1000 := by
  obtain ⟨_, _, _, hl⟩ := hcs
  unfold aB
  rw [List.length_take, List.length_drop]; omega
 refine qy ?_
 refine ai h ?_
 clear h; intro k1 M h
 refine az h (az h (az h (az h ?_)))
 refine JF (b := b) h hp hcs ?_
 clear h; intro A ca M hA h
 refine aY ?_
 unfold Wd.choose at k
 have hen : ∀ {X : HP} {M : Mem} {L3 : List HP}, Hp R (bj (bI pa p gg dr) b x :: L3) M → ∀ (K1 : Value → Mem → Prop), (∀ A' c' M', Hp R (wg A' c' (enabled (aB p i) x.av) :: bj (bI pa p gg dr) b x :: L3) M' → K1 (.slice A' (enabled (aB p i) x.av).length c') M') →
   aF (M.ld ⟨b, 0 + 6, none⟩) fun m8 eu fB => ae Tryz.prog 155 #[.slice A (aB p i).length ca, .slice m8 eu fB] M K1 Kp := by
  intro X M L3 h K1 k1
  have h' := cV h (b := b)
  clear h
  obtain ⟨a, hl, h⟩ := h'
  have hl' := hl
  obtain ⟨l1, l2, l3, l4⟩ := hl'
  refine ax h ?_
  refine Dw h (hA.src) (Src.row (A := a.ac)) rfl rfl (by omega) l3 hok ?_
  clear h; intro A' c' M h
  exact k1 _ _ _ ((br (a := a) (p := p) (pa := pa) (dr := dr) (gg := gg) (x := x) hl h b).swap)
 refine hen (X := Q) h _ ?_
 clear h hen; intro A2 c2 M h
 refine aY ?_
 by_cases hcan : enabled (aB p i) x.av = []
 ·rw [if_pos hcan] at k hd
  subst hd
  rw [hcan] at h ⊢
  refine aq ?_
  unfold Wd.kF at k
  dsimp only at k
  refine Nt (b := b) h hg fS rfl ?_
  rw [ji YD (by omega)]
  refine Ns (b := b) h hg fS rfl rfl ?_
  clear h; intro M h
  have hg1 := wm hg
  have Ps := GR hg
  refine Lu h hA.src rfl (by omega) ?_
  clear h; intro M h
  refine ⟨_, _, rfl, ?_⟩
  cases he : els (aB p i) with
  | some q =>
   rw [he] at k
   dsimp only at k ⊢
   refine aq ?_
   refine az h ?_
   refine ⟨YC.1, YC.2, ?_⟩
   refine nm (b := b) h hg1 fS YC (by rw [Ps]) ?_
   clear h; intro M h
   exact k _ _ (h.sub bz)
  | none =>
   rw [he] at k
   dsimp only at k ⊢
   refine au ⟨by decide, by decide, by decide, by decide, by decide, by decide, ?_⟩
   have lg := hg1
   obtain ⟨g0, g1, g2, g3⟩ := lg
   have h' := iF h (b := b) g0 g1 fS
   clear h
   obtain ⟨a, gb, hl, gp, h⟩ := h'
   have hl' := hl
   obtain ⟨l1, l2, l3, l4⟩ := hl'
   refine ax h ?_
   refine Lv (ei := sU (aa (x.next g) g).top) h hA.src (Src.row (A := a.ac)) ?_ rfl rfl rfl rfl (by omega) l3 hok (fun c hc => s1 c hc) ?_
   ·have e9 : ∀ {L9 : List HP}, Src R L9 (some ⟨bs, 0, none⟩) (fZ.cells (aa (x.next g) g).fs) → Src R L9 (jt (some ⟨bs, ((aa x g).fs.length - 1) * 11 + 2, none⟩) 0 8 1) (bS.cells (sU (aa (x.next g) g).top)) := fun hs => by
     have := Vw hs (bR g2)
     rwa [Ps] at this
    exact e9 Src.row
   clear h; intro M h
   refine ⟨rfl, ?_⟩
   refine az h (az h (az h (az h ?_)))
   replace h := dx h gb hl gp fS
   have dQ := dU (y := aa (x.next g) g) (g := g) hl
   have hcl2 : ∀ x' : Wd, x' = { (x.next g).bp g (aa (x.next g) g) with av := dm g (sU (aa (x.next g) g).top) (aB p i) x.av (aB p i).length } → fW gg a x' := by
    rintro _ rfl
    obtain ⟨m1, m2, m3, m4⟩ := dQ
    exact ⟨m1, m2, by show _ = List.length _; rw [jh]; exact l3, m4⟩
   replace h := br (a := a) (p := p) (pa := pa) (dr := dr) (gg := gg) (x := { (x.next g).bp g (aa (x.next g) g) with av := dm g (sU (aa (x.next g) g).top) (aB p i) x.av (aB p i).length }) (hcl2 _ rfl) h b
   rw [sx g0 g1] at h
   refine nk (b := b) (i := i) (x := { x.next g with av := dm g (sU (aa (x.next g) g).top) (aB p i) x.av (aB p i).length }) h g0 g1 ?_
   clear h; intro M h
   exact ⟨rfl, k _ _ (h.sub bz)⟩
 rw [if_neg hcan] at k hd
 have hcl0 : 0 < (enabled (aB p i) x.av).length := by
  cases hh : enabled (aB p i) x.av with
  | nil => exact absurd hh hcan
  | cons _ _ => simp
 refine aD (by simp; omega) ?_
 have KB : M.ld ⟨b, 0 + 14, none⟩ = some dr := by
  obtain ⟨a, hl, h9⟩ := cV h (b := b)
  exact cv h9
 rw [KB]
 refine SB ?_
 have h5 : Hp R (sep [wg A2 c2 (enabled (aB p i) x.av), bj (bI pa p gg dr) b x, pt k1 [.int .i64 i.op, .int .i64 i.a, .int .i64 i.b, .int .i64 i.c] 34, Q] :: L) M := Hp.cW.2 (h.sub bz)
 refine hd _ _ _ _ h5 ?_
 clear h h5 KB
 cases d with
 | fF l =>
  dsimp only at k ⊢
  intro M h5
  have h : Hp R (wg A2 c2 (enabled (aB p i) x.av) :: bj (bI pa p gg dr) b x :: pt k1 [.int .i64 i.op, .int .i64 i.a, .int .i64 i.b, .int .i64 i.c] 34 :: Q :: L2) M := Hp.cW.1 h5
  exact k _ _ (h.sub bz)
 | num v =>
  dsimp only at k ⊢
  intro M h5
  have h : Hp R (wg A2 c2 (enabled (aB p i) x.av) :: bj (bI pa p gg dr) b x :: pt k1 [.int .i64 i.op, .int .i64 i.a, .int .i64 i.b, .int .i64 i.c] 34 :: Q :: L2) M := Hp.cW.1 h5
  clear h5
  have hk2 : 0 ≤ v ∧ v < (enabled (aB p i) x.av).length ∧
    0 ≤ (enabled (aB p i) x.av).getD v.toNat 0 ∧ (enabled (aB p i) x.av).getD v.toNat 0 < (aB p i).length ∧ aR ((aB p i).getD ((enabled (aB p i) x.av).getD v.toNat 0).toNat ⟨0, 0, 0⟩).bH ∧
    if ((aB p i).getD ((enabled (aB p i) x.av).getD v.toNat 0).toNat ⟨0, 0, 0⟩).way = 1 then mI p (x.next g) ((aB p i).getD ((enabled (aB p i) x.av).getD v.toNat 0).toNat ⟨0, 0, 0⟩).ch (aK (x.next g) g ((aB p i).getD ((enabled (aB p i) x.av).getD v.toNat 0).toNat ⟨0, 0, 0⟩).bH) ∧
     (match (x.next g).put p ((aB p i).getD ((enabled (aB p i) x.av).getD v.toNat 0).toNat ⟨0, 0, 0⟩).ch (aK (x.next g) g ((aB p i).getD ((enabled (aB p i) x.av).getD v.toNat 0).toNat ⟨0, 0, 0⟩).bH) with
      | .on (y, _) => aT y g ∧ (aa y g).fs.length = (aa x g).fs.length
      | _ => True)
    else qh (x.next g) ((aB p i).getD ((enabled (aB p i) x.av).getD v.toNat 0).toNat ⟨0, 0, 0⟩).ch ∧ aT ((x.next g).get ((aB p i).getD ((enabled (aB p i) x.av).getD v.toNat 0).toNat ⟨0, 0, 0⟩).ch).1 g ∧ (aa ((x.next g).get ((aB p i).getD ((enabled (aB p i) x.av).getD v.toNat 0).toNat ⟨0, 0, 0⟩).ch).1 g).fs.length = (aa x g).fs.length := by
   revert hk
   cases hh : enabled (aB p i) x.av with
   | nil => exact absurd hh hcan
   | cons a l => exact fun hk => hk
  clear hk hcan hd
  generalize hcane : enabled (aB p i) x.av = can at h k hk2 hcl0 ⊢
  obtain ⟨v0, v1, q0, q1, Z6, hk3⟩ := hk2
  refine eY ⟨v0, v1, ?_⟩
  obtain ⟨ab, rfl⟩ := h.bU (A := A2) hcl0 (by decide)
  refine aV ?_
  obtain ⟨q, hq⟩ := aJ (l := can) (i := v.toNat) (by omega)
  have hqe : can.getD v.toNat 0 = q := by simp [hq]
  rw [hqe] at k q0 q1 Z6 hk3
  refine aj (Src.at (h.src (A := some ⟨ab, 0, none⟩)) h (i := v.toNat) (j := 0) hq rfl (by simp [bS])) ?_
  unfold Wd.kX at k
  dsimp only at k
  obtain ⟨cc, QK⟩ := aJ (l := aB p i) (i := q.toNat) (by omega)
  have hce : (aB p i).getD q.toNat ⟨0, 0, 0⟩ = cc := by simp [QK]
  rw [hce] at k Z6 hk3
  refine Nt (b := b) h hg fS rfl ?_
  rw [ji YD (by omega)]
  refine Ns (b := b) h hg fS rfl rfl ?_
  clear h; intro M h
  have hg1 := wm hg
  have Ps := GR hg
  have qM : (x.next g).Sm := YB hs
  generalize AO : x.next g = x1 at h k hk3 hg1 Ps qM
  refine ⟨q0, q1, ?_⟩
  obtain ⟨cb, co, rfl⟩ := hA.some (by omega) (by decide)
  refine aV ?_
  refine aj (Src.at (hA.src (L := _)) h (i := q.toNat) (j := 0) QK rfl (by simp [gT])) ?_
  refine aj (Src.at (hA.src (L := _)) h (i := q.toNat) (j := 1) QK rfl (by show _ = co + (_ * 3 + 1); omega)) ?_
  refine aj (Src.at (hA.src (L := _)) h (i := q.toNat) (j := 2) QK rfl (by show _ = co + (_ * 3 + 2); omega)) ?_
  refine ai h ?_
  clear h; intro kc M h
  refine ak h ?_
  clear h; intro M h
  refine ak h ?_
  clear h; intro M h
  refine ak h ?_
  clear h; intro M h
  refine az h ?_
  refine bh.2 ⟨fun e1 => ?_, fun e1 => ?_⟩
  ·rw [if_pos e1] at k hk3
   obtain ⟨hput, hy⟩ := hk3
   refine az h (az h ⟨Z6.1, Z6.2, ?_⟩)
   refine Jz (b := b) h hg1 fS Z6 (by rw [Ps]) ?_
   refine ED (b := b) h hp.cases hput qM ?_ ?_
   ·clear h
    intro y ok M e h
    rw [e] at k hy
    dsimp only at k hy
    refine lF ?_
    refine az h ⟨YC.1, YC.2, ?_⟩
    refine nm (b := b) h hy.1 fS YC (by rw [hy.2]) ?_
    clear h; intro M h
    exact k _ _ (h.sub bz)
   ·clear h
    intro y n M e h
    rw [e] at k
    exact k _ _ (h.sub bz)
  ·rw [if_neg e1] at k hk3
   obtain ⟨DQ, JA, hfl⟩ := hk3
   refine az h (az h ?_)
   refine EE (b := b) h DQ qM ?_
   clear h; intro M h
   generalize x1.get cc.ch = r at h k JA hfl
   obtain ⟨y, w, sm, ok⟩ := r
   dsimp only at h k JA hfl ⊢
   refine ⟨_, _, _, rfl, cv h, Z6.1, Z6.2, ?_⟩
   refine nm (b := b) h JA fS Z6 (by rw [hfl]) ?_
   clear h; intro M h
   refine ⟨cv h, az h ⟨YC.1, YC.2, ?_⟩⟩
   refine nm (b := b) h (gz JA) fS YC (by rw [QI JA, hfl]) ?_
   clear h; intro M h
   exact k _ _ (h.sub bz)
end
def aN.before (a b : aN) : Bool := decide (a.t < b.t) || (a.t == b.t && decide (a.seq < b.seq))
def fy (l : List aN) (i : Nat) : aN := l.getD i ⟨0, 0, 0⟩
def dZ (l : List aN) (i j : Nat) : List aN := (l.set i (fy l j)).set j (fy l i)
def OO : Nat → Nat → List aN → List aN
 | 0, _, l => l
 | f + 1, i, l => if 0 < i ∧ (fy l i).before (fy l ((i - 1) / 4)) = true then OO f ((i - 1) / 4) (dZ l i ((i - 1) / 4)) else l
def dX (l : List aN) : Nat → Nat → Nat → Nat
 | 0, _, out => out
 | n + 1, k, out => if k < l.length then dX l n (k + 1) (if (fy l k).before (fy l out) then k else out) else out
def fj (l : List aN) (i : Nat) : Nat := dX l 4 (4 * i + 1) i
def nu : Nat → Nat → List aN → List aN
 | 0, _, l => l
 | f + 1, i, l => if fj l i = i then l else nu f (fj l i) (dZ l i (fj l i))
def kY (l : List aN) (x : aN) : List aN := OO l.length l.length (l ++ [x])
def cR (l : List aN) (i : Nat) : List aN :=
 if i < l.length - 1 then OO i i (nu l.length i ((dZ l i (l.length - 1)).take (l.length - 1))) else (dZ l i (l.length - 1)).take (l.length - 1)
def dM : Nat → List aN → Int → List aN × List aN
 | 0, l, _ => (l, [])
 | f + 1, l, now => if 0 < l.length ∧ (fy l 0).t ≤ now then ((dM f (cR l 0) now).1, fy l 0 :: (dM f (cR l 0) now).2) else (l, [])
def cn : Nat → List aN → List aN
 | 0, _ => []
 | f + 1, l => if 0 < l.length then fy l 0 :: cn f (cR l 0) else []
theorem Ct {f i : Nat} {l : List aN} : OO (f + 1) i l = if 0 < i ∧ (fy l i).before (fy l ((i - 1) / 4)) = true then OO f ((i - 1) / 4) (dZ l i ((i - 1) / 4)) else l := rfl
theorem qi {l : List aN} {n k out : Nat} : dX l (n + 1) k out = if k < l.length then dX l n (k + 1) (if (fy l k).before (fy l out) then k else out) else out := rfl
theorem Cu {f i : Nat} {l : List aN} : nu (f + 1) i l = if fj l i = i then l else nu f (fj l i) (dZ l i (fj l i)) := rfl
theorem pS {f : Nat} {l : List aN} {now : Int} : dM (f + 1) l now = if 0 < l.length ∧ (fy l 0).t ≤ now then ((dM f (cR l 0) now).1, fy l 0 :: (dM f (cR l 0) now).2) else (l, []) := rfl
theorem iG {f : Nat} {l : List aN} : cn (f + 1) l = if 0 < l.length then fy l 0 :: cn f (cR l 0) else [] := rfl
theorem cP {l : List aN} {i j : Nat} : (dZ l i j).length = l.length := by simp [dZ]
theorem GS : ∀ {f i : Nat} {l : List aN}, (OO f i l).length = l.length
 | 0, _, _ => rfl
 | f + 1, i, l => by unfold OO; split; rw [GS, cP]; rfl
theorem kG : ∀ {f i : Nat} {l : List aN}, (nu f i l).length = l.length
 | 0, _, _ => rfl
 | f + 1, i, l => by unfold nu; split; rfl; rw [kG, cP]
theorem jA {l : List aN} {i : Nat} : (cR l i).length = l.length - 1 := by
 unfold cR; split
 ·rw [GS, kG, List.length_take, cP]; omega
 ·rw [List.length_take, cP]; omega
theorem QL {l : List aN} {x : aN} : (kY l x).length = l.length + 1 := by unfold kY; rw [GS]; simp
theorem nR {l : List aN} {i : Nat} (h : i < l.length) : l[i]? = some (fy l i) := by
 unfold fy; rw [List.getD_eq_getElem?_getD, List.getElem?_eq_getElem h]; rfl
theorem nS {l : List aN} : ∀ (n k out : Nat), out < l.length → out < k → dX l n k out < l.length ∧ (out ≤ dX l n k out)
 | 0, _, _, h, _ => ⟨h, Nat.le_refl _⟩
 | n + 1, k, out, h, hk => by
  unfold dX; split
  ·rename_i hl
   split
   ·have := nS n (k + 1) k hl (by omega); omega
   ·exact nS n (k + 1) out h (by omega)
  ·exact ⟨h, Nat.le_refl _⟩
theorem EK {l : List aN} {i : Nat} (h : i < l.length) : fj l i < l.length ∧ i ≤ fj l i := nS 4 _ i h (by omega)
structure WJ (b o : Nat) (P : Option Addr → Nat → Nat → Int → HP) : Prop where
 WK : ∀ (R : Mem) (L : List HP) (M : Mem) (A : Option Addr) (n c : Nat) (s : Int), Hp R (P A n c s :: L) M → M.ld ⟨b, o, none⟩ = some (.slice A n c)
 ldI : ∀ (R : Mem) (L : List HP) (M : Mem) (A : Option Addr) (n c : Nat) (s : Int), Hp R (P A n c s :: L) M → M.ld ⟨b, o + 1, none⟩ = some (.int .u64 s)
 stS : ∀ (R : Mem) (L : List HP) (M : Mem) (A A' : Option Addr) (n c n' c' : Nat) (s : Int) (G : Mem → Prop), Hp R (P A n c s :: L) M → (∀ M', Hp R (P A' n' c' s :: L) M' → G M') → b7 M ⟨b, o, none⟩ (.slice A' n' c') G
 stI : ∀ (R : Mem) (L : List HP) (M : Mem) (A : Option Addr) (n c : Nat) (s s' : Int) (G : Mem → Prop), Hp R (P A n c s :: L) M → (∀ M', Hp R (P A n c s' :: L) M' → G M') → b7 M ⟨b, o + 1, none⟩ (.int .u64 s') G
theorem AP : bF Tryz.prog 65 205 3 24 [.int .u64 0, .int .u64 0, .int .i64 0] := bF.mk' (zv := .agg #[.int .u64 0, .int .u64 0, .int .i64 0]) (by kernel_rfl) (by kernel_rfl) rfl (by omega)
section
variable {R : Mem} {L L' : List HP} {M : Mem} {K : Value → Mem → Prop} {Kp : List PanicEntry → Mem → Prop} {b o : Nat} {P : Option Addr → Nat → Nat → Int → HP} {A : Option Addr} {c : Nat} {s : Int} {l : List aN} {i j : Nat}
theorem nv {q o0 o1 o2 o3 : Nat} {x : aN} {G : Int → Int → Int → Prop} (h : Hp R L M) (hs : Src R L (some ⟨q, o0, none⟩) (hH.cells l)) (hi : l[i]? = some x) (e1 : o1 = o0 + i * 3) (e2 : o2 = o0 + i * 3 + 1) (e3 : o3 = o0 + i * 3 + 2) (g : G x.t x.seq x.id) :
  bG (M.ld ⟨q, o1, none⟩) .u64 fun a => bG (M.ld ⟨q, o2, none⟩) .u64 fun b => bG (M.ld ⟨q, o3, none⟩) .i64 fun d => G a b d := by
 refine aj (Src.at hs h (i := i) (j := 0) hi rfl (by rw [e1]; rfl)) ?_
 refine aj (Src.at hs h (i := i) (j := 1) hi rfl (by rw [e2]; show _ = o0 + (i * 3 + 1); omega)) ?_
 exact aj (Src.at hs h (i := i) (j := 2) hi rfl (by rw [e3]; show _ = o0 + (i * 3 + 2); omega)) g
theorem OP {q o1 o2 o3 : Nat} {x y : aN} {G : Mem → Prop} (h : Hp R L M) [r : dG (some ⟨q, 0, none⟩) L aN hH 205 c l L'] (hi : l[i]? = some x) (e1 : o1 = i * 3) (e2 : o2 = i * 3 + 1) (e3 : o3 = i * 3 + 2)
  (k : ∀ M', Hp R (eX (some ⟨q, 0, none⟩) c (l.set i y) :: L') M' → G M') :
  b7 M ⟨q, o1, none⟩ (.int .u64 y.t) fun M1 => b7 M1 ⟨q, o2, none⟩ (.int .u64 y.seq) fun M2 => b7 M2 ⟨q, o3, none⟩ (.int .i64 y.id) G := by
 have hl := (List.getElem?_eq_some_iff.1 hi).1
 refine g9 (E := hH) (a := x) (a' := ⟨y.t, x.seq, x.id⟩) i 0 h hi (by decide) rfl e1 ?_
 clear h; intro M h
 refine g9 (E := hH) (a := ⟨y.t, x.seq, x.id⟩) (a' := ⟨y.t, y.seq, x.id⟩) i 1 h (by simp [hl]) (by decide) rfl e2 ?_
 clear h; intro M h
 refine g9 (E := hH) (a := ⟨y.t, y.seq, x.id⟩) (a' := y) i 2 h (by simp [hl]) (by decide) rfl e3 ?_
 clear h; intro M h
 rw [sN, sN] at h
 exact k _ h
theorem zM {x y : aN} (h : Hp R L M) (k : ∀ M', Hp R L M' → K (.bool (x.before y)) M') : ae Tryz.prog 186 #[.agg #[.int .u64 x.t, .int .u64 x.seq, .int .i64 x.id], .agg #[.int .u64 y.t, .int .u64 y.seq, .int .i64 y.id]] M K Kp := by
 refine BO ?_
 repeat (first|(refine ai h ?_;clear h;intro kb M h)|(refine ak h ?_;clear h;intro M h)|refine St.to h ?_|(apply Exists.intro;(repeat apply Exists.intro);refine And.intro rfl ?_)|refine ay ?_|refine aq ?_|refine au ?_)
 unfold aN.before at k
 refine aH.2 ⟨fun h1 => ?_, fun h1 => ?_⟩
 ·have := k _ h.jf
  rwa [decide_eq_true h1, Bool.true_or] at this
 ·repeat (first|(refine ai h ?_;clear h;intro kb M h)|(refine ak h ?_;clear h;intro M h)|refine St.to h ?_|(apply Exists.intro;(repeat apply Exists.intro);refine And.intro rfl ?_)|refine ay ?_|refine aq ?_|refine au ?_)
  refine bh.2 ⟨fun h2 => ?_, fun h2 => ?_⟩
  ·repeat (first|(refine ai h ?_;clear h;intro kb M h)|(refine ak h ?_;clear h;intro M h)|refine St.to h ?_|(apply Exists.intro;(repeat apply Exists.intro);refine And.intro rfl ?_)|refine ay ?_|refine aq ?_|refine au ?_)
   have := k _ h.jf
   rwa [decide_eq_false h1, Bool.false_or, beq_iff_eq.2 h2, Bool.true_and] at this
  ·have := k _ h.jf
   rwa [decide_eq_false h1, Bool.false_or, show (x.t == y.t) = false from by simpa using h2, Bool.false_and] at this
theorem zb (D : WJ b o P) (h : Hp R (P A l.length c s :: eX A c l :: L) M) (hi : i < l.length) (hj : j < l.length)
  (k : ∀ M', Hp R (P A l.length c s :: eX A c (dZ l i j) :: L) M' → K (.tuple #[]) M') : ae Tryz.prog 136 #[.pointer (some ⟨b, o, none⟩), .int .i64 (i : Int), .int .i64 (j : Int)] M K Kp := by
 refine xm ?_
 obtain ⟨q, rfl⟩ := h.bU (A := A) (by omega) (by decide)
 have hs := h.src (A := some ⟨q, 0, none⟩)
 rw [D.WK _ _ _ _ _ _ _ h]
 refine aY (aY (aY ⟨by omega, by omega, aV ?_⟩))
 refine nv h hs (nR hj) (by simp) (by simp) (by simp) ?_
 refine aY ⟨by omega, by omega, aV ?_⟩
 refine nv h hs (nR hi) (by simp) (by simp) (by simp) ?_
 clear hs
 refine ⟨by omega, by omega, aV ?_⟩
 refine OP (y := fy l j) h (nR hi) (by simp) (by simp) (by simp) ?_
 clear h; intro M h
 refine ⟨by omega, by omega, aV ?_⟩
 have ZH : (l.set i (fy l j))[j]? = some (fy l j) := by
  rw [List.getElem?_set]
  split
  ·rfl
  ·exact nR hj
 refine OP (y := fy l i) h ZH (by simp) (by simp) (by simp) ?_
 clear h; intro M h
 exact k _ (h.sub bz)
theorem Cv (D : WJ b o P) (h : Hp R (P A l.length c s :: eX A c l :: L) M) (hi : i < l.length) (hl : l.length ≤ 1000000)
  (k : ∀ M', Hp R (P A l.length c s :: eX A c l :: L) M' → K (.int .i64 (fj l i : Int)) M') : ae Tryz.prog 185 #[.pointer (some ⟨b, o, none⟩), .int .i64 (i : Int)] M K Kp := by
 refine vV ?_
 have e1 : IntKind.wrap .i64 (IntKind.wrap .i64 (4 * (i : Int)) + 1) = ((4 * i + 1 : Nat) : Int) := by
  rw [dD (z := 4 * (i : Int)) (by omega) (by omega), dD (by omega) (by omega)]; omega
 have e4 : IntKind.wrap .i64 (IntKind.wrap .i64 (4 * (i : Int)) + 4) = ((4 * i + 4 : Nat) : Int) := by
  rw [dD (z := 4 * (i : Int)) (by omega) (by omega), dD (by omega) (by omega)]; omega
 rw [e1, e4]
 refine ⟨fun d vs M => ∃ kk out : Nat, vs = [.int .i64 (out : Int), .int .i64 (kk : Int)] ∧ d = 4 * i + 5 - kk ∧ kk ≤ 4 * i + 5 ∧ out < l.length ∧ out < kk ∧ dX l (4 * i + 5 - kk) kk out = fj l i ∧ Hp R (P A l.length c s :: eX A c l :: L) M,
  ⟨_, 4 * i + 1, i, rfl, rfl, by omega, hi, by omega, by rw [show 4 * i + 5 - (4 * i + 1) = 4 from by omega]; rfl, h⟩, ?_⟩
 clear h
 rintro d _ n5 n6 M ⟨kk, out, he, hd, hkk, ho, hok, hf, h⟩
 simp only [List.cons.injEq, Value.int.injEq, and_true, true_and] at he
 obtain ⟨rfl, rfl⟩ := he
 refine aH.2 ⟨fun hle => ?_, fun hgt => ?_⟩
 ·rw [D.WK _ _ _ _ _ _ _ h]
  obtain ⟨n, hn⟩ : ∃ n, 4 * i + 5 - kk = n + 1 := ⟨4 * i + 4 - kk, by omega⟩
  rw [hn] at hf
  rw [qi] at hf
  refine aY ?_
  refine aH.2 ⟨fun hlt => ?_, fun hge => ?_⟩
  ·rw [if_pos (by omega)] at hf
   obtain ⟨q, rfl⟩ := h.bU (A := A) (by omega) (by decide)
   have hs := h.src (A := some ⟨q, 0, none⟩)
   refine aY ⟨by omega, by omega, aV ?_⟩
   refine nv h hs (nR (i := kk) (by omega)) (by simp) (by simp) (by simp) ?_
   refine aY ⟨by omega, by omega, aV ?_⟩
   refine nv h hs (nR (i := out) (by omega)) (by simp) (by simp) (by simp) ?_
   refine zM h ?_
   clear h hs; intro M h
   refine lF ?_
   have e : IntKind.wrap .i64 ((kk : Int) + 1) = ((kk + 1 : Nat) : Int) := by rw [dD (by omega) (by omega)]; omega
   rw [e]
   cases hb : (fy l kk).before (fy l out) with
   | true =>
    rw [hb] at hf
    exact aq ⟨n, by omega, kk + 1, kk, rfl, by omega, by omega, by omega, by omega, by rw [show 4 * i + 5 - (kk + 1) = n from by omega]; exact hf, h⟩
   | false =>
    rw [hb] at hf
    exact au ⟨n, by omega, kk + 1, out, rfl, by omega, by omega, by omega, by omega, by rw [show 4 * i + 5 - (kk + 1) = n from by omega]; exact hf, h⟩
  ·rw [if_neg (by omega)] at hf
   subst hf
   exact k _ h
 ·have : 4 * i + 5 - kk = 0 := by omega
  rw [this] at hf
  have HZ : out = fj l i := hf
  subst HZ
  exact k _ h
theorem QM (D : WJ b o P) {f : Nat} (h : Hp R (P A l.length c s :: eX A c l :: L) M) (hi : i < l.length) (hl : l.length ≤ 1000000) (hf : l.length ≤ f + i)
  (k : ∀ M', Hp R (P A l.length c s :: eX A c (nu f i l) :: L) M' → K (.tuple #[]) M') : ae Tryz.prog 137 #[.pointer (some ⟨b, o, none⟩), .int .i64 (i : Int)] M K Kp := by
 refine xn ?_
 refine Cv D h hi hl ?_
 clear h; intro M h
 refine eY ?_
 refine ⟨fun d vs M => ∃ (f' i' : Nat) (l' : List aN), vs = [.int .i64 (i' : Int), .int .i64 (fj l' i' : Int)] ∧ d = l.length - i' ∧ i' < l.length ∧ l'.length = l.length ∧ l.length ≤ f' + i' ∧ nu f' i' l' = nu f i l ∧ Hp R (P A l.length c s :: eX A c l' :: L) M,
  ⟨_, f, i, l, rfl, rfl, hi, rfl, hf, rfl, h⟩, ?_⟩
 clear h
 rintro d _ n5 n6 M ⟨f', i', l', he, hd, hi', hl', KM, OQ, h⟩
 simp only [List.cons.injEq, Value.int.injEq, and_true, true_and] at he
 obtain ⟨rfl, rfl⟩ := he
 obtain ⟨g, rfl⟩ : ∃ g, f' = g + 1 := ⟨f' - 1, by omega⟩
 rw [Cu] at OQ
 obtain ⟨m1, m2⟩ := EK (l := l') (i := i') (by omega)
 rw [← hl'] at h
 refine cY.2 ⟨fun hne => ?_, fun heq => ?_⟩
 ·rw [if_neg (by intro e; apply hne; rw [e])] at OQ
  refine zb D h (i := i') (j := fj l' i') (by omega) (by omega) ?_
  clear h; intro M h
  refine ⟨rfl, ?_⟩
  have WL : (dZ l' i' (fj l' i')).length = l'.length := cP
  rw [← WL] at h
  refine Cv D h (by omega) (by omega) ?_
  clear h; intro M h
  rw [WL] at h
  refine eY ?_
  exact ⟨l.length - fj l' i', by omega, g, fj l' i', _, rfl, rfl, by omega, by omega, by omega, OQ, by rw [← hl']; exact h⟩
 ·rw [if_pos (by omega)] at OQ
  subst OQ
  rw [hl'] at h
  exact k _ h
theorem OR (D : WJ b o P) {f : Nat} (h : Hp R (P A l.length c s :: eX A c l :: L) M) (hi : i < l.length) (hl : l.length ≤ 1000000) (hf : i ≤ f)
  (k : ∀ M', Hp R (P A l.length c s :: eX A c (OO f i l) :: L) M' → K (.tuple #[]) M') : ae Tryz.prog 138 #[.pointer (some ⟨b, o, none⟩), .int .i64 (i : Int)] M K Kp := by
 refine Ad ?_
 refine ⟨fun d vs M => ∃ (f' i' : Nat) (l' : List aN), vs = [.int .i64 (i' : Int)] ∧ d = i' ∧ i' < l.length ∧ l'.length = l.length ∧ i' ≤ f' ∧ OO f' i' l' = OO f i l ∧ Hp R (P A l.length c s :: eX A c l' :: L) M,
  ⟨_, f, i, l, rfl, rfl, hi, rfl, hf, rfl, h⟩, ?_⟩
 clear h
 rintro d _ n5 M ⟨f', i', l', he, hd, hi', hl', KM, OQ, h⟩
 simp only [List.cons.injEq, Value.int.injEq, and_true, true_and] at he
 subst he
 refine aH.2 ⟨fun hgt => ?_, fun hle => ?_⟩
 ·obtain ⟨g, rfl⟩ : ∃ g, f' = g + 1 := ⟨f' - 1, by omega⟩
  rw [Ct] at OQ
  have ep : IntKind.wrap .i64 (Int.tdiv (IntKind.wrap .i64 ((i' : Int) - 1)) 4) = (((i' - 1) / 4 : Nat) : Int) := by
   rw [dD (z := (i' : Int) - 1) (by omega) (by omega), show ((i' : Int) - 1) = ((i' - 1 : Nat) : Int) from by omega, show (4 : Int) = ((4 : Nat) : Int) from rfl, ← Int.ofNat_tdiv, dD (by omega) (by omega)]
  have hp : (i' - 1) / 4 < i' := by omega
  generalize hpe : (i' - 1) / 4 = p at ep OQ hp
  rw [ep, D.WK _ _ _ _ _ _ _ h]
  obtain ⟨q, rfl⟩ := h.bU (A := A) (by omega) (by decide)
  have hs := h.src (A := some ⟨q, 0, none⟩)
  refine ⟨by omega, aY ⟨by omega, by omega, aV ?_⟩⟩
  refine nv h hs (nR (i := i') (by omega)) (by simp) (by simp) (by simp) ?_
  refine aY ⟨by omega, by omega, aV ?_⟩
  refine nv h hs (nR (i := p) (by omega)) (by simp) (by simp) (by simp) ?_
  refine zM h ?_
  clear h hs; intro M h
  refine lF ?_
  cases hb : (fy l' i').before (fy l' p) with
  | true =>
   rw [if_pos ⟨by omega, hb⟩] at OQ
   refine aq ⟨by omega, ?_⟩
   rw [← hl'] at h
   refine zb D h (i := i') (j := p) (by omega) (by omega) ?_
   clear h; intro M h
   rw [hl'] at h
   exact ⟨rfl, by omega, p, by omega, g, p, _, rfl, rfl, by omega, by rw [cP]; exact hl', by omega, OQ, h⟩
  | false =>
   rw [if_neg (by rintro ⟨_, h2⟩; rw [hb] at h2; cases h2)] at OQ
   refine au ?_
   subst OQ
   exact k _ h
 ·have : OO f' i' l' = l' := by
   have h0 : i' = 0 := by omega
   subst h0
   cases f' with
   | zero => rfl
   | succ g => rw [Ct]; rw [if_neg (by omega)]
  rw [this] at OQ
  subst OQ
  exact k _ h
theorem QN (D : WJ b o P) {t id : Int} (h : Hp R (P A l.length c s :: eX A c l :: L) M) (hl : l.length < 1000000)
  (k : ∀ v A' c' M', Hp R (P A' (l.length + 1) c' (IntKind.wrap .u64 (s + 1)) :: eX A' c' (kY l ⟨t, s, id⟩) :: L) M' → K (.int .u64 v) M') : ae Tryz.prog 214 #[.pointer (some ⟨b, o, none⟩), .int .u64 t, .int .i64 id] M K Kp := by
 refine xo ?_
 rw [D.WK _ _ _ _ _ _ _ h, D.ldI _ _ _ _ _ _ _ h]
 refine aY (eY ?_)
 refine ai h ?_
 clear h; intro kb M h
 replace h : Hp R (P A l.length c s :: eX A c l :: pt kb [.int .u64 t, .int .u64 s, .int .i64 id] 205 :: L) M := h.sub bz
 refine h.be (A := A) AP [(⟨t, s, id⟩ : aN)] rfl rfl (by simp only [List.length_singleton]; omega) ?_
 clear h; intro A' c' M h
 refine aY ?_
 have hlen : (l ++ [(⟨t, s, id⟩ : aN)]).length = l.length + 1 := by simp
 refine D.stS _ _ _ _ _ _ _ _ _ _ _ h.swap ?_
 clear h; intro M h
 rw [D.ldI _ _ _ _ _ _ _ h]
 refine eY ?_
 refine D.stI _ _ _ _ _ _ _ _ _ h ?_
 clear h; intro M h
 rw [D.WK _ _ _ _ _ _ _ h]
 refine aY ?_
 have e : IntKind.wrap .i64 (((l ++ [(⟨t, s, id⟩ : aN)]).length : Int) - 1) = ((l.length : Nat) : Int) := by
  rw [dD (by omega) (by omega)]; omega
 rw [e]
 refine OR D (f := l.length) h (by omega) (by omega) (Nat.le_refl _) ?_
 clear h; intro M h
 refine ⟨rfl, ?_⟩
 rw [D.ldI _ _ _ _ _ _ _ h]
 refine eY ?_
 rw [hlen] at h
 exact k _ _ _ _ h
theorem zN (D : WJ b o P) (h : Hp R (P A l.length c s :: eX A c l :: L) M) (hi : i < l.length) (hl : l.length ≤ 1000000)
  (k : ∀ M', Hp R (P A (l.length - 1) c s :: eX A c (cR l i) :: L) M' → K (.agg #[.int .u64 (fy l i).t, .int .u64 (fy l i).seq, .int .i64 (fy l i).id]) M') : ae Tryz.prog 106 #[.pointer (some ⟨b, o, none⟩), .int .i64 (i : Int)] M K Kp := by
 refine uv ?_
 have hcap := h.nF A
 obtain ⟨q, rfl⟩ := h.bU (A := A) (by omega) (by decide)
 refine ai h ?_
 clear h; intro k1 M h
 have hs := h.src (A := some ⟨q, 0, none⟩)
 replace h : Hp R (P (some ⟨q, 0, none⟩) l.length c s :: eX (some ⟨q, 0, none⟩) c l :: pt k1 [.int .u64 0, .int .u64 0, .int .i64 0] 205 :: L) M := h.sub bz
 replace hs := h.src (A := some ⟨q, 0, none⟩)
 rw [D.WK _ _ _ _ _ _ _ h]
 refine aY ⟨by omega, by omega, aV ?_⟩
 refine nv h hs (nR hi) (by simp) (by simp) (by simp) ?_
 clear hs
 generalize hx : fy l i = x at k
 refine ai h ?_
 clear h; intro k2 M h
 refine ak h ?_
 clear h; intro M h
 refine ak h ?_
 clear h; intro M h
 refine ak h ?_
 clear h; intro M h
 replace h : Hp R (P (some ⟨q, 0, none⟩) l.length c s :: eX (some ⟨q, 0, none⟩) c l :: pt k2 [.int .u64 x.t, .int .u64 x.seq, .int .i64 x.id] 205 :: pt k1 [.int .u64 0, .int .u64 0, .int .i64 0] 205 :: L) M := h.sub bz
 rw [D.WK _ _ _ _ _ _ _ h]
 have e : IntKind.wrap .i64 ((l.length : Int) - 1) = ((l.length - 1 : Nat) : Int) := by
  rw [dD (by omega) (by omega)]; omega
 refine aY ?_
 rw [e]
 refine zb D h hi (j := l.length - 1) (by omega) ?_
 clear h; intro M h
 refine ⟨rfl, ?_⟩
 rw [D.WK _ _ _ _ _ _ _ h]
 refine aY ⟨by omega, by omega, by omega, by omega, by omega, by omega, ?_⟩
 have e2 : jt (some ⟨q, 0, none⟩) 0 (Int.toNat (c : Int)) 3 = some ⟨q, 0, none⟩ := by
  unfold jt; rw [if_neg (by simp; omega)]; rfl
 rw [e2]
 simp only [Int.toNat_natCast, Nat.sub_zero]
 refine D.stS _ _ _ _ _ _ _ _ _ _ _ h ?_
 clear h; intro M h
 have WL : ((dZ l i (l.length - 1)).take (l.length - 1)).length = l.length - 1 := by rw [List.length_take, cP]; omega
 have fin : ∀ (M : Mem) (Q : List HP), Hp R (P (some ⟨q, 0, none⟩) (l.length - 1) c s :: eX (some ⟨q, 0, none⟩) c (cR l i) :: pt k2 [.int .u64 x.t, .int .u64 x.seq, .int .i64 x.id] 205 :: pt k1 [.int .u64 0, .int .u64 0, .int .i64 0] 205 :: L) M →
   bG (Mem.ld M ⟨k2, 0, none⟩) .u64 fun yI => bG (Mem.ld M ⟨k2, (0 + 1), none⟩) .u64 fun xl => bG (Mem.ld M ⟨k2, (0 + 2), none⟩) .i64 fun ry =>
   b7 M ⟨k1, 0, none⟩ (.int .u64 yI) fun mR => b7 mR ⟨k1, (0 + 1), none⟩ (.int .u64 xl) fun uf => b7 uf ⟨k1, (0 + 2), none⟩ (.int .i64 ry) fun qO =>
   bG (Mem.ld qO ⟨k1, 0, none⟩) .u64 fun yK => bG (Mem.ld qO ⟨k1, (0 + 1), none⟩) .u64 fun tH => bG (Mem.ld qO ⟨k1, (0 + 2), none⟩) .i64 fun xU =>
   K (.agg #[(.int .u64 yK), (.int .u64 tH), (.int .i64 xU)]) qO := by
  intro M _ h
  refine az h (az h (az h ?_))
  refine ak h ?_
  clear h; intro M h
  refine ak h ?_
  clear h; intro M h
  refine ak h ?_
  clear h; intro M h
  refine az h (az h (az h ?_))
  exact k _ (h.sub bz)
 replace h : Hp R (P (some ⟨q, 0, none⟩) (l.length - 1) c s :: eX (some ⟨q, 0, none⟩) c ((dZ l i (l.length - 1)).take (l.length - 1)) :: pt k2 [.int .u64 x.t, .int .u64 x.seq, .int .i64 x.id] 205 :: pt k1 [.int .u64 0, .int .u64 0, .int .i64 0] 205 :: L) M := (h.swap.SD (l.length - 1)).swap
 unfold cR at fin
 refine aH.2 ⟨fun hlt => ?_, fun hge => ?_⟩
 ·rw [if_pos (by omega)] at fin
  have h' : Hp R (P (some ⟨q, 0, none⟩) ((dZ l i (l.length - 1)).take (l.length - 1)).length c s :: eX (some ⟨q, 0, none⟩) c ((dZ l i (l.length - 1)).take (l.length - 1)) :: pt k2 [.int .u64 x.t, .int .u64 x.seq, .int .i64 x.id] 205 :: pt k1 [.int .u64 0, .int .u64 0, .int .i64 0] 205 :: L) M := by rw [WL]; exact h
  clear h
  have h := h'
  clear h'
  refine QM D (f := l.length) h (by omega) (by omega) (by omega) ?_
  clear h; intro M h
  refine ⟨rfl, ?_⟩
  rw [show ((dZ l i (l.length - 1)).take (l.length - 1)).length = (nu l.length i ((dZ l i (l.length - 1)).take (l.length - 1))).length from kG.symm] at h
  refine OR D (f := i) h (by rw [kG]; omega) (by rw [kG]; omega) (Nat.le_refl _) ?_
  clear h; intro M h
  refine ⟨rfl, ?_⟩
  rw [kG, WL] at h
  exact fin M [] h
 ·rw [if_neg (by omega)] at fin
  exact fin M [] h
theorem QO (D : WJ b o P) {now : Int} (h : Hp R (P A l.length c s :: eX A c l :: L) M) (hl : l.length ≤ 1000000)
  (k : ∀ A' c' M', Hp R (P A (dM l.length l now).1.length c s :: eX A c (dM l.length l now).1 :: eX A' c' (dM l.length l now).2 :: L) M' → K (.slice A' (dM l.length l now).2.length c') M') :
  ae Tryz.prog 89 #[.pointer (some ⟨b, o, none⟩), .int .u64 now] M K Kp := by
 refine xj ?_
 have h0 := h.dz hH 205
 refine ⟨fun d vs M => ∃ (A' : Option Addr) (c' : Nat) (out l' : List aN), vs = [.slice A' out.length c'] ∧ d = l'.length ∧ l'.length + out.length = l.length ∧ (dM l'.length l' now).1 = (dM l.length l now).1 ∧ out ++ (dM l'.length l' now).2 = (dM l.length l now).2 ∧
   Hp R (P A l'.length c s :: eX A c l' :: eX A' c' out :: L) M, ⟨_, none, 0, [], l, rfl, rfl, rfl, rfl, rfl, h0.sub bz⟩, ?_⟩
 clear h h0
 rintro d _ A' n' c' M ⟨A2, c2, out, l', he, hd, WL, e1, e2, h⟩
 simp only [List.cons.injEq, Value.slice.injEq, and_true, true_and] at he
 obtain ⟨rfl, rfl, rfl⟩ := he
 rw [D.WK _ _ _ _ _ _ _ h]
 have stop : ¬ (0 < l'.length ∧ (fy l' 0).t ≤ now) → K (.slice A' out.length c') M := by
  intro hn
  have e : dM l'.length l' now = (l', []) := by
   cases hl' : l'.length with
   | zero => rfl
   | succ m => rw [pS]; rw [if_neg hn]
  rw [e] at e1 e2
  dsimp only at e1 e2
  rw [List.append_nil] at e2
  subst e1; subst e2
  exact k _ _ _ h
 refine aY ?_
 refine aH.2 ⟨fun hgt => ?_, fun hle => stop (by omega)⟩
 have hcap := h.nF A
 obtain ⟨q, rfl⟩ := h.bU (A := A) (by omega) (by decide)
 have hs := h.src (A := some ⟨q, 0, none⟩)
 refine aY ⟨by omega, by omega, aV ?_⟩
 refine aj (Src.at hs h (i := 0) (j := 0) (nR (by omega)) rfl rfl) ?_
 clear hs
 refine aH.2 ⟨fun hle => ?_, fun hgt2 => stop (fun hn => hgt2 hn.2)⟩
 refine zN D h (i := 0) (by omega) (by omega) ?_
 clear h stop; intro M h
 refine ⟨_, _, _, rfl, ?_⟩
 refine ai h ?_
 clear h; intro kb M h
 refine h.be (A := A') AP [fy l' 0] rfl rfl (by simp only [List.length_singleton]; omega) ?_
 clear h; intro A3 c3 M h
 refine aY ?_
 have mU : (cR l' 0).length = l'.length - 1 := jA
 have hw : dM l'.length l' now = ((dM (cR l' 0).length (cR l' 0) now).1, fy l' 0 :: (dM (cR l' 0).length (cR l' 0) now).2) := by
  obtain ⟨m, hm⟩ : ∃ m, l'.length = m + 1 := ⟨l'.length - 1, by omega⟩
  rw [mU, hm]
  show dM (m + 1) l' now = _
  rw [pS]
  rw [if_pos ⟨by omega, hle⟩]; rfl
 rw [hw] at e1 e2
 rw [← mU] at h
 exact ⟨_, by omega, A3, c3, out ++ [fy l' 0], cR l' 0, rfl, rfl, by simp; omega, e1, by rw [List.append_assoc]; exact e2, h.sub bz⟩
theorem pt_hdr {kb T : Nat} : WJ kb 0 (fun A n c s => pt kb [.slice A n c, .int .u64 s] T) :=
 ⟨fun R L M A n c s h => cv h, fun R L M A n c s h => cv h, fun R L M A A' n c n' c' s G h k => ak h k, fun R L M A n c s s' G h k => ak h k⟩
theorem QS (D : WJ b o P) (h : Hp R (P A l.length c s :: eX A c l :: L) M) (hl : l.length ≤ 1000000)
  (k : ∀ A' c' M', Hp R (eX A' c' (cn l.length l) :: P A l.length c s :: eX A c l :: L) M' → K (.slice A' (cn l.length l).length c') M') :
  ae Tryz.prog 61 #[.pointer (some ⟨b, o, none⟩)] M K Kp := by
 refine xk ?_
 refine ai h ?_
 clear h; intro kb M h
 replace h : Hp R (P A l.length c s :: eX A c l :: pt kb [] 205 :: L) M := h.sub (by repeat (first | exact .refl | refine .cons (by repeat (first | exact .here | apply eA.there)) ?_ | apply Sub.drop))
 rw [D.WK _ _ _ _ _ _ _ h]
 refine aY ?_
 refine h.b6 hH (k := kb) AP l (h.src (A := A)) rfl (by omega) ?_
 clear h; intro A1 c1 M h
 refine aY ?_
 refine ai h ?_
 clear h; intro kc M h
 refine ak h ?_
 clear h; intro M h
 refine ak h ?_
 clear h; intro M h
 have h0 := h.dz hH 205
 refine ⟨fun d vs M => ∃ (A' : Option Addr) (c' : Nat) (out l' : List aN), vs = [.slice A' out.length c'] ∧ d = l'.length ∧ l'.length + out.length = l.length ∧ out ++ cn l'.length l' = cn l.length l ∧
   Hp R (pt kc [.slice A1 l'.length c1, .int .u64 0] 162 :: eX A1 c1 l' :: eX A' c' out :: P A l.length c s :: eX A c l :: L) M, ⟨_, none, 0, [], l, rfl, rfl, rfl, rfl, h0.sub (by repeat (first | exact .refl | refine .cons (by repeat (first | exact .here | apply eA.there)) ?_ | apply Sub.drop))⟩, ?_⟩
 clear h h0
 rintro d _ A' n' c' M ⟨A2, c2, out, l', he, hd, WL, e2, h⟩
 simp only [List.cons.injEq, Value.slice.injEq, and_true, true_and] at he
 obtain ⟨rfl, rfl, rfl⟩ := he
 refine ax h ?_
 refine aH.2 ⟨fun hgt => ?_, fun hle => ?_⟩
 ·refine zN pt_hdr h (i := 0) (by omega) (by omega) ?_
  clear h; intro M h
  refine ⟨_, _, _, rfl, ?_⟩
  refine ai h ?_
  clear h; intro kb2 M h
  refine h.be (A := A') AP [fy l' 0] rfl rfl (by simp only [List.length_singleton]; omega) ?_
  clear h; intro A3 c3 M h
  refine aY ?_
  have mU : (cR l' 0).length = l'.length - 1 := jA
  have hw : cn l'.length l' = fy l' 0 :: cn (cR l' 0).length (cR l' 0) := by
   obtain ⟨m, hm⟩ : ∃ m, l'.length = m + 1 := ⟨l'.length - 1, by omega⟩
   rw [mU, hm]
   show cn (m + 1) l' = _
   rw [iG]
   rw [if_pos (by omega)]; rfl
  rw [hw] at e2
  rw [← mU] at h
  exact ⟨_, by omega, A3, c3, out ++ [fy l' 0], cR l' 0, rfl, rfl, by simp; omega, by rw [List.append_assoc]; exact e2, h.sub (by repeat (first | exact .refl | refine .cons (by repeat (first | exact .here | apply eA.there)) ?_ | apply Sub.drop))⟩
 ·have hz : l'.length = 0 := by omega
  rw [hz] at e2
  have e3 : out = cn l.length l := by rw [← e2]; simp [cn]
  subst e3
  exact k _ _ _ (h.sub (by repeat (first | exact .refl | refine .cons (by repeat (first | exact .here | apply eA.there)) ?_ | apply Sub.drop)))
end
def cQ (x : Wd) (k : Int) : Lk := x.aC.getD k.toNat ⟨-1, []⟩
def Wd.da (x : Wd) (k : Int) (c : Lk) : Wd := { x with aC := x.aC.set k.toNat c }
def Wd.lock (x : Wd) (g : Int) (i : bZ) : Wd := if ((cQ x i.a).take g).2 then x.da i.a ((cQ x i.a).take g).1 else (x.da i.a ((cQ x i.a).take g).1).block g i
def Wd.unlock (x : Wd) (g : Int) (i : bZ) : Out Wd :=
 if ((cQ x i.a).gU g).2.2 ≠ 0 then .dg (-3) (x.da i.a ((cQ x i.a).gU g).1)
 else if ((cQ x i.a).gU g).2.1 ≠ -1 then .on ((x.da i.a ((cQ x i.a).gU g).1).eV ((cQ x i.a).gU g).2.1) else .on (x.da i.a ((cQ x i.a).gU g).1)
def GU (x : Wd) (k : Int) : Prop := 0 ≤ k ∧ k < x.aC.length
instance (x : Wd) (k : Int) : Decidable (GU x k) := by unfold GU; infer_instance
def oM (x : Wd) (g : Int) (i : bZ) : Prop := GU x i.a ∧ (((cQ x i.a).gU g).2.1 ≠ -1 → 0 ≤ ((cQ x i.a).gU g).2.1 ∧ ((cQ x i.a).gU g).2.1 < x.gs.length)
instance (x : Wd) (g : Int) (i : bZ) : Decidable (oM x g i) := by unfold oM; infer_instance
def Wd.rand (x : Wd) (g : Int) (i : bZ) : iZ → Out Wd
 | .num d => .on ((x.next g).aW g i.a d)
 | .fF l => .fF l x
def gA (x : Wd) (g : Int) (i : bZ) : Int := if 1048576 < aK x g i.a then 1048576 else aK x g i.a
def Wd.sleep (x : Wd) (g : Int) (i : bZ) : Wd :=
 if 0 < gA x g i then { x.bp g { aa x g with st := 3 } with hl := kY x.hl ⟨IntKind.wrap .u64 (x.clock + IntKind.wrap .u64 (gA x g i)), x.dk, g⟩, dk := IntKind.wrap .u64 (x.dk + 1) } else x
def Wd.tick (x : Wd) : Wd := if x.end_ ≠ 0 then { x with ready := [] } else
 let r := dM x.hl.length x.hl (IntKind.wrap .u64 (x.clock + 1))
 (r.2.map (·.id)).foldl Wd.eV { x with clock := IntKind.wrap .u64 (x.clock + 1), hl := r.1, ready := [] }
section
variable {R : Mem} {L L' L2 : List HP} {M : Mem} {K : Value → Mem → Prop} {Kp : List PanicEntry → Mem → Prop} {pa : PA} {p : cy} {gg : List GA} {dr : Value} {b : Nat} {x : Wd} {g : Int} {i : bZ}
theorem YE (hg : aT x g) (hb : aR i.b) : gO R pa p dr 161 x g i (x.call g i) L L := by
 intro gg b bs c M K Kp Q h fS k
 refine uw ?_
 have GO := hg
 obtain ⟨h0, h1, h2, h3⟩ := GO
 unfold Wd.call at k
 refine ai h ?_
 clear h
 intro kb M h
 have hC := h
 have h' := iF h (b := b) h0 h1 fS
 clear h
 obtain ⟨a, gb, hl, gp, h⟩ := h'
 have hl' := hl
 obtain ⟨l1, l2, l3, l4⟩ := hl'
 repeat (first|(refine ai h ?_;clear h;intro kb M h)|(refine ak h ?_;clear h;intro M h)|refine St.to h ?_|(apply Exists.intro;(repeat apply Exists.intro);refine And.intro rfl ?_)|refine ay ?_|refine aq ?_|refine au ?_)
 refine wh h gp fun q hq => ?_
 repeat (first|(refine ai h ?_;clear h;intro kb M h)|(refine ak h ?_;clear h;intro M h)|refine St.to h ?_|(apply Exists.intro;(repeat apply Exists.intro);refine And.intro rfl ?_)|refine ay ?_|refine aq ?_|refine au ?_)
 refine ⟨hb.1, hb.2, xH h (bR h2) hb rfl ?_⟩
 repeat (first|(refine ai h ?_;clear h;intro kb M h)|(refine ak h ?_;clear h;intro M h)|refine St.to h ?_|(apply Exists.intro;(repeat apply Exists.intro);refine And.intro rfl ?_)|refine ay ?_|refine aq ?_|refine au ?_)
 refine Nc h h2 ?_ ?_
 ·intro mh
  rw [if_pos (by omega)] at k
  refine ⟨_, _, _, _, rfl, aq ?_⟩
  exact k _ _ (hC.sub bz)
 ·intro hlt b' c' M' h'
  clear h hC
  have h := h'
  clear h'
  rw [if_neg (by omega)] at k
  refine ⟨_, _, _, _, rfl, au ?_⟩
  repeat (first|(refine ai h ?_;clear h;intro kb M h)|(refine ak h ?_;clear h;intro M h)|refine St.to h ?_|(apply Exists.intro;(repeat apply Exists.intro);refine And.intro rfl ?_)|refine ay ?_|refine aq ?_|refine au ?_)
  refine wh h gp fun q2 Ng => ?_
  repeat (first|(refine ai h ?_;clear h;intro kb M h)|(refine ak h ?_;clear h;intro M h)|refine St.to h ?_|(apply Exists.intro;(repeat apply Exists.intro);refine And.intro rfl ?_)|refine ay ?_|refine aq ?_|refine au ?_)
  have hlen : (aa x g).fs.length + 1 = ((aa x g).fs ++ [(⟨i.a, 0, [aK x g i.b, 0, 0, 0, 0, 0, 0, 0], i.c⟩ : eH)]).length := by simp
  have h5 := oL (A := some ⟨b', 0, none⟩) (fs := (aa x g).fs ++ [⟨i.a, 0, [aK x g i.b, 0, 0, 0, 0, 0, 0, 0], i.c⟩]) h gb hlen
  have hi := (List.getElem?_eq_some_iff.1 gp).1
  have h6 := h5.gP gm gb gp (by rw [List.length_zip]; omega)
  rw [Cr] at h6
  have dQ : fW (gg.set g.toNat (some ⟨b', 0, none⟩, c')) a (x.bp g ⟨(aa x g).st, (aa x g).fs ++ [⟨i.a, 0, [aK x g i.b, 0, 0, 0, 0, 0, 0, 0], i.c⟩], (aa x g).wt⟩) := ⟨by simpa [Wd.bp] using l1, by simpa [Wd.bp] using l2, l3, l4⟩
  have h7 := br (a := a) (p := p) (pa := pa) (dr := dr) (gg := gg.set g.toNat (some ⟨b', 0, none⟩, c')) (x := x.bp g ⟨(aa x g).st, (aa x g).fs ++ [⟨i.a, 0, [aK x g i.b, 0, 0, 0, 0, 0, 0, 0], i.c⟩], (aa x g).wt⟩) dQ h6 b
  exact k _ _ (h7.sub bz)
theorem OS {a : WA} {k : Int} {c : Lk} (hl : fW gg a x) : fW gg a (x.da k c) := by
 obtain ⟨l1, l2, l3, l4⟩ := hl
 exact ⟨l1, l2, l3, by simpa [Wd.da] using l4⟩
theorem YF (hg : aT x g) (hk : GU x i.a) (hs : x.Sm) : gO R pa p dr 169 x g i (.on (x.lock g i)) L L := by
 intro gg b bs c M K Kp Q h fS k
 refine uB ?_
 replace k : ∀ nq M', Hp R (bj (bI pa p nq dr) b (x.lock g i) :: Q :: L) M' → K (.tuple #[]) M' := k
 unfold Wd.lock at k
 obtain ⟨s1, s2, s3, s4, s5, s6, s7, s8⟩ := hs
 obtain ⟨k0, k1⟩ := hk
 refine ai h ?_
 clear h
 intro kb M h
 have h' := cV h (b := b)
 clear h
 obtain ⟨a, hl, h⟩ := h'
 have hl' := hl
 obtain ⟨l1, l2, l3, l4⟩ := hl'
 refine ax h (az h ⟨k0, by omega, ?_⟩)
 obtain ⟨lb, hlb⟩ := aJ (l := a.lb) (i := i.a.toNat) (by omega)
 refine wh h hlb fun q hq => ?_
 obtain ⟨y, hy⟩ := aJ (l := x.aC) (i := i.a.toNat) (by omega)
 have e : cQ x i.a = y := by simp [cQ, hy]
 rw [e] at k
 replace h := h.eF fh hlb hy
 refine Nd h (Nat.le_trans (s6 y (List.mem_of_getElem? hy)) (by decide)) ?_
 clear h; intro M h
 replace h := h.gP fh lb hlb (by omega)
 replace h := br (a := a) (p := p) (pa := pa) (dr := dr) (gg := gg) (x := x.da i.a (y.take g).1) (OS hl) h b
 refine lF ?_
 cases ht : (y.take g).2 with
 | true =>
  rw [ht] at k
  simp only [if_true] at k
  refine au ?_
  exact k _ _ (h.sub bz)
 | false =>
  rw [ht] at k
  simp only [Bool.false_eq_true, if_false] at k
  refine aq ?_
  refine az h (az h (az h (az h ?_)))
  refine nk (b := b) (i := i) h hg.1 (show g < (x.da i.a (y.take g).1).gs.length from hg.2.1) ?_
  clear h; intro M h
  exact ⟨rfl, k _ _ (h.sub bz)⟩
theorem QT (hk : oM x g i) (hs : x.Sm) : gO R pa p dr 170 x g i (x.unlock g i) L L := by
 intro gg b bs c M K Kp Q h fS k
 refine qz ?_
 unfold Wd.unlock at k
 obtain ⟨s1, s2, s3, s4, s5, s6, s7, s8⟩ := hs
 obtain ⟨⟨k0, k1⟩, hw⟩ := hk
 refine ai h ?_
 clear h
 intro kb M h
 have h' := cV h (b := b)
 clear h
 obtain ⟨a, hl, h⟩ := h'
 have hl' := hl
 obtain ⟨l1, l2, l3, l4⟩ := hl'
 refine ax h (az h ⟨k0, by omega, ?_⟩)
 obtain ⟨lb, hlb⟩ := aJ (l := a.lb) (i := i.a.toNat) (by omega)
 refine wh h hlb fun q hq => ?_
 obtain ⟨y, hy⟩ := aJ (l := x.aC) (i := i.a.toNat) (by omega)
 have e : cQ x i.a = y := by simp [cQ, hy]
 rw [e] at k hw
 replace h := h.eF fh hlb hy
 refine Nf h (Nat.le_trans (s6 y (List.mem_of_getElem? hy)) (by decide)) ?_
 clear h; intro M h
 replace h := h.gP fh lb hlb (by omega)
 replace h := br (a := a) (p := p) (pa := pa) (dr := dr) (gg := gg) (x := x.da i.a (y.gU g).1) (OS hl) h b
 refine ⟨_, _, rfl, ?_⟩
 refine cY.2 ⟨fun hn => ?_, fun hn => ?_⟩
 ·rw [if_pos hn] at k
  exact k _ _ (h.sub bz)
 rw [if_neg (by simpa using hn)] at k
 refine cY.2 ⟨fun qZ => ?_, fun qZ => ?_⟩
 ·rw [if_pos qZ] at k
  obtain ⟨w0, w1⟩ := hw qZ
  refine jk (b := b) h w0 (show _ < ((x.da i.a (y.gU g).1).gs.length : Int) from w1) (by show x.ready.length ≤ _; omega) ?_
  clear h; intro M h
  exact ⟨rfl, k _ _ (h.sub bz)⟩
 ·rw [if_neg (by simpa using qZ)] at k
  exact k _ _ (h.sub bz)
theorem YG : gO R pa p dr 172 x g i (.dg i.a x) L L := by
 intro gg b bs c M K Kp Q h fS k
 refine uD ?_
 refine ai h ?_
 clear h
 intro kb M h
 refine az h ?_
 exact k _ _ (h.sub bz)
theorem Vx : gO R pa p dr 164 x g i (.on x) L L := by
 intro gg b bs c M K Kp Q h fS k
 refine rR ?_
 refine ai h ?_
 clear h
 intro kb M h
 exact k _ _ (h.sub bz)
theorem YH {d : iZ} (hg : aT x g) (ha : aR i.a) (sS : 0 ≤ (aa x g).top.pc ∧ (aa x g).top.pc < 1000000000) (hd : ie R dr 4 i.b d L L2) : gO R pa p dr 123 x g i (x.rand g i d) L L2 := by
 intro gg b bs c M K Kp Q h fS k
 refine uu ?_
 refine ai h ?_
 clear h
 intro kb M h
 have KB : M.ld ⟨b, 0 + 14, none⟩ = some dr := by
  obtain ⟨a, hl, h9⟩ := cV h (b := b)
  exact cv h9
 rw [KB]
 refine SB (az h ?_)
 have h5 : Hp R (sep [bj (bI pa p gg dr) b x, pt kb [.int .i64 i.op, .int .i64 i.a, .int .i64 i.b, .int .i64 i.c] 34, Q] :: L) M := Hp.cW.2 (h.sub bz)
 refine hd _ _ _ _ h5 ?_
 clear h h5 KB
 cases d with
 | fF l =>
  dsimp only at k ⊢
  intro M h5
  have h : Hp R (bj (bI pa p gg dr) b x :: pt kb [.int .i64 i.op, .int .i64 i.a, .int .i64 i.b, .int .i64 i.c] 34 :: Q :: L2) M := Hp.cW.1 h5
  exact k _ _ (h.sub bz)
 | num v =>
  dsimp only at k ⊢
  intro M h5
  have h : Hp R (bj (bI pa p gg dr) b x :: pt kb [.int .i64 i.op, .int .i64 i.a, .int .i64 i.b, .int .i64 i.c] 34 :: Q :: L2) M := Hp.cW.1 h5
  clear h5
  refine eY ?_
  refine Nt (b := b) h hg fS rfl ?_
  rw [ji sS.1 (by omega)]
  refine Ns (b := b) h hg fS rfl rfl ?_
  clear h; intro M h
  refine az h ⟨ha.1, ha.2, ?_⟩
  refine nm (b := b) h (wm hg) fS ha (by rw [GR hg]) ?_
  clear h; intro M h
  exact k _ _ (h.sub bz)
abbrev AQ (pa : PA) (p : cy) (dr : Value) (a : WA) (x : Wd) (nr : Nat) (A : Option Addr) (n c : Nat) (s : Int) : List Value :=
 [.slice pa.f p.funcs.length pa.fc, .slice pa.c p.dB.length pa.cc, .int .i64 p.aC, .slice pa.k p.cases.length pa.kc, .slice a.ag a.gb.length a.cg, .int .u64 x.clock,
  .slice a.ac a.cb.length a.cc, .slice a.al a.lb.length a.cl, .slice A n c, .int .u64 s, .slice a.ao x.out.length a.co, .int .i64 x.end_, .int .i64 x.code, .slice a.ar nr a.cr, dr]
theorem Vy {a : WA} {nr T : Nat} : WJ b (0 + 8) (fun A n c s => pt b (AQ pa p dr a x nr A n c s) T) :=
 ⟨fun R L M A n c s h => cv h, fun R L M A n c s h => cv h, fun R L M A A' n c n' c' s G h k => ak h k, fun R L M A n c s s' G h k => ak h k⟩
theorem Vz (hg : aT x g) (ha : aR i.a) (hs : x.hl.length < 1000000) : gO R pa p dr 168 x g i (.on (x.sleep g i)) L L := by
 intro gg b bs c M K Kp Q h fS k
 refine rT ?_
 replace k : ∀ nq M', Hp R (bj (bI pa p nq dr) b (x.sleep g i) :: Q :: L) M' → K (.tuple #[]) M' := k
 have GO := hg
 obtain ⟨h0, h1, h2, h3⟩ := GO
 unfold Wd.sleep at k
 refine ai h ?_
 clear h
 intro kb M h
 refine az h ⟨ha.1, ha.2, ?_⟩
 refine Jz (b := b) h hg fS ha rfl ?_
 have hC := h
 have h' := cV h (b := b)
 clear h
 obtain ⟨a, hl, h⟩ := h'
 have hl' := hl
 obtain ⟨l1, l2, l3, l4⟩ := hl'
 have e : (if (1048576 : Int) < aK x g i.a then 1048576 else aK x g i.a) = gA x g i := rfl
 rw [e]
 refine aH.2 ⟨fun hn => ?_, fun hn => ?_⟩
 ·rw [if_pos (by omega)] at k
  refine az h ?_
  clear hC
  replace h : Hp R (pt b (AQ pa p dr a x x.ready.length a.ah x.hl.length a.ch x.dk) 164 :: eX a.ah a.ch x.hl :: cN gm a.gb (x.gs.zip gg) :: zJ a.ag a.cg a.gb :: zK a.ac a.cc a.cb :: cN bL a.cb x.av :: zL a.al a.cl a.lb :: cN fh a.lb x.aC :: rz a.ao a.co x.out :: wg a.ar a.cr x.ready :: Q :: L) M := h.sub bz
  refine QN (Vy (a := a) (x := x)) h hs ?_
  clear h; intro v A' c' M h
  refine eY ?_
  have h9 : Hp R (bj (bI pa p gg dr) b { x with hl := kY x.hl ⟨IntKind.wrap .u64 (x.clock + IntKind.wrap .u64 (gA x g i)), x.dk, g⟩, dk := IntKind.wrap .u64 (x.dk + 1) } :: Q :: L) M := by
   have := QL (l := x.hl) (x := ⟨IntKind.wrap .u64 (x.clock + IntKind.wrap .u64 (gA x g i)), x.dk, g⟩)
   rw [← this] at h
   exact kV (a := { a with ah := A', ch := c' }) (x := { x with hl := kY x.hl ⟨IntKind.wrap .u64 (x.clock + IntKind.wrap .u64 (gA x g i)), x.dk, g⟩, dk := IntKind.wrap .u64 (x.dk + 1) }) ⟨l1, l2, l3, l4⟩ (h.sub bz)
  clear h hl l1 l2 l3 l4
  have h := h9
  clear h9
  have h' := iF (x := { x with hl := kY x.hl ⟨IntKind.wrap .u64 (x.clock + IntKind.wrap .u64 (gA x g i)), x.dk, g⟩, dk := IntKind.wrap .u64 (x.dk + 1) }) h (b := b) h0 h1 fS
  clear h
  obtain ⟨a2, gb, hl, gp, h⟩ := h'
  have hl' := hl
  obtain ⟨l1, l2, l3, l4⟩ := hl'
  refine ax h ⟨h0, by dsimp only at l1; omega, ?_⟩
  refine wh h gp fun q hq => ?_
  refine aV ?_
  refine ak h ?_
  clear h; intro M h
  replace h := dx h gb hl gp fS
  have dQ := dU (y := { aa x g with st := 3 }) (g := g) hl
  replace h := br (a := a2) (p := p) (pa := pa) (dr := dr) (gg := gg) (x := { x.bp g { aa x g with st := 3 } with hl := kY x.hl ⟨IntKind.wrap .u64 (x.clock + IntKind.wrap .u64 (gA x g i)), x.dk, g⟩, dk := IntKind.wrap .u64 (x.dk + 1) }) dQ h b
  exact k _ _ (h.sub bz)
 ·rw [if_neg (by omega)] at k
  exact k _ _ (hC.sub bz)
theorem YI {l : List Int} : ∀ {x : Wd}, (l.foldl Wd.eV x).gs.length = x.gs.length := by
 induction l with
 | nil => intro x; rfl
 | cons a l ih => intro x; rw [List.foldl_cons, ih]; simp [Wd.eV, Wd.bp]
theorem Nu {l : List Int} : ∀ {x : Wd}, (l.foldl Wd.eV x).ready = x.ready ++ l := by
 induction l with
 | nil => intro x; simp
 | cons a l ih => intro x; rw [List.foldl_cons, ih]; simp [Wd.eV]
theorem Nv (h : Hp R L M) [o : Ap b L pa p x L'] (hs : x.hl.length ≤ 1000000) (hw : ∀ y ∈ (dM x.hl.length x.hl (IntKind.wrap .u64 (x.clock + 1))).2, 0 ≤ y.id ∧ y.id < x.gs.length)
  (k : ∀ R' A c M', R.le R' → RS bS R' A c x.tick.ready → Hp R' (bj (cq pa p) b x.tick :: L') M' → K (.slice A x.tick.ready.length c) M') :
  ae Tryz.prog 43 #[.pointer (some ⟨b, 0, none⟩)] M K Kp := by
 refine uo ?_
 have h' := dh h (b := b)
 clear h
 obtain ⟨a, gg, dr, n, hl, h⟩ := h'
 have hl' := hl
 obtain ⟨l1, l2, l3, l4⟩ := hl'
 unfold Wd.tick at k
 dsimp only at k
 refine az h ?_
 refine cY.2 ⟨fun he => ?_, fun he => ?_⟩
 ·rw [if_pos he] at k
  exact k R none 0 M (Mem.le_refl _) (RS.nil _ _) (jX (a := a) (gg := gg) (dr := dr) (n := n) (x := { x with ready := [] }) hl h)
 rw [if_neg (by simpa using he)] at k
 refine az h ?_
 refine ak h ?_
 clear h; intro M h
 refine ak h ?_
 clear h; intro M h
 refine az h ?_
 replace h : Hp R (pt b (AQ pa p dr { a with ar := none, cr := 0 } { x with clock := IntKind.wrap .u64 (x.clock + 1) } 0 a.ah x.hl.length a.ch x.dk) 164 :: eX a.ah a.ch x.hl :: cN gm a.gb (x.gs.zip gg) :: zJ a.ag a.cg a.gb :: zK a.ac a.cc a.cb :: cN bL a.cb x.av :: zL a.al a.cl a.lb :: cN fh a.lb x.aC :: rz a.ao a.co x.out :: L') M := h.sub (by repeat (first | exact .refl | refine .cons (by repeat (first | exact .here | apply eA.there)) ?_ | apply Sub.drop))
 refine QO (Vy (a := { a with ar := none, cr := 0 }) (x := { x with clock := IntKind.wrap .u64 (x.clock + 1) })) h hs ?_
 clear h; intro A' c' M h
 have hlen : (dM x.hl.length x.hl (IntKind.wrap .u64 (x.clock + 1))).2.length ≤ x.hl.length := by
  have : ∀ (f : Nat) (l : List aN) (now : Int), (dM f l now).2.length ≤ f := by
   intro f
   induction f with
   | zero => intro l now; exact Nat.le_refl _
   | succ f ih =>
    intro l now; unfold dM; split
    ·have := ih (cR l 0) now; simp; exact this
    ·exact Nat.zero_le _
  exact this _ _ _
 generalize dM x.hl.length x.hl (IntKind.wrap .u64 (x.clock + 1)) = r at h k hw hlen
 refine aY ?_
 have h0 := h.dz bS 3
 have hW : Hp R (bj (bI pa p gg dr) b { x with clock := IntKind.wrap .u64 (x.clock + 1), hl := r.1, ready := [] } :: eX A' c' r.2 :: L') M :=
  kV (a := { a with ar := none, cr := 0 }) (x := { x with clock := IntKind.wrap .u64 (x.clock + 1), hl := r.1, ready := [] }) ⟨l1, l2, l3, l4⟩ (h0.sub (by repeat (first | exact .refl | refine .cons (by repeat (first | exact .here | apply eA.there)) ?_ | apply Sub.drop)))
 clear h h0
 generalize AO : ({ x with clock := IntKind.wrap .u64 (x.clock + 1), hl := r.1, ready := [] } : Wd) = x1 at hW k
 have hgs : x1.gs.length = x.gs.length := by rw [← AO]
 have hrd : x1.ready = [] := by rw [← AO]
 refine ⟨fun d vs M => ∃ j : Nat, vs = [.int .i64 (j : Int)] ∧ d = r.2.length - j ∧ j ≤ r.2.length ∧ Hp R (bj (bI pa p gg dr) b (((r.2.take j).map (·.id)).foldl Wd.eV x1) :: eX A' c' r.2 :: L') M, ⟨_, 0, rfl, rfl, by omega, hW⟩, ?_⟩
 clear hW
 rintro d _ nn M ⟨j, Z2, hd, hj, h⟩
 simp only [List.cons.injEq, Value.int.injEq, and_true, true_and] at Z2
 subst Z2
 refine aH.2 ⟨fun hlt => ?_, fun hge => ?_⟩
 ·obtain ⟨w, hww⟩ := aJ (l := r.2) (i := j) (by omega)
  have hwm := hw w (List.mem_of_getElem? hww)
  obtain ⟨q, rfl⟩ := h.bU (A := A') (by omega) (by decide)
  have hsr := h.src (A := some ⟨q, 0, none⟩)
  refine ⟨by omega, hlt, aV ?_⟩
  refine nv h hsr hww (by simp) (by simp) (by simp) ?_
  clear hsr
  refine ai h ?_
  clear h; intro kw M h
  refine ak h ?_
  clear h; intro M h
  refine ak h ?_
  clear h; intro M h
  refine ak h ?_
  clear h; intro M h
  refine az h ?_
  refine jk (b := b) h hwm.1 (by rw [YI, hgs]; exact hwm.2) (by rw [Nu, hrd]; simp; omega) ?_
  clear h; intro M h
  refine ⟨rfl, r.2.length - (j + 1), by omega, j + 1, by rw [aS (by omega)], rfl, by omega, ?_⟩
  rw [dw hww, List.map_append, List.foldl_append]
  exact h.sub (by repeat (first | exact .refl | refine .cons (by repeat (first | exact .here | apply eA.there)) ?_ | apply Sub.drop))
 ·have K8 : j = r.2.length := by omega
  subst K8
  rw [List.take_length] at h
  generalize hz : (r.2.map (·.id)).foldl Wd.eV x1 = z at h k
  have h' := cV h (b := b)
  clear h
  obtain ⟨a2, dQ, h⟩ := h'
  refine ax h ?_
  obtain ⟨R', hle, bx, h6⟩ := h.bB a2.ar
  exact k R' _ _ _ hle bx (jX (a := a2) (n := z.ready.length) (gg := gg) (dr := dr) dQ (h6.sub (by repeat (first | exact .refl | refine .cons (by repeat (first | exact .here | apply eA.there)) ?_ | apply Sub.drop))))
theorem Cw (h : Hp R L M) [o : Ap b L pa p x L'] (hs : x.hl.length ≤ 1000000)
  (k : ∀ A c M', Hp R (eX A c (cn x.hl.length x.hl) :: bj (cq pa p) b x :: L') M' → K (.slice A (cn x.hl.length x.hl).length c) M') :
  ae Tryz.prog 24 #[.pointer (some ⟨b, 0, none⟩)] M K Kp := by
 refine oE ?_
 have h' := dh h (b := b)
 clear h
 obtain ⟨a, gg, dr, n, hl, h⟩ := h'
 replace h : Hp R (pt b (AQ pa p dr a x n a.ah x.hl.length a.ch x.dk) 164 :: eX a.ah a.ch x.hl :: cN gm a.gb (x.gs.zip gg) :: zJ a.ag a.cg a.gb :: zK a.ac a.cc a.cb :: cN bL a.cb x.av :: zL a.al a.cl a.lb :: cN fh a.lb x.aC :: rz a.ao a.co x.out :: L') M := h.sub bz
 refine QS (Vy (a := a) (x := x)) h hs ?_
 clear h; intro A' c' M h
 refine aY ?_
 have h2 : Hp R (pt b (pQ pa p dr a x n) 164 :: cN gm a.gb (x.gs.zip gg) :: wj a x (eX A' c' (cn x.hl.length x.hl) :: L')) M := h.sub bz
 have h3 := jX (a := a) (gg := gg) (dr := dr) (n := n) (x := x) hl h2
 exact k _ _ _ h3.swap
end
def xL (x : Wd) (g : Int) (i : bZ) : Out (Wd × Bool) → Prop
 | .on (y, false) => aT y g ∧ (aa y g).fs.length = (aa x g).fs.length ∧ Cq y i.a
 | .on (_, true) => True
 | .dg _ _ => True
 | .fF _ _ => True
instance (x : Wd) (g : Int) (i : bZ) (r : Out (Wd × Bool)) : Decidable (xL x g i r) := match r with
 | .on (y, false) => by unfold xL; infer_instance
 | .on (_, true) => isTrue trivial
 | .dg _ _ => isTrue trivial
 | .fF _ _ => isTrue trivial
theorem QU {p : cy} {x : Wd} {g : Int} {i : bZ} (h : aT x g ∧ aR i.b ∧ mI p x i.a (aK x g i.b) ∧ xL x g i (x.put p i.a (aK x g i.b))) : Nj p x g i := by
 obtain ⟨h1, h2, h3, h4⟩ := h
 refine ⟨h1, h2, h3, ?_⟩
 generalize x.put p i.a (aK x g i.b) = r at h4
 match r, h4 with
 | .on (y, false), h4 => exact h4
 | .on (y, true), _ => trivial
 | .dg _ _, _ => trivial
 | .fF _ _, _ => trivial
instance (x : Wd) (g : Int) (i : bZ) : Decidable (y9 x g i) := by unfold y9; infer_instance
instance (p : cy) (x : Wd) (i : bZ) : Decidable (pP p x i) := by unfold pP; infer_instance
def Cy (p : cy) (x : Wd) (g : Int) (i : bZ) (k : Int) : Prop :=
 let c := (aB p i).getD k.toNat ⟨0, 0, 0⟩
 let x1 := x.next g
 0 ≤ k ∧ k < (aB p i).length ∧ aR c.bH ∧
  if c.way = 1 then mI p x1 c.ch (aK x1 g c.bH) ∧ (match x1.put p c.ch (aK x1 g c.bH) with
   | .on (y, _) => aT y g ∧ (aa y g).fs.length = (aa x g).fs.length
   | _ => True)
  else qh x1 c.ch ∧ aT (x1.get c.ch).1 g ∧ (aa (x1.get c.ch).1 g).fs.length = (aa x g).fs.length
instance (g : Int) (n : Nat) (r : Out (Wd × Bool)) : Decidable (match r with
   | .on (y, _) => aT y g ∧ (aa y g).fs.length = n
   | _ => True) := match r with
 | .on (y, _) => by dsimp only; infer_instance
 | .dg _ _ => isTrue trivial
 | .fF _ _ => isTrue trivial
instance (p : cy) (x : Wd) (g : Int) (i : bZ) (k : Int) : Decidable (Cy p x g i k) := by unfold Cy; infer_instance
def oN (p : cy) (x : Wd) (g : Int) (i : bZ) (d : iZ) : Bool :=
 decide (aT x g ∧ nt p i ∧ aR i.c ∧ x.Sm ∧ (aa x g).top.pc < 1000000000 ∧ 0 ≤ (aa x g).top.pc ∧ (∀ c ∈ aB p i, c.Ok x.av.length)) &&
 (match d with
  | .fF _ => true
  | .num v => (enabled (aB p i) x.av).isEmpty || decide (0 ≤ v ∧ v < (enabled (aB p i) x.av).length ∧ Cy p x g i ((enabled (aB p i) x.av).getD v.toNat 0)))
theorem JH {p : cy} {x : Wd} {g : Int} {i : bZ} {d : iZ} (h : oN p x g i d = true) : JG p x g i d := by
 unfold oN at h
 rw [Bool.and_eq_true] at h
 obtain ⟨h1, h2⟩ := h
 obtain ⟨a1, a2, a3, a4, a5, a6, a7⟩ := of_decide_eq_true h1
 refine ⟨a1, a2, a3, a4, a5, a6, a7, ?_⟩
 cases d with
 | fF l => split <;> trivial
 | num v =>
  dsimp only at h2
  cases he : enabled (aB p i) x.av with
  | nil => trivial
  | cons q l =>
   rw [he] at h2
   rw [List.isEmpty_cons, Bool.false_or] at h2
   have h3 := of_decide_eq_true h2
   exact h3
def j9 (p : cy) (x : Wd) (g : Int) (i : bZ) : Option (Out Wd) :=
 if i.op = 10 then (if aT x g ∧ aR i.a ∧ aR (aa x g).top.mF then some (.on (x.back g i)) else none)
 else if i.op = 11 then (if aT x g ∧ aR i.b ∧ aR i.c ∧ x.Sm then some (x.spawn g i) else none)
 else if i.op = 13 then (if (aT x g ∧ aR i.b ∧ mI p x i.a (aK x g i.b) ∧ xL x g i (x.put p i.a (aK x g i.b))) ∧ x.Sm then some (x.send p g i) else none)
 else if i.op = 14 then (if y9 x g i ∧ x.Sm then some (.on (x.recv g i)) else none)
 else if i.op = 15 then (if pP p x i ∧ x.Sm then some (x.shut p i) else none)
 else if i.op = 20 then (if aT x g ∧ aR i.a ∧ x.Sm then some (x.emit g i) else none)
 else if i.op = 9 then (if aT x g ∧ aR i.b then some (x.call g i) else none)
 else if i.op = 12 then some (.on x)
 else if i.op = 17 then (if aT x g ∧ aR i.a ∧ x.hl.length < 1000000 then some (.on (x.sleep g i)) else none)
 else if i.op = 18 then (if aT x g ∧ GU x i.a ∧ x.Sm then some (.on (x.lock g i)) else none)
 else if i.op = 19 then (if oM x g i ∧ x.Sm then some (x.unlock g i) else none)
 else if i.op = 22 then some (.dg i.a x)
 else none
def kq (p : cy) (x : Wd) (g : Int) : Option bZ := match p.funcs[(aa x g).top.fn.toNat]? with
 | none => none
 | some code => code[(aa x g).top.pc.toNat]?
def iI (x : Wd) (g : Int) : Prop := 0 ≤ g ∧ g < x.gs.length ∧ x.end_ = 0 ∧ (aa x g).st = 1
instance (x : Wd) (g : Int) : Decidable (iI x g) := by unfold iI; infer_instance
def asks (p : cy) (x : Wd) (g : Int) : Option (Int × Int) :=
 if iI x g then match kq p x g with
  | none => none
  | some i => if i.op = 21 then some (4, i.b) else if i.op = 16 then (if enabled (aB p i) x.av = [] then none else some (3, (enabled (aB p i) x.av).length)) else none
 else none
def lK (p : cy) (x0 : Wd) (g : Int) (d : iZ) : Option (Out Wd × Bool) :=
 let x := { x0 with ready := [] }
 if iI x g then
  if aT x g ∧ 0 ≤ (aa x g).top.fn ∧ 0 ≤ (aa x g).top.pc ∧ (aa x g).top.pc < 1000000000 then
   match p.funcs[(aa x g).top.fn.toNat]? with
   | none => none
   | some code => match code[(aa x g).top.pc.toNat]? with
    | none => some (.dg (-7) x, false)
    | some i =>
     if 0 ≤ i.op ∧ i.op ≤ 8 then (if i.cO then some (.on (x.bp g ((aa x g).bW ((aa x g).top.next.pure i))), false) else none)
     else if i.op = 16 then (if oN p x g i d = true then (if g < (x.choose p g i d).fin.gs.length then some (x.choose p g i d, false) else none) else none)
     else if i.op = 21 then (if aR i.a then (if g < (x.rand g i d).fin.gs.length then some (x.rand g i d, false) else none) else none)
     else match j9 p (x.next g) g i with
      | none => none
      | some r => if g < r.fin.gs.length then some (r, Np i.op r) else none
  else none
 else some (.on x, true)
def exec (p : cy) (x : Wd) (g : Int) (d : iZ) : Option (Wd × Bool) := match lK p x g d with
 | some (.on y, rest) => some (y, mJ y g rest)
 | some (.dg n y, rest) => some ({ y with end_ := 2, code := n }, mJ { y with end_ := 2, code := n } g rest)
 | _ => none
section
variable {R : Mem} {L L' L2 : List HP} {M : Mem} {K : Value → Mem → Prop} {Kp : List PanicEntry → Mem → Prop} {pa : PA} {p : cy} {gg : List GA} {dr : Value} {b : Nat} {x : Wd} {g : Int}
theorem bO {α : Type} {c : Prop} [Decidable c] {a b : α} (h : (if c then some a else none) = some b) : c ∧ b = a := by
 split at h
 ·rename_i hc; cases h; exact ⟨hc, rfl⟩
 ·cases h
theorem QV {i : bZ} {r : Out Wd} (hp : nQ R pa p) (h : j9 p x g i = some r) : ∃ fn, DP wTab i.op = some (.func (.func fn) #[] #[]) ∧ (1 < fn ∧ fn < 228) ∧ i.op ≠ 16 ∧ i.op ≠ 21 ∧ 8 < i.op ∧ ∀ L, gO R pa p dr fn x g i r L L := by
 unfold j9 at h
 by_cases e : i.op = 10
 ·rw [if_pos e] at h
  obtain ⟨hc, rfl⟩ := bO h
  exact ⟨162, by rw [e]; rfl, by decide, by omega, by omega, by omega, fun L => Yz hc.1 hc.2.1 hc.2.2⟩
 rw [if_neg e] at h
 clear e
 by_cases e : i.op = 11
 ·rw [if_pos e] at h
  obtain ⟨hc, rfl⟩ := bO h
  exact ⟨163, by rw [e]; rfl, by decide, by omega, by omega, by omega, fun L => Vr hc.1 hc.2.1 hc.2.2.1 hc.2.2.2⟩
 rw [if_neg e] at h
 clear e
 by_cases e : i.op = 13
 ·rw [if_pos e] at h
  obtain ⟨hc, rfl⟩ := bO h
  exact ⟨165, by rw [e]; rfl, by decide, by omega, by omega, by omega, fun L => Yv hp (QU hc.1) hc.2⟩
 rw [if_neg e] at h
 clear e
 by_cases e : i.op = 14
 ·rw [if_pos e] at h
  obtain ⟨hc, rfl⟩ := bO h
  exact ⟨166, by rw [e]; rfl, by decide, by omega, by omega, by omega, fun L => Yw hc.1 hc.2⟩
 rw [if_neg e] at h
 clear e
 by_cases e : i.op = 15
 ·rw [if_pos e] at h
  obtain ⟨hc, rfl⟩ := bO h
  exact ⟨167, by rw [e]; rfl, by decide, by omega, by omega, by omega, fun L => Yy hp hc.1 hc.2⟩
 rw [if_neg e] at h
 clear e
 by_cases e : i.op = 20
 ·rw [if_pos e] at h
  obtain ⟨hc, rfl⟩ := bO h
  exact ⟨171, by rw [e]; rfl, by decide, by omega, by omega, by omega, fun L => Yx hc.1 hc.2.1 hc.2.2⟩
 rw [if_neg e] at h
 clear e
 by_cases e : i.op = 9
 ·rw [if_pos e] at h
  obtain ⟨hc, rfl⟩ := bO h
  exact ⟨161, by rw [e]; rfl, by decide, by omega, by omega, by omega, fun L => YE hc.1 hc.2⟩
 rw [if_neg e] at h
 clear e
 by_cases e : i.op = 12
 ·rw [if_pos e] at h
  cases h
  exact ⟨164, by rw [e]; rfl, by decide, by omega, by omega, by omega, fun L => Vx⟩
 rw [if_neg e] at h
 clear e
 by_cases e : i.op = 17
 ·rw [if_pos e] at h
  obtain ⟨hc, rfl⟩ := bO h
  exact ⟨168, by rw [e]; rfl, by decide, by omega, by omega, by omega, fun L => Vz hc.1 hc.2.1 hc.2.2⟩
 rw [if_neg e] at h
 clear e
 by_cases e : i.op = 18
 ·rw [if_pos e] at h
  obtain ⟨hc, rfl⟩ := bO h
  exact ⟨169, by rw [e]; rfl, by decide, by omega, by omega, by omega, fun L => YF hc.1 hc.2.1 hc.2.2⟩
 rw [if_neg e] at h
 clear e
 by_cases e : i.op = 19
 ·rw [if_pos e] at h
  obtain ⟨hc, rfl⟩ := bO h
  exact ⟨170, by rw [e]; rfl, by decide, by omega, by omega, by omega, fun L => QT hc.1 hc.2⟩
 rw [if_neg e] at h
 clear e
 by_cases e : i.op = 22
 ·rw [if_pos e] at h
  cases h
  exact ⟨172, by rw [e]; rfl, by decide, by omega, by omega, by omega, fun L => YG⟩
 rw [if_neg e] at h
 clear e
 cases h
theorem Nw {l : List Int} (h : Hp R (bj (cq pa p) b x :: L) M) : Hp R (bj (cq pa p) b { x with ready := l } :: L) M := by
 obtain ⟨a, gg, dr, n, hl, h⟩ := dh h (b := b)
 exact jX (a := a) (gg := gg) (dr := dr) (n := n) (x := { x with ready := l }) hl h
theorem ie.cons {kind n : Int} {d : iZ} {Q : HP} (h : ie R dr kind n d L L2) : ie R dr kind n d (Q :: L) (Q :: L2) := by
 intro Q' M K Kp hM k
 refine h (sep [Q', Q]) M K Kp (Hp.cW.2 hM) ?_
 cases d with
 | num v => exact fun M' h' => k M' (Hp.cW.1 h')
 | fF l => exact fun M' h' => k M' (Hp.cW.1 h')
theorem tM {d : iZ} {r : Out Wd} {rest : Bool} (h : Hp R L M) [o : Ap b L pa p x L'] (hp : nQ R pa p) (KB : ∃ f c d, dr = .func f c d) (he : lK p x g d = some (r, rest))
  (hd : match asks p { x with ready := [] } g with | none => L2 = L' | some (kd, n) => ie R dr kd n d L' L2) (k : pR R pa p b g L2 K Kp r rest) :
  ae Tryz.prog 41 #[.pointer (some ⟨b, 0, none⟩), .int .i64 g, dr] M K Kp := by
 unfold lK at he
 dsimp only at he
 split at he
 ·rename_i hg
  have GO := hg
  obtain ⟨h0, h1, CV, Al⟩ := GO
  split at he
  ·rename_i sS
   obtain ⟨zO, hf0, hp0, hp1⟩ := sS
   split at he
   ·cases he
   ·rename_i code fC
    have done : ∀ (r : Out Wd) (rest : Bool), pR R pa p b g L2 K Kp r rest → (∀ Q, Step R pa p dr { x with ready := [] } g code r rest (Q :: L') (Q :: L2)) → g < r.fin.gs.length → ae Tryz.prog 41 #[.pointer (some ⟨b, 0, none⟩), .int .i64 g, dr] M K Kp := by
     intro r rest k hs hl
     exact Nq (x := x) h hp (show aT x g from zO) CV Al hf0 fC ⟨hp0, hp1⟩ KB hs hl k
    have pT : ∀ i, code[(aa x g).top.pc.toNat]? = some i → asks p { x with ready := [] } g = if i.op = 21 then some (4, i.b) else if i.op = 16 then (if enabled (aB p i) x.av = [] then none else some (3, ((enabled (aB p i) x.av).length : Int))) else none := by
     intro i hi
     unfold asks
     rw [if_pos hg]
     unfold kq
     rw [show p.funcs[(aa { x with ready := [] } g).top.fn.toNat]? = some code from fC]
     dsimp only
     rw [show code[(aa { x with ready := [] } g).top.pc.toNat]? = some i from hi]
    split at he
    ·rename_i hnone
     cases he
     have e : asks p { x with ready := [] } g = none := by
      unfold asks
      rw [if_pos hg]
      unfold kq
      rw [show p.funcs[(aa { x with ready := [] } g).top.fn.toNat]? = some code from fC]
      dsimp only
      rw [hnone]
     rw [e] at hd
     dsimp only at hd
     subst hd
     refine done (.dg (-7) { x with ready := [] }) false k (fun Q => .out ?_) h1
     have := List.getElem?_eq_none_iff.1 hnone
     omega
    ·rename_i i hi
     have e := pT i hi
     rw [e] at hd
     clear e pT
     split at he
     ·rename_i h8
      split at he
      ·rename_i hok
       cases he
       rw [if_neg (by omega), if_neg (by omega)] at hd
       dsimp only at hd
       subst hd
       exact done (.on _) false k (fun Q => .pure i hi h8.1 h8.2 hok) (by simpa [Out.fin, Wd.bp] using h1)
      ·cases he
     split at he
     ·rename_i C5
      split at he
      ·rename_i hok
       split at he
       ·rename_i hl
        cases he
        rw [if_neg (by omega), if_pos C5] at hd
        refine done _ false k (fun Q => .EG i hi C5 (QJ hp (JH hok) ?_)) hl
        split at hd
        ·rename_i hq
         split at hq
         ·rename_i Ng
          rw [if_pos (by exact Ng), hd]
         ·cases hq
        ·rename_i kd n hq
         split at hq
         ·cases hq
         ·rename_i Ng
          cases hq
          rw [if_neg (by exact Ng)]
          exact hd.cons
       ·cases he
      ·cases he
     split at he
     ·rename_i QG
      split at he
      ·rename_i hok
       split at he
       ·rename_i hl
        cases he
        rw [if_pos QG] at hd
        exact done _ false k (fun Q => .rnd i hi QG (YH zO hok ⟨hp0, hp1⟩ (ie.cons hd))) hl
       ·cases he
      ·cases he
     split at he
     ·cases he
     ·rename_i C5 QG _ r' hdd
      split at he
      ·rename_i hl
       cases he
       rw [if_neg QG, if_neg C5] at hd
       dsimp only at hd
       subst hd
       obtain ⟨fn, f1, f2, f3, f4, f5, f6⟩ := QV (R := R) (pa := pa) (dr := dr) hp hdd
       exact done _ _ k (fun Q => .dflt i fn hi f5 f3 f4 f1 f2 (f6 _)) hl
      ·cases he
  ·cases he
 ·rename_i hr
  cases he
  have e : asks p { x with ready := [] } g = none := by
   unfold asks
   rw [if_neg hr]
  rw [e] at hd
  dsimp only at hd
  subst hd
  refine lJ ?_
  refine ai h ?_
  clear h
  intro kb M h
  have hC := h
  have h' := dh h (b := b)
  clear h
  obtain ⟨a, gg, dr0, n0, hl, h⟩ := h'
  have hl' := hl
  obtain ⟨l1, l2, l3, l4⟩ := hl'
  have fin : b7 M ⟨kb, 0, none⟩ (.bool false) fun qO => b7 qO ⟨kb, (0 + 1), none⟩ (.slice none 0 0) fun vj =>
    dF (Mem.ld vj ⟨kb, 0, none⟩) fun t36 => aF (Mem.ld vj ⟨kb, (0 + 1), none⟩) fun yM fE lA => K (.agg #[(.bool t36), (.slice yM fE lA)]) vj := by
   have h := hC
   clear hC
   refine ak h ?_
   clear h; intro M h
   refine ak h ?_
   clear h; intro M h
   refine m6 h (ax h ?_)
   have k2 := k R none 0 M (Mem.le_refl _) (RS.nil _ _) (Nw (h.drop.pick o.pick))
   exact k2
  refine aH.2 ⟨fun hn => fin, fun h0 => ?_⟩
  refine ax h ?_
  refine aH.2 ⟨fun hn => fin, fun h1 => ?_⟩
  refine az h ?_
  refine cY.2 ⟨fun hn => fin, fun he0 => ?_⟩
  refine ax h ?_
  refine ⟨by omega, by omega, ?_⟩
  obtain ⟨gb, gp⟩ := aJ (l := a.gb) (i := g.toNat) (by omega)
  refine wh h gp fun q hq => ?_
  obtain ⟨ga, YA⟩ := aJ (l := gg) (i := g.toNat) (by omega)
  obtain ⟨z, hy⟩ := aJ (l := x.gs) (i := g.toNat) (by omega)
  have ey : aa x g = z := by simp [aa, hy]
  refine aV ?_
  have Vt : M.ld ⟨gb, 0, none⟩ = some (.int .i64 z.st) := by
   have h9 := mH (b := gb) (h.eF gm gp (nj hy YA))
   exact cv h9
  rw [Vt]
  refine eY ?_
  refine cY.2 ⟨fun hn => fin, fun hn => ?_⟩
  exact absurd ⟨by omega, by show g < (x.gs.length : Int); omega, he0, by show (aa x g).st = 1; rw [ey]; exact hn⟩ hr
theorem VA {d : iZ} {y : Wd} {kp : Bool} (h : Hp R L M) [o : Ap b L pa p x L'] (hp : nQ R pa p) (KB : ∃ f c d, dr = .func f c d) (he : exec p x g d = some (y, kp))
  (hd : match asks p { x with ready := [] } g with | none => L2 = L' | some (kd, n) => ie R dr kd n d L' L2)
  (k : ∀ R' A c M', R.le R' → RS bS R' A c y.ready → Hp R' (bj (cq pa p) b y :: L2) M' → K (.agg #[.bool kp, .slice A y.ready.length c]) M') :
  ae Tryz.prog 41 #[.pointer (some ⟨b, 0, none⟩), .int .i64 g, dr] M K Kp := by
 unfold exec at he
 cases hr : lK p x g d with
 | none => rw [hr] at he; cases he
 | some q =>
  obtain ⟨r, rest⟩ := q
  rw [hr] at he
  cases r with
  | on z => cases he; exact tM h hp KB hr hd k
  | dg n z => cases he; exact tM h hp KB hr hd k
  | fF l z => cases he
end
theorem xM {b : Nat} : ∀ (n : Nat) (l : List Int), (∀ g ∈ l, 0 ≤ g ∧ g < (n : Int)) → (∀ g, l.count g ≤ b) → l.length ≤ b * n
 | 0, l, h, _ => by
  cases l with
  | nil => simp
  | cons a l => have := h a (by simp); omega
 | n + 1, l, h, hc => by
  have h1 : (l.filter (fun g => g != (n : Int))).length ≤ b * n := by
   refine xM n _ (fun g hg => ?_) (fun g => ?_)
   ·obtain ⟨hm, hne⟩ := List.mem_filter.1 hg
    have := h g hm
    simp at hne
    omega
   ·exact Nat.le_trans (List.Sublist.count_le _ List.filter_sublist) (hc g)
  have h2 : l.length = l.count (n : Int) + (l.filter (fun g => g != (n : Int))).length := by
   have := List.length_eq_countP_add_countP (l := l) (fun g => g == (n : Int))
   rw [this, List.count, List.countP_eq_length_filter (p := fun a => decide ¬(a == (n : Int)) = true)]
   congr 2
   apply List.filter_congr
   intro a _
   cases h : (a == (n : Int)) <;> simp_all
  have := hc (n : Int)
  rw [h2, Nat.mul_succ]; omega
theorem nw {α : Type} (f : α → Nat) : ∀ (l : List α) (k : Nat) (c d : α), l[k]? = some d → ((l.set k c).map f).sum + f d = (l.map f).sum + f c
 | [], k, c, d, h => by simp at h
 | a :: l, 0, c, d, h => by simp at h; subst h; simp; omega
 | a :: l, k + 1, c, d, h => by
  have := nw f l k c d (by simpa using h)
  simp only [List.set_cons_succ, List.map_cons, List.sum_cons]; omega
theorem Cz {α : Type} (f : α → Nat) : ∀ (l : List α), (l.map f).sum = 0 → ∀ a ∈ l, f a = 0
 | [], _, a, h => by cases h
 | b :: l, hs, a, h => by
  simp only [List.map_cons, List.sum_cons] at hs
  rcases List.mem_cons.1 h with rfl | h
  ·omega
  ·exact Cz f l (by omega) a h
theorem CA {α : Type} (f : α → Nat) : ∀ (l : List α) (a : α), a ∈ l → f a ≤ (l.map f).sum
 | b :: l, a, h => by
  simp only [List.map_cons, List.sum_cons]
  rcases List.mem_cons.1 h with rfl | h
  ·omega
  ·have := CA f l a h; omega
theorem sV {α : Type} (f : α → Nat) : ∀ (l : List α), (∀ a ∈ l, f a = 0) → (l.map f).sum = 0
 | [], _ => rfl
 | b :: l, h => by
  simp only [List.map_cons, List.sum_cons]
  rw [h b (by simp), sV f l fun a ha => h a (by simp [ha])]
def cX (c : aQ) : List Int := c.snd.map Wt.g ++ c.cH.map Wt.g
def cD (cs : List aQ) (g : Int) : Nat := (cs.map fun c => (cX c).count g).sum
def ig (ls : List Lk) (g : Int) : Nat := (ls.map fun l => l.waits.count g).sum
def DR (hl : List aN) (g : Int) : Nat := (hl.map aN.id).count g
def oO (x : Wd) (g : Int) : Prop := (∀ c ∈ x.av, g ∉ cX c) ∧ (∀ l ∈ x.aC, g ∉ l.waits) ∧ ∀ y ∈ x.hl, y.id ≠ g
theorem sW {cs : List aQ} {g : Int} : cD cs g = 0 ↔ ∀ c ∈ cs, g ∉ cX c := by
 constructor
 ·intro h c hc
  exact List.count_eq_zero.1 (Cz _ cs h c hc)
 ·intro h
  exact sV _ cs fun c hc => List.count_eq_zero.2 (h c hc)
theorem xN {ls : List Lk} {g : Int} : ig ls g = 0 ↔ ∀ l ∈ ls, g ∉ l.waits := by
 constructor
 ·intro h c hc
  exact List.count_eq_zero.1 (Cz _ ls h c hc)
 ·intro h
  exact sV _ ls fun c hc => List.count_eq_zero.2 (h c hc)
def At (x : Wd) (g s : Int) : Prop := 0 ≤ g ∧ g < x.gs.length ∧ (aa x g).st = s
def jY (p : cy) (f : List bZ) (i : bZ) : Prop := 0 ≤ i.op ∧ i.op < 23 ∧ i.cO ∧ (i.op = 7 → 0 ≤ i.a ∧ i.a < f.length) ∧ (i.op = 8 → 0 ≤ i.b ∧ i.b < f.length) ∧
 (i.op = 9 ∨ i.op = 11 → 0 ≤ i.a ∧ i.a < p.funcs.length ∧ aR i.b ∧ aR i.c) ∧ (i.op = 10 ∨ i.op = 17 ∨ i.op = 20 ∨ i.op = 21 → aR i.a) ∧
 (i.op = 13 ∨ i.op = 14 ∨ i.op = 15 → 0 ≤ i.a ∧ i.a < p.dB.length) ∧ (i.op = 13 ∨ i.op = 14 → aR i.b) ∧ (i.op = 14 ∨ i.op = 16 → aR i.c) ∧
 (i.op = 16 → 0 ≤ i.a ∧ 1 ≤ i.b ∧ i.a + i.b ≤ p.cases.length) ∧ (i.op = 18 ∨ i.op = 19 → 0 ≤ i.a ∧ i.a < p.aC) ∧ (i.op = 21 → 1 ≤ i.b ∧ i.b < 1099511627776)
structure eJ (p : cy) : Prop where
 f1 : 0 < p.funcs.length
 ch : p.dB.length ≤ 8
 lk : 0 ≤ p.aC ∧ p.aC ≤ 8
 cs : p.cases.length ≤ 32
 cas : ∀ c ∈ p.cases, c.Ok p.dB.length ∧ aR c.bH
 code : ∀ f ∈ p.funcs, 0 < f.length ∧ f.length ≤ 64 ∧ ∀ i ∈ f, jY p f i
def JI (p : cy) (f : eH) : Prop := 0 ≤ f.fn ∧ f.fn < p.funcs.length ∧ 0 ≤ f.pc ∧ f.pc ≤ 64 ∧ aR f.mF
structure qJ (p : cy) (y : gK) : Prop where
 l1 : 0 < y.fs.length
 l2 : y.fs.length ≤ 16
 fr : ∀ f ∈ y.fs, JI p f
 wt : y.st = 2 → ∃ f ∈ p.funcs, jY p f y.wt
 st : 1 ≤ y.st ∧ y.st ≤ 4
structure WV (p : cy) (x : Wd) : Prop where
 n1 : 0 < x.gs.length
 n2 : x.gs.length ≤ 100
 HC : ∀ y ∈ x.gs, qJ p y
 ch : x.av.length = p.dB.length
 lk : (x.aC.length : Int) = p.aC
 buf : ∀ c ∈ x.av, c.buf.length ≤ c.room ∧ c.room ≤ 16
 cH : ∀ c ∈ x.av, ∀ v ∈ c.cH, At x v.g 2 ∧ ((aa x v.g).wt.op = 14 ∨ (aa x v.g).wt.op = 16 ∧ 0 ≤ v.cs ∧ v.cs < (aa x v.g).wt.b)
 snd : ∀ c ∈ x.av, ∀ v ∈ c.snd, At x v.g 2 ∧ ((aa x v.g).wt.op = 13 ∨ (aa x v.g).wt.op = 16 ∧ 0 ≤ v.cs ∧ v.cs < (aa x v.g).wt.b)
 lw : ∀ l ∈ x.aC, ∀ g ∈ l.waits, At x g 2 ∧ (aa x g).wt.op = 18
 hl : ∀ y ∈ x.hl, At x y.id 3
 one : ∀ g, 0 ≤ g → (aa x g).wt.op ≠ 16 → cD x.av g + ig x.aC g ≤ 1
 EG : ∀ g, cD x.av g ≤ 32
 h1 : ∀ g, DR x.hl g ≤ 1
 out : x.out.length ≤ 1000
section
variable {p : cy} {x : Wd} {g : Int}
theorem WV.VB (h : WV p x) {c : aQ} (hc : c ∈ x.av) {q : Int} (hq : q ∈ cX c) : At x q 2 ∧ ((aa x q).wt.op = 13 ∨ (aa x q).wt.op = 14 ∨ (aa x q).wt.op = 16) := by
 unfold cX at hq
 rcases List.mem_append.1 hq with hq | hq
 ·obtain ⟨v, hv, rfl⟩ := List.mem_map.1 hq
  obtain ⟨a, b⟩ := h.snd c hc v hv
  exact ⟨a, by rcases b with b | b; exact .inl b; exact .inr (.inr b.1)⟩
 ·obtain ⟨v, hv, rfl⟩ := List.mem_map.1 hq
  obtain ⟨a, b⟩ := h.cH c hc v hv
  exact ⟨a, by rcases b with b | b; exact .inr (.inl b); exact .inr (.inr b.1)⟩
theorem WV.free (h : WV p x) (h2 : (aa x g).st ≠ 2) (h3 : (aa x g).st ≠ 3) : oO x g :=
 ⟨fun c hc hg => h2 (h.VB hc hg).1.2.2, fun l hl hg => h2 (h.lw l hl g hg).1.2.2, fun y hy e => h3 (by have := (h.hl y hy).2.2; rwa [e] at this)⟩
theorem WV.OT (h : WV p x) {c : aQ} (hc : c ∈ x.av) : (cX c).length ≤ 3200 := by
 have h1 := xM (b := 32) x.gs.length (cX c) (fun q hq => ⟨(h.VB hc hq).1.1, (h.VB hc hq).1.2.1⟩) (fun q => Nat.le_trans (CA (fun c => (cX c).count q) x.av c hc) (h.EG q))
 have := h.n2
 omega
theorem WV.GV (h : WV p x) {l : Lk} (hl : l ∈ x.aC) : l.waits.length ≤ 100 := by
 have h1 := xM (b := 1) x.gs.length l.waits (fun q hq => ⟨(h.lw l hl q hq).1.1, (h.lw l hl q hq).1.2.1⟩) (fun q => by
  by_cases hq : q ∈ l.waits
  ·have := h.one q (h.lw l hl q hq).1.1 (by rw [(h.lw l hl q hq).2]; decide)
   have := CA (fun l : Lk => l.waits.count q) x.aC l hl
   unfold ig at *
   omega
  ·rw [List.count_eq_zero.2 hq]; omega)
 have := h.n2
 omega
theorem WV.JJ (h : WV p x) : x.hl.length ≤ 100 := by
 have h1 := xM (b := 1) x.gs.length (x.hl.map aN.id) (fun q hq => by
  obtain ⟨y, hy, rfl⟩ := List.mem_map.1 hq
  exact ⟨(h.hl y hy).1, (h.hl y hy).2.1⟩) h.h1
 rw [List.length_map] at h1
 have := h.n2
 omega
theorem WV.sm (h : WV p x) (hp : eJ p) (hr : x.ready.length ≤ 1000000) : x.Sm := by
 refine ⟨fun c hc => ?_, by have := h.ch; have := hp.ch; omega, by have := h.n2; omega, hr, by have := h.out; omega, fun l hl => by have := h.GV hl; omega, by have := h.lk; have := hp.lk; omega, by have := h.JJ; omega⟩
 have h1 := h.OT hc
 unfold cX at h1
 rw [List.length_append, List.length_map, List.length_map] at h1
 have := h.buf c hc
 exact ⟨by omega, by omega, by omega⟩
end
section
variable {p : cy} {x y : Wd} {g q k v : Int} {f : List bZ} {i : bZ}
theorem jm {z : gK} (hg : g < x.gs.length) (h0 : 0 ≤ g) : aa (x.bp g z) q = if q.toNat = g.toNat then z else aa x q := by
 unfold aa Wd.bp
 dsimp only
 by_cases e : q.toNat = g.toNat
 ·rw [if_pos e, e]
  simp [List.getD_eq_getElem?_getD, List.getElem?_set_self (show g.toNat < x.gs.length by omega)]
 ·rw [if_neg e, List.getD_eq_getElem?_getD, List.getD_eq_getElem?_getD, List.getElem?_set_ne (Ne.symm e)]
theorem zc (h0 : 0 ≤ g) (hg : g < x.gs.length) : aa x g ∈ x.gs := by
 unfold aa
 rw [List.getD_eq_getElem?_getD, List.getElem?_eq_getElem (by omega), Option.getD_some]
 exact List.getElem_mem _
theorem WV.congr (h : WV p x) (hl : y.gs.length = x.gs.length) (hst : ∀ q, (aa y q).st = (aa x q).st ∧ (aa y q).wt = (aa x q).wt) (hg : ∀ z ∈ y.gs, qJ p z) (e1 : y.av = x.av) (e2 : y.aC = x.aC) (e3 : y.hl = x.hl) (e4 : y.out.length ≤ 1000) : WV p y := by
 have at_ : ∀ q s, At x q s → At y q s := fun q s ha => ⟨ha.1, by rw [hl]; exact ha.2.1, by rw [(hst q).1]; exact ha.2.2⟩
 refine ⟨by rw [hl]; exact h.n1, by rw [hl]; exact h.n2, hg, by rw [e1]; exact h.ch, by rw [e2]; exact h.lk, by rw [e1]; exact h.buf, ?_, ?_, ?_, ?_, ?_, by rw [e1]; exact h.EG, by rw [e3]; exact h.h1, e4⟩
 ·intro c hc v hv
  rw [e1] at hc
  rw [(hst v.g).2]
  exact ⟨at_ _ _ (h.cH c hc v hv).1, (h.cH c hc v hv).2⟩
 ·intro c hc v hv
  rw [e1] at hc
  rw [(hst v.g).2]
  exact ⟨at_ _ _ (h.snd c hc v hv).1, (h.snd c hc v hv).2⟩
 ·intro l hl q hq
  rw [e2] at hl
  rw [(hst q).2]
  exact ⟨at_ _ _ (h.lw l hl q hq).1, (h.lw l hl q hq).2⟩
 ·intro z hz
  rw [e3] at hz
  exact at_ _ _ (h.hl z hz)
 ·intro q h0 hq
  rw [(hst q).2] at hq
  rw [e1, e2]
  exact h.one q h0 hq
theorem CB {l : List gK} {n : Nat} {z w : gK} (h : w ∈ l.set n z) : w ∈ l ∨ w = z := List.mem_or_eq_of_mem_set h
theorem WV.bp (h : WV p x) (h0 : 0 ≤ g) (hg : g < x.gs.length) {z : gK} (hz : qJ p z) (e1 : z.st = (aa x g).st) (e2 : z.wt = (aa x g).wt) : WV p (x.bp g z) := by
 refine h.congr (by simp [Wd.bp]) (fun q => ?_) (fun w hw => ?_) rfl rfl rfl h.out
 ·rw [jm hg h0]
  split
  ·rename_i e
   have : aa x q = aa x g := by unfold aa; rw [e]
   rw [this]; exact ⟨e1, e2⟩
  ·exact ⟨rfl, rfl⟩
 ·rcases CB hw with hw | rfl
  ·exact h.HC w hw
  ·exact hz
theorem WV.ready (h : WV p x) {r : List Int} : WV p { x with ready := r } := h.congr rfl (fun _ => ⟨rfl, rfl⟩) h.HC rfl rfl rfl h.out
theorem WV.fin (h : WV p x) {e c : Int} : WV p { x with end_ := e, code := c } := h.congr rfl (fun _ => ⟨rfl, rfl⟩) h.HC rfl rfl rfl h.out
theorem WV.OU (h : WV p x) (h0 : 0 ≤ g) (hg : g < x.gs.length) (hf : oO x g) {z : gK} (hz : qJ p z) : WV p (x.bp g z) := by
 have ne : ∀ q, 0 ≤ q → q ≠ g → aa (x.bp g z) q = aa x q := fun q q0 hq => by rw [jm hg h0, if_neg (by omega)]
 have at_ : ∀ q s, q ≠ g → At x q s → At (x.bp g z) q s := fun q s hq ha => ⟨ha.1, by simpa [Wd.bp] using ha.2.1, by rw [ne q ha.1 hq]; exact ha.2.2⟩
 refine ⟨by simpa [Wd.bp] using h.n1, by simpa [Wd.bp] using h.n2, fun w hw => ?_, h.ch, h.lk, h.buf, ?_, ?_, ?_, ?_, ?_, h.EG, h.h1, h.out⟩
 ·rcases CB hw with hw | rfl
  ·exact h.HC w hw
  ·exact hz
 ·intro c hc v hv
  have hne : v.g ≠ g := fun e => hf.1 c hc (by rw [← e]; exact List.mem_append_right _ (List.mem_map.2 ⟨v, hv, rfl⟩))
  obtain ⟨a, b⟩ := h.cH c hc v hv
  rw [ne _ a.1 hne]
  exact ⟨at_ _ _ hne a, b⟩
 ·intro c hc v hv
  have hne : v.g ≠ g := fun e => hf.1 c hc (by rw [← e]; exact List.mem_append_left _ (List.mem_map.2 ⟨v, hv, rfl⟩))
  obtain ⟨a, b⟩ := h.snd c hc v hv
  rw [ne _ a.1 hne]
  exact ⟨at_ _ _ hne a, b⟩
 ·intro l hl q hq
  have hne : q ≠ g := fun e => hf.2.1 l hl (by rw [← e]; exact hq)
  obtain ⟨a, b⟩ := h.lw l hl q hq
  rw [ne _ a.1 hne]
  exact ⟨at_ _ _ hne a, b⟩
 ·intro w hw
  have hne : w.id ≠ g := hf.2.2 w hw
  exact at_ _ _ hne (h.hl w hw)
 ·intro q q0 hq
  by_cases e : q = g
  ·subst e
   have a := sW.2 hf.1
   have b := xN.2 hf.2.1
   show cD x.av q + ig x.aC q ≤ 1
   omega
  ·rw [ne q q0 e] at hq
   exact h.one q q0 hq
theorem qJ.VC {z : gK} (h : qJ p z) {s : Int} (h1 : s ≠ 2) (h2 : 1 ≤ s ∧ s ≤ 4) : qJ p { z with st := s } := ⟨h.l1, h.l2, h.fr, fun e => absurd e h1, h2⟩
theorem WV.eV (h : WV p x) (h0 : 0 ≤ g) (hg : g < x.gs.length) (hf : oO x g) : WV p (x.eV g) :=
 WV.ready (h.OU h0 hg hf ((h.HC _ (zc h0 hg)).VC (by decide) (by decide)))
theorem WV.block (h : WV p x) (ha : At x g 1) (hf : f ∈ p.funcs) (hi : jY p f i) : WV p (x.block g i) := by
 have hz := h.HC _ (zc ha.1 ha.2.1)
 exact h.OU ha.1 ha.2.1 (h.free (by rw [ha.2.2]; decide) (by rw [ha.2.2]; decide)) ⟨hz.l1, hz.l2, hz.fr, fun _ => ⟨f, hf, hi⟩, by show (1 : Int) ≤ 2 ∧ (2 : Int) ≤ 4; decide⟩
theorem nx {α : Type} {l : List α} {n : Nat} {a b : α} (h : b ∈ l.set n a) : b ∈ l ∨ b = a := List.mem_or_eq_of_mem_set h
theorem WV.less (h : WV p x) {c c' : aQ} (hc : x.av[k.toNat]? = some c) (hb : c'.buf.length ≤ c'.room ∧ c'.room ≤ 16) (hr : ∀ v ∈ c'.cH, v ∈ c.cH) (hs : ∀ v ∈ c'.snd, v ∈ c.snd) (hn : ∀ q, (cX c').count q ≤ (cX c).count q) : WV p (x.bg k c') := by
 have hm : c ∈ x.av := List.mem_of_getElem? hc
 have VD : ∀ q, cD (x.av.set k.toNat c') q ≤ cD x.av q := by
  intro q
  have := nw (fun c : aQ => (cX c).count q) x.av k.toNat c' c hc
  have := hn q
  unfold cD
  omega
 refine ⟨h.n1, h.n2, h.HC, by simpa [Wd.bg] using h.ch, h.lk, ?_, ?_, ?_, h.lw, h.hl, ?_, ?_, h.h1, h.out⟩
 ·intro d hd
  rcases nx hd with hd | rfl
  ·exact h.buf d hd
  ·exact hb
 ·intro d hd v hv
  rcases nx hd with hd | rfl
  ·exact h.cH d hd v hv
  ·exact h.cH c hm v (hr v hv)
 ·intro d hd v hv
  rcases nx hd with hd | rfl
  ·exact h.snd d hd v hv
  ·exact h.snd c hm v (hs v hv)
 ·intro q q0 hq
  have := h.one q q0 hq
  have := VD q
  show cD (x.av.set k.toNat c') q + ig x.aC q ≤ 1
  omega
 ·intro q
  exact Nat.le_trans (VD q) (h.EG q)
theorem WV.more (h : WV p x) {c c' : aQ} {w : Wt} (hc : x.av[k.toNat]? = some c) (hb : c'.buf.length ≤ c'.room ∧ c'.room ≤ 16)
  (hr : ∀ v ∈ c'.cH, v ∈ c.cH ∨ v = w ∧ At x w.g 2 ∧ ((aa x w.g).wt.op = 14 ∨ (aa x w.g).wt.op = 16 ∧ 0 ≤ w.cs ∧ w.cs < (aa x w.g).wt.b))
  (hs : ∀ v ∈ c'.snd, v ∈ c.snd ∨ v = w ∧ At x w.g 2 ∧ ((aa x w.g).wt.op = 13 ∨ (aa x w.g).wt.op = 16 ∧ 0 ≤ w.cs ∧ w.cs < (aa x w.g).wt.b))
  (hn : ∀ q, (cX c').count q ≤ (cX c).count q + (if q = w.g then 1 else 0)) (hz : (aa x w.g).wt.op ≠ 16 → cD x.av w.g + ig x.aC w.g = 0) (h32 : cD x.av w.g < 32) : WV p (x.bg k c') := by
 have hm : c ∈ x.av := List.mem_of_getElem? hc
 have VD : ∀ q, cD (x.av.set k.toNat c') q ≤ cD x.av q + (if q = w.g then 1 else 0) := by
  intro q
  have := nw (fun c : aQ => (cX c).count q) x.av k.toNat c' c hc
  have := hn q
  unfold cD
  omega
 refine ⟨h.n1, h.n2, h.HC, by simpa [Wd.bg] using h.ch, h.lk, ?_, ?_, ?_, h.lw, h.hl, ?_, ?_, h.h1, h.out⟩
 ·intro d hd
  rcases nx hd with hd | rfl
  ·exact h.buf d hd
  ·exact hb
 ·intro d hd v hv
  rcases nx hd with hd | rfl
  ·exact h.cH d hd v hv
  ·rcases hr v hv with hv | ⟨rfl, hv⟩
   ·exact h.cH c hm v hv
   ·exact hv
 ·intro d hd v hv
  rcases nx hd with hd | rfl
  ·exact h.snd d hd v hv
  ·rcases hs v hv with hv | ⟨rfl, hv⟩
   ·exact h.snd c hm v hv
   ·exact hv
 ·intro q q0 hq
  have a := VD q
  show cD (x.av.set k.toNat c') q + ig x.aC q ≤ 1
  by_cases e : q = w.g
  ·subst e
   have := hz hq
   rw [if_pos rfl] at a
   omega
  ·have := h.one q q0 hq
   rw [if_neg e] at a
   omega
 ·intro q
  have a := VD q
  show cD (x.av.set k.toNat c') q ≤ 32
  by_cases e : q = w.g
  ·subst e
   rw [if_pos rfl] at a
   omega
  ·have := h.EG q
   rw [if_neg e] at a
   omega
end
section
variable {p : cy} {x y : Wd} {g q k n : Int} {f : List bZ} {i : bZ} {v : Wt}
theorem VE {α : Type} (f g : α → Nat) : ∀ (l : List α), (∀ a ∈ l, f a ≤ g a) → (l.map f).sum ≤ (l.map g).sum
 | [], _ => Nat.le_refl _
 | b :: l, h => by
  simp only [List.map_cons, List.sum_cons]
  have := h b (by simp)
  have := VE f g l fun a ha => h a (by simp [ha])
  omega
theorem CC (c : aQ) : cX (c.drop g) = (cX c).filter (fun q => q != g) := by
 unfold cX aQ.drop wo
 simp only [List.filter_append, List.filter_map]
 rfl
theorem JK (cs : List aQ) (q : Int) : cD (cs.map fun c => c.drop g) q ≤ cD cs q := by
 unfold cD
 rw [List.map_map]
 refine VE _ _ cs fun c _ => ?_
 show (cX (c.drop g)).count q ≤ _
 rw [CC]
 exact List.Sublist.count_le _ List.filter_sublist
theorem WV.leave (h : WV p x) : WV p (x.leave g) := by
 refine ⟨h.n1, h.n2, h.HC, by simpa [Wd.leave] using h.ch, h.lk, ?_, ?_, ?_, h.lw, h.hl, ?_, ?_, h.h1, h.out⟩
 ·intro d hd
  obtain ⟨c, hc, rfl⟩ := List.mem_map.1 hd
  exact h.buf c hc
 ·intro d hd v hv
  obtain ⟨c, hc, rfl⟩ := List.mem_map.1 hd
  exact h.cH c hc v (List.mem_filter.1 hv).1
 ·intro d hd v hv
  obtain ⟨c, hc, rfl⟩ := List.mem_map.1 hd
  exact h.snd c hc v (List.mem_filter.1 hv).1
 ·intro q q0 hq
  have := JK (g := g) x.av q
  have := h.one q q0 hq
  show cD (x.av.map fun c => c.drop g) q + ig x.aC q ≤ 1
  omega
 ·intro q
  exact Nat.le_trans (JK x.av q) (h.EG q)
theorem Nx (h : WV p x) (h3 : (aa x g).wt.op ≠ 18) (h2 : (aa x g).st = 2) : oO (x.leave g) g := by
 refine ⟨fun d hd hg => ?_, fun l hl hg => h3 (h.lw l hl g hg).2, fun w hw e => ?_⟩
 ·obtain ⟨c, hc, rfl⟩ := List.mem_map.1 hd
  rw [CC] at hg
  have := (List.mem_filter.1 hg).2
  simp at this
 ·have := (h.hl w hw).2.2
  rw [e, h2] at this
  cases this
theorem JI.set {r : eH} (h : JI p r) (q v : Int) : JI p (r.set q v) := h
theorem qJ.bW {z : gK} (h : qJ p z) {r : eH} (hr : JI p r) : qJ p (z.bW r) :=
 ⟨by simpa [gK.bW] using h.l1, by simpa [gK.bW] using h.l2, fun f hf => by
  rcases List.mem_or_eq_of_mem_set hf with hf | rfl
  ·exact h.fr f hf
  ·exact hr, h.wt, h.st⟩
theorem qJ.top {z : gK} (h : qJ p z) : JI p z.top := by
 unfold gK.top
 have := h.l1
 rw [List.getD_eq_getElem?_getD, List.getElem?_eq_getElem (by omega), Option.getD_some]
 exact h.fr _ (List.getElem_mem _)
theorem WV.ij (h : WV p x) (h0 : 0 ≤ g) (hg : g < x.gs.length) : qJ p (aa x g) := h.HC _ (zc h0 hg)
theorem WV.aW (h : WV p x) (h0 : 0 ≤ g) (hg : g < x.gs.length) : WV p (x.aW g q n) :=
 h.bp h0 hg ((h.ij h0 hg).bW ((h.ij h0 hg).top.set q n)) rfl rfl
theorem tN (h0 : 0 ≤ g) (hg : g < x.gs.length) {m : Int} : (aa (x.aW g q n) m).st = (aa x m).st ∧ (aa (x.aW g q n) m).wt = (aa x m).wt ∧ (aa (x.aW g q n) m).fs.length = (aa x m).fs.length := by
 unfold Wd.aW
 rw [jm hg h0]
 split
 ·rename_i e
  have : aa x m = aa x g := by unfold aa; rw [e]
  rw [this]
  exact ⟨rfl, rfl, by simp [gK.bW]⟩
 ·exact ⟨rfl, rfl, rfl⟩
theorem oP (h0 : 0 ≤ g) (hg : g < x.gs.length) {m : Int} (h1 : 0 ≤ m) (hne : m ≠ g) : aa (x.aW g q n) m = aa x m := by
 unfold Wd.aW
 rw [jm hg h0, if_neg (by omega)]
theorem WV.aT (h : WV p x) (h0 : 0 ≤ g) (hg : g < x.gs.length) : aT x g := ⟨h0, hg, (h.ij h0 hg).l1, by have := (h.ij h0 hg).l2; omega⟩
theorem QW (hp : eJ p) {a : Int} (h0 : 0 ≤ a) (h1 : a < p.cases.length) : mG p a ∈ p.cases := by
 unfold mG
 rw [List.getD_eq_getElem?_getD, List.getElem?_eq_getElem (by omega), Option.getD_some]
 exact List.getElem_mem _
theorem WV.lI (h : WV p x) (hp : eJ p) (ha : At x v.g 2) (hw : (aa x v.g).wt.op = 14 ∨ (aa x v.g).wt.op = 16 ∧ 0 ≤ v.cs ∧ v.cs < (aa x v.g).wt.b) : lI p x v := by
 refine ⟨h.aT ha.1 ha.2.1, ?_⟩
 obtain ⟨f, hf, hi⟩ := (h.ij ha.1 ha.2.1).wt ha.2.2
 obtain ⟨_, _, _, _, _, _, _, _, i13, i14, i16, _⟩ := hi
 split
 ·rename_i e
  rcases hw with hw | ⟨_, c0, c1⟩
  ·rw [e] at hw; cases hw
  ·obtain ⟨a0, a1, a2⟩ := i16 e
   refine ⟨by omega, by omega, by have := hp.cs; omega, (hp.cas _ (QW hp (by omega) (by omega))).2, i14 (.inr e)⟩
 ·rename_i e
  rcases hw with hw | ⟨hw, _⟩
  ·exact ⟨i13 (.inr hw), i14 (.inl hw)⟩
  ·exact absurd hw e
theorem WV.vf (h : WV p x) (ha : At x v.g 2) : vf x v := by
 refine ⟨h.aT ha.1 ha.2.1, fun e => ?_⟩
 obtain ⟨f, hf, hi⟩ := (h.ij ha.1 ha.2.1).wt ha.2.2
 obtain ⟨_, _, _, _, _, _, _, _, _, i14, _⟩ := hi
 exact i14 (.inr e)
theorem oO.bH (h : oO x g) : oO (x.aW q k n) g := h
theorem cj {m : Int} : (x.aW g q m).gs.length = x.gs.length := by simp [Wd.aW, Wd.bp]
theorem oQ : (x.eV g).gs.length = x.gs.length := by simp [Wd.eV, Wd.bp]
theorem tO (h0 : 0 ≤ g) (hg : g < x.gs.length) {m : Int} (h1 : 0 ≤ m) (hne : m ≠ g) : aa (x.eV g) m = aa x m := by
 show aa (x.bp g _) m = _
 rw [jm hg h0, if_neg (by omega)]
theorem xO (h0 : 0 ≤ g) (hg : g < x.gs.length) : (aa (x.eV g) g).st = 1 := by
 show (aa (x.bp g _) g).st = _
 rw [jm hg h0, if_pos rfl]
theorem WV.cU (h : WV p x) (ha : At x g 2) (RD : (aa x g).wt.op ≠ 18) : WV p (x.cU g k) ∧ oO (x.cU g k) g := by
 obtain ⟨h0, hg, h2⟩ := ha
 unfold Wd.cU
 have r2 := h.aW (q := (aa x g).wt.c) (n := k) h0 hg
 have e2 := tN (x := x) (q := (aa x g).wt.c) (n := k) h0 hg (m := g)
 exact ⟨r2.leave, Nx r2 (by rw [e2.2.1]; exact RD) (by rw [e2.1]; exact h2)⟩
theorem ik : (x.cU g k).gs.length = x.gs.length := by simp [Wd.cU, Wd.leave, cj]
theorem EL (h0 : 0 ≤ g) (hg : g < x.gs.length) {m : Int} (h1 : 0 ≤ m) (hne : m ≠ g) : aa (x.cU g k) m = aa x m := by
 show aa (x.aW g _ _) m = _
 exact oP h0 hg h1 hne
theorem WV.received (h : WV p x) (ha : At x v.g 2) (RD : (aa x v.g).wt.op ≠ 18) (hf : (aa x v.g).wt.op ≠ 16 → oO x v.g) {s : Int} : WV p (x.received p v s) := by
 have ha' := ha
 obtain ⟨h0, hg, h2⟩ := ha'
 unfold Wd.received
 dsimp only
 split
 ·have r1 := h.aW (q := (mG p ((aa x v.g).wt.a + v.cs)).bH) (n := v.v) h0 hg
  have e1 := tN (x := x) (q := (mG p ((aa x v.g).wt.a + v.cs)).bH) (n := v.v) h0 hg (m := v.g)
  have l1 := cj (x := x) (g := v.g) (q := (mG p ((aa x v.g).wt.a + v.cs)).bH) (m := v.v)
  obtain ⟨r2, f2⟩ := r1.cU (k := v.cs) ⟨h0, by rw [l1]; exact hg, by rw [e1.1]; exact h2⟩ (by rw [e1.2.1]; exact RD)
  exact r2.eV h0 (by rw [ik, l1]; exact hg) f2
 ·rename_i e
  have r1 := h.aW (q := (aa x v.g).wt.b) (n := v.v) h0 hg
  have r2 := r1.aW (g := v.g) (q := (aa x v.g).wt.c) (n := s) h0 (by rw [cj]; exact hg)
  exact r2.eV h0 (by rw [cj, cj]; exact hg) (hf e)
theorem pU {s : Int} : (x.received p v s).gs.length = x.gs.length := by
 unfold Wd.received
 dsimp only
 split
 ·rw [oQ, ik, cj]
 ·rw [oQ, cj, cj]
theorem zP (h0 : 0 ≤ v.g) (hg : v.g < x.gs.length) {s m : Int} (h1 : 0 ≤ m) (hne : m ≠ v.g) : aa (x.received p v s) m = aa x m := by
 unfold Wd.received
 dsimp only
 split
 ·rw [tO h0 (by rw [ik, cj]; exact hg) h1 hne, EL h0 (by rw [cj]; exact hg) h1 hne, oP h0 hg h1 hne]
 ·rw [tO h0 (by rw [cj, cj]; exact hg) h1 hne, oP h0 (by rw [cj]; exact hg) h1 hne, oP h0 hg h1 hne]
theorem ny (h0 : 0 ≤ v.g) (hg : v.g < x.gs.length) {s : Int} : (aa (x.received p v s) v.g).st = 1 ∧ (x.received p v s).ready = x.ready ++ [v.g] := by
 unfold Wd.received
 dsimp only
 split
 ·exact ⟨xO h0 (by rw [ik, cj]; exact hg), rfl⟩
 ·exact ⟨xO h0 (by rw [cj, cj]; exact hg), rfl⟩
theorem WV.sent (h : WV p x) (ha : At x v.g 2) (RD : (aa x v.g).wt.op ≠ 18) (hf : (aa x v.g).wt.op ≠ 16 → oO x v.g) : WV p (x.sent v) := by
 have ha' := ha
 obtain ⟨h0, hg, h2⟩ := ha'
 unfold Wd.sent
 split
 ·obtain ⟨r2, f2⟩ := h.cU (k := v.cs) ha RD
  exact r2.eV h0 (by rw [ik]; exact hg) f2
 ·rename_i e
  exact h.eV h0 hg (hf e)
theorem VF : (x.sent v).gs.length = x.gs.length := by
 unfold Wd.sent
 split
 ·rw [oQ, ik]
 ·rw [oQ]
theorem YJ (h0 : 0 ≤ v.g) (hg : v.g < x.gs.length) {m : Int} (h1 : 0 ≤ m) (hne : m ≠ v.g) : aa (x.sent v) m = aa x m := by
 unfold Wd.sent
 split
 ·rw [tO h0 (by rw [ik]; exact hg) h1 hne, EL h0 hg h1 hne]
 ·rw [tO h0 hg h1 hne]
theorem OV (h0 : 0 ≤ v.g) (hg : v.g < x.gs.length) : (aa (x.sent v) v.g).st = 1 ∧ (x.sent v).ready = x.ready ++ [v.g] := by
 unfold Wd.sent
 split
 ·exact ⟨xO h0 (by rw [ik]; exact hg), rfl⟩
 ·exact ⟨xO h0 hg, rfl⟩
theorem EM (hk : nP x k) : ∃ c, x.av[k.toNat]? = some c ∧ aX x.av k = c := by
 obtain ⟨k0, k1⟩ := hk
 obtain ⟨c, hc⟩ := aJ (l := x.av) (i := k.toNat) (by omega)
 exact ⟨c, hc, by simp [aX, hc]⟩
theorem AR (h : WV p x) {c c' : aQ} (hc : x.av[k.toNat]? = some c) (h0 : 0 ≤ g) (h2 : (aa x g).st = 2) (mh : (aa x g).wt.op ≠ 16) (hn : (cX c').count g + 1 ≤ (cX c).count g) : oO (x.bg k c') g := by
 have a := h.one g h0 mh
 have b := nw (fun c : aQ => (cX c).count g) x.av k.toNat c' c hc
 have e1 : cD (x.av.set k.toNat c') g = 0 := by unfold cD at *; omega
 have e2 : ig x.aC g = 0 := by
  have := CA (fun c : aQ => (cX c).count g) x.av c (List.mem_of_getElem? hc)
  unfold cD at a
  omega
 refine ⟨sW.1 e1, xN.1 e2, fun w hw e => ?_⟩
 have := (h.hl w hw).2.2
 rw [e, h2] at this
 cases this
end
def Wk (x y : Wd) : Prop := y.gs.length = x.gs.length ∧ ∃ l : List Int, y.ready = x.ready ++ l ∧ l.Nodup ∧ (∀ q ∈ l, 0 ≤ q ∧ q < x.gs.length ∧ (aa x q).st ≠ 1 ∧ (aa y q).st = 1) ∧ ∀ q, 0 ≤ q → q ∉ l → aa y q = aa x q
section
variable {p : cy} {x y z : Wd} {g q k n : Int} {f : List bZ} {i : bZ} {v : Wt}
theorem Wk.refl (x : Wd) : Wk x x := ⟨rfl, [], by simp, List.nodup_nil, (fun q h => by cases h), fun q _ _ => rfl⟩
theorem Wk.same (h1 : y.gs = x.gs) (h2 : y.ready = x.ready) : Wk x y := ⟨by rw [h1], [], by simp [h2], List.nodup_nil, fun q h => by (cases h), fun q _ _ => by unfold aa; rw [h1]⟩
theorem Wk.trans (h : Wk x y) (h' : Wk y z) : Wk x z := by
 obtain ⟨a1, l, a2, a3, a4, a5⟩ := h
 obtain ⟨b1, m, b2, b3, b4, b5⟩ := h'
 refine ⟨by rw [b1, a1], l ++ m, by rw [b2, a2, List.append_assoc], ?_, ?_, ?_⟩
 ·refine List.nodup_append.2 ⟨a3, b3, fun q hq r hr e => ?_⟩
  subst e
  exact (b4 q hr).2.2.1 (a4 q hq).2.2.2
 ·intro q hq
  rcases List.mem_append.1 hq with hq | hq
  ·obtain ⟨c1, c2, c3, c4⟩ := a4 q hq
   refine ⟨c1, c2, c3, ?_⟩
   by_cases hm : q ∈ m
   ·exact (b4 q hm).2.2.2
   ·rw [b5 q c1 hm]; exact c4
  ·obtain ⟨c1, c2, c3, c4⟩ := b4 q hq
   by_cases hl : q ∈ l
   ·exact absurd (a4 q hl).2.2.2 c3
   ·exact ⟨c1, by rw [← a1]; exact c2, by rw [← a5 q c1 hl]; exact c3, c4⟩
 ·intro q q0 hq
  rw [List.mem_append] at hq
  rw [b5 q q0 (fun h => hq (.inr h)), a5 q q0 (fun h => hq (.inl h))]
theorem Wk.keep (h : Wk x y) (h0 : 0 ≤ q) (h1 : (aa x q).st = 1) : aa y q = aa x q := by
 obtain ⟨_, l, _, _, a4, a5⟩ := h
 exact a5 q h0 fun hq => (a4 q hq).2.2.1 h1
theorem Wk.received (h0 : 0 ≤ v.g) (hg : v.g < x.gs.length) (h1 : (aa x v.g).st ≠ 1) {s : Int} : Wk x (x.received p v s) :=
 ⟨pU, [v.g], (ny h0 hg).2, by simp, fun q hq => by
  simp only [List.mem_singleton] at hq; subst hq
  exact ⟨h0, hg, h1, (ny h0 hg).1⟩, fun q q0 hq => zP h0 hg q0 (by simpa using hq)⟩
theorem Wk.sent (h0 : 0 ≤ v.g) (hg : v.g < x.gs.length) (h1 : (aa x v.g).st ≠ 1) : Wk x (x.sent v) :=
 ⟨VF, [v.g], (OV h0 hg).2, by simp, fun q hq => by
  simp only [List.mem_singleton] at hq; subst hq
  exact ⟨h0, hg, h1, (OV h0 hg).1⟩, fun q q0 hq => YJ h0 hg q0 (by simpa using hq)⟩
theorem Wk.eV (h0 : 0 ≤ g) (hg : g < x.gs.length) (h1 : (aa x g).st ≠ 1) : Wk x (x.eV g) :=
 ⟨oQ, [g], rfl, by simp, fun q hq => by
  simp only [List.mem_singleton] at hq; subst hq
  exact ⟨h0, hg, h1, xO h0 hg⟩, fun q q0 hq => tO h0 hg q0 (by simpa using hq)⟩
theorem Wk.bg {c : aQ} : Wk x (x.bg k c) := Wk.same rfl rfl
theorem oR (h : WV p x) {c : aQ} (hc : c ∈ x.av) : c.buf.length ≤ 16 ∧ c.snd.length ≤ 3200 ∧ c.cH.length ≤ 3200 := by
 have h1 := h.OT hc
 unfold cX at h1
 rw [List.length_append, List.length_map, List.length_map] at h1
 have := h.buf c hc
 omega
def PutEnd (p : cy) (x : Wd) : Out (Wd × Bool) → Prop
 | .dg _ y => WV p y ∧ y.gs = x.gs ∧ y.ready = x.ready
 | .on (y, true) => WV p y ∧ Wk x y
 | .on (y, false) => y = x
 | .fF _ _ => False
theorem gf {α : Type} : ∀ (l : List α) (n : Nat) (a : α), l[n]? = some a → l.set n a = l
 | [], _, _, _ => rfl
 | b :: l, 0, a, h => by simp at h; subst h; rfl
 | b :: l, n + 1, a, h => by rw [List.set_cons_succ, gf l n a (by simpa using h)]
theorem pV {c : aQ} (hc : x.av[k.toNat]? = some c) : x.bg k c = x := by
 unfold Wd.bg
 rw [gf _ _ _ hc]
theorem WV.put (h : WV p x) (hp : eJ p) (hk : nP x k) : mI p x k n ∧ PutEnd p x (x.put p k n) := by
 obtain ⟨c, hc, e⟩ := EM hk
 have hm := List.mem_of_getElem? hc
 obtain ⟨s1, s2, s3⟩ := oR h hm
 have hb := h.buf c hm
 have hr := h.cH c hm
 unfold mI Wd.put
 rw [e]
 refine ⟨⟨hk, ?_, ?_⟩, ?_⟩
 ·unfold aQ.send
  split
  ·intro h; cases h
  ·split
   ·rename_i w r hw
    intro _
    obtain ⟨a, b⟩ := hr w (by rw [hw]; simp)
    exact h.lI (v := ⟨w.g, w.cs, n⟩) hp a b
   ·split <;> (intro h; cases h)
 ·have : c.Small 3200 := ⟨by omega, s2, s3⟩
  exact (this.send n).mono (by omega)
 ·unfold aQ.send
  split
  ·dsimp only
   rw [if_pos rfl, pV hc]
   exact ⟨h, rfl, rfl⟩
  ·split
   ·rename_i w r hw
    dsimp only
    obtain ⟨a, b⟩ := hr w (by rw [hw]; simp)
    have hl : WV p (x.bg k { c with cH := r }) := h.less hc hb (fun v hv => by rw [hw]; exact List.mem_cons_of_mem _ hv) (fun v hv => hv) (fun q => by
     unfold cX; rw [hw]; simp only [List.map_cons, List.count_append, List.count_cons]; omega)
    have hne : (aa x w.g).wt.op ≠ 18 := by rcases b with b | b; rw [b]; decide; rw [b.1]; decide
    rw [if_neg (by decide), if_pos rfl]
    refine ⟨hl.received (v := ⟨w.g, w.cs, n⟩) a hne (fun mh => ?_), Wk.bg.trans (Wk.received (x := x.bg k { c with cH := r }) (v := ⟨w.g, w.cs, n⟩) a.1 a.2.1 (by show (aa x w.g).st ≠ 1; rw [a.2.2]; decide))⟩
    exact AR h hc a.1 a.2.2 mh (by unfold cX; rw [hw]; simp only [List.map_cons, List.count_append, List.count_cons, beq_self_eq_true, if_true]; omega)
   ·rename_i hw
    split
    ·dsimp only
     rw [if_neg (by decide), if_neg (by decide)]
     exact ⟨h.less hc ⟨by simp; omega, hb.2⟩ (fun v hv => hv) (fun v hv => hv) (fun q => Nat.le_refl _), Wk.bg⟩
    ·dsimp only
     rw [if_neg (by decide), if_neg (by decide), pV hc]
     exact rfl
theorem WV.get (h : WV p x) (hp : eJ p) (hk : nP x k) : qh x k ∧ WV p (x.get k).1 ∧ Wk x (x.get k).1 ∧ ((x.get k).2.2.2 = false → (x.get k).1 = x) := by
 obtain ⟨c, hc, e⟩ := EM hk
 have hm := List.mem_of_getElem? hc
 obtain ⟨s1, s2, s3⟩ := oR h hm
 have hb := h.buf c hm
 have hs := h.snd c hm
 unfold qh Wd.get
 rw [e]
 obtain ⟨room, buf, snd, cH, closed⟩ := c
 cases snd with
 | cons w r =>
  obtain ⟨a, b⟩ := hs w (by simp)
  obtain ⟨v, l, hv⟩ : ∃ v l, buf ++ [w.v] = v :: l := by
   cases buf with
   | nil => exact ⟨_, _, rfl⟩
   | cons q t => exact ⟨q, t ++ [w.v], rfl⟩
  have hlen : l.length = buf.length := by
   have := congrArg List.length hv
   simp at this; omega
  have er : aQ.recv ⟨room, buf, w :: r, cH, closed⟩ = (⟨room, l, r, cH, closed⟩, v, true, w, true, 0) := by
   unfold aQ.recv aQ.all
   dsimp only
   rw [hv]
   rfl
  rw [er]
  dsimp only
  have hl : WV p (x.bg k ⟨room, l, r, cH, closed⟩) := h.less hc (by rw [hlen]; exact hb) (fun v hv => hv) (fun v hv => List.mem_cons_of_mem _ hv) (fun q => by
   unfold cX; simp only [List.map_cons, List.cons_append, List.count_cons]; omega)
  have hne : (aa x w.g).wt.op ≠ 18 := by rcases b with b | b; rw [b]; decide; rw [b.1]; decide
  rw [if_pos rfl, if_pos rfl]
  refine ⟨⟨hk, fun _ => h.vf a, ⟨by dsimp only at *; omega, by simp only [List.length_cons] at s2; dsimp only; omega, by dsimp only at *; omega⟩⟩, hl.sent a hne (fun mh => ?_), Wk.bg.trans (Wk.sent (x := x.bg k ⟨room, l, r, cH, closed⟩) a.1 a.2.1 (by show (aa x w.g).st ≠ 1; rw [a.2.2]; decide)), (fun h => by cases h)⟩
  exact AR h hc a.1 a.2.2 mh (by unfold cX; simp only [List.map_cons, List.cons_append, List.count_cons, beq_self_eq_true, if_true]; omega)
 | nil =>
  cases buf with
  | cons q t =>
   have er : aQ.recv ⟨room, q :: t, [], cH, closed⟩ = (⟨room, t, [], cH, closed⟩, q, true, .zero, false, 0) := rfl
   rw [er]
   dsimp only
   simp only [Bool.false_eq_true, if_false, if_true]
   simp only [List.length_cons] at s1 hb
   exact ⟨⟨hk, (fun h => by cases h), ⟨by dsimp only; omega, by dsimp only at *; omega, by dsimp only at *; omega⟩⟩, h.less hc ⟨by dsimp only; omega, hb.2⟩ (fun v hv => hv) (fun v hv => hv) (fun q => Nat.le_refl _), Wk.bg, (fun h => by cases h)⟩
  | nil =>
   have er : aQ.recv ⟨room, [], [], cH, closed⟩ = (⟨room, [], [], cH, closed⟩, 0, false, .zero, false, if closed then 0 else 5) := rfl
   rw [er]
   dsimp only
   simp only [Bool.false_eq_true, if_false, pV hc]
   exact ⟨⟨hk, (fun h => by cases h), ⟨by dsimp only at *; omega, by dsimp only at *; omega, by dsimp only at *; omega⟩⟩, h, Wk.refl _, fun _ => trivial⟩
end
section
variable {p : cy} {x y z : Wd} {g q k n : Int} {f : List bZ} {i : bZ} {v : Wt}
def ShutAt (x : Wd) (v : Wt) : Prop := 0 ≤ v.g ∧ v.g < x.gs.length ∧ ((aa x v.g).st = 2 → (aa x v.g).wt.op = 14 ∧ oO x v.g ∨ (aa x v.g).wt.op = 16 ∧ 0 ≤ v.cs ∧ v.cs < (aa x v.g).wt.b)
def CD (x y : Wd) : Prop := (∀ d ∈ y.av, ∃ c ∈ x.av, ∀ q ∈ cX d, q ∈ cX c) ∧ y.aC = x.aC ∧ y.hl = x.hl
theorem CD.refl (x : Wd) : CD x x := ⟨fun d hd => ⟨d, hd, fun _ h => h⟩, rfl, rfl⟩
theorem CD.free (h : CD x y) (hf : oO x g) : oO y g := by
 obtain ⟨a, b, c⟩ := h
 refine ⟨fun d hd hg => ?_, by rw [b]; exact hf.2.1, by rw [c]; exact hf.2.2⟩
 obtain ⟨e, he, hs⟩ := a d hd
 exact hf.1 e he (hs g hg)
theorem CD.leave : CD x (x.leave g) := ⟨fun d hd => by
 obtain ⟨c, hc, rfl⟩ := List.mem_map.1 hd
 exact ⟨c, hc, fun q hq => by rw [CC] at hq; exact (List.mem_filter.1 hq).1⟩, rfl, rfl⟩
theorem CD.received {s : Int} : CD x (x.received p v s) := by
 unfold Wd.received
 dsimp only
 split
 ·exact CD.leave (x := (x.aW v.g (mG p ((aa x v.g).wt.a + v.cs)).bH v.v).aW v.g _ _)
 ·exact CD.refl x
theorem tP (hp : eJ p) : ∀ (l : List Wt) (x : Wd), WV p x → x.ready.length + l.length ≤ 1000000 → (∀ v ∈ l, ShutAt x v) → sR p x l ∧ WV p (l.foldl (cJ p) x) ∧ Wk x (l.foldl (cJ p) x)
 | [], x, h, _, _ => ⟨trivial, h, Wk.refl x⟩
 | v :: l, x, h, hr, ha => by
  obtain ⟨h0, hg, h2⟩ := ha v (by simp)
  have mU : x.ready.length ≤ 1000000 := by simp only [List.length_cons] at hr; omega
  by_cases e : (aa x v.g).st = 2
  ·have hat : At x v.g 2 := ⟨h0, hg, e⟩
   have hne : (aa x v.g).wt.op ≠ 18 := by rcases h2 e with b | b; rw [b.1]; decide; rw [b.1]; decide
   have hw := h.received (v := { v with v := 0 }) hat hne (fun mh => by
    rcases h2 e with b | b
    ·exact b.2
    ·exact absurd b.1 mh) (s := 0)
   have hk : Wk x (x.received p { v with v := 0 } 0) := Wk.received (v := { v with v := 0 }) h0 hg (by rw [e]; decide)
   have es : cJ p x v = x.received p { v with v := 0 } 0 := by unfold cJ; rw [if_pos e]
   have hrd : (x.received p { v with v := 0 } 0).ready = x.ready ++ [v.g] := (ny (v := { v with v := 0 }) h0 hg).2
   obtain ⟨r1, r2, r3⟩ := tP hp l (x.received p { v with v := 0 } 0) hw (by rw [hrd]; simp only [List.length_append, List.length_cons, List.length_nil] at *; omega) (fun w Rl => by
    obtain ⟨b0, b1, b2⟩ := ha w (List.mem_cons_of_mem _ Rl)
    refine ⟨b0, by rw [pU]; exact b1, fun h2' => ?_⟩
    by_cases ew : w.g = v.g
    ·rw [ew, (ny (v := { v with v := 0 }) h0 hg).1] at h2'; cases h2'
    ·rw [zP (v := { v with v := 0 }) h0 hg b0 ew] at h2' ⊢
     rcases b2 h2' with c | c
     ·exact .inl ⟨c.1, CD.received.free c.2⟩
     ·exact .inr c)
   refine ⟨⟨h.sm hp mU, h0, hg, fun _ => h.lI (v := { v with v := 0 }) hp hat ?_, by rw [es]; exact r1⟩, by rw [List.foldl_cons, es]; exact r2, by rw [List.foldl_cons, es]; exact hk.trans r3⟩
   rcases h2 e with b | b
   ·exact .inl b.1
   ·exact .inr b
  ·have es : cJ p x v = x := by unfold cJ; rw [if_neg e]
   obtain ⟨r1, r2, r3⟩ := tP hp l x h (by simp only [List.length_cons] at hr; omega) (fun w Rl => ha w (List.mem_cons_of_mem _ Rl))
   exact ⟨⟨h.sm hp mU, h0, hg, fun h2' => absurd h2' e, by rw [es]; exact r1⟩, by rw [List.foldl_cons, es]; exact r2, by rw [List.foldl_cons, es]; exact r3⟩
end
theorem GW {l : List aN} {i : Nat} (h : i < l.length) : fy l i = l[i] := by
 unfold fy; rw [List.getD_eq_getElem?_getD, List.getElem?_eq_getElem h]; rfl
theorem wq {l : List aN} {i j : Nat} (hi : i < l.length) (hj : j < l.length) : (dZ l i j).Perm l := by
 unfold dZ
 rw [GW hi, GW hj]
 exact List.set_set_perm hi hj
theorem CE : ∀ (f i : Nat) (l : List aN), i < l.length → (OO f i l).Perm l
 | 0, _, l, _ => List.Perm.refl l
 | f + 1, i, l, h => by
  unfold OO
  split
  ·exact (CE f _ _ (by rw [cP]; omega)).trans (wq h (by omega))
  ·exact List.Perm.refl l
theorem CF : ∀ (f i : Nat) (l : List aN), i < l.length → (nu f i l).Perm l
 | 0, _, l, _ => List.Perm.refl l
 | f + 1, i, l, h => by
  unfold nu
  split
  ·exact List.Perm.refl l
  ·have := (EK h).1
   exact (CF f _ _ (by rw [cP]; exact this)).trans (wq h this)
theorem pW {l : List aN} {x : aN} : (kY l x).Perm (l ++ [x]) := CE _ _ _ (by simp)
theorem xP {l : List aN} {i : Nat} (h : i < l.length) : l.Perm (fy l i :: cR l i) := by
 have hn : l.length - 1 < l.length := by omega
 have h1 : (dZ l i (l.length - 1)).Perm l := wq h hn
 have Vj : (dZ l i (l.length - 1))[l.length - 1]? = some (fy l i) := by
  unfold dZ
  rw [List.getElem?_set_self (by rw [List.length_set]; exact hn)]
 have h2 : dZ l i (l.length - 1) = (dZ l i (l.length - 1)).take (l.length - 1) ++ [fy l i] := by
  have e : dZ l i (l.length - 1) = (dZ l i (l.length - 1)).take (l.length - 1 + 1) := by
   rw [List.take_of_length_le (by rw [cP]; omega)]
  conv => lhs; rw [e]
  rw [List.take_add_one, Vj]
  rfl
 have h3 : l.Perm (fy l i :: (dZ l i (l.length - 1)).take (l.length - 1)) := by
  refine h1.symm.trans ?_
  rw [h2]
  have : (List.take (l.length - 1) (dZ l i (l.length - 1)) ++ [fy l i]).take (l.length - 1) = (dZ l i (l.length - 1)).take (l.length - 1) := by rw [← h2]
  rw [this]
  exact List.perm_append_comm
 unfold cR
 split
 ·rename_i hlt
  have hlen : ((dZ l i (l.length - 1)).take (l.length - 1)).length = l.length - 1 := by rw [List.length_take, cP]; omega
  refine h3.trans (List.Perm.cons _ ?_)
  exact ((CE _ _ _ (by rw [kG, hlen]; exact hlt)).trans (CF _ _ _ (by rw [hlen]; exact hlt))).symm
 ·exact h3
theorem wu : ∀ (f : Nat) (l : List aN) (now : Int), l.Perm ((dM f l now).2 ++ (dM f l now).1)
 | 0, l, _ => by simp [dM]
 | f + 1, l, now => by
  unfold dM
  split
  ·rename_i h
   refine (xP h.1).trans ?_
   dsimp only
   exact List.Perm.cons _ (wu f _ now)
  ·simp
def jL (g : Int) (x y : Wd) : Prop := y.ready.Nodup ∧ g ∉ y.ready ∧ (∀ q ∈ y.ready, 0 ≤ q ∧ q < y.gs.length ∧ ¬ At x q 1 ∧ (aa y q).st = 1) ∧
 (∀ q, 0 ≤ q → q ≠ g → q ∉ y.ready → aa y q = aa x q) ∧ x.gs.length ≤ y.gs.length ∧ ∀ q : Int, x.gs.length ≤ q → q < y.gs.length → q ∈ y.ready
section
variable {p : cy} {x y z : Wd} {g q k n : Int} {f : List bZ} {i : bZ} {v : Wt}
theorem jL.refl (hr : x.ready = []) : jL g x x := by
 refine ⟨by rw [hr]; exact List.nodup_nil, by rw [hr]; simp, fun q hq => ?_, fun _ _ _ _ => rfl, Nat.le_refl _, fun q a b => by omega⟩
 rw [hr] at hq; cases hq
theorem jL.of (h : Wk x y) (hr : x.ready = []) (hg : At x g 1) : jL g x y := by
 obtain ⟨a1, l, a2, a3, a4, a5⟩ := h
 rw [hr, List.nil_append] at a2
 rw [jL, a2]
 refine ⟨a3, fun hm => (a4 g hm).2.2.1 hg.2.2, fun q hq => ?_, fun q q0 _ hn => a5 q q0 hn, by omega, fun q b c => by omega⟩
 obtain ⟨b1, b2, b3, b4⟩ := a4 q hq
 exact ⟨b1, by omega, fun ha => b3 ha.2.2, b4⟩
theorem jL.RE (h : jL g x y) (h1 : z.ready = y.ready) (h2 : z.gs.length = y.gs.length) (h3 : ∀ q, 0 ≤ q → q ≠ g → aa z q = aa y q) : jL g x z := by
 obtain ⟨a1, a2, a3, a4, a5, a6⟩ := h
 rw [jL, h1, h2]
 refine ⟨a1, a2, fun q hq => ?_, fun q q0 hne hn => by rw [h3 q q0 hne]; exact a4 q q0 hne hn, a5, a6⟩
 have hne : q ≠ g := fun e => a2 (e ▸ hq)
 obtain ⟨b1, b2, b3, b4⟩ := a3 q hq
 exact ⟨b1, b2, b3, by rw [h3 q b1 hne]; exact b4⟩
theorem jL.pre (h : jL g y z) (h2 : y.gs.length = x.gs.length) (h3 : ∀ q, 0 ≤ q → q ≠ g → aa y q = aa x q) : jL g x z := by
 obtain ⟨a1, a2, a3, a4, a5, a6⟩ := h
 refine ⟨a1, a2, fun q hq => ?_, fun q q0 hne hn => by rw [a4 q q0 hne hn, h3 q q0 hne], by omega, fun q a b => a6 q (by omega) b⟩
 have hne : q ≠ g := fun e => a2 (e ▸ hq)
 obtain ⟨b1, b2, b3, b4⟩ := a3 q hq
 exact ⟨b1, b2, fun ha => b3 ⟨ha.1, by rw [h2]; exact ha.2.1, by rw [h3 q b1 hne]; exact ha.2.2⟩, b4⟩
theorem jL.bH (h : jL g x y) (h0 : 0 ≤ g) (hg : g < y.gs.length) : jL g x (y.aW g q n) := h.RE rfl cj fun m m0 hne => oP h0 hg m0 hne
theorem tQ {w : gK} (h0 : 0 ≤ g) (hg : g < x.gs.length) {m : Int} (m0 : 0 ≤ m) (hne : m ≠ g) : aa (x.bp g w) m = aa x m := by
 rw [jm hg h0, if_neg (by omega)]
theorem jL.bp {w : gK} (h : jL g x y) (h0 : 0 ≤ g) (hg : g < y.gs.length) : jL g x (y.bp g w) := h.RE rfl (by simp [Wd.bp]) fun m m0 hne => tQ h0 hg m0 hne
def gQ (p : cy) (g : Int) (x : Wd) : Out Wd → Prop
 | .dg _ y => WV p y ∧ jL g x y
 | .on y => WV p y ∧ jL g x y
 | .fF _ _ => False
theorem gQ.lt {r : Out Wd} (h : gQ p g x r) (hg : At x g 1) : g < r.fin.gs.length := by
 cases r with
 | on y => have := h.2.2.2.2.2.1; have := hg.2.1; show g < y.gs.length; omega
 | dg n y => have := h.2.2.2.2.2.1; have := hg.2.1; show g < y.gs.length; omega
 | fF l y => exact h.elim
theorem oO.AB (h : oO x g) : cD x.av g = 0 ∧ ig x.aC g = 0 ∧ DR x.hl g = 0 :=
 ⟨sW.2 h.1, xN.2 h.2.1, List.count_eq_zero.2 fun hm => by
  obtain ⟨y, hy, e⟩ := List.mem_map.1 hm
  exact h.2.2 y hy e⟩
theorem At.free (hg : At x g 1) (h : WV p x) : oO x g := h.free (by rw [hg.2.2]; decide) (by rw [hg.2.2]; decide)
theorem YK (h : WV p x) (hg : At x g 1) (hi : jY p f i) (h9 : i.op = 9) (hr : x.ready = []) : (aT x g ∧ aR i.b) ∧ gQ p g x (x.call g i) := by
 obtain ⟨_, _, _, _, _, i9, _⟩ := hi
 obtain ⟨a0, a1, b1, c1⟩ := i9 (.inl h9)
 have hz := h.ij hg.1 hg.2.1
 refine ⟨⟨h.aT hg.1 hg.2.1, b1⟩, ?_⟩
 unfold Wd.call
 split
 ·exact ⟨h, jL.refl hr⟩
 ·rename_i hn
  refine ⟨h.bp hg.1 hg.2.1 ⟨by simp, by simp; omega, fun r hr => ?_, hz.wt, hz.st⟩ rfl rfl, (jL.refl hr).bp hg.1 hg.2.1⟩
  rcases List.mem_append.1 hr with hr | hr
  ·exact hz.fr r hr
  ·simp only [List.mem_singleton] at hr; subst hr
   exact ⟨a0, a1, Int.le_refl 0, (by show (0 : Int) ≤ 64; decide), c1⟩
theorem YL (h : WV p x) (hp : eJ p) (hg : At x g 1) (hi : jY p f i) (h20 : i.op = 20) (hr : x.ready = []) : (aT x g ∧ aR i.a ∧ x.Sm) ∧ gQ p g x (x.emit g i) := by
 obtain ⟨_, _, _, _, _, _, i10, _⟩ := hi
 refine ⟨⟨h.aT hg.1 hg.2.1, i10 (.inr (.inr (.inl h20))), h.sm hp (by rw [hr]; decide)⟩, ?_⟩
 unfold Wd.emit
 split
 ·exact ⟨h, jL.refl hr⟩
 ·rename_i hn
  exact ⟨h.congr rfl (fun _ => ⟨rfl, rfl⟩) h.HC rfl rfl rfl (by simp; omega), (jL.refl hr).RE rfl rfl fun _ _ _ => rfl⟩
theorem YM (h : WV p x) (hg : At x g 1) (hi : jY p f i) (KC : i.op = 10) (hr : x.ready = []) : (aT x g ∧ aR i.a ∧ aR (aa x g).top.mF) ∧ gQ p g x (.on (x.back g i)) := by
 obtain ⟨_, _, _, _, _, _, i10, _⟩ := hi
 have hz := h.ij hg.1 hg.2.1
 refine ⟨⟨h.aT hg.1 hg.2.1, i10 (.inl KC), hz.top.2.2.2.2⟩, ?_⟩
 have hf := hg.free h
 unfold Wd.back
 split
 ·rename_i h2
  refine ⟨h.bp hg.1 hg.2.1 ⟨by simp [gK.back]; omega, by have := hz.l2; simp [gK.back]; omega, fun r hr => ?_, hz.wt, hz.st⟩ rfl rfl, (jL.refl hr).bp hg.1 hg.2.1⟩
  rcases List.mem_or_eq_of_mem_set hr with hr | rfl
  ·exact hz.fr r (List.mem_of_mem_take hr)
  ·refine JI.set ?_ _ _
   rw [List.getD_eq_getElem?_getD, List.getElem?_eq_getElem (by omega), Option.getD_some]
   exact hz.fr _ (List.getElem_mem _)
 ·have hd : WV p (x.bp g { aa x g with st := 4 }) := h.OU hg.1 hg.2.1 hf (hz.VC (by decide) (by decide))
  have Z7 : jL g x (x.bp g { aa x g with st := 4 }) := (jL.refl hr).bp hg.1 hg.2.1
  split
  ·exact ⟨hd.congr rfl (fun _ => ⟨rfl, rfl⟩) hd.HC rfl rfl rfl hd.out, Z7.RE rfl rfl fun _ _ _ => rfl⟩
  ·exact ⟨hd, Z7⟩
theorem YN (h : WV p x) (hp : eJ p) (hg : At x g 1) (hf : f ∈ p.funcs) (hi : jY p f i) (h13 : i.op = 13) (hr : x.ready = []) :
  ((aT x g ∧ aR i.b ∧ mI p x i.a (aK x g i.b) ∧ xL x g i (x.put p i.a (aK x g i.b))) ∧ x.Sm) ∧ gQ p g x (x.send p g i) := by
 have hi' := hi
 obtain ⟨_, _, _, _, _, _, _, i13, JL, _⟩ := hi'
 obtain ⟨a0, a1⟩ := i13 (.inl h13)
 have hk : nP x i.a := ⟨a0, by rw [h.ch]; exact a1⟩
 obtain ⟨p1, p2⟩ := h.put (n := aK x g i.b) hp hk
 have zO := h.aT hg.1 hg.2.1
 have hs := h.sm hp (by rw [hr]; decide)
 have hfr := hg.free h
 obtain ⟨c, hc, ec⟩ := EM hk
 have hm := List.mem_of_getElem? hc
 obtain ⟨s1, s2, s3⟩ := oR h hm
 unfold Wd.send
 generalize WM : x.put p i.a (aK x g i.b) = r at p2
 match r, p2 with
 | .dg n y, p2 =>
  exact ⟨⟨⟨zO, JL (.inl h13), p1, trivial⟩, hs⟩, p2.1, jL.of (Wk.same p2.2.1 p2.2.2) hr hg⟩
 | .on (y, true), p2 =>
  exact ⟨⟨⟨zO, JL (.inl h13), p1, trivial⟩, hs⟩, p2.1, jL.of p2.2 hr hg⟩
 | .on (y, false), p2 =>
  have p3 : y = x := p2
  subst p3
  refine ⟨⟨⟨zO, JL (.inl h13), p1, zO, rfl, hk, by rw [ec]; exact ⟨by omega, by omega, by omega⟩⟩, hs⟩, ?_, ?_⟩
  ·have hb := h.block hg hf hi
   have eg : aa (y.block g i) g = { aa y g with st := 2, wt := i } := iE hg.1 hg.2.1
   show WV p ((y.block g i).bg i.a { aX y.av i.a with snd := (aX y.av i.a).snd ++ [⟨g, 0, aK y g i.b⟩] })
   rw [ec]
   refine hb.more (c := c) (w := ⟨g, 0, aK y g i.b⟩) hc (h.buf c hm) (fun v hv => .inl hv) (fun v hv => ?_) (fun q => ?_) (fun _ => ?_) ?_
   ·rcases List.mem_append.1 hv with hv | hv
    ·exact .inl hv
    ·refine .inr ⟨by simpa using hv, ⟨hg.1, by simpa [Wd.block, Wd.bp] using hg.2.1, by rw [eg]⟩, .inl (by rw [eg]; exact h13)⟩
   ·unfold cX
    simp only [List.map_append, List.map_cons, List.map_nil, List.count_append, List.count_cons, List.count_nil]
    by_cases e : q = g
    ·subst e; simp; omega
    ·rw [if_neg e]
     have : (g == q) = false := by simp; exact fun h => e h.symm
     simp [this]
   ·have := hfr.AB
    show cD y.av g + ig y.aC g = 0
    omega
   ·have := hfr.AB
    show cD y.av g < 32
    omega
  ·exact (jL.refl hr).RE rfl (by simp [Wd.block, Wd.OM, Wd.bp, Wd.bg]) fun m m0 hne => by
    show aa (y.bp g _) m = _
    exact tQ hg.1 hg.2.1 m0 hne
 | .fF l y, p2 => exact p2.elim
end
section
variable {p : cy} {x y z : Wd} {g q k n : Int} {f : List bZ} {i : bZ} {v : Wt}
theorem mK (l : List Int) (q g : Int) : (l ++ [g]).count q ≤ l.count q + (if q = g then 1 else 0) := by
 rw [List.count_append, List.count_cons, List.count_nil]
 by_cases e : q = g
 ·subst e; simp
 ·rw [if_neg e]
  have : (g == q) = false := by simp; exact fun h => e h.symm
  simp [this]
theorem YO (h : WV p x) (hp : eJ p) (hg : At x g 1) (hf : f ∈ p.funcs) (hi : jY p f i) (h14 : i.op = 14) (hr : x.ready = []) :
  (y9 x g i ∧ x.Sm) ∧ gQ p g x (.on (x.recv g i)) := by
 have hi' := hi
 obtain ⟨_, _, _, _, _, _, _, i13, JL, i14, _⟩ := hi'
 obtain ⟨a0, a1⟩ := i13 (.inr (.inl h14))
 have hk : nP x i.a := ⟨a0, by rw [h.ch]; exact a1⟩
 obtain ⟨p1, p2, p3, p4⟩ := h.get hp hk
 have zO := h.aT hg.1 hg.2.1
 have hs := h.sm hp (by rw [hr]; decide)
 have hfr := hg.free h
 obtain ⟨c, hc, ec⟩ := EM hk
 have hm := List.mem_of_getElem? hc
 obtain ⟨s1, s2, s3⟩ := oR h hm
 have ek := p3.keep hg.1 hg.2.2
 have el := p3.1
 refine ⟨⟨⟨zO, JL (.inr h14), i14 (.inl h14), p1, p2.aT hg.1 (by rw [el]; exact hg.2.1), by rw [ek], fun e => ?_⟩, hs⟩, ?_⟩
 ·rw [p4 e]
  exact ⟨hk, by rw [ec]; exact ⟨by omega, by omega, by omega⟩⟩
 ·unfold Wd.recv
  have Z7 : jL g x (x.get i.a).1 := jL.of p3 hr hg
  split
  ·have r1 := p2.aW (g := g) (q := i.b) (n := (x.get i.a).2.1) hg.1 (by rw [el]; exact hg.2.1)
   refine ⟨r1.aW hg.1 (by rw [cj, el]; exact hg.2.1), (Z7.bH hg.1 (by rw [el]; exact hg.2.1)).bH hg.1 (by rw [cj, el]; exact hg.2.1)⟩
  ·rename_i e
   rw [p4 (by simpa using e)]
   have hb := h.block hg hf hi
   have eg : aa (x.block g i) g = { aa x g with st := 2, wt := i } := iE hg.1 hg.2.1
   refine ⟨?_, ?_⟩
   ·show WV p ((x.block g i).bg i.a { aX x.av i.a with cH := (aX x.av i.a).cH ++ [⟨g, 0, 0⟩] })
    rw [ec]
    refine hb.more (c := c) (w := ⟨g, 0, 0⟩) hc (h.buf c hm) (fun v hv => ?_) (fun v hv => .inl hv) (fun q => ?_) (fun _ => ?_) ?_
    ·rcases List.mem_append.1 hv with hv | hv
     ·exact .inl hv
     ·exact .inr ⟨by simpa using hv, ⟨hg.1, by simpa [Wd.block, Wd.bp] using hg.2.1, by rw [eg]⟩, .inl (by rw [eg]; exact h14)⟩
    ·unfold cX
     rw [List.map_append, ← List.append_assoc]
     exact mK _ _ _
    ·have := hfr.AB
     show cD x.av g + ig x.aC g = 0
     omega
    ·have := hfr.AB
     show cD x.av g < 32
     omega
   ·exact (jL.refl hr).RE rfl (by simp [Wd.block, Wd.ON, Wd.bp, Wd.bg]) fun m m0 hne => by
     show aa (x.bp g _) m = _
     exact tQ hg.1 hg.2.1 m0 hne
theorem YP (h : WV p x) (hp : eJ p) (hg : At x g 1) (hi : jY p f i) (h15 : i.op = 15) (hr : x.ready = []) :
  (pP p x i ∧ x.Sm) ∧ gQ p g x (x.shut p i) := by
 have hi' := hi
 obtain ⟨_, _, _, _, _, _, _, i13, _⟩ := hi'
 obtain ⟨a0, a1⟩ := i13 (.inr (.inr h15))
 have hk : nP x i.a := ⟨a0, by rw [h.ch]; exact a1⟩
 have hs := h.sm hp (by rw [hr]; decide)
 obtain ⟨c, hc, ec⟩ := EM hk
 have hm := List.mem_of_getElem? hc
 obtain ⟨s1, s2, s3⟩ := oR h hm
 have hb := h.buf c hm
 have hrc := h.cH c hm
 unfold pP Wd.shut
 rw [ec]
 obtain ⟨room, buf, snd, cH, closed⟩ := c
 cases closed with
 | true =>
  refine ⟨⟨⟨hk, by dsimp only at *; omega, fun e => by simp [aQ.close] at e⟩, hs⟩, ?_⟩
  simp only [aQ.close, if_true]
  rw [pV hc]
  exact ⟨h, jL.refl hr⟩
 | false =>
  have GQ : WV p (x.bg i.a ⟨room, buf, [], [], true⟩) := h.less hc hb (fun v hv => by cases hv) (fun v hv => by cases hv) (fun q => by simp [cX])
  have VG := tP hp cH (x.bg i.a ⟨room, buf, [], [], true⟩) GQ (by show x.ready.length + cH.length ≤ 1000000; rw [hr]; dsimp only [List.length_nil] at *; omega) (fun v hv => by
   obtain ⟨a, b⟩ := hrc v hv
   refine ⟨a.1, a.2.1, fun _ => ?_⟩
   rcases b with b | b
   ·refine .inl ⟨b, AR h hc a.1 a.2.2 (by rw [b]; decide) ?_⟩
    have : 0 < List.count v.g (cX ⟨room, buf, snd, cH, false⟩) := List.count_pos_iff.2 (List.mem_append_right _ (List.mem_map.2 ⟨v, hv, rfl⟩))
    show List.count v.g (cX ⟨room, buf, [], [], true⟩) + 1 ≤ _
    simp only [cX, List.map_nil, List.append_nil, List.count_nil] at *
    omega
   ·exact .inr b)
  refine ⟨⟨⟨hk, by dsimp only at *; omega, fun _ _ => ?_⟩, hs⟩, ?_⟩
  ·simp only [aQ.close, Bool.false_eq_true, if_false]
   exact VG.1
  ·simp only [aQ.close, Bool.false_eq_true, if_false]
   rw [if_neg (by decide)]
   split
   ·exact ⟨GQ, (jL.refl hr).RE rfl rfl fun _ _ _ => rfl⟩
   ·exact ⟨VG.2.1, jL.of (Wk.bg.trans VG.2.2) hr hg⟩
theorem VH (h : WV p x) (hp : eJ p) (hg : At x g 1) (hi : jY p f i) (h17 : i.op = 17) (hr : x.ready = []) :
  (aT x g ∧ aR i.a ∧ x.hl.length < 1000000) ∧ gQ p g x (.on (x.sleep g i)) := by
 obtain ⟨_, _, _, _, _, _, i10, _⟩ := hi
 refine ⟨⟨h.aT hg.1 hg.2.1, i10 (.inr (.inl h17)), by have := h.JJ; omega⟩, ?_⟩
 unfold Wd.sleep
 split
 ·have hf := hg.free h
  have hz := h.ij hg.1 hg.2.1
  have h1 := h.OU hg.1 hg.2.1 hf (hz.VC (s := 3) (by decide) (by decide))
  have Z7 : jL g x (x.bp g { aa x g with st := 3 }) := (jL.refl hr).bp hg.1 hg.2.1
  refine ⟨⟨h1.n1, h1.n2, h1.HC, h1.ch, h1.lk, h1.buf, h1.cH, h1.snd, h1.lw, fun w hw => ?_, h1.one, h1.EG, fun q => ?_, h1.out⟩, Z7.RE rfl rfl fun _ _ _ => rfl⟩
  ·have cu := pW.mem_iff.1 hw
   rcases List.mem_append.1 cu with cu | cu
   ·exact h1.hl w cu
   ·simp only [List.mem_singleton] at cu; subst cu
    refine ⟨hg.1, by simpa [Wd.bp] using hg.2.1, ?_⟩
    show (aa (x.bp g { aa x g with st := 3 }) g).st = 3
    rw [iE hg.1 hg.2.1]
  ·show DR (kY x.hl _) q ≤ 1
   unfold DR
   rw [(pW.map aN.id).count_eq, List.map_append, List.map_cons, List.map_nil]
   have a := mK (x.hl.map aN.id) q g
   have b := h.h1 q
   unfold DR at b
   by_cases e : q = g
   ·subst e
    have := hf.AB.2.2
    unfold DR at this
    rw [if_pos rfl] at a
    dsimp only at *
    omega
   ·rw [if_neg e] at a
    dsimp only at *
    omega
 ·exact ⟨h, jL.refl hr⟩
theorem Z8 (hk : GU x k) : ∃ c, x.aC[k.toNat]? = some c ∧ cQ x k = c := by
 obtain ⟨k0, k1⟩ := hk
 obtain ⟨c, hc⟩ := aJ (l := x.aC) (i := k.toNat) (by omega)
 exact ⟨c, hc, by simp [cQ, hc]⟩
theorem WV.Ny (h : WV p x) {c c' : Lk} (hc : x.aC[k.toNat]? = some c) (hr : ∀ v ∈ c'.waits, v ∈ c.waits) (hn : ∀ q, c'.waits.count q ≤ c.waits.count q) : WV p (x.da k c') := by
 have hm : c ∈ x.aC := List.mem_of_getElem? hc
 refine ⟨h.n1, h.n2, h.HC, h.ch, by simpa [Wd.da] using h.lk, h.buf, h.cH, h.snd, fun d hd v hv => ?_, h.hl, fun q q0 hq => ?_, h.EG, h.h1, h.out⟩
 ·rcases nx hd with hd | rfl
  ·exact h.lw d hd v hv
  ·exact h.lw c hm v (hr v hv)
 ·have a := h.one q q0 hq
  have b := nw (fun l : Lk => l.waits.count q) x.aC k.toNat c' c hc
  have := hn q
  show cD x.av q + ig (x.aC.set k.toNat c') q ≤ 1
  unfold ig at *
  omega
theorem YQ (h : WV p x) (hp : eJ p) (hg : At x g 1) (hf : f ∈ p.funcs) (hi : jY p f i) (RD : i.op = 18) (hr : x.ready = []) :
  (aT x g ∧ GU x i.a ∧ x.Sm) ∧ gQ p g x (.on (x.lock g i)) := by
 have hi' := hi
 obtain ⟨_, _, _, _, _, _, _, _, _, _, _, i18, _⟩ := hi'
 obtain ⟨a0, a1⟩ := i18 (.inl RD)
 have hk : GU x i.a := ⟨a0, by rw [h.lk]; exact a1⟩
 refine ⟨⟨h.aT hg.1 hg.2.1, hk, h.sm hp (by rw [hr]; decide)⟩, ?_⟩
 obtain ⟨c, hc, ec⟩ := Z8 hk
 have hm := List.mem_of_getElem? hc
 have hfr := hg.free h
 unfold Wd.lock
 rw [ec]
 unfold Lk.take
 split
 ·dsimp only
  rw [if_pos rfl]
  exact ⟨h.Ny hc (fun v hv => hv) (fun q => Nat.le_refl _), (jL.refl hr).RE rfl rfl fun _ _ _ => rfl⟩
 ·dsimp only
  rw [if_neg (by decide)]
  have hb := h.block hg hf hi
  have eg : aa (x.block g i) g = { aa x g with st := 2, wt := i } := iE hg.1 hg.2.1
  refine ⟨?_, ?_⟩
  ·show WV p ((x.block g i).da i.a ⟨c.owner, c.waits ++ [g]⟩)
   refine ⟨hb.n1, hb.n2, hb.HC, hb.ch, by simpa [Wd.da] using hb.lk, hb.buf, hb.cH, hb.snd, fun d hd v hv => ?_, hb.hl, fun q q0 hq => ?_, hb.EG, hb.h1, hb.out⟩
   ·rcases nx hd with hd | rfl
    ·exact hb.lw d hd v hv
    ·rcases List.mem_append.1 hv with hv | hv
     ·exact hb.lw c hm v hv
     ·simp only [List.mem_singleton] at hv; subst hv
      exact ⟨⟨hg.1, by simpa [Wd.da, Wd.block, Wd.bp] using hg.2.1, by show (aa (x.block v i) v).st = 2; rw [eg]⟩, by show (aa (x.block v i) v).wt.op = 18; rw [eg]; exact RD⟩
   ·have a := hb.one q q0 hq
    have b := nw (fun l : Lk => l.waits.count q) x.aC i.a.toNat ⟨c.owner, c.waits ++ [g]⟩ c hc
    have d := mK c.waits q g
    show cD x.av q + ig (x.aC.set i.a.toNat _) q ≤ 1
    have a' : cD x.av q + ig x.aC q ≤ 1 := a
    by_cases e : q = g
    ·subst e
     have := hfr.AB
     rw [if_pos rfl] at d
     unfold ig at *
     dsimp only at *
     omega
    ·rw [if_neg e] at d
     unfold ig at *
     dsimp only at *
     omega
  ·exact (jL.refl hr).RE rfl (by simp [Wd.block, Wd.da, Wd.bp]) fun m m0 hne => by
    show aa (x.bp g _) m = _
    exact tQ hg.1 hg.2.1 m0 hne
theorem QX (h : WV p x) (hp : eJ p) (hg : At x g 1) (hi : jY p f i) (h19 : i.op = 19) (hr : x.ready = []) :
  (oM x g i ∧ x.Sm) ∧ gQ p g x (x.unlock g i) := by
 have hi' := hi
 obtain ⟨_, _, _, _, _, _, _, _, _, _, _, i18, _⟩ := hi'
 obtain ⟨a0, a1⟩ := i18 (.inr h19)
 have hk : GU x i.a := ⟨a0, by rw [h.lk]; exact a1⟩
 have hs := h.sm hp (by rw [hr]; decide)
 obtain ⟨c, hc, ec⟩ := Z8 hk
 have hm := List.mem_of_getElem? hc
 have hw := h.lw c hm
 unfold oM Wd.unlock
 rw [ec]
 unfold Lk.gU
 split
 ·refine ⟨⟨⟨hk, fun e => absurd rfl e⟩, hs⟩, ?_⟩
  dsimp only
  rw [if_pos (by decide)]
  have e : x.da i.a c = x := by unfold Wd.da; rw [gf _ _ _ hc]
  rw [e]
  exact ⟨h, jL.refl hr⟩
 ·obtain ⟨o, ws⟩ := c
  cases ws with
  | nil =>
   refine ⟨⟨⟨hk, fun e => absurd rfl e⟩, hs⟩, ?_⟩
   split
   ·rename_i e; exact absurd rfl e
   ·split
    ·rename_i e; exact absurd rfl e
    ·exact ⟨h.Ny (c' := ⟨-1, []⟩) hc (fun v hv => by cases hv) (fun q => by simp), (jL.refl hr).RE rfl rfl fun _ _ _ => rfl⟩
  | cons w ws =>
   obtain ⟨a, b⟩ := hw w (by simp)
   refine ⟨⟨⟨hk, fun _ => ⟨a.1, a.2.1⟩⟩, hs⟩, ?_⟩
   have hne : w ≠ -1 := by have := a.1; omega
   have hl : WV p (x.da i.a ⟨w, ws⟩) := h.Ny hc (fun v hv => List.mem_cons_of_mem _ hv) (fun q => by simp only [List.count_cons]; omega)
   have hfr : oO (x.da i.a ⟨w, ws⟩) w := by
    have o1 := h.one w a.1 (by rw [b]; decide)
    have s := nw (fun l : Lk => l.waits.count w) x.aC i.a.toNat ⟨w, ws⟩ ⟨o, w :: ws⟩ hc
    simp only [List.count_cons, beq_self_eq_true, if_true] at s
    have e1 : ig (x.aC.set i.a.toNat ⟨w, ws⟩) w = 0 := by unfold ig at *; omega
    have e2 : cD x.av w = 0 := by
     have := CA (fun l : Lk => l.waits.count w) x.aC ⟨o, w :: ws⟩ hm
     simp only [List.count_cons, beq_self_eq_true, if_true] at this
     unfold ig at *; omega
    refine ⟨sW.1 e2, xN.1 e1, fun y hy e => ?_⟩
    have := (h.hl y hy).2.2
    rw [e, a.2.2] at this
    cases this
   have hres : gQ p g x (.on ((x.da i.a ⟨w, ws⟩).eV w)) := ⟨hl.eV a.1 a.2.1 hfr, jL.of (Wk.trans (Wk.same rfl rfl) (Wk.eV (x := x.da i.a ⟨w, ws⟩) a.1 a.2.1 (by show (aa x w).st ≠ 1; rw [a.2.2]; decide))) hr hg⟩
   split
   ·rename_i e; exact absurd rfl e
   ·split
    ·exact hres
    ·rename_i e; exact absurd hne e
end
section
variable {p : cy} {x y z : Wd} {g q k n : Int} {f : List bZ} {i : bZ} {v : Wt}
theorem mj {w : gK} (h0 : 0 ≤ q) (hq : q < x.gs.length) : aa { x with gs := x.gs ++ [w] } q = aa x q := by
 unfold aa
 dsimp only
 rw [List.getD_eq_getElem?_getD, List.getD_eq_getElem?_getD, List.getElem?_append_left (by omega)]
theorem EN {w : gK} : aa { x with gs := x.gs ++ [w] } (x.gs.length : Int) = w := by
 unfold aa
 dsimp only
 rw [Int.toNat_natCast, List.getD_eq_getElem?_getD, List.getElem?_append_right (Nat.le_refl _)]
 simp
theorem WV.spawn (h : WV p x) (hn : x.gs.length < 100) {w : gK} (hw : qJ p w) : WV p { x with gs := x.gs ++ [w] } := by
 have at_ : ∀ q s, At x q s → At { x with gs := x.gs ++ [w] } q s := fun q s ha => ⟨ha.1, by have := ha.2.1; simp; omega, by rw [mj ha.1 ha.2.1]; exact ha.2.2⟩
 refine ⟨by simp, by simp; omega, fun z hz => ?_, h.ch, h.lk, h.buf, fun c hc v hv => ?_, fun c hc v hv => ?_, fun l hl q hq => ?_, fun z hz => at_ _ _ (h.hl z hz), fun q q0 hq => ?_, h.EG, h.h1, h.out⟩
 ·rcases List.mem_append.1 hz with hz | hz
  ·exact h.HC z hz
  ·simp only [List.mem_singleton] at hz; subst hz; exact hw
 ·obtain ⟨a, b⟩ := h.cH c hc v hv
  rw [mj a.1 a.2.1]
  exact ⟨at_ _ _ a, b⟩
 ·obtain ⟨a, b⟩ := h.snd c hc v hv
  rw [mj a.1 a.2.1]
  exact ⟨at_ _ _ a, b⟩
 ·obtain ⟨a, b⟩ := h.lw l hl q hq
  rw [mj a.1 a.2.1]
  exact ⟨at_ _ _ a, b⟩
 ·by_cases hlt : q < x.gs.length
  ·rw [mj q0 hlt] at hq
   exact h.one q q0 hq
  ·refine h.one q q0 ?_
   unfold aa
   rw [List.getD_eq_getElem?_getD, List.getElem?_eq_none (by omega)]
   decide
theorem VI {w : gK} : Wd.eV { x with gs := x.gs ++ [{ w with st := 0 }] } (x.gs.length : Int) = { x with gs := x.gs ++ [{ w with st := 1 }], ready := x.ready ++ [(x.gs.length : Int)] } := by
 unfold Wd.eV Wd.bp
 rw [EN]
 simp [List.set_append_right]
theorem VJ (h : WV p x) (hp : eJ p) (hg : At x g 1) (hi : jY p f i) (h11 : i.op = 11) (hr : x.ready = []) : (aT x g ∧ aR i.b ∧ aR i.c ∧ x.Sm) ∧ gQ p g x (x.spawn g i) := by
 obtain ⟨_, _, _, _, _, i9, _⟩ := hi
 obtain ⟨a0, a1, b1, c1⟩ := i9 (.inr h11)
 refine ⟨⟨h.aT hg.1 hg.2.1, b1, c1, h.sm hp (by rw [hr]; decide)⟩, ?_⟩
 unfold Wd.spawn
 split
 ·exact ⟨h, jL.refl hr⟩
 ·rename_i hn
  rw [VI (w := ⟨0, [eH.begin i.a (aK x g i.b)], .zero⟩)]
  have hw : qJ p ⟨1, [eH.begin i.a (aK x g i.b)], .zero⟩ := ⟨by simp, by simp, fun r hr => by
   simp only [List.mem_singleton] at hr; subst hr
   exact ⟨a0, a1, Int.le_refl 0, (by show (0 : Int) ≤ 64; decide), by show aR 0; decide⟩, (fun e => by cases e), by show (1 : Int) ≤ 1 ∧ (1 : Int) ≤ 4; decide⟩
  have h1 := (h.spawn (by omega) hw).ready (r := x.ready ++ [(x.gs.length : Int)])
  have hlen : g < (x.gs ++ [(⟨1, [eH.begin i.a (aK x g i.b)], .zero⟩ : gK)]).length := by have := hg.2.1; simp; omega
  refine ⟨h1.aW hg.1 hlen, ?_⟩
  have Z7 : jL g x { x with gs := x.gs ++ [⟨1, [eH.begin i.a (aK x g i.b)], .zero⟩], ready := x.ready ++ [(x.gs.length : Int)] } := by
   rw [jL, hr]
   simp only [List.nil_append, List.length_append, List.length_cons, List.length_nil]
   refine ⟨by simp, by have := hg.2.1; simp; omega, fun q hq => ?_, fun q q0 _ hn => ?_, by omega, fun q a b => by simp; omega⟩
   ·simp only [List.mem_singleton] at hq; subst hq
    exact ⟨by omega, by omega, fun ha => by have := ha.2.1; omega, by show (aa { x with gs := x.gs ++ [_] } _).st = 1; rw [EN]⟩
   ·show aa { x with gs := x.gs ++ [_] } q = aa x q
    by_cases hlt : q < x.gs.length
    ·exact mj q0 hlt
    ·simp only [List.mem_singleton] at hn
     unfold aa
     dsimp only
     rw [List.getD_eq_getElem?_getD, List.getD_eq_getElem?_getD, List.getElem?_eq_none (by simp; omega), List.getElem?_eq_none (by omega)]
  exact Z7.bH hg.1 hlen
theorem OW (h : WV p x) (hg : At x g 2) (mh : (aa x g).wt.op = 16) (hf : oO x g) {ei : List Int} {cases : List nh} (hc : ∀ c ∈ cases, c.Ok x.av.length) (hb : (cases.length : Int) ≤ (aa x g).wt.b) (h32 : cases.length ≤ 32) :
  ∀ j, j ≤ cases.length → WV p { x with av := dm g ei cases x.av j } ∧ cD (dm g ei cases x.av j) g ≤ j
 | 0, _ => ⟨h, by show cD x.av g ≤ 0; have := hf.AB; omega⟩
 | j + 1, hj => by
  obtain ⟨ih, ic⟩ := OW h hg mh hf (ei := ei) hc hb h32 j (by omega)
  obtain ⟨c, wQ⟩ := aJ (l := cases) (i := j) (by omega)
  have ok := hc c (List.mem_of_getElem? wQ)
  unfold dm
  rw [wQ]
  dsimp only
  unfold jb
  generalize hcs : dm g ei cases x.av j = cs at ih ic
  have hlen : cs.length = x.av.length := by
   have a := ih.ch
   have b := h.ch
   dsimp only at a
   omega
  have key : ∀ d : aQ, (c.way = 0 ∨ c.way = 1) → aX cs c.ch = d → ∀ d' : aQ, d'.buf = d.buf → d'.room = d.room →
    ((∀ v ∈ d'.cH, v ∈ d.cH ∨ v = ⟨g, j, 0⟩) ∧ d'.snd = d.snd ∨ (∀ v ∈ d'.snd, v ∈ d.snd ∨ v = ⟨g, j, ei.getD c.bH.toNat 0⟩) ∧ d'.cH = d.cH) →
    (∀ q, (cX d').count q ≤ (cX d).count q + (if q = g then 1 else 0)) →
    WV p { x with av := cs.set c.ch.toNat d' } ∧ cD (cs.set c.ch.toNat d') g ≤ j + 1 := by
   intro d VK hd d' e1 e2 e3 hn
   obtain ⟨k0, k1, _⟩ := ok.2.2 (by rcases VK with e | e <;> rw [e] <;> decide)
   obtain ⟨d2, JM⟩ := aJ (l := cs) (i := c.ch.toNat) (by omega)
   have : d2 = d := by rw [← hd]; simp [aX, JM]
   subst this
   have hm : d2 ∈ cs := List.mem_of_getElem? JM
   have hbuf := ih.buf d2 hm
   refine ⟨?_, ?_⟩
   ·rcases e3 with ⟨e3, e4⟩ | ⟨e3, e4⟩
    ·exact ih.more (k := c.ch) (w := ⟨g, j, 0⟩) JM (by rw [e1, e2]; exact hbuf) (fun v hv => by
      rcases e3 v hv with e | e
      ·exact .inl e
      ·exact .inr ⟨e, hg, .inr ⟨mh, by dsimp only; omega, by dsimp only; show (j : Int) < (aa x g).wt.b; omega⟩⟩) (fun v hv => .inl (by rw [← e4]; exact hv)) hn (fun e => absurd mh e) (by show cD cs g < 32; omega)
    ·exact ih.more (k := c.ch) (w := ⟨g, j, ei.getD c.bH.toNat 0⟩) JM (by rw [e1, e2]; exact hbuf) (fun v hv => .inl (by rw [← e4]; exact hv)) (fun v hv => by
      rcases e3 v hv with e | e
      ·exact .inl e
      ·exact .inr ⟨e, hg, .inr ⟨mh, by dsimp only; omega, by dsimp only; show (j : Int) < (aa x g).wt.b; omega⟩⟩) hn (fun e => absurd mh e) (by show cD cs g < 32; omega)
   ·have a := nw (fun c : aQ => (cX c).count g) cs c.ch.toNat d' d2 JM
    have b := hn g
    rw [if_pos rfl] at b
    unfold cD at *
    omega
  split
  ·rename_i hw
   refine key _ (.inl hw) rfl _ rfl rfl (.inl ⟨fun v hv => ?_, rfl⟩) (fun q => ?_)
   ·rcases List.mem_append.1 hv with hv | hv
    ·exact .inl hv
    ·exact .inr (by simpa using hv)
   ·unfold cX
    rw [List.map_append, ← List.append_assoc]
    exact mK _ _ _
  ·split
   ·rename_i hw
    refine key _ (.inr hw) rfl _ rfl rfl (.inr ⟨fun v hv => ?_, rfl⟩) (fun q => ?_)
    ·rcases List.mem_append.1 hv with hv | hv
     ·exact .inl hv
     ·exact .inr (by simpa using hv)
    ·unfold cX
     have := mK ((aX cs c.ch).snd.map Wt.g) q g
     simp only [List.map_append, List.map_cons, List.map_nil, List.count_append] at *
     omega
   ·exact ⟨ih, by omega⟩
end
section
variable {p : cy} {x y z : Wd} {g q k n : Int} {f : List bZ} {i : bZ} {v : Wt} {d : iZ}
theorem qJ.YR {w : gK} (h : qJ p w) (sS : w.top.pc + 1 ≤ 64) : qJ p (w.bW w.top.next) :=
 h.bW ⟨h.top.1, h.top.2.1, by have := h.top.2.2.1; show 0 ≤ w.top.pc + 1; omega, sS, h.top.2.2.2.2⟩
theorem WV.next (h : WV p x) (hg : At x g 1) (sS : (aa x g).top.pc + 1 ≤ 64) : WV p (x.next g) ∧ At (x.next g) g 1 ∧ (x.next g).gs.length = x.gs.length ∧ (∀ q, 0 ≤ q → q ≠ g → aa (x.next g) q = aa x q) ∧ (aa (x.next g) g).fs.length = (aa x g).fs.length := by
 have hz := (h.ij hg.1 hg.2.1).YR sS
 have e : aa (x.next g) g = (aa x g).bW (aa x g).top.next := iE hg.1 hg.2.1
 refine ⟨h.bp hg.1 hg.2.1 hz rfl rfl, ⟨hg.1, by simpa [Wd.next, Wd.bp] using hg.2.1, by rw [e]; exact hg.2.2⟩, by simp [Wd.next, Wd.bp], fun q q0 hne => tQ hg.1 hg.2.1 q0 hne, by rw [e]; simp [gK.bW]⟩
theorem oS {c : nh} (h : c ∈ aB p i) : c ∈ p.cases := List.mem_of_mem_drop (List.mem_of_mem_take h)
theorem zQ {cases : List nh} {cs : List aQ} (h : k ∈ enabled cases cs) : ∃ (j : Nat) (c : nh), k = (j : Int) ∧ j < cases.length ∧ cases[j]? = some c ∧ can cs c = true := by
 unfold enabled z9 at h
 obtain ⟨j, hj, rfl⟩ := List.mem_map.1 h
 obtain ⟨h1, h2⟩ := List.mem_filter.1 hj
 rw [List.mem_range] at h1
 obtain ⟨c, hc⟩ := aJ (l := cases) (i := j) (by omega)
 unfold OA at h2
 rw [hc] at h2
 exact ⟨j, c, rfl, h1, hc, h2⟩
theorem QY (h : WV p x) (hp : eJ p) (hg : At x g 1) (hf : f ∈ p.funcs) (hi : jY p f i) (mh : i.op = 16) (hr : x.ready = []) (sS : (aa x g).top.pc + 1 ≤ 64)
  (hd : ∀ v, d = .num v → enabled (aB p i) x.av ≠ [] → 0 ≤ v ∧ v < (enabled (aB p i) x.av).length) :
  oN p x g i d = true ∧ (gQ p g x (x.choose p g i d) ∨ ∃ l, d = .fF l ∧ x.choose p g i d = .fF l x) := by
 have hi' := hi
 obtain ⟨_, _, _, _, _, _, _, _, _, i14, i16, _⟩ := hi'
 have hc := i14 (.inr mh)
 obtain ⟨a0, b1, ab⟩ := i16 mh
 have hcs := hp.cs
 have zO := h.aT hg.1 hg.2.1
 have hs := h.sm hp (by rw [hr]; decide)
 obtain ⟨n1, n2, n3, n4, n5⟩ := h.next hg sS
 have YD := (h.ij hg.1 hg.2.1).top.2.2.1
 have GQ : (aB p i).length = i.b.toNat := by
  unfold aB
  rw [List.length_take, List.length_drop]; omega
 have hcok : ∀ c ∈ aB p i, c.Ok x.av.length := fun c hc => by rw [h.ch]; exact (hp.cas c (oS hc)).1
 have hne1 : (x.next g).av = x.av := rfl
 have Z9 : ∀ k, k ∈ enabled (aB p i) x.av → Cy p x g i k ∧ gQ p g x (x.kX p g i k) := by
  intro k hk
  obtain ⟨j, c, rfl, hj, wQ, hcan⟩ := zQ hk
  have hm : c ∈ aB p i := List.mem_of_getElem? wQ
  have hrg := (hp.cas c (oS hm)).2
  have hok := hcok c hm
  have ec : (aB p i).getD (j : Int).toNat ⟨0, 0, 0⟩ = c := by rw [Int.toNat_natCast, List.getD_eq_getElem?_getD, wQ]; rfl
  have VK : c.way = 0 ∨ c.way = 1 := by
   unfold can at hcan
   split at hcan
   ·rename_i e; exact .inl e
   ·split at hcan
    ·rename_i e; exact .inr e
    ·cases hcan
  obtain ⟨k0, k1, _⟩ := hok.2.2 (by rcases VK with e | e <;> rw [e] <;> decide)
  have hk1 : nP (x.next g) c.ch := ⟨k0, k1⟩
  unfold Cy Wd.kX
  rw [ec]
  dsimp only
  by_cases hw : c.way = 1
  ·rw [if_pos hw, if_pos hw]
   obtain ⟨p1, p2⟩ := n1.put (n := aK (x.next g) g c.bH) hp hk1
   generalize (x.next g).put p c.ch (aK (x.next g) g c.bH) = r at p2
   match r, p2 with
   | .dg n y, p2 => exact ⟨⟨by omega, by omega, hrg, p1, trivial⟩, p2.1, (jL.of (Wk.same p2.2.1 p2.2.2) hr n2).pre n3 n4⟩
   | .on (y, true), p2 =>
    have ek := p2.2.keep hg.1 n2.2.2
    have el : g < y.gs.length := by rw [p2.2.1, n3]; exact hg.2.1
    exact ⟨⟨by omega, by omega, hrg, p1, p2.1.aT hg.1 el, by rw [ek, n5]⟩, p2.1.aW hg.1 el, ((jL.of p2.2 hr n2).pre n3 n4).bH hg.1 el⟩
   | .on (y, false), p2 =>
    have p3 : y = x.next g := p2
    subst p3
    have el : g < (x.next g).gs.length := by rw [n3]; exact hg.2.1
    exact ⟨⟨by omega, by omega, hrg, p1, n1.aT hg.1 el, n5⟩, n1.aW hg.1 el, ((jL.refl (x := x.next g) hr).pre n3 n4).bH hg.1 el⟩
   | .fF l y, p2 => exact p2.elim
  ·rw [if_neg hw, if_neg hw]
   obtain ⟨p1, p2, p3, _⟩ := n1.get hp hk1
   have ek := p3.keep hg.1 n2.2.2
   have el : g < ((x.next g).get c.ch).1.gs.length := by rw [p3.1, n3]; exact hg.2.1
   have r1 := p2.aW (g := g) (q := c.bH) (n := ((x.next g).get c.ch).2.1) hg.1 el
   exact ⟨⟨by omega, by omega, hrg, p1, p2.aT hg.1 el, by rw [ek, n5]⟩, r1.aW hg.1 (by rw [cj]; exact el), (((jL.of p3 hr n2).pre n3 n4).bH hg.1 el).bH hg.1 (by rw [cj]; exact el)⟩
 refine ⟨?_, ?_⟩
 ·unfold oN
  rw [Bool.and_eq_true]
  refine ⟨decide_eq_true ⟨zO, ⟨a0, by omega, ab, by omega⟩, hc, hs, by omega, YD, hcok⟩, ?_⟩
  cases d with
  | fF l => rfl
  | num v =>
   dsimp only
   cases he : enabled (aB p i) x.av with
   | nil => rfl
   | cons q t =>
    rw [List.isEmpty_cons, Bool.false_or]
    obtain ⟨v0, v1⟩ := hd v rfl (by rw [he]; simp)
    rw [he] at v1
    refine decide_eq_true ⟨v0, v1, (Z9 _ ?_).1⟩
    rw [he, List.getD_eq_getElem?_getD, List.getElem?_eq_getElem (by omega), Option.getD_some]
    exact List.getElem_mem _
 ·unfold Wd.choose
  split
  ·refine .inl ?_
   unfold Wd.kF
   dsimp only
   split
   ·exact ⟨n1.aW hg.1 (by rw [n3]; exact hg.2.1), ((jL.refl (x := x.next g) hr).pre n3 n4).bH hg.1 (by rw [n3]; exact hg.2.1)⟩
   ·have hb := n1.block n2 hf hi
    have eg : aa ((x.next g).block g i) g = { aa (x.next g) g with st := 2, wt := i } := iE hg.1 (by rw [n3]; exact hg.2.1)
    have hfr := n2.free n1
    have hw := (OW (x := (x.next g).block g i) hb ⟨hg.1, by simpa [Wd.block, Wd.bp, n3] using hg.2.1, by rw [eg]⟩ (by rw [eg]; exact mh) hfr (ei := sU (aa (x.next g) g).top) (cases := aB p i) hcok (by rw [eg, GQ]; show ((i.b.toNat : Nat) : Int) ≤ i.b; omega) (by omega) (aB p i).length (Nat.le_refl _)).1
    refine ⟨hw, ((jL.refl (x := x.next g) hr).pre n3 n4).RE rfl (by simp [Wd.block, Wd.bp]) fun m m0 hne => ?_⟩
    show aa ((x.next g).bp g _) m = _
    exact tQ hg.1 (by rw [n3]; exact hg.2.1) m0 hne
  ·rename_i hne
   cases d with
   | num v =>
    refine .inl (Z9 _ ?_).2
    obtain ⟨v0, v1⟩ := hd v rfl hne
    rw [List.getD_eq_getElem?_getD, List.getElem?_eq_getElem (by omega), Option.getD_some]
    exact List.getElem_mem _
   | fF l => exact .inr ⟨l, rfl, rfl⟩
theorem JN (h : WV p x) (hp : eJ p) (h0 : 0 ≤ g) (hd : ∀ v kd n, d = .num v → asks p { x with ready := [] } g = some (kd, n) → 0 ≤ v ∧ v < n) :
  ∃ r rest, lK p x g d = some (r, rest) ∧ (gQ p g { x with ready := [] } r ∧ (iI { x with ready := [] } g ∨ r = .on { x with ready := [] } ∧ rest = true) ∨ ∃ l, d = .fF l ∧ r = .fF l { x with ready := [] } ∧ rest = false ∧ iI { x with ready := [] } g ∧ asks p { x with ready := [] } g ≠ none) := by
 have h := h.ready (r := [])
 generalize hx : ({ x with ready := [] } : Wd) = x' at h hd
 have hr : x'.ready = [] := by rw [← hx]
 unfold lK
 rw [hx]
 dsimp only
 split
 ·rename_i oX
  have hg : At x' g 1 := ⟨oX.1, oX.2.1, oX.2.2.2⟩
  have hz := h.ij hg.1 hg.2.1
  obtain ⟨t1, t2, t3, t4, t5⟩ := hz.top
  rw [if_pos ⟨h.aT hg.1 hg.2.1, t1, t3, by omega⟩]
  obtain ⟨code, fC⟩ := aJ (l := p.funcs) (i := (aa x' g).top.fn.toNat) (by omega)
  rw [fC]
  dsimp only
  have hf : code ∈ p.funcs := List.mem_of_getElem? fC
  obtain ⟨c1, c2, c3⟩ := hp.code code hf
  cases gL : code[(aa x' g).top.pc.toNat]? with
  | none => exact ⟨_, _, rfl, .inl ⟨⟨h, jL.refl hr⟩, .inl oX⟩⟩
  | some i =>
   dsimp only
   have hi : jY p code i := c3 i (List.mem_of_getElem? gL)
   have hi' := hi
   obtain ⟨o0, o1, o2, o7, o8, o9, o10, o13, o13b, o14, o16, o18, o21⟩ := hi'
   have ZA := (List.getElem?_eq_some_iff.1 gL).1
   have sS : (aa x' g).top.pc + 1 ≤ 64 := by omega
   obtain ⟨n1, n2, n3, n4, n5⟩ := h.next hg sS
   have Al : (x'.next g).ready = [] := hr
   have pT : asks p x' g = if i.op = 21 then some (4, i.b) else if i.op = 16 then (if enabled (aB p i) x'.av = [] then none else some (3, (enabled (aB p i) x'.av).length)) else none := by
    unfold asks kq
    rw [if_pos oX, fC]
    dsimp only
    rw [gL]
   have fin : ∀ {r : Out Wd}, gQ p g (x'.next g) r → gQ p g x' r := by
    intro r hres
    cases r with
    | on y => exact ⟨hres.1, hres.2.pre n3 n4⟩
    | dg n y => exact ⟨hres.1, hres.2.pre n3 n4⟩
    | fF l y => exact hres.elim
   split
   ·rename_i h8
    try rw [if_pos o2]
    refine ⟨_, _, rfl, .inl ⟨⟨h.bp hg.1 hg.2.1 (hz.bW ?_) rfl rfl, (jL.refl hr).bp hg.1 hg.2.1⟩, .inl oX⟩⟩
    unfold eH.pure
    have base : JI p (aa x' g).top.next := ⟨t1, t2, by show 0 ≤ (aa x' g).top.pc + 1; omega, sS, t5⟩
    split; exact base
    split; exact base.set _ _
    split; exact base.set _ _
    split; exact base.set _ _
    split; exact base.set _ _
    split; exact base.set _ _
    split; exact base.set _ _
    split
    ·rename_i e
     exact ⟨t1, t2, (o7 e).1, by have := (o7 e).2; show i.a ≤ 64; omega, t5⟩
    ·split
     ·have := o8 (by omega)
      exact ⟨t1, t2, this.1, by show i.b ≤ 64; omega, t5⟩
     ·exact base
   ·rename_i h8
    split
    ·rename_i mh
     have hw := QY (d := d) h hp hg hf hi mh hr sS (fun v hv hne => by
      refine hd v 3 _ hv ?_
      rw [pT, if_neg (by omega), if_pos mh, if_neg hne])
     rw [if_pos hw.1]
     rcases hw.2 with cu | ⟨l, K9, cu⟩
     ·rw [if_pos (cu.lt hg)]
      exact ⟨_, _, rfl, .inl ⟨cu, .inl oX⟩⟩
     ·rw [cu, if_pos (show g < (Out.fin (.fF l x')).gs.length from hg.2.1)]
      refine ⟨_, _, rfl, .inr ⟨l, K9, rfl, rfl, oX, ?_⟩⟩
      rw [pT, if_neg (by omega), if_pos mh]
      split
      ·rename_i e
       unfold Wd.choose at cu
       rw [if_pos e] at cu
       cases cu
      ·simp
    ·rename_i mh
     split
     ·rename_i RB
      rw [if_pos (o10 (.inr (.inr (.inr RB))))]
      cases d with
      | num v =>
       have hl : g < (x'.next g).gs.length := by rw [n3]; exact hg.2.1
       have hres : gQ p g x' (x'.rand g i (.num v)) := ⟨n1.aW hg.1 hl, ((jL.refl (x := x'.next g) hr).pre n3 n4).bH hg.1 hl⟩
       rw [if_pos (hres.lt hg)]
       exact ⟨_, _, rfl, .inl ⟨hres, .inl oX⟩⟩
      | fF l =>
       rw [if_pos (show g < (Out.fin (x'.rand g i (.fF l))).gs.length from hg.2.1)]
       exact ⟨_, _, rfl, .inr ⟨l, rfl, rfl, rfl, oX, by rw [pT, if_pos RB]; simp⟩⟩
     ·rename_i RB
      have go : ∀ r, j9 p (x'.next g) g i = some r → gQ p g (x'.next g) r → ∃ r rest, (match j9 p (x'.next g) g i with
        | none => none
        | some r => if g < r.fin.gs.length then some (r, Np i.op r) else none) = some (r, rest) ∧ (gQ p g x' r ∧ (iI x' g ∨ r = .on x' ∧ rest = true) ∨ ∃ l, d = .fF l ∧ r = .fF l x' ∧ rest = false ∧ iI x' g ∧ asks p x' g ≠ none) := by
       intro r Ey hres
       rw [Ey]
       dsimp only
       rw [if_pos (hres.lt n2)]
       exact ⟨_, _, rfl, .inl ⟨fin hres, .inl oX⟩⟩
      have hop : i.op = 9 ∨ i.op = 10 ∨ i.op = 11 ∨ i.op = 12 ∨ i.op = 13 ∨ i.op = 14 ∨ i.op = 15 ∨ i.op = 17 ∨ i.op = 18 ∨ i.op = 19 ∨ i.op = 20 ∨ i.op = 22 := by omega
      rcases hop with e | e | e | e | e | e | e | e | e | e | e | e
      ·have w := YK n1 n2 hi e Al
       refine go _ ?_ w.2
       unfold j9
       rw [e]; simp only [Int.reduceEq, if_false, if_true]
       rw [if_pos w.1]
      ·have w := YM n1 n2 hi e Al
       refine go _ ?_ w.2
       unfold j9
       rw [e]; simp only [if_true]
       rw [if_pos w.1]
      ·have w := VJ n1 hp n2 hi e Al
       refine go _ ?_ w.2
       unfold j9
       rw [e]; simp only [Int.reduceEq, if_false, if_true]
       rw [if_pos w.1]
      ·refine go (.on (x'.next g)) ?_ ⟨n1, jL.refl Al⟩
       unfold j9
       rw [e]; simp only [Int.reduceEq, if_false, if_true]
      ·have w := YN n1 hp n2 hf hi e Al
       refine go _ ?_ w.2
       unfold j9
       rw [e]; simp only [Int.reduceEq, if_false, if_true]
       rw [if_pos w.1]
      ·have w := YO n1 hp n2 hf hi e Al
       refine go _ ?_ w.2
       unfold j9
       rw [e]; simp only [Int.reduceEq, if_false, if_true]
       rw [if_pos w.1]
      ·have w := YP n1 hp n2 hi e Al
       refine go _ ?_ w.2
       unfold j9
       rw [e]; simp only [Int.reduceEq, if_false, if_true]
       rw [if_pos w.1]
      ·have w := VH n1 hp n2 hi e Al
       refine go _ ?_ w.2
       unfold j9
       rw [e]; simp only [Int.reduceEq, if_false, if_true]
       rw [if_pos w.1]
      ·have w := YQ n1 hp n2 hf hi e Al
       refine go _ ?_ w.2
       unfold j9
       rw [e]; simp only [Int.reduceEq, if_false, if_true]
       rw [if_pos w.1]
      ·have w := QX n1 hp n2 hi e Al
       refine go _ ?_ w.2
       unfold j9
       rw [e]; simp only [Int.reduceEq, if_false, if_true]
       rw [if_pos w.1]
      ·have w := YL n1 hp n2 hi e Al
       refine go _ ?_ w.2
       unfold j9
       rw [e]; simp only [Int.reduceEq, if_false, if_true]
       rw [if_pos w.1]
      ·refine go (.dg i.a (x'.next g)) ?_ ⟨n1, jL.refl Al⟩
       unfold j9
       rw [e]; simp only [Int.reduceEq, if_false, if_true]
 ·exact ⟨_, _, rfl, .inl ⟨⟨h, jL.refl hr⟩, .inr ⟨rfl, rfl⟩⟩⟩
theorem YS {w : Wd} {k n : Int} (hp : eJ p) (h : asks p w g = some (k, n)) : 1 ≤ n ∧ n < 1099511627776 := by
 unfold asks at h
 split at h
 ·split at h
  ·cases h
  ·rename_i ins hi
   have hio : ∃ f ∈ p.funcs, ins ∈ f := by
    unfold kq at hi
    split at hi
    ·cases hi
    ·rename_i code hc
     exact ⟨code, List.mem_of_getElem? hc, List.mem_of_getElem? hi⟩
   obtain ⟨f, hf, hm⟩ := hio
   have hok := (hp.code f hf).2.2 ins hm
   split at h
   ·rename_i e
    simp only [Option.some.injEq, Prod.mk.injEq] at h
    have := hok.2.2.2.2.2.2.2.2.2.2.2.2 e
    omega
   ·split at h
    ·split at h
     ·cases h
     ·rename_i hne
      simp only [Option.some.injEq, Prod.mk.injEq] at h
      have h1 : (enabled (aB p ins) w.av).length ≤ (aB p ins).length := BH _ _ _
      have h2 : (aB p ins).length ≤ p.cases.length := by
       unfold aB
       rw [List.length_take, List.length_drop]; omega
      have := hp.cs
      have h3 : 0 < (enabled (aB p ins) w.av).length := by
       rcases hl : enabled (aB p ins) w.av with _ | ⟨q, t⟩
       ·exact absurd hl hne
       ·simp
      omega
    ·cases h
 ·cases h
end
section
variable {p : cy} {x y z : Wd} {g q k n : Int}
theorem EO : ∀ (l : List Int) (x : Wd), WV p x → l.Nodup → (∀ q ∈ l, 0 ≤ q ∧ q < x.gs.length ∧ (aa x q).st ≠ 1 ∧ oO x q) → WV p (l.foldl Wd.eV x) ∧ Wk x (l.foldl Wd.eV x) ∧ (l.foldl Wd.eV x).ready = x.ready ++ l
 | [], x, h, _, _ => ⟨h, Wk.refl x, by simp⟩
 | q :: l, x, h, hn, ha => by
  obtain ⟨q0, q1, q2, q3⟩ := ha q (by simp)
  obtain ⟨hn1, qZ⟩ := List.nodup_cons.1 hn
  obtain ⟨r1, r2, r3⟩ := EO l (x.eV q) (h.eV q0 q1 q3) qZ (fun m hm => by
   obtain ⟨m0, m1, m2, m3⟩ := ha m (List.mem_cons_of_mem _ hm)
   have hne : m ≠ q := fun e => hn1 (e ▸ hm)
   exact ⟨m0, by rw [oQ]; exact m1, by rw [tO q0 q1 m0 hne]; exact m2, m3⟩)
  refine ⟨r1, (Wk.eV q0 q1 q2).trans r2, ?_⟩
  rw [List.foldl_cons, r3]
  show (x.ready ++ [q]) ++ l = _
  simp
def OL (x : Wd) : List Int := (dM x.hl.length x.hl (IntKind.wrap .u64 (x.clock + 1))).2.map aN.id
theorem YT (he : x.end_ = 0) : x.tick = (OL x).foldl Wd.eV { x with clock := IntKind.wrap .u64 (x.clock + 1), hl := (dM x.hl.length x.hl (IntKind.wrap .u64 (x.clock + 1))).1, ready := [] } := by
 unfold Wd.tick
 rw [if_neg (by rw [he]; decide)]
 rfl
theorem OX (h : WV p x) : (∀ y ∈ (dM x.hl.length x.hl (IntKind.wrap .u64 (x.clock + 1))).2, 0 ≤ y.id ∧ y.id < x.gs.length) ∧ WV p x.tick ∧ Wk { x with ready := [] } x.tick ∧ x.tick.ready.length ≤ 100 := by
 generalize hr : dM x.hl.length x.hl (IntKind.wrap .u64 (x.clock + 1)) = r
 have hp : x.hl.Perm (r.2 ++ r.1) := by rw [← hr]; exact wu _ _ _
 have m2 : ∀ y ∈ r.2, y ∈ x.hl := fun y hy => hp.mem_iff.2 (List.mem_append_left _ hy)
 have m1 : ∀ y ∈ r.1, y ∈ x.hl := fun y hy => hp.mem_iff.2 (List.mem_append_right _ hy)
 have hc : ∀ q, (r.2.map aN.id).count q + (r.1.map aN.id).count q ≤ 1 := fun q => by
  have a := h.h1 q
  unfold DR at a
  rw [(hp.map aN.id).count_eq, List.map_append, List.count_append] at a
  exact a
 refine ⟨fun y hy => ⟨(h.hl y (m2 y hy)).1, (h.hl y (m2 y hy)).2.1⟩, ?_⟩
 by_cases he : x.end_ = 0
 ·rw [YT he]
  unfold OL
  rw [hr]
  have h1 : WV p { x with clock := IntKind.wrap .u64 (x.clock + 1), hl := r.1, ready := [] } :=
   ⟨h.n1, h.n2, h.HC, h.ch, h.lk, h.buf, h.cH, h.snd, h.lw, fun y hy => h.hl y (m1 y hy), h.one, h.EG, fun q => by have := hc q; unfold DR; dsimp only; omega, h.out⟩
  have QZ : (r.2.map aN.id).Nodup := List.nodup_iff_count.2 fun q => by have := hc q; omega
  obtain ⟨r1, r2, r3⟩ := EO (r.2.map aN.id) { x with clock := IntKind.wrap .u64 (x.clock + 1), hl := r.1, ready := [] } h1 QZ (fun q hq => by
   obtain ⟨y, hy, rfl⟩ := List.mem_map.1 hq
   have a := h.hl y (m2 y hy)
   refine ⟨a.1, a.2.1, by show (aa x y.id).st ≠ 1; rw [a.2.2]; decide, fun c QK hg => ?_, fun l hl hg => ?_, fun w hw e => ?_⟩
   ·have := (h.VB QK hg).1.2.2
    rw [a.2.2] at this; cases this
   ·have := (h.lw l hl _ hg).1.2.2
    rw [a.2.2] at this; cases this
   ·have b := hc y.id
    have c1 : 0 < (r.2.map aN.id).count y.id := List.count_pos_iff.2 hq
    have c2 : 0 < (r.1.map aN.id).count y.id := List.count_pos_iff.2 (List.mem_map.2 ⟨w, hw, e⟩)
    omega)
  refine ⟨r1, Wk.trans (Wk.same rfl rfl) r2, ?_⟩
  rw [r3]
  have a := h.JJ
  have b := hp.length_eq
  simp only [List.length_append, List.length_map, List.nil_append] at *
  omega
 ·have e : x.tick = { x with ready := [] } := by unfold Wd.tick; rw [if_pos he]
  rw [e]
  exact ⟨h.ready, Wk.refl _, by simp⟩
theorem wv_new (hp : eJ p) : WV p (Wd.new p) := by
 have e : ∀ q, aa (Wd.new p) q = if q.toNat = 0 then ⟨1, [eH.begin 0 0], .zero⟩ else ⟨0, [], .zero⟩ := by
  intro q
  unfold aa Wd.new
  dsimp only
  split
  ·rename_i e; rw [e]; rfl
  ·rename_i e
   rw [List.getD_eq_getElem?_getD, List.getElem?_eq_none (by simp; omega)]; rfl
 have Ao : ∀ c ∈ (Wd.new p).av, ∃ n, c = aQ.new n := fun c hc => by
  obtain ⟨n, _, rfl⟩ := List.mem_map.1 hc
  exact ⟨n, rfl⟩
 have hlk : ∀ l ∈ (Wd.new p).aC, l.waits = [] := fun l hl => by
  have := List.eq_of_mem_replicate hl
  rw [this]
 have z1 : ∀ q, cD (Wd.new p).av q = 0 := fun q => sV _ _ fun c hc => by
  obtain ⟨n, rfl⟩ := Ao c hc
  rfl
 have z2 : ∀ q, ig (Wd.new p).aC q = 0 := fun q => sV _ _ fun l hl => by rw [hlk l hl]; rfl
 refine ⟨by simp [Wd.new], by simp [Wd.new], fun y hy => ?_, by simp [Wd.new], by (simp [Wd.new]; have := hp.lk.1; omega), fun c hc => ?_, fun c hc v hv => ?_, fun c hc v hv => ?_, fun l hl q hq => ?_, fun y hy => by simp [Wd.new] at hy, fun q _ _ => by rw [z1, z2]; omega, fun q => by rw [z1]; omega, fun q => by simp [DR, Wd.new], by simp [Wd.new]⟩
 ·simp only [Wd.new, List.mem_singleton] at hy
  subst hy
  refine ⟨by simp, by simp, fun r hr => ?_, (fun e => by cases e), by show (1 : Int) ≤ 1 ∧ (1 : Int) ≤ 4; decide⟩
  simp only [List.mem_singleton] at hr; subst hr
  exact ⟨Int.le_refl 0, by have := hp.f1; show (0 : Int) < _; omega, Int.le_refl 0, (by show (0 : Int) ≤ 64; decide), by show aR 0; decide⟩
 ·obtain ⟨n, rfl⟩ := Ao c hc
  exact ⟨Nat.zero_le _, SH n⟩
 ·obtain ⟨n, rfl⟩ := Ao c hc
  cases hv
 ·obtain ⟨n, rfl⟩ := Ao c hc
  cases hv
 ·rw [hlk l hl] at hq; cases hq
end
def DS (y : gK) : Bool := y.st == 1 || y.st == 3
def Wd.stuck (x : Wd) : Bool := x.end_ == 0 && !(x.gs.any DS)
section
variable {R : Mem} {L L' L2 : List HP} {M : Mem} {K : Value → Mem → Prop} {Kp : List PanicEntry → Mem → Prop} {pa : PA} {p : cy} {b : Nat} {x : Wd} {g : Int}
theorem JO (h : Hp R L M) [o : Ap b L pa p x L'] (k : K (.int .u64 x.clock) M) : ae Tryz.prog 81 #[.pointer (some ⟨b, 0, none⟩)] M K Kp := by
 refine rX ?_
 have h' := dh h (b := b)
 clear h
 obtain ⟨a, gg, dr, n, hl, h⟩ := h'
 exact az h k
theorem JP (h : Hp R L M) [o : Ap b L pa p x L'] (hs : x.gs.length ≤ 1000000) (k : K (.bool x.stuck) M) : ae Tryz.prog 44 #[.pointer (some ⟨b, 0, none⟩)] M K Kp := by
 refine rV ?_
 unfold Wd.stuck at k
 have h' := dh h (b := b)
 clear h
 obtain ⟨a, gg, dr, n, hl, h⟩ := h'
 have hl' := hl
 obtain ⟨l1, l2, l3, l4⟩ := hl'
 refine az h ?_
 refine cY.2 ⟨fun he => ?_, fun he => ?_⟩
 ·rw [show (x.end_ == 0) = false from by simpa using he, Bool.false_and] at k
  exact k
 rw [show (x.end_ == 0) = true from by simpa using he, Bool.true_and] at k
 refine ax h ?_
 refine ⟨fun d vs M' => ∃ j : Nat, vs = [.int .i64 (j : Int)] ∧ d = x.gs.length - j ∧ j ≤ x.gs.length ∧ (x.gs.take j).any DS = false ∧ M' = M, ⟨_, 0, rfl, rfl, by omega, rfl, rfl⟩, ?_⟩
 rintro d _ nn M' ⟨j, Z2, hd, hj, ha, rfl⟩
 simp only [List.cons.injEq, Value.int.injEq, and_true, true_and] at Z2
 subst Z2
 refine aH.2 ⟨fun hlt => ?_, fun hge => ?_⟩
 ·obtain ⟨gb, gp⟩ := aJ (l := a.gb) (i := j) (by omega)
  obtain ⟨ga, YA⟩ := aJ (l := gg) (i := j) (by omega)
  obtain ⟨y, hy⟩ := aJ (l := x.gs) (i := j) (by omega)
  have Vt : M'.ld ⟨gb, 0, none⟩ = some (.int .i64 y.st) := by
   have h9 := mH (b := gb) (h.eF gm gp (nj hy YA))
   exact cv h9
  refine ⟨by omega, by omega, ?_⟩
  refine wh h gp fun q hq => ?_
  refine aV ?_
  rw [Vt]
  refine eY ?_
  have hym := List.mem_of_getElem? hy
  refine bh.2 ⟨fun e1 => ?_, fun e1 => ?_⟩
  ·have : x.gs.any DS = true := List.any_eq_true.2 ⟨y, hym, by simp [DS, e1]⟩
   rw [this] at k
   exact k
  refine aV ?_
  rw [Vt]
  refine eY ?_
  refine bh.2 ⟨fun e3 => ?_, fun e3 => ?_⟩
  ·have : x.gs.any DS = true := List.any_eq_true.2 ⟨y, hym, by simp [DS, e3]⟩
   rw [this] at k
   exact k
  refine ⟨x.gs.length - (j + 1), by omega, j + 1, by rw [aS (by omega)], rfl, by omega, ?_, rfl⟩
  rw [dw hy, List.any_append, ha]
  simp [DS, e1, e3]
 ·have K8 : j = x.gs.length := by omega
  subst K8
  rw [List.take_length] at ha
  rw [ha] at k
  exact k
theorem JQ {y : Lk} (h : Hp R L M) [o : gn fh b L y L'] (k : K (.int .i64 y.owner) M) : ae Tryz.prog 151 #[.pointer (some ⟨b, 0, none⟩)] M K Kp := by
 refine uK ?_
 have h' := tJ h (b := b)
 clear h
 obtain ⟨A, c, h⟩ := h'
 exact az h k
theorem JR {y : Lk} (h : Hp R L M) [o : gn fh b L y L'] (hs : y.waits.length ≤ 1000000) (k : ∀ A c M', Hp R (wg A c y.waits :: bj fh b y :: L') M' → K (.slice A y.waits.length c) M') : ae Tryz.prog 152 #[.pointer (some ⟨b, 0, none⟩)] M K Kp := by
 refine uL ?_
 have h' := tJ h (b := b)
 clear h
 obtain ⟨A, c, h⟩ := h'
 refine ai h ?_
 clear h; intro k1 M h
 refine ax h ?_
 refine h.b6 bS jR y.waits (h.src (A := A)) rfl (by omega) ?_
 clear h; intro A' c' M h
 refine aY ?_
 have h2 : Hp R (pt b [.int .i64 y.owner, .slice A y.waits.length c] 238 :: wg A c y.waits :: wg A' c' y.waits :: L') M := h.sub bz
 exact k _ _ _ ((ia h2 b).sub bz)
theorem Nz (h : Hp R L M) [o : Ap b L pa p x L'] (h0 : 0 ≤ g) (h1 : g < x.aC.length) (hs : (cQ x g).waits.length ≤ 1000000) (k : ∀ A c M', Hp R (wg A c (cQ x g).waits :: bj (cq pa p) b x :: L') M' → K (.tuple #[.int .i64 (cQ x g).owner, .slice A (cQ x g).waits.length c]) M') : ae Tryz.prog 118 #[.pointer (some ⟨b, 0, none⟩), .int .i64 g] M K Kp := by
 refine uJ ?_
 have h' := dh h (b := b)
 clear h
 obtain ⟨a, gg, dr, n, hl, h⟩ := h'
 have hl' := hl
 obtain ⟨l1, l2, l3, l4⟩ := hl'
 refine aH.2 ⟨fun hn => by omega, fun _ => ?_⟩
 refine ax h ?_
 refine aH.2 ⟨fun hn => by omega, fun _ => ?_⟩
 refine ax h ⟨h0, by omega, ?_⟩
 obtain ⟨lb, hlb⟩ := aJ (l := a.lb) (i := g.toNat) (by omega)
 obtain ⟨y, hy⟩ := aJ (l := x.aC) (i := g.toNat) (by omega)
 have e : cQ x g = y := by simp [cQ, hy]
 rw [e] at k hs
 refine wh h hlb fun q hq => ?_
 refine ax h ⟨h0, by omega, ?_⟩
 rw [hq]
 refine aV ?_
 have hp1 := Vk h hq hlb
 rw [hp1]
 refine Bq ?_
 have h2 := h.eF fh hlb hy
 refine JQ h2 ?_
 refine eY ⟨hp1, ?_⟩
 refine ⟨by have := cv h (b := b) (o := 0 + 7) (v := .slice a.al a.lb.length a.cl); rw [hq] at this; exact this, ?_⟩
 refine JR h2 hs ?_
 clear h h2 hp1; intro A c M h
 refine aY ⟨Vk h hq hlb, ?_⟩
 refine ⟨by have := cv h (b := b) (o := 0 + 7) (v := .slice a.al a.lb.length a.cl); rw [hq] at this; exact this, ?_⟩
 replace h := h.ox fh lb hlb hy
 exact k _ _ _ ((jX (a := a) (gg := gg) (dr := dr) (n := n) (x := x) hl (h.sub bz)).swap)
end
def recE : jP (Int × Int) := ⟨2, fun w => [.int .i64 w.1, .int .u64 w.2], fun _ => rfl, fun w v hv => by
 simp only [List.mem_cons, List.not_mem_nil, or_false] at hv; obtain rfl | rfl := hv <;> rfl⟩
inductive GX where
 | orc (l : List Int) (at_ : Nat)
 | tape (l : List (Int × Int)) (at_ : Nat)
structure VL where
 k : GX
 taken : List (Int × Int)
def dryV : List PanicEntry := [{ v := .iface 227 (.agg #[]), recovered := false }]
def unV (at_ kind n k v : Int) : List PanicEntry := [{ v := .iface 155 (.agg #[.int .i64 at_, .int .i64 kind, .int .i64 n, .int .i64 k, .int .u64 v]), recovered := false }]
def max1 (n : Int) : Int := if 1 > n then 1 else n
def GX.next (k : GX) (kind m : Int) : GX × iZ := match k with
 | .orc l i => match l[i]? with
  | none => (.orc l i, .fF dryV)
  | some v => (.orc l (i + 1), .num (Int.tmod v m))
 | .tape l i => match l[i]? with
  | none => (.tape l i, .fF dryV)
  | some (q, v) => if q ≠ kind then (.tape l i, .fF (unV i kind m q v)) else if v ≥ m then (.tape l i, .fF (unV i kind m q v)) else (.tape l (i + 1), .num v)
def VL.draw (x : VL) (kind n : Int) : VL × iZ := match x.k.next kind (max1 n) with
 | (k', .num v) => (⟨k', x.taken ++ [(kind, v)]⟩, .num v)
 | (k', .fF l) => (⟨k', x.taken⟩, .fF l)
def GX.Ok : GX → Prop
 | .orc l i => l.length ≤ 1000000000 ∧ i ≤ l.length ∧ ∀ v ∈ l, 0 ≤ v ∧ v < 18446744073709551616
 | .tape l i => l.length ≤ 1000000000 ∧ i ≤ l.length ∧ ∀ v ∈ l, 0 ≤ v.2 ∧ v.2 < 18446744073709551616
def VL.Ok (x : VL) : Prop := x.k.Ok ∧ x.taken.length ≤ 1000000000
abbrev VM (A : Option Addr) (c : Nat) (l : List (Int × Int)) : HP := cw recE 153 A c l
abbrev rowU (A : Option Addr) (c : Nat) (l : List Int) : HP := cw u64E 36 A c l
def kR : xT GX := ⟨fun b k => match k with
 | .orc l i => exs fun A : Option Addr => exs fun c : Nat => sep [pt b [.slice A l.length c, .int .i64 (i : Int)] 147, rowU A c l]
 | .tape l i => exs fun A : Option Addr => exs fun c : Nat => sep [pt b [.slice A l.length c, .int .i64 (i : Int)] 175, VM A c l]⟩
def nextV : GX → Nat → Value
 | .orc _ _, b => .func (.func 54) #[.pointer (some ⟨b, 0, none⟩)] #[]
 | .tape _ _, b => .func (.func 66) #[.pointer (some ⟨b, 0, none⟩)] #[]
def leftV : GX → Nat → Value
 | .orc _ _, b => .func (.func 55) #[.pointer (some ⟨b, 0, none⟩)] #[]
 | .tape _ _, b => .func (.func 67) #[.pointer (some ⟨b, 0, none⟩)] #[]
def souR (see : Value) : xT VL := ⟨fun b x => exs fun A : Option Addr => exs fun c : Nat => exs fun kb : Nat =>
 sep [pt b [nextV x.k kb, leftV x.k kb, .slice A x.taken.length c, see] 151, VM A c x.taken, bj kR kb x.k]⟩
end Go.Proofs
