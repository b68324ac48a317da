/- A part of proofs about one program. -/
import Derived.Test.YtnnlgknlialpmaaGreatZFairAny2
import Derived.Test.YtnnlgknlialpmaaGreatZFairAny3
set_option linter.unusedVariables false
namespace Go.Proofs
open Go.AF
set_option maxRecDepth 100000
set_option maxHeartbeats 1000000
attribute [local irreducible] aJ de fm cy aB dZ aF aK bh aY bA aO
def zu : iz (Option Addr × Nat × Nat) := ⟨1, fun t => [.slice t.1 t.2.1 t.2.2], fun _ => rfl, fun w v hv => by simp only [List.mem_singleton] at hv; subst hv; rfl⟩
structure oM (R : Mem) (pa : PA) (p : b7) : Prop where
 funcs : ∃ ts : List (Option Addr × Nat × Nat), RS zu R pa.f pa.fc ts ∧ ts.length = p.funcs.length ∧ ∀ (i : Nat) t f, ts[i]? = some t → p.funcs[i]? = some f → RS je R t.1 t.2.2 f ∧ t.2.1 = f.length
 cases : RS g6 R pa.k pa.kc p.cases
theorem oM.le {R R' : Mem} {pa : PA} {p : b7} (h : oM R pa p) (hle : R.le R') : oM R' pa p := by
 obtain ⟨⟨ts, h1, h2, h3⟩, h4⟩ := h
 exact ⟨⟨ts, h1.le hle, h2, fun i t f a b => ⟨(h3 i t f a b).1.le hle, (h3 i t f a b).2⟩⟩, h4.le hle⟩
def Wd.next (x : Wd) (g : Int) : Wd := x.bu g ((aj x g).cJ (aj x g).top.next)
def SK (n : Int) : List PanicEntry := [{ v := .iface 340 (.int .i64 n), recovered := false }]
def fX (R : Mem) (pa : PA) (p : b7) (dr : Value) (fnum : Nat) (x : Wd) (g : Int) (i : cI) (r : Out Wd) (L L2 : List HP) : Prop :=
 ∀ (gg : List GA) (b bs c : Nat) (M : Mem) (K : Value → Mem → Prop) (Kp : List PanicEntry → Mem → Prop) (Q : HP), Hp R (az (br pa p gg dr) b x :: Q :: L) M → gg[g.toNat]? = some (some ⟨bs, 0, none⟩, c) →
  Out.Ok r (fun y => ∀ lK M', Hp R (az (br pa p lK dr) b y :: Q :: L2) M' → K (.tuple #[]) M') (fun n y => ∀ lK M', Hp R (az (br pa p lK dr) b y :: Q :: L2) M' → Kp (SK n) M') (fun l y => ∀ lK M', Hp R (az (br pa p lK dr) b y :: Q :: L2) M' → Kp l M') →
  aa Tryz.prog fnum #[.pointer (some ⟨b, 0, none⟩), .int .i64 g, .pointer (some ⟨bs, ((aj x g).fs.length - 1) * 11, none⟩), .agg #[.int .i64 i.op, .int .i64 i.a, .int .i64 i.b, .int .i64 i.c]] M K Kp
theorem Out.Ok.mono {α : Type} {r : Out α} {k1 k1' : α → Prop} {k2 k2' : Int → Wd → Prop} {k3 : List PanicEntry → Wd → Prop} (h : r.Ok k1 k2 k3) (h1 : ∀ y, k1 y → k1' y) (h2 : ∀ n y, k2 n y → k2' n y) : r.Ok k1' k2' := by
 cases r with
 | on y => exact h1 y h
 | eC n y => exact h2 n y h
 | cT l y => trivial
section
variable {R : Mem} {L L' L2 : List HP} {M : Mem} {K : Value → Mem → Prop} {Kp : List PanicEntry → Mem → Prop} {pa : PA} {p : b7} {gg : List GA} {dr : Value} {b : Nat} {x : Wd} {g : Int} {i : cI}
theorem Q6 (hp : oM R pa p) (hk : G4 p x g i) (hs : x.Sm) : fX R pa p dr 215 x g i (x.send p g i) L L := fun gg b bs c M K Kp Q h eD k =>
 G5 h hp.cases eD hk hs (k.mono (fun y hy M' h' => hy gg M' h') (fun n y hy M' h' => hy gg M' h'))
theorem Q7 (hk : wc x g i) (hs : x.Sm) : fX R pa p dr 216 x g i (.on (x.recv g i)) L L := fun gg b bs c M K Kp Q h eD k =>
 G6 h eD hk hs fun M' h' => k gg M' h'
theorem Q8 (hg : bj x g) (ha : aU i.a) (hs : x.Sm) : fX R pa p dr 221 x g i (x.emit g i) L L := fun gg b bs c M K Kp Q h eD k =>
 G7 h eD hg ha hs (k.mono (fun y hy M' h' => hy gg M' h') (fun n y hy M' h' => hy gg M' h'))
theorem On (hg : bj x g) (hb : aU i.b) (hc : aU i.c) (hs : x.Sm) : fX R pa p dr 213 x g i (x.spawn g i) L L := fun gg b bs c M K Kp Q h eD k =>
 EU h eD hg hb hc hs (k.mono (fun y hy => hy) (fun n y hy M' h' => hy gg M' h'))
theorem Q9 (hp : oM R pa p) (hk : nO p x i) (hs : x.Sm) : fX R pa p dr 217 x g i (x.shut p i) L L := fun gg b bs c M K Kp Q h eD k =>
 G9 (f := .nilFunc) h hp.cases hk hs (k.mono (fun y hy M' h' => hy gg M' h') (fun n y hy M' h' => hy gg M' h'))
def V1 : AL := [(9, .func (.func 211) #[] #[]), (10, .func (.func 212) #[] #[]), (11, .func (.func 213) #[] #[]), (12, .func (.func 214) #[] #[]), (13, .func (.func 215) #[] #[]), (14, .func (.func 216) #[] #[]), (15, .func (.func 217) #[] #[]), (17, .func (.func 218) #[] #[]), (18, .func (.func 219) #[] #[]), (19, .func (.func 220) #[] #[]), (20, .func (.func 221) #[] #[]), (22, .func (.func 222) #[] #[])]
theorem E2 (h : Hp R L M) (k : ∀ m M', Hp R (ob m (lu V1) :: L) M' → K (.map (some m)) M') : aa Tryz.prog 193 #[] M K Kp := by
 refine yW ?_
 refine Mp h ?_
 clear h
 intro m M h
 replace h : Hp R (ob m (lu []) :: L) M := h
 have hu : Tryz.prog.underlying 345 = some (.map 25 344) := by kernel_rfl
 have hk : Tryz.prog.underlying 25 = some (.int .i64) := by kernel_rfl
 iterate 12
  refine wZ h hu hk ?_
  clear h
  intro M h
 exact k _ _ h
end
theorem zx {α β : Type} : ∀ {l : List α} {m : List β} {i : Nat} {u : α} {v : β}, (l.zip m).set i (u, v) = (l.set i u).zip (m.set i v)
 | [], _, _, _, _ => by simp
 | a :: l, [], i, u, v => by simp
 | a :: l, w :: m, 0, u, v => rfl
 | a :: l, w :: m, i + 1, u, v => by
  have := zx (l := l) (m := m) (i := i) (u := u) (v := v)
  simp [this]
theorem sx {x : Wd} {g : Int} (h0 : 0 ≤ g) (h1 : g < x.gs.length) : x.bu g (aj x g) = x := by
 obtain ⟨y, hy⟩ := aP (l := x.gs) (i := g.toNat) (by omega)
 have e : aj x g = y := by simp [aj, hy]
 rw [e]
 obtain ⟨hi, rfl⟩ := List.getElem?_eq_some_iff.1 hy
 simp [Wd.bu]
section
variable {R : Mem} {L L' L2 : List HP} {M : Mem} {K : Value → Mem → Prop} {Kp : List PanicEntry → Mem → Prop} {pa : PA} {p : b7} {gg : List GA} {dr : Value} {b : Nat} {x : Wd} {g : Int} {i : cI}
theorem Ra (hg : bj x g) (ha : aU i.a) (hin : aU (aj x g).top.qT) : fX R pa p dr 212 x g i (.on (x.back g i)) L L := by
 intro gg b bs c M K Kp Q h eD k
 refine rh ?_
 replace k : ∀ lK M', Hp R (az (br pa p lK dr) b (x.back g i) :: Q :: L) M' → K (.tuple #[]) M' := k
 have Ax := hg
 obtain ⟨h0, h1, h2, h3⟩ := Ax
 unfold Wd.back at k
 refine aq h ?_
 clear h
 intro kb M h
 have h' := gG h (b := b) h0 h1 eD
 clear h
 obtain ⟨a, gb, hl, fM, h⟩ := h'
 have hl' := hl
 obtain ⟨l1, l2, l3, l4⟩ := hl'
 repeat (first|(refine aq h ?_;clear h;intro kb M h)|(refine au h ?_;clear h;intro M h)|refine St.to h ?_|(apply Exists.intro;(repeat apply Exists.intro);refine And.intro rfl ?_)|refine av ?_|refine ae ?_|refine ai ?_)
 refine vk h fM fun q hq => ?_
 repeat (first|(refine aq h ?_;clear h;intro kb M h)|(refine au h ?_;clear h;intro M h)|refine St.to h ?_|(apply Exists.intro;(repeat apply Exists.intro);refine And.intro rfl ?_)|refine av ?_|refine ae ?_|refine ai ?_)
 refine ⟨ha.1, ha.2, uL h (dW h2) ha rfl ?_⟩
 refine Da h h2 (by omega) (dW h2) hin ?_ ?_
 ·intro hlt
  rw [if_neg (by omega)] at k
  refine ⟨_, _, _, _, rfl, ai ?_⟩
  repeat (first|(refine aq h ?_;clear h;intro kb M h)|(refine au h ?_;clear h;intro M h)|refine St.to h ?_|(apply Exists.intro;(repeat apply Exists.intro);refine And.intro rfl ?_)|refine av ?_|refine ae ?_|refine ai ?_)
  refine vk h fM fun q2 lI => ?_
  repeat (first|(refine aq h ?_;clear h;intro kb M h)|(refine au h ?_;clear h;intro M h)|refine St.to h ?_|(apply Exists.intro;(repeat apply Exists.intro);refine And.intro rfl ?_)|refine av ?_|refine ae ?_|refine ai ?_)
  refine aR.2 ⟨fun e0 => ?_, fun e0 => ?_⟩
  ·rw [if_pos e0] at k
   repeat (first|(refine aq h ?_;clear h;intro kb M h)|(refine au h ?_;clear h;intro M h)|refine St.to h ?_|(apply Exists.intro;(repeat apply Exists.intro);refine And.intro rfl ?_)|refine av ?_|refine ae ?_|refine ai ?_)
   replace h := cL h gb hl fM eD
   have kT := c7 (y := { aj x g with st := 4 }) (g := g) hl
   replace h := aW (a := a) (p := p) (pa := pa) (dr := dr) (gg := gg) (x := { x.bu g { aj x g with st := 4 } with end_ := 1 }) kT h b
   exact k _ _ h.bW
  ·rw [if_neg e0] at k
   replace h := cL h gb hl fM eD
   have kT := c7 (y := { aj x g with st := 4 }) (g := g) hl
   replace h := aW (a := a) (p := p) (pa := pa) (dr := dr) (gg := gg) (x := x.bu g { aj x g with st := 4 }) kT h b
   exact k _ _ h.bW
 ·intro hge b' c' M' fr hfr h'
  clear h
  have h := h'
  clear h'
  rw [if_pos hge] at k
  refine ⟨_, _, _, _, rfl, ae ?_⟩
  repeat (first|(refine aq h ?_;clear h;intro kb M h)|(refine au h ?_;clear h;intro M h)|refine St.to h ?_|(apply Exists.intro;(repeat apply Exists.intro);refine And.intro rfl ?_)|refine av ?_|refine ae ?_|refine ai ?_)
  refine vk h fM fun q2 lI => ?_
  repeat (first|(refine aq h ?_;clear h;intro kb M h)|(refine au h ?_;clear h;intro M h)|refine St.to h ?_|(apply Exists.intro;(repeat apply Exists.intro);refine And.intro rfl ?_)|refine av ?_|refine ae ?_|refine ai ?_)
  have hlen : (aj x g).fs.length - 1 = (((aj x g).fs.take ((aj x g).fs.length - 1)).set ((aj x g).fs.length - 2) (fr.set (aj x g).top.qT (bt x g i.a))).length := by simp
  have hfr2 : (aj x g).fs.getD ((aj x g).fs.length - 2) ⟨0, 0, [], 0⟩ = fr := by rw [List.getD_eq_getElem?_getD, hfr]; rfl
  have h5 := mZ (A := some ⟨b', 0, none⟩) (fs := ((aj x g).fs.take ((aj x g).fs.length - 1)).set ((aj x g).fs.length - 2) (fr.set (aj x g).top.qT (bt x g i.a))) h gb hlen
  have hi := (List.getElem?_eq_some_iff.1 fM).1
  have h6 := h5.dN fU gb fM (by rw [List.length_zip]; omega)
  rw [zx] at h6
  have kT : eL (gg.set g.toNat (some ⟨b', 0, none⟩, c')) a (x.bu g ((aj x g).back (bt x g i.a))) := ⟨by simpa [Wd.bu] using l1, by simpa [Wd.bu] using l2, l3, l4⟩
  have e : (aj x g).back (bt x g i.a) = ⟨(aj x g).st, ((aj x g).fs.take ((aj x g).fs.length - 1)).set ((aj x g).fs.length - 2) (fr.set (aj x g).top.qT (bt x g i.a)), (aj x g).wt⟩ := by
   unfold jl.back; rw [hfr2]
  rw [e] at kT k
  have h7 := aW (a := a) (p := p) (pa := pa) (dr := dr) (gg := gg.set g.toNat (some ⟨b', 0, none⟩, c')) (x := x.bu g ⟨(aj x g).st, ((aj x g).fs.take ((aj x g).fs.length - 1)).set ((aj x g).fs.length - 2) (fr.set (aj x g).top.qT (bt x g i.a)), (aj x g).wt⟩) kT h6 b
  exact k _ _ (h7.sub bD)
end
def Out.fin : Out Wd → Wd
 | .on y => y
 | .eC n y => { y with end_ := 2, code := n }
 | .cT _ y => y
def Ho (op : Int) : Out Wd → Bool
 | .on _ => op == 12 || op == 17
 | .eC _ _ => false
 | .cT _ _ => false
inductive Step (R : Mem) (pa : PA) (p : b7) (dr : Value) (x : Wd) (g : Int) (code : List cI) : Out Wd → Bool → List HP → List HP → Prop where
 | out {L : List HP} (h : (code.length : Int) ≤ (aj x g).top.pc) : Step R pa p dr x g code (.eC (-7) x) false L L
 | pure {L : List HP} (i : cI) (h : code[(aj x g).top.pc.toNat]? = some i) (h0 : 0 ≤ i.op) (h8 : i.op ≤ 8) (hk : i.cw) : Step R pa p dr x g code (.on (x.bu g ((aj x g).cJ ((aj x g).top.next.pure i)))) false L L
 | De {L L2 : List HP} {r : Out Wd} (i : cI) (h : code[(aj x g).top.pc.toNat]? = some i) (uN : i.op = 16) (hs : fX R pa p dr 191 x g i r L L2) : Step R pa p dr x g code r false L L2
 | V2 {L L2 : List HP} {r : Out Wd} (i : cI) (h : code[(aj x g).top.pc.toNat]? = some i) (Zr : i.op = 21) (hs : fX R pa p dr 192 x g i r L L2) : Step R pa p dr x g code r false L L2
 | dflt {L L2 : List HP} {r : Out Wd} (i : cI) (fn : Nat) (h : code[(aj x g).top.pc.toNat]? = some i) (h8 : 8 < i.op) (uN : i.op ≠ 16) (Zr : i.op ≠ 21) (hf : Bb V1 i.op = some (.func (.func fn) #[] #[])) (hn : 1 < fn ∧ fn < 255)
   (hs : fX R pa p dr fn (x.next g) g i r L L2) : Step R pa p dr x g code r (Ho i.op r) L L2
section
variable {R : Mem} {L L' L2 : List HP} {M : Mem} {K : Value → Mem → Prop} {Kp : List PanicEntry → Mem → Prop} {pa : PA} {p : b7} {gg : List GA} {dr : Value} {b : Nat} {x : Wd} {g : Int} {i : cI}
theorem V3 {c bs j : Nat} {l : List gN} {f : gN} {G : Int → Prop} (h : Hp R L M) [q : cH (some ⟨bs, 0, none⟩) L gN j9 275 c l L'] (hi : l[j]? = some f) (g : G f.fn) : aJ (M.ld ⟨bs, j * 11, none⟩) .i64 G := by
 refine aZ (Src.at (h.src (A := some ⟨bs, 0, none⟩)) h (i := j) (j := 0) hi rfl ?_) g
 show _ = 0 + (j * 11 + 0); omega
theorem Df {n : Int} {v : Value} {Q : HP} (h : Hp R (az (br pa p gg dr) b x :: Q :: L) M) (k : ∀ M', Hp R (az (br pa p gg dr) b { x with end_ := 2, code := n } :: L) M' → K v M') :
  cv Tryz.prog 188 (.pointer (some ⟨b, 0, none⟩)) K Kp v (.panicking (SK n)) M := by
 refine GV ?_
 have h' := cn h (b := b)
 clear h
 obtain ⟨a, hl, h⟩ := h'
 repeat (first|(refine aq h ?_;clear h;intro kb M h)|(refine au h ?_;clear h;intro M h)|refine St.to h ?_|(apply Exists.intro;(repeat apply Exists.intro);refine And.intro rfl ?_)|refine av ?_|refine ae ?_|refine ai ?_)
 exact k _ (jv (a := a) (x := { x with end_ := 2, code := n }) hl (h.sub bD))
theorem ya {k : Nat} {bw : Nat} (h : Hp R L M) [o : kQ k L [.int .i64 i.op, .int .i64 i.a, .int .i64 i.b, .int .i64 i.c] 27 L'] (g : K (.bool (i.op == 12 || i.op == 17)) M) :
  aJ (M.ld ⟨k, 0, none⟩) .i64 fun n => aO (n == 12) (cv Tryz.prog 188 (.pointer (some ⟨bw, 0, none⟩)) K Kp (.bool true) .returning M)
   (aJ (M.ld ⟨k, 0, none⟩) .i64 fun n => cv Tryz.prog 188 (.pointer (some ⟨bw, 0, none⟩)) K Kp (.bool (n == 17)) .returning M) := by
 have hp := h.pick o.pick
 refine aI hp ?_
 refine aR.2 ⟨fun e => ?_, fun e => ?_⟩
 ·rw [e] at g; exact EH g
 ·refine aI hp ?_
  have : (i.op == 12) = false := by simpa using e
  rw [this, Bool.false_or] at g
  exact EH g
def Oo (R : Mem) (pa : PA) (p : b7) (dr : Value) (b : Nat) (L2 : List HP) (K : Value → Mem → Prop) (Kp : List PanicEntry → Mem → Prop) (r : Out Wd) (rest : Bool) : Prop := match r with
 | .cT l y => ∀ lK M', Hp R (az (br pa p lK dr) b y :: L2) M' → cv Tryz.prog 188 (.pointer (some ⟨b, 0, none⟩)) K Kp (.bool false) (.panicking l) M'
 | .on y => ∀ lK M', Hp R (az (br pa p lK dr) b y :: L2) M' → K (.bool rest) M'
 | .eC n y => ∀ lK M', Hp R (az (br pa p lK dr) b { y with end_ := 2, code := n } :: L2) M' → K (.bool rest) M'
theorem E3 {code : List cI} {r : Out Wd} {rest : Bool} (h : Hp R L M) [o : vY b L pa p gg dr x L'] (hp : oM R pa p) (hg : bj x g) (hfn : 0 ≤ (aj x g).top.fn) (m5 : p.funcs[(aj x g).top.fn.toNat]? = some code)
  (Bc : 0 ≤ (aj x g).top.pc ∧ (aj x g).top.pc < 1000000000) (hs : Step R pa p dr x g code r rest L' L2)
  (k : Oo R pa p dr b L2 K Kp r rest) : aa Tryz.prog 159 #[.pointer (some ⟨b, 0, none⟩), .int .i64 g] M K Kp := by
 refine uH ?_
 have Ax := hg
 obtain ⟨h0, h1, h2, h3⟩ := Ax
 have h' := jx h (b := b) h0 h1
 clear h
 obtain ⟨a, gb, A, c, hl, fM, eD, h⟩ := h'
 have hl' := hl
 obtain ⟨l1, l2, l3, l4⟩ := hl'
 obtain ⟨bs, rfl⟩ := h.bF (A := A) h2 (by decide)
 have SM : ∀ {M : Mem}, Hp R (pt gb (pX (aj x g) (some ⟨bs, 0, none⟩) c) 229 :: uK (some ⟨bs, 0, none⟩) c (aj x g).fs :: pt b (l8 pa p dr a x) 161 :: lG fU a.gb (x.gs.zip gg) g.toNat :: su a x L') M → Hp R (az (br pa p gg dr) b x :: L') M := by
  intro M h
  replace h := cL h gb hl fM eD
  have kT := c7 (y := aj x g) (g := g) hl
  replace h := aW (a := a) (p := p) (pa := pa) (dr := dr) (gg := gg) (x := x.bu g (aj x g)) kT h b
  rwa [sx h0 h1] at h
 repeat (first|(refine aq h ?_;clear h;intro kb M h)|(refine au h ?_;clear h;intro M h)|refine St.to h ?_|(apply Exists.intro;(repeat apply Exists.intro);refine And.intro rfl ?_)|refine av ?_|refine ae ?_|refine ai ?_)
 refine vk h fM fun q hq => ?_
 repeat (first|(refine aq h ?_;clear h;intro kb M h)|(refine au h ?_;clear h;intro M h)|refine St.to h ?_|(apply Exists.intro;(repeat apply Exists.intro);refine And.intro rfl ?_)|refine av ?_|refine ae ?_|refine ai ?_)
 refine mX h2 (by omega) ?_
 repeat (first|(refine aq h ?_;clear h;intro kb M h)|(refine au h ?_;clear h;intro M h)|refine St.to h ?_|(apply Exists.intro;(repeat apply Exists.intro);refine And.intro rfl ?_)|refine av ?_|refine ae ?_|refine ai ?_)
 refine V3 h (dW h2) ?_
 obtain ⟨ts, hts, W1, hrow⟩ := hp.funcs
 have hfl := (List.getElem?_eq_some_iff.1 m5).1
 obtain ⟨t, ht⟩ := aP (l := ts) (i := (aj x g).top.fn.toNat) (by omega)
 obtain ⟨w4, Oq⟩ := hrow _ t code ht m5
 obtain ⟨tA, tn, tc⟩ := t
 dsimp only at w4 Oq
 subst Oq
 refine ⟨hfn, by omega, ?_⟩
 obtain ⟨fb, fo, hfb⟩ := hts.some (by omega) (by decide)
 rw [hfb] at hts ⊢
 refine bp ?_
 refine Gi (Src.at (hts.src (L := _)) h (i := (aj x g).top.fn.toNat) (j := 0) ht rfl (by simp [zu])) ?_
 dsimp only
 refine bp ?_
 refine zf h (dW h2) rfl ?_
 refine aM.2 ⟨fun hge => ?_, fun hlt => ?_⟩
 ·cases hs with
  | out _ =>
   have h5 : Hp R (az (br pa p gg dr) b x :: fact True :: L') M := (Hp.fK.2 ⟨trivial, SM h⟩).swap
   exact Df h5 fun M' h' => k gg M' h'
  | pure i hi => have := (List.getElem?_eq_some_iff.1 hi).1; omega
  | De i hi => have := (List.getElem?_eq_some_iff.1 hi).1; omega
  | V2 i hi => have := (List.getElem?_eq_some_iff.1 hi).1; omega
  | dflt i fn hi => have := (List.getElem?_eq_some_iff.1 hi).1; omega
 refine bp ?_
 refine zf h (dW h2) rfl ?_
 refine ⟨Bc.1, by omega, ?_⟩
 obtain ⟨i, hi⟩ := aP (l := code) (i := (aj x g).top.pc.toNat) (by omega)
 obtain ⟨ib, io, rfl⟩ := w4.some (by omega) (by decide)
 refine bp ?_
 refine aZ (Src.at (w4.src (L := _)) h (i := (aj x g).top.pc.toNat) (j := 0) hi rfl (by simp [je])) ?_
 refine aZ (Src.at (w4.src (L := _)) h (i := (aj x g).top.pc.toNat) (j := 1) hi rfl (by show _ = io + (_ * 4 + 1); omega)) ?_
 refine aZ (Src.at (w4.src (L := _)) h (i := (aj x g).top.pc.toNat) (j := 2) hi rfl (by show _ = io + (_ * 4 + 2); omega)) ?_
 refine aZ (Src.at (w4.src (L := _)) h (i := (aj x g).top.pc.toNat) (j := 3) hi rfl (by show _ = io + (_ * 4 + 3); omega)) ?_
 have hpure : i.cw ∧ 0 ≤ i.op ∨ 8 < i.op := by
  cases hs with
  | out h => omega
  | pure j hj a1 a2 a3 => rw [hi] at hj; cases hj; exact .inl ⟨a3, a1⟩
  | De j hj a1 => rw [hi] at hj; cases hj; exact .inr (by omega)
  | V2 j hj a1 => rw [hi] at hj; cases hj; exact .inr (by omega)
  | dflt j fn hj a1 => rw [hi] at hj; cases hj; exact .inr a1
 have hok : i.cw ∧ 0 ≤ i.op := by
  rcases hpure with h | h
  ·exact h
  ·exact ⟨⟨fun h => by simp at h; omega, fun h => by omega, fun h => by simp at h; omega⟩, by omega⟩
 refine aq h ?_
 clear h; intro ki M h
 refine au h ?_
 clear h; intro M h
 refine au h ?_
 clear h; intro M h
 refine au h ?_
 clear h; intro M h
 refine au h ?_
 clear h; intro M h
 refine aI h (aI h (aI h (aI h ?_)))
 refine GY h (dW h2) hok.1 hok.2 Bc ?_ ?_
 ·intro h8 M' h'
  clear h
  have h := h'
  clear h'
  refine od (ae ?_)
  cases hs with
  | out h => omega
  | De j hj a1 => rw [hi] at hj; cases hj; omega
  | V2 j hj a1 => rw [hi] at hj; cases hj; omega
  | dflt j fn hj a1 => rw [hi] at hj; cases hj; omega
  | pure j hj a1 a2 a3 =>
   rw [hi] at hj; cases hj
   replace h := cL h gb hl fM eD (by simp)
   have kT := c7 (y := (aj x g).cJ ((aj x g).top.next.pure i)) (g := g) hl
   have h5 := aW (a := a) (p := p) (pa := pa) (dr := dr) (gg := gg) (x := x.bu g ((aj x g).cJ ((aj x g).top.next.pure i))) kT h b
   refine ya h5 ?_
   have e1 : (i.op == 12) = false := by simp; omega
   have e2 : (i.op == 17) = false := by simp; omega
   rw [e1, e2]
   exact k gg _ h5.bW
 ·intro h8 M' h'
  clear h
  have h := h'
  clear h'
  refine od (ai ?_)
  refine aI h ?_
  refine aR.2 ⟨fun IL => ?_, fun IL => ?_⟩
  ·refine aI h (aI h (aI h (aI h ?_)))
   cases hs with
   | out h => omega
   | pure j hj a1 a2 a3 => rw [hi] at hj; cases hj; omega
   | dflt j fn hj a1 a2 => rw [hi] at hj; cases hj; omega
   | V2 j hj a1 => rw [hi] at hj; cases hj; omega
   | De j hj a1 hop =>
    rw [hi] at hj; cases hj
    replace h := cL h gb hl fM eD
    have kT := c7 (y := aj x g) (g := g) hl
    replace h := aW (a := a) (p := p) (pa := pa) (dr := dr) (gg := gg) (x := x.bu g (aj x g)) kT h b
    rw [sx h0 h1] at h
    refine hop gg b bs c M' _ _ _ h eD ?_
    cases r with
    | on y =>
     intro lK M2 h
     refine ⟨rfl, ya h ?_⟩
     have e1 : (i.op == 12) = false := by simp; omega
     have e2 : (i.op == 17) = false := by simp; omega
     rw [e1, e2]
     exact k lK _ h.bW
    | eC n y =>
     intro lK M2 h
     exact Df h fun M3 h3 => k lK M3 h3
    | cT l y =>
     intro lK M2 h
     exact k lK M2 h.bW
  ·refine aI h ?_
   refine aR.2 ⟨fun W2 => ?_, fun W2 => ?_⟩
   ·refine aI h (aI h (aI h (aI h ?_)))
    cases hs with
    | out h => omega
    | pure j hj a1 a2 a3 => rw [hi] at hj; cases hj; omega
    | De j hj a1 => rw [hi] at hj; cases hj; omega
    | dflt j fn hj a1 a2 a3 => rw [hi] at hj; cases hj; omega
    | V2 j hj a1 hop =>
     rw [hi] at hj; cases hj
     replace h := cL h gb hl fM eD
     have kT := c7 (y := aj x g) (g := g) hl
     replace h := aW (a := a) (p := p) (pa := pa) (dr := dr) (gg := gg) (x := x.bu g (aj x g)) kT h b
     rw [sx h0 h1] at h
     refine hop gg b bs c M' _ _ _ h eD ?_
     cases r with
     | on y =>
      intro lK M2 h
      refine ⟨rfl, ya h ?_⟩
      have e1 : (i.op == 12) = false := by simp; omega
      have e2 : (i.op == 17) = false := by simp; omega
      rw [e1, e2]
      exact k lK _ h.bW
     | eC n y =>
      intro lK M2 h
      exact Df h fun M3 h3 => k lK M3 h3
     | cT l y =>
      intro lK M2 h
      exact k lK M2 h.bW
   cases hs with
   | out h => omega
   | pure j hj a1 a2 a3 => rw [hi] at hj; cases hj; omega
   | De j hj a1 => rw [hi] at hj; cases hj; omega
   | V2 j hj a1 => rw [hi] at hj; cases hj; omega
   | dflt j fn hj a1 a2 a3 hf hn hop =>
    rw [hi] at hj; cases hj
    refine bp ?_
    refine zf h (dW h2) rfl ?_
    refine bp ?_
    rw [jg Bc.1 (by omega)]
    refine zg h (dW h2) rfl ?_
    clear h; intro M h
    refine aI h (aI h (aI h (aI h (aI h ?_))))
    refine E2 h ?_
    clear h; intro mp M h
    refine ⟨jt (bM h) (jt (bM h) (jt (bM h) (jt (bM h) tZ))), bM h, ?_⟩
    have hu : Tryz.prog.underlying 345 = some (.map 25 344) := by kernel_rfl
    have hkk : Tryz.prog.underlying 25 = some (.int .i64) := by kernel_rfl
    obtain ⟨ti, PJ, htz⟩ : ∃ ti, Tryz.prog.info? 344 = some ti ∧ ti.zero = some .nilFunc := ⟨_, rfl, rfl⟩
    refine N7 h hu hkk PJ htz ?_
    rw [hf]
    refine ⟨jt (bM h) (jt (bM h) (jt (bM h) (jt (bM h) tZ))), bM h, ?_⟩
    refine EN hn ?_
    replace h := cL h gb hl fM eD (by simp)
    have kT := c7 (y := (aj x g).cJ (aj x g).top.next) (g := g) hl
    have h5 := aW (a := a) (p := p) (pa := pa) (dr := dr) (gg := gg) (x := x.next g) kT h b
    have h6 : Hp R (az (br pa p gg dr) b (x.next g) :: pt ki [.int .i64 i.op, .int .i64 i.a, .int .i64 i.b, .int .i64 i.c] 27 :: L') M := h5.sub bD
    clear h h5
    have hfl : (aj (x.next g) g).fs.length = (aj x g).fs.length := by
     unfold Wd.next; rw [gF h0 h1]; simp [jl.cJ]
    have hc := hop gg b bs c M (fun Nm lj => (Nm = (.tuple #[])) ∧ ((Mem.iS lj ⟨ki, 0, none⟩ 0 4) = some [(.int .i64 i.op), (.int .i64 i.a), (.int .i64 i.b), (.int .i64 i.c)]) ∧ ((Mem.ld lj ⟨ki, 0, none⟩) = (some (.int .i64 i.op))) ∧
     aJ (lj.ld ⟨ki, 0, none⟩) .i64 fun n => aO (n == 12) (cv Tryz.prog 188 (.pointer (some ⟨b, 0, none⟩)) K Kp (.bool true) .returning lj)
      (aJ (lj.ld ⟨ki, 0, none⟩) .i64 fun n => cv Tryz.prog 188 (.pointer (some ⟨b, 0, none⟩)) K Kp (.bool (n == 17)) .returning lj))
     (fun l M => cv Tryz.prog 188 (.pointer (some ⟨b, 0, none⟩)) K Kp (.bool false) (.panicking l) M) _ h6 eD ?_
    ·rw [hfl] at hc
     exact hc
    cases r with
    | on y =>
     intro lK M2 h
     exact ⟨rfl, jt (bM h) (jt (bM h) (jt (bM h) (jt (bM h) tZ))), bM h, ya h (k lK _ h.bW)⟩
    | eC n y =>
     intro lK M2 h
     exact Df h fun M3 h3 => k lK M3 h3
    | cT l y =>
     intro lK M2 h
     exact k lK M2 h.bW
end
abbrev qJ (pa : PA) (p : b7) (dr : Value) (a : WA) (x : Wd) (n : Nat) : List Value :=
 [.slice pa.f p.funcs.length pa.fc, .slice pa.c p.eG.length pa.cc, .int .i64 p.aL, .slice pa.k p.cases.length pa.kc, .slice a.ag a.gb.length a.cg, .int .u64 x.clock,
  .slice a.ac a.cb.length a.cc, .slice a.al a.lb.length a.cl, .slice a.ah x.hl.length a.ch, .int .u64 x.mI, .slice a.ao x.out.length a.co, .int .i64 x.end_, .int .i64 x.code, .slice a.ar n a.cr, dr]
abbrev wh (a : WA) (x : Wd) (L : List HP) : List HP :=
 zh a.ag a.cg a.gb :: zk a.ac a.cc a.cb :: bg bE a.cb x.aD :: zl a.al a.cl a.lb :: bg fL a.lb x.aL :: gk a.ah a.ch x.hl :: yR a.ao a.co x.out :: L
def bI (pa : PA) (p : b7) : sG Wd := ⟨fun b x => exs fun q : WA × List GA × Value × Nat =>
 sep (pt b (qJ pa p q.2.2.1 q.1 x q.2.2.2) 161 :: bg fU q.1.gb (x.gs.zip q.2.1) :: fact (eL q.2.1 q.1 x) :: wh q.1 x [])⟩
section
variable {R : Mem} {L L' L2 : List HP} {M : Mem} {K : Value → Mem → Prop} {Kp : List PanicEntry → Mem → Prop} {pa : PA} {p : b7} {gg : List GA} {dr : Value} {b : Nat} {x : Wd} {g : Int}
class IX (b : Nat) (L : List HP) (pa : outParam PA) (p : outParam b7) (x : outParam Wd) (L' : outParam (List HP)) : Prop where
 pick : cZ L (az (bI pa p) b x) L'
instance IX.here : IX b (az (bI pa p) b x :: L) pa p x L := ⟨.here⟩
instance (priority := low) IX.there {Q : HP} [h : IX b L pa p x L'] : IX b (Q :: L) pa p x (Q :: L') := ⟨.there h.pick⟩
theorem en (h : Hp R L M) [o : IX b L pa p x L'] : ∃ (a : WA) (gg : List GA) (dr : Value) (n : Nat), eL gg a x ∧ Hp R (pt b (qJ pa p dr a x n) 161 :: bg fU a.gb (x.gs.zip gg) :: wh a x L') M := by
 have := h.pick o.pick
 unfold az at this
 simp only [bI, wh, Hp.di, Hp.aX, List.cons_append, List.nil_append] at this
 obtain ⟨⟨a, gg, dr, n⟩, h⟩ := this
 have h2 := h.pick (P := fact (eL gg a x)) (.there (.there .here))
 exact ⟨a, gg, dr, n, (Hp.fK.1 h2).1, (Hp.fK.1 h2).2⟩
theorem lM {a : WA} {n : Nat} (hl : eL gg a x) (h : Hp R (pt b (qJ pa p dr a x n) 161 :: bg fU a.gb (x.gs.zip gg) :: wh a x L) M) : Hp R (az (bI pa p) b x :: L) M := by
 refine Hp.vG ?_
 simp only [bI, wh, Hp.di, Hp.aX, List.cons_append, List.nil_append]
 refine ⟨(a, gg, dr, n), ?_⟩
 have h2 : Hp R (fact (eL gg a x) :: pt b (qJ pa p dr a x n) 161 :: bg fU a.gb (x.gs.zip gg) :: wh a x L) M := Hp.fK.2 ⟨hl, h⟩
 exact h2.nw (.there (.there .here))
def g9 (x : Wd) (g : Int) (rest : Bool) : Bool := !rest && x.end_ == 0 && (aj x g).st == 1
def B9 (l l' : List PanicEntry) : Prop := ∀ (b : Nat) (v : Value) (M : Mem) (K : Value → Mem → Prop) (Kp : List PanicEntry → Mem → Prop), Kp l' M → cv Tryz.prog 188 (.pointer (some ⟨b, 0, none⟩)) K Kp v (.panicking l) M
def qK (R : Mem) (pa : PA) (p : b7) (b : Nat) (g : Int) (L2 : List HP) (K : Value → Mem → Prop) (Kp : List PanicEntry → Mem → Prop) (r : Out Wd) (rest : Bool) : Prop := match r with
 | .cT l y => ∃ l', B9 l l' ∧ ∀ M', Hp R (az (bI pa p) b y :: L2) M' → Kp l' M'
 | .on y => ∀ R' A c M', R.le R' → RS bB R' A c y.ready → Hp R' (az (bI pa p) b y :: L2) M' → K (.agg #[.bool (g9 y g rest), .slice A y.ready.length c]) M'
 | .eC n y => ∀ R' A c M', R.le R' → RS bB R' A c y.ready → Hp R' (az (bI pa p) b { y with end_ := 2, code := n } :: L2) M' → K (.agg #[.bool (g9 { y with end_ := 2, code := n } g rest), .slice A y.ready.length c]) M'
theorem Oo.of {r : Out Wd} {rest : Bool} (hd : ¬ ∃ l y, r = .cT l y) (k : ∀ lK M', Hp R (az (br pa p lK dr) b r.fin :: L2) M' → K (.bool rest) M') : Oo R pa p dr b L2 K Kp r rest := by
 cases r with
 | on y => exact k
 | eC n y => exact k
 | cT l y => exact absurd ⟨l, y, rfl⟩ hd
theorem qK.get {r : Out Wd} {rest : Bool} (hd : ¬ ∃ l y, r = .cT l y) (k : qK R pa p b g L2 K Kp r rest) :
  ∀ R' A c M', R.le R' → RS bB R' A c r.fin.ready → Hp R' (az (bI pa p) b r.fin :: L2) M' → K (.agg #[.bool (g9 r.fin g rest), .slice A r.fin.ready.length c]) M' := by
 cases r with
 | on y => exact k
 | eC n y => exact k
 | cT l y => exact absurd ⟨l, y, rfl⟩ hd
theorem Hq {code : List cI} {r : Out Wd} {rest : Bool} (h : Hp R L M) [o : IX b L pa p x L'] (hp : oM R pa p) (hg : bj x g) (he : x.end_ = 0) (hst : (aj x g).st = 1)
  (hfn : 0 ≤ (aj x g).top.fn) (m5 : p.funcs[(aj x g).top.fn.toNat]? = some code)
  (Bc : 0 ≤ (aj x g).top.pc ∧ (aj x g).top.pc < 1000000000) (Bd : ∃ f c d, dr = .func f c d) (hs : ∀ Q, Step R pa p dr { x with ready := [] } g code r rest (Q :: L') (Q :: L2)) (hlen : g < r.fin.gs.length)
  (k : qK R pa p b g L2 K Kp r rest) :
  aa Tryz.prog 121 #[.pointer (some ⟨b, 0, none⟩), .int .i64 g, dr] M K Kp := by
 refine jT ?_
 have Ax := hg
 obtain ⟨h0, h1, h2, h3⟩ := Ax
 refine aq h ?_
 clear h
 intro kb M h
 have h' := en h (b := b)
 clear h
 obtain ⟨a, gg, dr0, n0, hl, h⟩ := h'
 have hl' := hl
 obtain ⟨l1, l2, l3, l4⟩ := hl'
 refine aM.2 ⟨fun hn => by omega, fun _ => ?_⟩
 refine aS h ?_
 refine aM.2 ⟨fun hn => by omega, fun _ => ?_⟩
 refine aI h ?_
 refine eJ.2 ⟨fun hn => absurd he hn, fun _ => ?_⟩
 refine aS h ?_
 refine ⟨h0, by omega, ?_⟩
 obtain ⟨gb, fM⟩ := aP (l := a.gb) (i := g.toNat) (by omega)
 refine vk h fM fun q hq => ?_
 obtain ⟨ga, V4⟩ := aP (l := gg) (i := g.toNat) (by omega)
 obtain ⟨y, hy⟩ := aP (l := x.gs) (i := g.toNat) (by omega)
 have ey : aj x g = y := by simp [aj, hy]
 rw [ey] at hst
 refine bp ?_
 have Ot : M.ld ⟨gb, 0, none⟩ = some (.int .i64 y.st) := by
  have h9 := mY (b := gb) (h.c6 fU fM (nN hy V4))
  exact bM h9
 rw [Ot]
 refine cG ?_
 refine eJ.2 ⟨fun hn => absurd hst hn, fun _ => ?_⟩
 refine au h ?_
 clear h Ot; intro M h
 have hpc2 : ∀ X : Prop, X → Bn dr X := by
  obtain ⟨f, c, d, rfl⟩ := Bd
  intro X hX; exact hX
 refine hpc2 _ ?_
 refine au h ?_
 clear h; intro M h
 have h4 := h.cC bB 3
 have h5 : Hp R (az (br pa p gg dr) b { x with ready := [] } :: pt kb [.bool false, .slice none 0 0] 250 :: L') M := jv (a := { a with ar := none, cr := 0 }) (x := { x with ready := [] }) hl (h4.sub bD)
 clear h h4
 by_cases Hr : ∃ l y, r = .cT l y
 ·obtain ⟨l, y, rfl⟩ := Hr
  refine E3 (b := b) (x := { x with ready := [] }) h5 hp hg hfn m5 Bc (hs _) ?_
  clear h5
  intro lK M h
  obtain ⟨l', hdr2, k⟩ := k
  refine hdr2 _ _ _ _ _ (k _ ?_)
  have h' := cn h (b := b)
  clear h
  obtain ⟨a2, kT, h⟩ := h'
  exact lM (a := a2) (n := y.ready.length) (gg := lK) (dr := dr) kT (h.sub bD)
 refine E3 (b := b) (x := { x with ready := [] }) h5 hp hg hfn m5 Bc (hs _) (.of Hr ?_)
 clear h5
 intro lK M h
 replace k := qK.get Hr k
 generalize r.fin = z at h k hlen
 have h' := cn h (b := b)
 clear h
 obtain ⟨a2, kT, h⟩ := h'
 have VW := kT
 obtain ⟨m1, m2, m3, m4⟩ := VW
 have fin : ∀ t : Bool, t = g9 z g rest → aK M ⟨kb, 0, none⟩ (.bool t) fun IB =>
    aK IB ⟨kb, (0 + 1), none⟩ (.slice a2.ar z.ready.length a2.cr) fun Aw =>
    de (Mem.ld Aw ⟨kb, 0, none⟩) fun t60 =>
    aB (Mem.ld Aw ⟨kb, (0 + 1), none⟩) fun TV Nl PD =>
    K (.agg #[(.bool t60), (.slice TV Nl PD)]) Aw := by
  intro t ht
  refine au h ?_
  clear h; intro M h
  refine au h ?_
  clear h; intro M h
  refine Ik h (aS h ?_)
  obtain ⟨R', hle, yb, h6⟩ := h.gE a2.ar
  subst ht
  exact k R' _ _ _ hle yb (lM (a := a2) (n := z.ready.length) (gg := lK) (dr := dr) kT (h6.sub bD))
 refine od ?_
 cases rest with
 | true =>
  refine ai ?_
  refine aS h ?_
  exact fin false (by simp [g9])
 | false =>
  refine ae ?_
  refine aI h ?_
  refine aR.2 ⟨fun e0 => ?_, fun e0 => ?_⟩
  ·refine aS h ?_
   refine ⟨h0, by omega, ?_⟩
   obtain ⟨gb2, Zs⟩ := aP (l := a2.gb) (i := g.toNat) (by omega)
   refine vk h Zs fun q2 lI => ?_
   obtain ⟨ga2, hga2⟩ := aP (l := lK) (i := g.toNat) (by omega)
   obtain ⟨y2, hy2⟩ := aP (l := z.gs) (i := g.toNat) (by omega)
   have ey2 : aj z g = y2 := by simp [aj, hy2]
   refine bp ?_
   have Ot : M.ld ⟨gb2, 0, none⟩ = some (.int .i64 y2.st) := by
    have h9 := mY (b := gb2) (h.c6 fU Zs (nN hy2 hga2))
    exact bM h9
   rw [Ot]
   refine cG ?_
   refine aS h ?_
   exact fin (y2.st == 1) (by simp [g9, e0, ey2])
  ·refine aS h ?_
   have : (z.end_ == 0) = false := by simpa using e0
   exact fin false (by simp [g9, this])
end
section
variable {R : Mem} {L L' L2 : List HP} {M : Mem} {K : Value → Mem → Prop} {Kp : List PanicEntry → Mem → Prop} {pa : PA} {p : b7} {gg : List GA} {dr : Value} {b : Nat} {x : Wd} {g : Int}
theorem KI (h : Hp R L M) [o : IX b L pa p x L'] (k : K (.int .i64 (x.gs.length : Int)) M) : aa Tryz.prog 73 #[.pointer (some ⟨b, 0, none⟩)] M K Kp := by
 refine sQ ?_
 have h' := en h (b := b)
 clear h
 obtain ⟨a, gg, dr, n, hl, h⟩ := h'
 refine aS h ?_
 rw [hl.1]
 exact k
theorem KJ (h : Hp R L M) [o : IX b L pa p x L'] (k : K (.tuple #[.int .i64 x.end_, .int .i64 x.code]) M) : aa Tryz.prog 28 #[.pointer (some ⟨b, 0, none⟩)] M K Kp := by
 refine sR ?_
 have h' := en h (b := b)
 clear h
 obtain ⟨a, gg, dr, n, hl, h⟩ := h'
 refine aI h (aI h ?_)
 exact k
theorem uV (h : Hp R L M) [o : IX b L pa p x L'] (h0 : 0 ≤ g) (h1 : g < x.gs.length) (k : K (.int .i64 (aj x g).st) M) : aa Tryz.prog 119 #[.pointer (some ⟨b, 0, none⟩), .int .i64 g] M K Kp := by
 refine oA ?_
 have h' := en h (b := b)
 clear h
 obtain ⟨a, gg, dr, n, hl, h⟩ := h'
 have hl' := hl
 obtain ⟨l1, l2, l3, l4⟩ := hl'
 refine aM.2 ⟨fun hn => by omega, fun _ => ?_⟩
 refine aS h ?_
 refine aM.2 ⟨fun hn => by omega, fun _ => ?_⟩
 refine aS h ?_
 refine ⟨h0, by omega, ?_⟩
 obtain ⟨gb, fM⟩ := aP (l := a.gb) (i := g.toNat) (by omega)
 refine vk h fM fun q hq => ?_
 obtain ⟨ga, V4⟩ := aP (l := gg) (i := g.toNat) (by omega)
 obtain ⟨y, hy⟩ := aP (l := x.gs) (i := g.toNat) (by omega)
 have ey : aj x g = y := by simp [aj, hy]
 rw [ey] at k
 refine bp ?_
 have Ot : M.ld ⟨gb, 0, none⟩ = some (.int .i64 y.st) := by
  have h9 := mY (b := gb) (h.c6 fU fM (nN hy V4))
  exact bM h9
 rw [Ot]
 exact cG k
end
def Wd.new (p : b7) : Wd := ⟨[⟨1, [gN.begin 0 0], .zero⟩], 0, p.eG.map aT.new, List.replicate p.aL.toNat ⟨-1, []⟩, [], 0, [], 0, 0, []⟩
theorem SN : bn Tryz.prog 156 230 1 8 [.pointer none] := bn.mk' (zv := .pointer none) (by kernel_rfl) (by kernel_rfl) rfl (by omega)
theorem SO : bn Tryz.prog 157 232 1 8 [.pointer none] := bn.mk' (zv := .pointer none) (by kernel_rfl) (by kernel_rfl) rfl (by omega)
section
variable {R : Mem} {L L' L2 : List HP} {M : Mem} {K : Value → Mem → Prop} {Kp : List PanicEntry → Mem → Prop} {pa : PA} {p : b7} {gg : List GA} {dr : Value} {b : Nat} {x : Wd} {g : Int}
theorem Ou {j : Nat} {q A' : Nat} {c' : Nat} {v : Int} {a : WA} {n k : Nat} {Ac : Option Addr} {Q : List HP} (hl : eL gg a x)
  (h : Hp R (pt b (qJ pa p dr { a with ac := Ac, cc := c', cb := a.cb ++ [k] } x n) 161 :: zk Ac c' (a.cb ++ [k]) :: az bE k (aT.new v) :: bg bE a.cb x.aD :: bg fU a.gb (x.gs.zip gg) :: zh a.ag a.cg a.gb :: zl a.al a.cl a.lb :: bg fL a.lb x.aL :: gk a.ah a.ch x.hl :: yR a.ao a.co x.out :: Q) M) :
  Hp R (az (bI pa p) b { x with aD := x.aD ++ [aT.new v] } :: Q) M := by
 obtain ⟨l1, l2, l3, l4⟩ := hl
 have h2 := h.kD bE k l3
 exact lM (a := { a with ac := Ac, cc := c', cb := a.cb ++ [k] }) (gg := gg) (dr := dr) (n := n) (x := { x with aD := x.aD ++ [aT.new v] }) ⟨l1, l2, by simp [l3], l4⟩ (h2.sub bD)
theorem Ov {c' : Nat} {a : WA} {n k : Nat} {Ac : Option Addr} {Q : List HP} (hl : eL gg a x)
  (h : Hp R (pt b (qJ pa p dr { a with al := Ac, cl := c', lb := a.lb ++ [k] } x n) 161 :: zl Ac c' (a.lb ++ [k]) :: az fL k ⟨-1, []⟩ :: bg fL a.lb x.aL :: bg fU a.gb (x.gs.zip gg) :: zh a.ag a.cg a.gb :: zk a.ac a.cc a.cb :: bg bE a.cb x.aD :: gk a.ah a.ch x.hl :: yR a.ao a.co x.out :: Q) M) :
  Hp R (az (bI pa p) b { x with aL := x.aL ++ [⟨-1, []⟩] } :: Q) M := by
 obtain ⟨l1, l2, l3, l4⟩ := hl
 have h2 := h.kD fL k l4
 exact lM (a := { a with al := Ac, cl := c', lb := a.lb ++ [k] }) (gg := gg) (dr := dr) (n := n) (x := { x with aL := x.aL ++ [⟨-1, []⟩] }) ⟨l1, l2, l3, by simp [l4]⟩ (h2.sub bD)
theorem KK (h : Hp R L M) (xZ : RS bB R pa.c pa.cc p.eG) (hc : p.eG.length ≤ 1000000) (hk : 0 ≤ p.aL ∧ p.aL ≤ 1000000)
  (k : ∀ b M', Hp R (az (bI pa p) b (Wd.new p) :: L) M' → K (.pointer (some ⟨b, 0, none⟩)) M') :
  aa Tryz.prog 56 #[.agg #[.slice pa.f p.funcs.length pa.fc, .slice pa.c p.eG.length pa.cc, .int .i64 p.aL, .slice pa.k p.cases.length pa.kc]] M K Kp := by
 refine CY ?_
 repeat (first|(refine aq h ?_;clear h;intro kb M h)|(refine au h ?_;clear h;intro M h)|refine St.to h ?_|(apply Exists.intro;(repeat apply Exists.intro);refine And.intro rfl ?_)|refine av ?_|refine ae ?_|refine ai ?_)
 refine pW h ?_
 clear h
 intro bs M h
 repeat (first|(refine aq h ?_;clear h;intro kb M h)|(refine au h ?_;clear h;intro M h)|refine St.to h ?_|(apply Exists.intro;(repeat apply Exists.intro);refine And.intro rfl ?_)|refine av ?_|refine ae ?_|refine ai ?_)
 rename_i kp _ _ kr _ kw _
 replace h := mZ h kr
 replace h := (h.ur fU).kD fU kr rfl
 replace h := (h.pt kw).lV (E := lW) (l := [kr]) rfl
 replace h := (h.cC lW 230).ur bE
 replace h := (h.cC lW 232).ur fL
 replace h := (h.cC uw 203).cC bB 2
 have base : Hp R (az (bI pa p) kb { Wd.new p with aD := (p.eG.take 0).map aT.new, aL := [] } :: pt kp [.slice pa.f p.funcs.length pa.fc, .slice pa.c p.eG.length pa.cc, .int .i64 p.aL, .slice pa.k p.cases.length pa.kc] 39 :: L) _ :=
  lM (a := ⟨some ⟨kw, 0, none⟩, 1, [kr], none, 0, [], none, 0, [], none, 0, none, 0, none, 0⟩) (gg := [(some ⟨bs, 0, none⟩, 1)]) (dr := .nilFunc) (n := 0) (x := { Wd.new p with aD := [], aL := [] }) ⟨rfl, rfl, rfl, rfl⟩ (h.sub bD)
 clear h
 refine ⟨fun d vs M => ∃ j : Nat, vs = [.int .i64 (j : Int)] ∧ d = p.eG.length - j ∧ j ≤ p.eG.length ∧ Hp R (az (bI pa p) kb { Wd.new p with aD := (p.eG.take j).map aT.new, aL := [] } :: pt kp [.slice pa.f p.funcs.length pa.fc, .slice pa.c p.eG.length pa.cc, .int .i64 p.aL, .slice pa.k p.cases.length pa.kc] 39 :: L) M,
  ⟨_, 0, rfl, rfl, by omega, base⟩, ?_⟩
 clear base
 rintro d _ nn M ⟨j, he, hd, hj, h⟩
 simp only [List.cons.injEq, Value.int.injEq, and_true, true_and] at he
 subst he
 refine aM.2 ⟨fun hlt => ?_, fun hge => ?_⟩
 ·obtain ⟨v, hv⟩ := aP (l := p.eG) (i := j) (by omega)
  have Zo : (p.eG.take (j + 1)).map aT.new = (p.eG.take j).map aT.new ++ [aT.new v] := by rw [dB hv, List.map_append]; rfl
  have Lu : ((p.eG.take j).map aT.new).length ≤ 1000000 := by simp; omega
  rw [aV (by omega)]
  refine ⟨by omega, hlt, ?_⟩
  obtain ⟨cb, co, hcb⟩ := xZ.some (by omega) (by decide)
  have Zt := xZ
  rw [hcb] at Zt ⊢
  refine bp ?_
  simp only [Int.toNat_natCast]
  refine aZ (Src.at (Zt.src (L := _)) h (i := j) (j := 0) hv rfl (by simp [bB])) ?_
  refine ⟨fun _ M => Hp R (az (bI pa p) kb { Wd.new p with aD := (p.eG.take j).map aT.new ++ [aT.new v], aL := [] } :: pt kp [.slice pa.f p.funcs.length pa.fc, .slice pa.c p.eG.length pa.cc, .int .i64 p.aL, .slice pa.k p.cases.length pa.kc] 39 :: L) M, ⟨?_, ?_, trivial⟩, ?_⟩
  ·have h' := en h (b := kb)
   clear h
   obtain ⟨a, gg, dr, n, hl, h⟩ := h'
   have PK : a.cb.length = ((p.eG.take j).map aT.new).length := hl.2.2.1
   refine aS h ?_
   refine BP h ?_
   clear h
   intro kc M h
   repeat (first|(refine aq h ?_;clear h;intro kb M h)|(refine au h ?_;clear h;intro M h)|refine St.to h ?_|(apply Exists.intro;(repeat apply Exists.intro);refine And.intro rfl ?_)|refine av ?_|refine ae ?_|refine ai ?_)
   refine h.bN SN [kc] rfl rfl (by simp only [List.length_singleton]; omega) ?_
   clear h
   intro A' c' M h
   repeat (first|(refine aq h ?_;clear h;intro kb M h)|(refine au h ?_;clear h;intro M h)|refine St.to h ?_|(apply Exists.intro;(repeat apply Exists.intro);refine And.intro rfl ?_)|refine av ?_|refine ae ?_|refine ai ?_)
   exact Ou (j := j) (q := j) (A' := j) (a := a) (x := { Wd.new p with aD := (p.eG.take j).map aT.new, aL := [] }) hl (h.sub bD)
  ·have h' := en h (b := kb)
   clear h
   obtain ⟨a, gg, dr, n, hl, h⟩ := h'
   have PK : a.cb.length = ((p.eG.take j).map aT.new).length := hl.2.2.1
   refine BP h ?_
   clear h
   intro kc M h
   repeat (first|(refine aq h ?_;clear h;intro kb M h)|(refine au h ?_;clear h;intro M h)|refine St.to h ?_|(apply Exists.intro;(repeat apply Exists.intro);refine And.intro rfl ?_)|refine av ?_|refine ae ?_|refine ai ?_)
   refine h.bN SN [kc] rfl rfl (by simp only [List.length_singleton]; omega) ?_
   clear h
   intro A' c' M h
   repeat (first|(refine aq h ?_;clear h;intro kb M h)|(refine au h ?_;clear h;intro M h)|refine St.to h ?_|(apply Exists.intro;(repeat apply Exists.intro);refine And.intro rfl ?_)|refine av ?_|refine ae ?_|refine ai ?_)
   exact Ou (j := j) (q := j) (A' := j) (a := a) (x := { Wd.new p with aD := (p.eG.take j).map aT.new, aL := [] }) hl (h.sub bD)
  ·clear h
   intro _ M h
   refine ⟨p.eG.length - (j + 1), by omega, j + 1, rfl, rfl, by omega, ?_⟩
   rw [Zo, ← hcb]; exact h
 ·obtain rfl : j = p.eG.length := by omega
  rw [List.take_length] at h
  refine aI h ?_
  obtain ⟨nl, hnl⟩ := Int.eq_ofNat_of_zero_le hk.1
  refine ⟨fun d vs M => ∃ j : Nat, vs = [.int .i64 (j : Int)] ∧ d = nl - j ∧ j ≤ nl ∧ Hp R (az (bI pa p) kb { Wd.new p with aL := List.replicate j ⟨-1, []⟩ } :: pt kp [.slice pa.f p.funcs.length pa.fc, .slice pa.c p.eG.length pa.cc, .int .i64 p.aL, .slice pa.k p.cases.length pa.kc] 39 :: L) M,
   ⟨_, 0, rfl, rfl, by omega, h⟩, ?_⟩
  clear h
  rintro d _ nn M ⟨j, he, hd, hj, h⟩
  simp only [List.cons.injEq, Value.int.injEq, and_true, true_and] at he
  subst he
  refine aM.2 ⟨fun hlt => ?_, fun hge => ?_⟩
  ·have Zo : List.replicate (j + 1) (⟨-1, []⟩ : Lk) = List.replicate j ⟨-1, []⟩ ++ [⟨-1, []⟩] := List.replicate_succ'
   rw [aV (by omega)]
   refine ⟨fun _ M => Hp R (az (bI pa p) kb { Wd.new p with aL := List.replicate j ⟨-1, []⟩ ++ [⟨-1, []⟩] } :: pt kp [.slice pa.f p.funcs.length pa.fc, .slice pa.c p.eG.length pa.cc, .int .i64 p.aL, .slice pa.k p.cases.length pa.kc] 39 :: L) M, ⟨?_, ?_, trivial⟩, ?_⟩
   ·have h' := en h (b := kb)
    clear h
    obtain ⟨a, gg, dr, n, hl, h⟩ := h'
    have PK : a.lb.length = (List.replicate j (⟨-1, []⟩ : Lk)).length := hl.2.2.2
    rw [List.length_replicate] at PK
    refine aS h ?_
    refine BU h ?_
    clear h
    intro kc M h
    repeat (first|(refine aq h ?_;clear h;intro kb M h)|(refine au h ?_;clear h;intro M h)|refine St.to h ?_|(apply Exists.intro;(repeat apply Exists.intro);refine And.intro rfl ?_)|refine av ?_|refine ae ?_|refine ai ?_)
    refine h.bN SO [kc] rfl rfl (by simp only [List.length_singleton]; omega) ?_
    clear h
    intro A' c' M h
    repeat (first|(refine aq h ?_;clear h;intro kb M h)|(refine au h ?_;clear h;intro M h)|refine St.to h ?_|(apply Exists.intro;(repeat apply Exists.intro);refine And.intro rfl ?_)|refine av ?_|refine ae ?_|refine ai ?_)
    exact Ov (a := a) (x := { Wd.new p with aL := List.replicate j ⟨-1, []⟩ }) hl (h.sub bD)
   ·have h' := en h (b := kb)
    clear h
    obtain ⟨a, gg, dr, n, hl, h⟩ := h'
    have PK : a.lb.length = (List.replicate j (⟨-1, []⟩ : Lk)).length := hl.2.2.2
    rw [List.length_replicate] at PK
    refine BU h ?_
    clear h
    intro kc M h
    repeat (first|(refine aq h ?_;clear h;intro kb M h)|(refine au h ?_;clear h;intro M h)|refine St.to h ?_|(apply Exists.intro;(repeat apply Exists.intro);refine And.intro rfl ?_)|refine av ?_|refine ae ?_|refine ai ?_)
    refine h.bN SO [kc] rfl rfl (by simp only [List.length_singleton]; omega) ?_
    clear h
    intro A' c' M h
    repeat (first|(refine aq h ?_;clear h;intro kb M h)|(refine au h ?_;clear h;intro M h)|refine St.to h ?_|(apply Exists.intro;(repeat apply Exists.intro);refine And.intro rfl ?_)|refine av ?_|refine ae ?_|refine ai ?_)
    exact Ov (a := a) (x := { Wd.new p with aL := List.replicate j ⟨-1, []⟩ }) hl (h.sub bD)
   ·clear h
    intro _ M h
    refine ⟨nl - (j + 1), by omega, j + 1, rfl, rfl, by omega, ?_⟩
    rw [Zo]; exact h
  ·obtain rfl : j = nl := by omega
   have e : Wd.new p = { Wd.new p with aL := List.replicate j ⟨-1, []⟩ } := by unfold Wd.new; rw [hnl]; rfl
   rw [← e] at h
   exact k _ _ h.bW
end
def aC (p : b7) (i : cI) : List om := (p.cases.drop i.a.toNat).take i.b.toNat
def uW (f : gN) : List Int := [f.r.getD 0 0, f.r.getD 1 0, f.r.getD 2 0, f.r.getD 3 0, f.r.getD 4 0, f.r.getD 5 0, f.r.getD 6 0, f.r.getD 7 0]
inductive jU where
 | num (d : Int)
 | cT (l : List PanicEntry)
def iO (R : Mem) (dr : Value) (kind n : Int) (d : jU) (L L2 : List HP) : Prop := ∀ (Q : HP) (M : Mem) (K : Value → Mem → Prop) (Kp : List PanicEntry → Mem → Prop), Hp R (Q :: L) M →
 (match d with
  | .num v => ∀ M', Hp R (Q :: L2) M' → K (.int .i64 v) M'
  | .cT l => ∀ M', Hp R (Q :: L2) M' → Kp l M') → iB Cx dr [.int .i64 kind, .int .i64 n] M K Kp
def Wd.qb (p : b7) (x : Wd) (g : Int) (i : cI) (k : Int) : Out Wd :=
 let c := (aC p i).getD k.toNat ⟨0, 0, 0⟩
 let x1 := x.next g
 if c.way = 1 then match x1.put p c.ch (bt x1 g c.bQ) with
  | .eC n y => .eC n y
  | .cT l y => .cT l y
  | .on (y, _) => .on (y.bq g i.c k)
 else .on (((x1.get c.ch).1.bq g c.bQ (x1.get c.ch).2.1).bq g i.c k)
def Wd.tB (p : b7) (x : Wd) (g : Int) (i : cI) : Wd :=
 let x1 := x.next g
 match els (aC p i) with
  | some k => x1.bq g i.c (k : Int)
  | none => Wd.block { x1 with aD := dU g (uW (aj x1 g).top) (aC p i) x1.aD (aC p i).length } g i
def Wd.choose (p : b7) (x : Wd) (g : Int) (i : cI) (d : jU) : Out Wd :=
 if enabled (aC p i) x.aD = [] then .on (x.tB p g i)
 else match d with
  | .num v => x.qb p g i ((enabled (aC p i) x.aD).getD v.toNat 0)
  | .cT l => .cT l x
section
variable {R : Mem} {L L' L2 : List HP} {M : Mem} {K : Value → Mem → Prop} {Kp : List PanicEntry → Mem → Prop} {pa : PA} {p : b7} {gg : List GA} {dr : Value} {b : Nat} {x : Wd} {g : Int} {i : cI}
def uX (p : b7) (i : cI) : Prop := 0 ≤ i.a ∧ 0 ≤ i.b ∧ i.a + i.b ≤ p.cases.length ∧ p.cases.length ≤ 1000
instance (p : b7) (i : cI) : Decidable (uX p i) := by unfold uX; infer_instance
theorem E4 (h : Hp R L M) [o : vY b L pa p gg dr x L'] (hp : oM R pa p) (hk : uX p i)
  (k : ∀ A c M', RS g6 R A c (aC p i) → Hp R (az (br pa p gg dr) b x :: L') M' → K (.slice A (aC p i).length c) M') :
  aa Tryz.prog 204 #[.pointer (some ⟨b, 0, none⟩), .agg #[.int .i64 i.op, .int .i64 i.a, .int .i64 i.b, .int .i64 i.c]] M K Kp := by
 refine pJ ?_
 obtain ⟨a0, b0, hab, hl⟩ := hk
 have hcap := hp.cases.2
 refine aq h ?_
 clear h; intro kb M h
 have hC := h.drop.pick o.pick
 have h' := cn h (b := b)
 clear h
 obtain ⟨a, kT, h⟩ := h'
 refine aS h (aI h (aI h (aI h ?_)))
 rw [cQ (by omega) (by omega)]
 refine ⟨by omega, by omega, by omega, by omega, by omega, by omega, ?_⟩
 have e : (aC p i).length = (i.a + i.b).toNat - i.a.toNat := by
  unfold aC
  rw [List.length_take, List.length_drop]; omega
 rw [← e]
 simp only [Int.toNat_natCast]
 exact k _ _ _ ((hp.cases.drop i.a.toNat (by omega)).take i.b.toNat) hC
theorem Ow {bs j : Nat} {l : List gN} {f : gN} (hs : Src R L (some ⟨bs, 0, none⟩) (j9.cells l)) (hi : l[j]? = some f) : Src R L (lp (some ⟨bs, j * 11 + 2, none⟩) 0 8 1) (bB.cells (uW f)) := by
 intro M h
 have e : lp (some ⟨bs, j * 11 + 2, none⟩) 0 8 1 = some ⟨bs, j * 11 + 2, none⟩ := by
  unfold lp; rw [if_neg (by omega)]; rfl
 rw [e]
 intro q hq
 have hq8 : q < 8 := by simpa [bB, iz.cells, uW] using hq
 have e2 : j * 11 + 2 + q = 0 + (j * j9.z + (2 + q)) := by show _ = 0 + (j * 11 + (2 + q)); omega
 obtain rfl | rfl | rfl | rfl | rfl | rfl | rfl | rfl : q = 0 ∨ q = 1 ∨ q = 2 ∨ q = 3 ∨ q = 4 ∨ q = 5 ∨ q = 6 ∨ q = 7 := by omega
 all_goals exact Src.at hs h (i := j) hi rfl e2
theorem Hs {bs c oo : Nat} {v : Int} {G : Mem → Prop} (h : Hp R L M) [o : vY b L pa p gg dr x L'] (hg : bj x g) (eD : gg[g.toNat]? = some (some ⟨bs, 0, none⟩, c)) (e : oo = ((aj x g).fs.length - 1) * 11 + 1) (hv : v = (aj x g).top.pc + 1)
  (k : ∀ M', Hp R (az (br pa p gg dr) b (x.next g) :: L') M' → G M') : aK M ⟨bs, oo, none⟩ (.int .i64 v) G := by
 subst hv
 obtain ⟨h0, h1, h2, h3⟩ := hg
 obtain ⟨a, gb, hl, fM, h4⟩ := gG h (b := b) h0 h1 eD
 refine zg h4 (dW h2) e fun M' h5 => ?_
 replace h5 := cL h5 gb hl fM eD (by simp)
 exact k M' (aW (a := a) (p := p) (pa := pa) (dr := dr) (gg := gg) (x := x.next g) (c7 hl) h5 b)
theorem Ht {bs c oo : Nat} {G : Int → Prop} (h : Hp R L M) [o : vY b L pa p gg dr x L'] (hg : bj x g) (eD : gg[g.toNat]? = some (some ⟨bs, 0, none⟩, c)) (e : oo = ((aj x g).fs.length - 1) * 11 + 1)
  (k : G (aj x g).top.pc) : aJ (M.ld ⟨bs, oo, none⟩) .i64 G := by
 obtain ⟨h0, h1, h2, h3⟩ := hg
 obtain ⟨a, gb, hl, fM, h4⟩ := gG h (b := b) h0 h1 eD
 exact zf h4 (dW h2) e k
theorem zy (hg : bj x g) : aj (x.next g) g = (aj x g).cJ (aj x g).top.next := gF hg.1 hg.2.1
theorem tC (hg : bj x g) : bj (x.next g) g := by
 have e := zy hg
 obtain ⟨h0, h1, h2, h3⟩ := hg
 refine ⟨h0, by simpa [Wd.next, Wd.bu] using h1, ?_, ?_⟩ <;> rw [e] <;> simpa [jl.cJ]
theorem Dg (hg : bj x g) : (aj (x.next g) g).fs.length = (aj x g).fs.length := by rw [zy hg]; simp [jl.cJ]
theorem KL {q v : Int} (hg : bj x g) : (aj (x.bq g q v) g).fs.length = (aj x g).fs.length := by rw [iK hg]; simp [jl.cJ]
theorem Rb (hs : x.Sm) : (x.next g).Sm := IK hs
def E5 (p : b7) (x : Wd) (g : Int) (i : cI) (d : jU) : Prop := bj x g ∧ uX p i ∧ aU i.c ∧ x.Sm ∧ (aj x g).top.pc < 1000000000 ∧ 0 ≤ (aj x g).top.pc ∧ (∀ c ∈ aC p i, c.Ok x.aD.length) ∧
 match enabled (aC p i) x.aD, d with
 | [], _ => True
 | _, .cT _ => True
 | can, .num v => 0 ≤ v ∧ v < can.length ∧
  let k := can.getD v.toNat 0
  let c := (aC p i).getD k.toNat ⟨0, 0, 0⟩
  let x1 := x.next g
  0 ≤ k ∧ k < (aC p i).length ∧ aU c.bQ ∧
  if c.way = 1 then oq p x1 c.ch (bt x1 g c.bQ) ∧ (match x1.put p c.ch (bt x1 g c.bQ) with
   | .on (y, _) => bj y g ∧ (aj y g).fs.length = (aj x g).fs.length
   | _ => True)
  else uR x1 c.ch ∧ bj (x1.get c.ch).1 g ∧ (aj (x1.get c.ch).1 g).fs.length = (aj x g).fs.length
theorem KM {d : jU} (hp : oM R pa p) (hk : E5 p x g i d) (hd : if enabled (aC p i) x.aD = [] then L2 = L else iO R dr 3 ((enabled (aC p i) x.aD).length : Int) d L L2) :
  fX R pa p dr 191 x g i (x.choose p g i d) L L2 := by
 intro gg b bs c M K Kp Q h eD k
 obtain ⟨hg, hcs, Rc, hs, Bc, Rd, hok, hk⟩ := hk
 have Ax := hg
 obtain ⟨h0, h1, h2, h3⟩ := Ax
 have hs' := hs
 obtain ⟨s1, s2, s3, s4, s5, s6, s7, s8⟩ := hs'
 have SM : (aC p i).length ≤ 1000 := by
  obtain ⟨_, _, _, hl⟩ := hcs
  unfold aC
  rw [List.length_take, List.length_drop]; omega
 refine oD ?_
 refine aq h ?_
 clear h; intro k1 M h
 refine aI h (aI h (aI h (aI h ?_)))
 refine E4 (b := b) h hp hcs ?_
 clear h; intro A ca M hA h
 refine bk ?_
 unfold Wd.choose at k
 have hen : ∀ {X : HP} {M : Mem} {L3 : List HP}, Hp R (az (br pa p gg dr) b x :: L3) M → ∀ (K1 : Value → Mem → Prop), (∀ A' c' M', Hp R (lz A' c' (enabled (aC p i) x.aD) :: az (br pa p gg dr) b x :: L3) M' → K1 (.slice A' (enabled (aC p i) x.aD).length c') M') →
   aB (M.ld ⟨b, 0 + 6, none⟩) fun An eK jH => aa Tryz.prog 205 #[.slice A (aC p i).length ca, .slice An eK jH] M K1 Kp := by
  intro X M L3 h K1 k1
  have h' := cn h (b := b)
  clear h
  obtain ⟨a, hl, h⟩ := h'
  have hl' := hl
  obtain ⟨l1, l2, l3, l4⟩ := hl'
  refine aS h ?_
  refine AN h (hA.src) (Src.row (A := a.ac)) rfl rfl (by omega) l3 hok ?_
  clear h; intro A' c' M h
  exact k1 _ _ _ ((aW (a := a) (p := p) (pa := pa) (dr := dr) (gg := gg) (x := x) hl h b).swap)
 refine hen (X := Q) h _ ?_
 clear h hen; intro A2 c2 M h
 refine bk ?_
 by_cases hcan : enabled (aC p i) x.aD = []
 ·rw [if_pos hcan] at k hd
  subst hd
  rw [hcan] at h ⊢
  refine ae ?_
  unfold Wd.tB at k
  dsimp only at k
  refine Ht (b := b) h hg eD rfl ?_
  rw [jg Rd (by omega)]
  refine Hs (b := b) h hg eD rfl rfl ?_
  clear h; intro M h
  have KN := tC hg
  have JI := Dg hg
  refine Gx h hA.src rfl (by omega) ?_
  clear h; intro M h
  refine ⟨_, _, rfl, ?_⟩
  cases he : els (aC p i) with
  | some q =>
   rw [he] at k
   dsimp only at k ⊢
   refine ae ?_
   refine aI h ?_
   refine ⟨Rc.1, Rc.2, ?_⟩
   refine lJ (b := b) h KN eD Rc (by rw [JI]) ?_
   clear h; intro M h
   exact k _ _ (h.sub bD)
  | none =>
   rw [he] at k
   dsimp only at k ⊢
   refine ai ⟨by decide, by decide, by decide, by decide, by decide, by decide, ?_⟩
   have wL := KN
   obtain ⟨g0, g1, g2, g3⟩ := wL
   have h' := gG h (b := b) g0 g1 eD
   clear h
   obtain ⟨a, gb, hl, fM, h⟩ := h'
   have hl' := hl
   obtain ⟨l1, l2, l3, l4⟩ := hl'
   refine aS h ?_
   refine Gz (fD := uW (aj (x.next g) g).top) h hA.src (Src.row (A := a.ac)) ?_ rfl rfl rfl rfl (by omega) l3 hok (fun c hc => s1 c hc) ?_
   ·have e9 : ∀ {L9 : List HP}, Src R L9 (some ⟨bs, 0, none⟩) (j9.cells (aj (x.next g) g).fs) → Src R L9 (lp (some ⟨bs, ((aj x g).fs.length - 1) * 11 + 2, none⟩) 0 8 1) (bB.cells (uW (aj (x.next g) g).top)) := fun hs => by
     have := Ow hs (dW g2)
     rwa [JI] at this
    exact e9 Src.row
   clear h; intro M h
   refine ⟨rfl, ?_⟩
   refine aI h (aI h (aI h (aI h ?_)))
   replace h := cL h gb hl fM eD
   have kT := c7 (y := aj (x.next g) g) (g := g) hl
   have hcl2 : ∀ x' : Wd, x' = { (x.next g).bu g (aj (x.next g) g) with aD := dU g (uW (aj (x.next g) g).top) (aC p i) x.aD (aC p i).length } → eL gg a x' := by
    rintro _ rfl
    obtain ⟨m1, m2, m3, m4⟩ := kT
    exact ⟨m1, m2, by show _ = List.length _; rw [kU]; exact l3, m4⟩
   replace h := aW (a := a) (p := p) (pa := pa) (dr := dr) (gg := gg) (x := { (x.next g).bu g (aj (x.next g) g) with aD := dU g (uW (aj (x.next g) g).top) (aC p i) x.aD (aC p i).length }) (hcl2 _ rfl) h b
   rw [sx g0 g1] at h
   refine lH (b := b) (i := i) (x := { x.next g with aD := dU g (uW (aj (x.next g) g).top) (aC p i) x.aD (aC p i).length }) h g0 g1 ?_
   clear h; intro M h
   exact ⟨rfl, k _ _ (h.sub bD)⟩
 rw [if_neg hcan] at k hd
 have Zu : 0 < (enabled (aC p i) x.aD).length := by
  cases hh : enabled (aC p i) x.aD with
  | nil => exact absurd hh hcan
  | cons _ _ => simp
 refine Gj (by simp; omega) ?_
 have Bd : M.ld ⟨b, 0 + 14, none⟩ = some dr := by
  obtain ⟨a, hl, h9⟩ := cn h (b := b)
  exact bM h9
 rw [Bd]
 refine Mv ?_
 have h5 : Hp R (sep [lz A2 c2 (enabled (aC p i) x.aD), az (br pa p gg dr) b x, pt k1 [.int .i64 i.op, .int .i64 i.a, .int .i64 i.b, .int .i64 i.c] 27, Q] :: L) M := Hp.aX.2 (h.sub bD)
 refine hd _ _ _ _ h5 ?_
 clear h h5 Bd
 cases d with
 | cT l =>
  dsimp only at k ⊢
  intro M h5
  have h : Hp R (lz A2 c2 (enabled (aC p i) x.aD) :: az (br pa p gg dr) b x :: pt k1 [.int .i64 i.op, .int .i64 i.a, .int .i64 i.b, .int .i64 i.c] 27 :: Q :: L2) M := Hp.aX.1 h5
  exact k _ _ (h.sub bD)
 | num v =>
  dsimp only at k ⊢
  intro M h5
  have h : Hp R (lz A2 c2 (enabled (aC p i) x.aD) :: az (br pa p gg dr) b x :: pt k1 [.int .i64 i.op, .int .i64 i.a, .int .i64 i.b, .int .i64 i.c] 27 :: Q :: L2) M := Hp.aX.1 h5
  clear h5
  have hk2 : 0 ≤ v ∧ v < (enabled (aC p i) x.aD).length ∧
    0 ≤ (enabled (aC p i) x.aD).getD v.toNat 0 ∧ (enabled (aC p i) x.aD).getD v.toNat 0 < (aC p i).length ∧ aU ((aC p i).getD ((enabled (aC p i) x.aD).getD v.toNat 0).toNat ⟨0, 0, 0⟩).bQ ∧
    if ((aC p i).getD ((enabled (aC p i) x.aD).getD v.toNat 0).toNat ⟨0, 0, 0⟩).way = 1 then oq p (x.next g) ((aC p i).getD ((enabled (aC p i) x.aD).getD v.toNat 0).toNat ⟨0, 0, 0⟩).ch (bt (x.next g) g ((aC p i).getD ((enabled (aC p i) x.aD).getD v.toNat 0).toNat ⟨0, 0, 0⟩).bQ) ∧
     (match (x.next g).put p ((aC p i).getD ((enabled (aC p i) x.aD).getD v.toNat 0).toNat ⟨0, 0, 0⟩).ch (bt (x.next g) g ((aC p i).getD ((enabled (aC p i) x.aD).getD v.toNat 0).toNat ⟨0, 0, 0⟩).bQ) with
      | .on (y, _) => bj y g ∧ (aj y g).fs.length = (aj x g).fs.length
      | _ => True)
    else uR (x.next g) ((aC p i).getD ((enabled (aC p i) x.aD).getD v.toNat 0).toNat ⟨0, 0, 0⟩).ch ∧ bj ((x.next g).get ((aC p i).getD ((enabled (aC p i) x.aD).getD v.toNat 0).toNat ⟨0, 0, 0⟩).ch).1 g ∧ (aj ((x.next g).get ((aC p i).getD ((enabled (aC p i) x.aD).getD v.toNat 0).toNat ⟨0, 0, 0⟩).ch).1 g).fs.length = (aj x g).fs.length := by
   revert hk
   cases hh : enabled (aC p i) x.aD with
   | nil => exact absurd hh hcan
   | cons a l => exact fun hk => hk
  clear hk hcan hd
  generalize hcane : enabled (aC p i) x.aD = can at h k hk2 Zu ⊢
  obtain ⟨v0, v1, q0, q1, SP, V5⟩ := hk2
  refine cG ⟨v0, v1, ?_⟩
  obtain ⟨ab, rfl⟩ := h.bF (A := A2) Zu (by decide)
  refine bp ?_
  obtain ⟨q, hq⟩ := aP (l := can) (i := v.toNat) (by omega)
  have hqe : can.getD v.toNat 0 = q := by simp [hq]
  rw [hqe] at k q0 q1 SP V5
  refine aZ (Src.at (h.src (A := some ⟨ab, 0, none⟩)) h (i := v.toNat) (j := 0) hq rfl (by simp [bB])) ?_
  unfold Wd.qb at k
  dsimp only at k
  obtain ⟨cc, W3⟩ := aP (l := aC p i) (i := q.toNat) (by omega)
  have hce : (aC p i).getD q.toNat ⟨0, 0, 0⟩ = cc := by simp [W3]
  rw [hce] at k SP V5
  refine Ht (b := b) h hg eD rfl ?_
  rw [jg Rd (by omega)]
  refine Hs (b := b) h hg eD rfl rfl ?_
  clear h; intro M h
  have KN := tC hg
  have JI := Dg hg
  have vr : (x.next g).Sm := Rb hs
  generalize Dh : x.next g = x1 at h k V5 KN JI vr
  refine ⟨q0, q1, ?_⟩
  obtain ⟨cb, co, rfl⟩ := hA.some (by omega) (by decide)
  refine bp ?_
  refine aZ (Src.at (hA.src (L := _)) h (i := q.toNat) (j := 0) W3 rfl (by simp [g6])) ?_
  refine aZ (Src.at (hA.src (L := _)) h (i := q.toNat) (j := 1) W3 rfl (by show _ = co + (_ * 3 + 1); omega)) ?_
  refine aZ (Src.at (hA.src (L := _)) h (i := q.toNat) (j := 2) W3 rfl (by show _ = co + (_ * 3 + 2); omega)) ?_
  refine aq h ?_
  clear h; intro kc M h
  refine au h ?_
  clear h; intro M h
  refine au h ?_
  clear h; intro M h
  refine au h ?_
  clear h; intro M h
  refine aI h ?_
  refine aR.2 ⟨fun e1 => ?_, fun e1 => ?_⟩
  ·rw [if_pos e1] at k V5
   obtain ⟨hput, hy⟩ := V5
   refine aI h (aI h ⟨SP.1, SP.2, ?_⟩)
   refine ES (b := b) h KN eD SP (by rw [JI]) ?_
   refine BV (b := b) h hp.cases hput vr ?_ ?_
   ·clear h
    intro y ok M e h
    rw [e] at k hy
    dsimp only at k hy
    refine od ?_
    refine aI h ⟨Rc.1, Rc.2, ?_⟩
    refine lJ (b := b) h hy.1 eD Rc (by rw [hy.2]) ?_
    clear h; intro M h
    exact k _ _ (h.sub bD)
   ·clear h
    intro y n M e h
    rw [e] at k
    exact k _ _ (h.sub bD)
  ·rw [if_neg e1] at k V5
   obtain ⟨VV, ET, hfl⟩ := V5
   refine aI h (aI h ?_)
   refine BW (b := b) h VV vr ?_
   clear h; intro M h
   generalize x1.get cc.ch = r at h k ET hfl
   obtain ⟨y, w, sm, ok⟩ := r
   dsimp only at h k ET hfl ⊢
   refine ⟨_, _, _, rfl, bM h, SP.1, SP.2, ?_⟩
   refine lJ (b := b) h ET eD SP (by rw [hfl]) ?_
   clear h; intro M h
   refine ⟨bM h, aI h ⟨Rc.1, Rc.2, ?_⟩⟩
   refine lJ (b := b) h (iL ET) eD Rc (by rw [KL ET, hfl]) ?_
   clear h; intro M h
   exact k _ _ (h.sub bD)
end
def bz.before (a b : bz) : Bool := decide (a.t < b.t) || (a.t == b.t && decide (a.seq < b.seq))
def nR (l : List bz) (i : Nat) : bz := l.getD i ⟨0, 0, 0⟩
def eE (l : List bz) (i j : Nat) : List bz := (l.set i (nR l j)).set j (nR l i)
def KO : Nat → Nat → List bz → List bz
 | 0, _, l => l
 | f + 1, i, l => if 0 < i ∧ (nR l i).before (nR l ((i - 1) / 4)) = true then KO f ((i - 1) / 4) (eE l i ((i - 1) / 4)) else l
def gx (l : List bz) : Nat → Nat → Nat → Nat
 | 0, _, out => out
 | n + 1, k, out => if k < l.length then gx l n (k + 1) (if (nR l k).before (nR l out) then k else out) else out
def gL (l : List bz) (i : Nat) : Nat := gx l 4 (4 * i + 1) i
def ot : Nat → Nat → List bz → List bz
 | 0, _, l => l
 | f + 1, i, l => if gL l i = i then l else ot f (gL l i) (eE l i (gL l i))
def sw (l : List bz) (x : bz) : List bz := KO l.length l.length (l ++ [x])
def dX (l : List bz) (i : Nat) : List bz :=
 if i < l.length - 1 then KO i i (ot l.length i ((eE l i (l.length - 1)).take (l.length - 1))) else (eE l i (l.length - 1)).take (l.length - 1)
def dM : Nat → List bz → Int → List bz × List bz
 | 0, l, _ => (l, [])
 | f + 1, l, now => if 0 < l.length ∧ (nR l 0).t ≤ now then ((dM f (dX l 0) now).1, nR l 0 :: (dM f (dX l 0) now).2) else (l, [])
theorem E6 {f i : Nat} {l : List bz} : KO (f + 1) i l = if 0 < i ∧ (nR l i).before (nR l ((i - 1) / 4)) = true then KO f ((i - 1) / 4) (eE l i ((i - 1) / 4)) else l := rfl
theorem xH {l : List bz} {n k out : Nat} : gx l (n + 1) k out = if k < l.length then gx l n (k + 1) (if (nR l k).before (nR l out) then k else out) else out := rfl
theorem Hu {f i : Nat} {l : List bz} : ot (f + 1) i l = if gL l i = i then l else ot f (gL l i) (eE l i (gL l i)) := rfl
theorem zA {f : Nat} {l : List bz} {now : Int} : dM (f + 1) l now = if 0 < l.length ∧ (nR l 0).t ≤ now then ((dM f (dX l 0) now).1, nR l 0 :: (dM f (dX l 0) now).2) else (l, []) := rfl
theorem fh {l : List bz} {i j : Nat} : (eE l i j).length = l.length := by simp [eE]
theorem Di : ∀ {f i : Nat} {l : List bz}, (KO f i l).length = l.length
 | 0, _, _ => rfl
 | f + 1, i, l => by unfold KO; split; rw [Di, fh]; rfl
theorem jh : ∀ {f i : Nat} {l : List bz}, (ot f i l).length = l.length
 | 0, _, _ => rfl
 | f + 1, i, l => by unfold ot; split; rfl; rw [jh, fh]
theorem E7 {l : List bz} {i : Nat} : (dX l i).length = l.length - 1 := by
 unfold dX; split
 ·rw [Di, jh, List.length_take, fh]; omega
 ·rw [List.length_take, fh]; omega
theorem KP {l : List bz} {x : bz} : (sw l x).length = l.length + 1 := by unfold sw; rw [Di]; simp
theorem l9 {l : List bz} {i : Nat} (h : i < l.length) : l[i]? = some (nR l i) := by
 unfold nR; rw [List.getD_eq_getElem?_getD, List.getElem?_eq_getElem h]; rfl
theorem mb {l : List bz} : ∀ (n k out : Nat), out < l.length → out < k → gx l n k out < l.length ∧ (out ≤ gx l n k out)
 | 0, _, _, h, _ => ⟨h, Nat.le_refl _⟩
 | n + 1, k, out, h, hk => by
  unfold gx; split
  ·rename_i hl
   split
   ·have := mb n (k + 1) k hl (by omega); omega
   ·exact mb n (k + 1) out h (by omega)
  ·exact ⟨h, Nat.le_refl _⟩
theorem Ca {l : List bz} {i : Nat} (h : i < l.length) : gL l i < l.length ∧ i ≤ gL l i := mb 4 _ i h (by omega)
structure SQ (b o : Nat) (P : Option Addr → Nat → Nat → Int → HP) : Prop where
 He : ∀ (R : Mem) (L : List HP) (M : Mem) (A : Option Addr) (n c : Nat) (s : Int), Hp R (P A n c s :: L) M → M.ld ⟨b, o, none⟩ = some (.slice A n c)
 ldI : ∀ (R : Mem) (L : List HP) (M : Mem) (A : Option Addr) (n c : Nat) (s : Int), Hp R (P A n c s :: L) M → M.ld ⟨b, o + 1, none⟩ = some (.int .u64 s)
 Zp : ∀ (R : Mem) (L : List HP) (M : Mem) (A A' : Option Addr) (n c n' c' : Nat) (s : Int) (G : Mem → Prop), Hp R (P A n c s :: L) M → (∀ M', Hp R (P A' n' c' s :: L) M' → G M') → aK M ⟨b, o, none⟩ (.slice A' n' c') G
 stI : ∀ (R : Mem) (L : List HP) (M : Mem) (A : Option Addr) (n c : Nat) (s s' : Int) (G : Mem → Prop), Hp R (P A n c s :: L) M → (∀ M', Hp R (P A n c s' :: L) M' → G M') → aK M ⟨b, o + 1, none⟩ (.int .u64 s') G
theorem IY : bn Tryz.prog 46 203 3 24 [.int .u64 0, .int .u64 0, .int .i64 0] := bn.mk' (zv := .agg #[.int .u64 0, .int .u64 0, .int .i64 0]) (by kernel_rfl) (by kernel_rfl) rfl (by omega)
section
variable {R : Mem} {L L' : List HP} {M : Mem} {K : Value → Mem → Prop} {Kp : List PanicEntry → Mem → Prop} {b o : Nat} {P : Option Addr → Nat → Nat → Int → HP} {A : Option Addr} {c : Nat} {s : Int} {l : List bz} {i j : Nat}
theorem lN {q o0 o1 o2 o3 : Nat} {x : bz} {G : Int → Int → Int → Prop} (h : Hp R L M) (hs : Src R L (some ⟨q, o0, none⟩) (uw.cells l)) (hi : l[i]? = some x) (e1 : o1 = o0 + i * 3) (e2 : o2 = o0 + i * 3 + 1) (e3 : o3 = o0 + i * 3 + 2) (g : G x.t x.seq x.id) :
  aJ (M.ld ⟨q, o1, none⟩) .u64 fun a => aJ (M.ld ⟨q, o2, none⟩) .u64 fun b => aJ (M.ld ⟨q, o3, none⟩) .i64 fun d => G a b d := by
 refine aZ (Src.at hs h (i := i) (j := 0) hi rfl (by rw [e1]; rfl)) ?_
 refine aZ (Src.at hs h (i := i) (j := 1) hi rfl (by rw [e2]; show _ = o0 + (i * 3 + 1); omega)) ?_
 exact aZ (Src.at hs h (i := i) (j := 2) hi rfl (by rw [e3]; show _ = o0 + (i * 3 + 2); omega)) g
theorem IZ {q o1 o2 o3 : Nat} {x y : bz} {G : Mem → Prop} (h : Hp R L M) [r : cH (some ⟨q, 0, none⟩) L bz uw 203 c l L'] (hi : l[i]? = some x) (e1 : o1 = i * 3) (e2 : o2 = i * 3 + 1) (e3 : o3 = i * 3 + 2)
  (k : ∀ M', Hp R (gk (some ⟨q, 0, none⟩) c (l.set i y) :: L') M' → G M') :
  aK M ⟨q, o1, none⟩ (.int .u64 y.t) fun M1 => aK M1 ⟨q, o2, none⟩ (.int .u64 y.seq) fun M2 => aK M2 ⟨q, o3, none⟩ (.int .i64 y.id) G := by
 have hl := (List.getElem?_eq_some_iff.1 hi).1
 refine gH (E := uw) (a := x) (a' := ⟨y.t, x.seq, x.id⟩) i 0 h hi (by decide) rfl e1 ?_
 clear h; intro M h
 refine gH (E := uw) (a := ⟨y.t, x.seq, x.id⟩) (a' := ⟨y.t, y.seq, x.id⟩) i 1 h (by simp [hl]) (by decide) rfl e2 ?_
 clear h; intro M h
 refine gH (E := uw) (a := ⟨y.t, y.seq, x.id⟩) (a' := y) i 2 h (by simp [hl]) (by decide) rfl e3 ?_
 clear h; intro M h
 rw [iJ, iJ] at h
 exact k _ h
theorem w5 {x y : bz} (h : Hp R L M) (k : ∀ M', Hp R L M' → K (.bool (x.before y)) M') : aa Tryz.prog 187 #[.agg #[.int .u64 x.t, .int .u64 x.seq, .int .i64 x.id], .agg #[.int .u64 y.t, .int .u64 y.seq, .int .i64 y.id]] M K Kp := by
 refine yZ ?_
 repeat (first|(refine aq h ?_;clear h;intro kb M h)|(refine au h ?_;clear h;intro M h)|refine St.to h ?_|(apply Exists.intro;(repeat apply Exists.intro);refine And.intro rfl ?_)|refine av ?_|refine ae ?_|refine ai ?_)
 unfold bz.before at k
 refine aM.2 ⟨fun h1 => ?_, fun h1 => ?_⟩
 ·have := k _ h.pA
  rwa [decide_eq_true h1, Bool.true_or] at this
 ·repeat (first|(refine aq h ?_;clear h;intro kb M h)|(refine au h ?_;clear h;intro M h)|refine St.to h ?_|(apply Exists.intro;(repeat apply Exists.intro);refine And.intro rfl ?_)|refine av ?_|refine ae ?_|refine ai ?_)
  refine aR.2 ⟨fun h2 => ?_, fun h2 => ?_⟩
  ·repeat (first|(refine aq h ?_;clear h;intro kb M h)|(refine au h ?_;clear h;intro M h)|refine St.to h ?_|(apply Exists.intro;(repeat apply Exists.intro);refine And.intro rfl ?_)|refine av ?_|refine ae ?_|refine ai ?_)
   have := k _ h.pA
   rwa [decide_eq_false h1, Bool.false_or, beq_iff_eq.2 h2, Bool.true_and] at this
  ·have := k _ h.pA
   rwa [decide_eq_false h1, Bool.false_or, show (x.t == y.t) = false from by simpa using h2, Bool.false_and] at this
theorem wj (D : SQ b o P) (h : Hp R (P A l.length c s :: gk A c l :: L) M) (hi : i < l.length) (hj : j < l.length)
  (k : ∀ M', Hp R (P A l.length c s :: gk A c (eE l i j) :: L) M' → K (.tuple #[]) M') : aa Tryz.prog 154 #[.pointer (some ⟨b, o, none⟩), .int .i64 (i : Int), .int .i64 (j : Int)] M K Kp := by
 refine uy ?_
 obtain ⟨q, rfl⟩ := h.bF (A := A) (by omega) (by decide)
 have hs := h.src (A := some ⟨q, 0, none⟩)
 rw [D.He _ _ _ _ _ _ _ h]
 refine bk (bk (bk ⟨by omega, by omega, bp ?_⟩))
 refine lN h hs (l9 hj) (by simp) (by simp) (by simp) ?_
 refine bk ⟨by omega, by omega, bp ?_⟩
 refine lN h hs (l9 hi) (by simp) (by simp) (by simp) ?_
 clear hs
 refine ⟨by omega, by omega, bp ?_⟩
 refine IZ (y := nR l j) h (l9 hi) (by simp) (by simp) (by simp) ?_
 clear h; intro M h
 refine ⟨by omega, by omega, bp ?_⟩
 have Gf : (l.set i (nR l j))[j]? = some (nR l j) := by
  rw [List.getElem?_set]
  split
  ·rfl
  ·exact l9 hj
 refine IZ (y := nR l i) h Gf (by simp) (by simp) (by simp) ?_
 clear h; intro M h
 exact k _ (h.sub bD)
theorem zB (D : SQ b o P) (h : Hp R (P A l.length c s :: gk A c l :: L) M) (hi : i < l.length) (hl : l.length ≤ 1000000)
  (k : ∀ M', Hp R (P A l.length c s :: gk A c l :: L) M' → K (.int .i64 (gL l i : Int)) M') : aa Tryz.prog 186 #[.pointer (some ⟨b, o, none⟩), .int .i64 (i : Int)] M K Kp := by
 refine td ?_
 have e1 : IntKind.wrap .i64 (IntKind.wrap .i64 (4 * (i : Int)) + 1) = ((4 * i + 1 : Nat) : Int) := by
  rw [cQ (z := 4 * (i : Int)) (by omega) (by omega), cQ (by omega) (by omega)]; omega
 have e4 : IntKind.wrap .i64 (IntKind.wrap .i64 (4 * (i : Int)) + 4) = ((4 * i + 4 : Nat) : Int) := by
  rw [cQ (z := 4 * (i : Int)) (by omega) (by omega), cQ (by omega) (by omega)]; omega
 rw [e1, e4]
 refine ⟨fun d vs M => ∃ kk out : Nat, vs = [.int .i64 (out : Int), .int .i64 (kk : Int)] ∧ d = 4 * i + 5 - kk ∧ kk ≤ 4 * i + 5 ∧ out < l.length ∧ out < kk ∧ gx l (4 * i + 5 - kk) kk out = gL l i ∧ Hp R (P A l.length c s :: gk A c l :: L) M,
  ⟨_, 4 * i + 1, i, rfl, rfl, by omega, hi, by omega, by rw [show 4 * i + 5 - (4 * i + 1) = 4 from by omega]; rfl, h⟩, ?_⟩
 clear h
 rintro d _ n5 n6 M ⟨kk, out, he, hd, hkk, ho, hok, hf, h⟩
 simp only [List.cons.injEq, Value.int.injEq, and_true, true_and] at he
 obtain ⟨rfl, rfl⟩ := he
 refine aM.2 ⟨fun hle => ?_, fun hgt => ?_⟩
 ·rw [D.He _ _ _ _ _ _ _ h]
  obtain ⟨n, hn⟩ : ∃ n, 4 * i + 5 - kk = n + 1 := ⟨4 * i + 4 - kk, by omega⟩
  rw [hn] at hf
  rw [xH] at hf
  refine bk ?_
  refine aM.2 ⟨fun hlt => ?_, fun hge => ?_⟩
  ·rw [if_pos (by omega)] at hf
   obtain ⟨q, rfl⟩ := h.bF (A := A) (by omega) (by decide)
   have hs := h.src (A := some ⟨q, 0, none⟩)
   refine bk ⟨by omega, by omega, bp ?_⟩
   refine lN h hs (l9 (i := kk) (by omega)) (by simp) (by simp) (by simp) ?_
   refine bk ⟨by omega, by omega, bp ?_⟩
   refine lN h hs (l9 (i := out) (by omega)) (by simp) (by simp) (by simp) ?_
   refine w5 h ?_
   clear h hs; intro M h
   refine od ?_
   have e : IntKind.wrap .i64 ((kk : Int) + 1) = ((kk + 1 : Nat) : Int) := by rw [cQ (by omega) (by omega)]; omega
   rw [e]
   cases hb : (nR l kk).before (nR l out) with
   | true =>
    rw [hb] at hf
    exact ae ⟨n, by omega, kk + 1, kk, rfl, by omega, by omega, by omega, by omega, by rw [show 4 * i + 5 - (kk + 1) = n from by omega]; exact hf, h⟩
   | false =>
    rw [hb] at hf
    exact ai ⟨n, by omega, kk + 1, out, rfl, by omega, by omega, by omega, by omega, by rw [show 4 * i + 5 - (kk + 1) = n from by omega]; exact hf, h⟩
  ·rw [if_neg (by omega)] at hf
   subst hf
   exact k _ h
 ·have : 4 * i + 5 - kk = 0 := by omega
  rw [this] at hf
  have D4 : out = gL l i := hf
  subst D4
  exact k _ h
theorem KQ (D : SQ b o P) {f : Nat} (h : Hp R (P A l.length c s :: gk A c l :: L) M) (hi : i < l.length) (hl : l.length ≤ 1000000) (hf : l.length ≤ f + i)
  (k : ∀ M', Hp R (P A l.length c s :: gk A c (ot f i l) :: L) M' → K (.tuple #[]) M') : aa Tryz.prog 155 #[.pointer (some ⟨b, o, none⟩), .int .i64 (i : Int)] M K Kp := by
 refine uz ?_
 refine zB D h hi hl ?_
 clear h; intro M h
 refine cG ?_
 refine ⟨fun d vs M => ∃ (f' i' : Nat) (l' : List bz), vs = [.int .i64 (i' : Int), .int .i64 (gL l' i' : Int)] ∧ d = l.length - i' ∧ i' < l.length ∧ l'.length = l.length ∧ l.length ≤ f' + i' ∧ ot f' i' l' = ot f i l ∧ Hp R (P A l.length c s :: gk A c l' :: L) M,
  ⟨_, f, i, l, rfl, rfl, hi, rfl, hf, rfl, h⟩, ?_⟩
 clear h
 rintro d _ n5 n6 M ⟨f', i', l', he, hd, hi', hl', FZ, Cb, h⟩
 simp only [List.cons.injEq, Value.int.injEq, and_true, true_and] at he
 obtain ⟨rfl, rfl⟩ := he
 obtain ⟨g, rfl⟩ : ∃ g, f' = g + 1 := ⟨f' - 1, by omega⟩
 rw [Hu] at Cb
 obtain ⟨m1, m2⟩ := Ca (l := l') (i := i') (by omega)
 rw [← hl'] at h
 refine eJ.2 ⟨fun hne => ?_, fun heq => ?_⟩
 ·rw [if_neg (by intro e; apply hne; rw [e])] at Cb
  refine wj D h (i := i') (j := gL l' i') (by omega) (by omega) ?_
  clear h; intro M h
  refine ⟨rfl, ?_⟩
  have W4 : (eE l' i' (gL l' i')).length = l'.length := fh
  rw [← W4] at h
  refine zB D h (by omega) (by omega) ?_
  clear h; intro M h
  rw [W4] at h
  refine cG ?_
  exact ⟨l.length - gL l' i', by omega, g, gL l' i', _, rfl, rfl, by omega, by omega, by omega, Cb, by rw [← hl']; exact h⟩
 ·rw [if_pos (by omega)] at Cb
  subst Cb
  rw [hl'] at h
  exact k _ h
theorem I0 (D : SQ b o P) {f : Nat} (h : Hp R (P A l.length c s :: gk A c l :: L) M) (hi : i < l.length) (hl : l.length ≤ 1000000) (hf : i ≤ f)
  (k : ∀ M', Hp R (P A l.length c s :: gk A c (KO f i l) :: L) M' → K (.tuple #[]) M') : aa Tryz.prog 156 #[.pointer (some ⟨b, o, none⟩), .int .i64 (i : Int)] M K Kp := by
 refine xu ?_
 refine ⟨fun d vs M => ∃ (f' i' : Nat) (l' : List bz), vs = [.int .i64 (i' : Int)] ∧ d = i' ∧ i' < l.length ∧ l'.length = l.length ∧ i' ≤ f' ∧ KO f' i' l' = KO f i l ∧ Hp R (P A l.length c s :: gk A c l' :: L) M,
  ⟨_, f, i, l, rfl, rfl, hi, rfl, hf, rfl, h⟩, ?_⟩
 clear h
 rintro d _ n5 M ⟨f', i', l', he, hd, hi', hl', FZ, Cb, h⟩
 simp only [List.cons.injEq, Value.int.injEq, and_true, true_and] at he
 subst he
 refine aM.2 ⟨fun hgt => ?_, fun hle => ?_⟩
 ·obtain ⟨g, rfl⟩ : ∃ g, f' = g + 1 := ⟨f' - 1, by omega⟩
  rw [E6] at Cb
  have ep : IntKind.wrap .i64 (Int.tdiv (IntKind.wrap .i64 ((i' : Int) - 1)) 4) = (((i' - 1) / 4 : Nat) : Int) := by
   rw [cQ (z := (i' : Int) - 1) (by omega) (by omega), show ((i' : Int) - 1) = ((i' - 1 : Nat) : Int) from by omega, show (4 : Int) = ((4 : Nat) : Int) from rfl, ← Int.ofNat_tdiv, cQ (by omega) (by omega)]
  have hp : (i' - 1) / 4 < i' := by omega
  generalize hpe : (i' - 1) / 4 = p at ep Cb hp
  rw [ep, D.He _ _ _ _ _ _ _ h]
  obtain ⟨q, rfl⟩ := h.bF (A := A) (by omega) (by decide)
  have hs := h.src (A := some ⟨q, 0, none⟩)
  refine ⟨by omega, bk ⟨by omega, by omega, bp ?_⟩⟩
  refine lN h hs (l9 (i := i') (by omega)) (by simp) (by simp) (by simp) ?_
  refine bk ⟨by omega, by omega, bp ?_⟩
  refine lN h hs (l9 (i := p) (by omega)) (by simp) (by simp) (by simp) ?_
  refine w5 h ?_
  clear h hs; intro M h
  refine od ?_
  cases hb : (nR l' i').before (nR l' p) with
  | true =>
   rw [if_pos ⟨by omega, hb⟩] at Cb
   refine ae ⟨by omega, ?_⟩
   rw [← hl'] at h
   refine wj D h (i := i') (j := p) (by omega) (by omega) ?_
   clear h; intro M h
   rw [hl'] at h
   exact ⟨rfl, by omega, p, by omega, g, p, _, rfl, rfl, by omega, by rw [fh]; exact hl', by omega, Cb, h⟩
  | false =>
   rw [if_neg (by rintro ⟨_, h2⟩; rw [hb] at h2; cases h2)] at Cb
   refine ai ?_
   subst Cb
   exact k _ h
 ·have : KO f' i' l' = l' := by
   have h0 : i' = 0 := by omega
   subst h0
   cases f' with
   | zero => rfl
   | succ g => rw [E6]; rw [if_neg (by omega)]
  rw [this] at Cb
  subst Cb
  exact k _ h
theorem KR (D : SQ b o P) {t id : Int} (h : Hp R (P A l.length c s :: gk A c l :: L) M) (hl : l.length < 1000000)
  (k : ∀ v A' c' M', Hp R (P A' (l.length + 1) c' (IntKind.wrap .u64 (s + 1)) :: gk A' c' (sw l ⟨t, s, id⟩) :: L) M' → K (.int .u64 v) M') : aa Tryz.prog 244 #[.pointer (some ⟨b, o, none⟩), .int .u64 t, .int .i64 id] M K Kp := by
 refine uA ?_
 rw [D.He _ _ _ _ _ _ _ h, D.ldI _ _ _ _ _ _ _ h]
 refine bk (cG ?_)
 refine aq h ?_
 clear h; intro kb M h
 replace h : Hp R (P A l.length c s :: gk A c l :: pt kb [.int .u64 t, .int .u64 s, .int .i64 id] 203 :: L) M := h.sub bD
 refine h.bN (A := A) IY [(⟨t, s, id⟩ : bz)] rfl rfl (by simp only [List.length_singleton]; omega) ?_
 clear h; intro A' c' M h
 refine bk ?_
 have hlen : (l ++ [(⟨t, s, id⟩ : bz)]).length = l.length + 1 := by simp
 refine D.Zp _ _ _ _ _ _ _ _ _ _ _ h.swap ?_
 clear h; intro M h
 rw [D.ldI _ _ _ _ _ _ _ h]
 refine cG ?_
 refine D.stI _ _ _ _ _ _ _ _ _ h ?_
 clear h; intro M h
 rw [D.He _ _ _ _ _ _ _ h]
 refine bk ?_
 have e : IntKind.wrap .i64 (((l ++ [(⟨t, s, id⟩ : bz)]).length : Int) - 1) = ((l.length : Nat) : Int) := by
  rw [cQ (by omega) (by omega)]; omega
 rw [e]
 refine I0 D (f := l.length) h (by omega) (by omega) (Nat.le_refl _) ?_
 clear h; intro M h
 refine ⟨rfl, ?_⟩
 rw [D.ldI _ _ _ _ _ _ _ h]
 refine cG ?_
 rw [hlen] at h
 exact k _ _ _ _ h
theorem E8 (D : SQ b o P) (h : Hp R (P A l.length c s :: gk A c l :: L) M) (hi : i < l.length) (hl : l.length ≤ 1000000)
  (k : ∀ M', Hp R (P A (l.length - 1) c s :: gk A c (dX l i) :: L) M' → K (.agg #[.int .u64 (nR l i).t, .int .u64 (nR l i).seq, .int .i64 (nR l i).id]) M') : aa Tryz.prog 117 #[.pointer (some ⟨b, o, none⟩), .int .i64 (i : Int)] M K Kp := by
 refine qY ?_
 have hcap := h.jF A
 obtain ⟨q, rfl⟩ := h.bF (A := A) (by omega) (by decide)
 refine aq h ?_
 clear h; intro k1 M h
 have hs := h.src (A := some ⟨q, 0, none⟩)
 replace h : Hp R (P (some ⟨q, 0, none⟩) l.length c s :: gk (some ⟨q, 0, none⟩) c l :: pt k1 [.int .u64 0, .int .u64 0, .int .i64 0] 203 :: L) M := h.sub bD
 replace hs := h.src (A := some ⟨q, 0, none⟩)
 rw [D.He _ _ _ _ _ _ _ h]
 refine bk ⟨by omega, by omega, bp ?_⟩
 refine lN h hs (l9 hi) (by simp) (by simp) (by simp) ?_
 clear hs
 generalize hx : nR l i = x at k
 refine aq h ?_
 clear h; intro k2 M h
 refine au h ?_
 clear h; intro M h
 refine au h ?_
 clear h; intro M h
 refine au h ?_
 clear h; intro M h
 replace h : Hp R (P (some ⟨q, 0, none⟩) l.length c s :: gk (some ⟨q, 0, none⟩) c l :: pt k2 [.int .u64 x.t, .int .u64 x.seq, .int .i64 x.id] 203 :: pt k1 [.int .u64 0, .int .u64 0, .int .i64 0] 203 :: L) M := h.sub bD
 rw [D.He _ _ _ _ _ _ _ h]
 have e : IntKind.wrap .i64 ((l.length : Int) - 1) = ((l.length - 1 : Nat) : Int) := by
  rw [cQ (by omega) (by omega)]; omega
 refine bk ?_
 rw [e]
 refine wj D h hi (j := l.length - 1) (by omega) ?_
 clear h; intro M h
 refine ⟨rfl, ?_⟩
 rw [D.He _ _ _ _ _ _ _ h]
 refine bk ⟨by omega, by omega, by omega, by omega, by omega, by omega, ?_⟩
 have e2 : lp (some ⟨q, 0, none⟩) 0 (Int.toNat (c : Int)) 3 = some ⟨q, 0, none⟩ := by
  unfold lp; rw [if_neg (by simp; omega)]; rfl
 rw [e2]
 simp only [Int.toNat_natCast, Nat.sub_zero]
 refine D.Zp _ _ _ _ _ _ _ _ _ _ _ h ?_
 clear h; intro M h
 have W4 : ((eE l i (l.length - 1)).take (l.length - 1)).length = l.length - 1 := by rw [List.length_take, fh]; omega
 have fin : ∀ (M : Mem) (Q : List HP), Hp R (P (some ⟨q, 0, none⟩) (l.length - 1) c s :: gk (some ⟨q, 0, none⟩) c (dX l i) :: pt k2 [.int .u64 x.t, .int .u64 x.seq, .int .i64 x.id] 203 :: pt k1 [.int .u64 0, .int .u64 0, .int .i64 0] 203 :: L) M →
   aJ (Mem.ld M ⟨k2, 0, none⟩) .u64 fun xX => aJ (Mem.ld M ⟨k2, (0 + 1), none⟩) .u64 fun Ey => aJ (Mem.ld M ⟨k2, (0 + 2), none⟩) .i64 fun si =>
   aK M ⟨k1, 0, none⟩ (.int .u64 xX) fun sk => aK sk ⟨k1, (0 + 1), none⟩ (.int .u64 Ey) fun Ao => aK Ao ⟨k1, (0 + 2), none⟩ (.int .i64 si) fun sq =>
   aJ (Mem.ld sq ⟨k1, 0, none⟩) .u64 fun DH => aJ (Mem.ld sq ⟨k1, (0 + 1), none⟩) .u64 fun vP => aJ (Mem.ld sq ⟨k1, (0 + 2), none⟩) .i64 fun Eo =>
   K (.agg #[(.int .u64 DH), (.int .u64 vP), (.int .i64 Eo)]) sq := by
  intro M _ h
  refine aI h (aI h (aI h ?_))
  refine au h ?_
  clear h; intro M h
  refine au h ?_
  clear h; intro M h
  refine au h ?_
  clear h; intro M h
  refine aI h (aI h (aI h ?_))
  exact k _ (h.sub bD)
 replace h : Hp R (P (some ⟨q, 0, none⟩) (l.length - 1) c s :: gk (some ⟨q, 0, none⟩) c ((eE l i (l.length - 1)).take (l.length - 1)) :: pt k2 [.int .u64 x.t, .int .u64 x.seq, .int .i64 x.id] 203 :: pt k1 [.int .u64 0, .int .u64 0, .int .i64 0] 203 :: L) M := (h.swap.Mx (l.length - 1)).swap
 unfold dX at fin
 refine aM.2 ⟨fun hlt => ?_, fun hge => ?_⟩
 ·rw [if_pos (by omega)] at fin
  have h' : Hp R (P (some ⟨q, 0, none⟩) ((eE l i (l.length - 1)).take (l.length - 1)).length c s :: gk (some ⟨q, 0, none⟩) c ((eE l i (l.length - 1)).take (l.length - 1)) :: pt k2 [.int .u64 x.t, .int .u64 x.seq, .int .i64 x.id] 203 :: pt k1 [.int .u64 0, .int .u64 0, .int .i64 0] 203 :: L) M := by rw [W4]; exact h
  clear h
  have h := h'
  clear h'
  refine KQ D (f := l.length) h (by omega) (by omega) (by omega) ?_
  clear h; intro M h
  refine ⟨rfl, ?_⟩
  rw [show ((eE l i (l.length - 1)).take (l.length - 1)).length = (ot l.length i ((eE l i (l.length - 1)).take (l.length - 1))).length from jh.symm] at h
  refine I0 D (f := i) h (by rw [jh]; omega) (by rw [jh]; omega) (Nat.le_refl _) ?_
  clear h; intro M h
  refine ⟨rfl, ?_⟩
  rw [jh, W4] at h
  exact fin M [] h
 ·rw [if_neg (by omega)] at fin
  exact fin M [] h
theorem KS (D : SQ b o P) {now : Int} (h : Hp R (P A l.length c s :: gk A c l :: L) M) (hl : l.length ≤ 1000000)
  (k : ∀ A' c' M', Hp R (P A (dM l.length l now).1.length c s :: gk A c (dM l.length l now).1 :: gk A' c' (dM l.length l now).2 :: L) M' → K (.slice A' (dM l.length l now).2.length c') M') :
  aa Tryz.prog 157 #[.pointer (some ⟨b, o, none⟩), .int .u64 now] M K Kp := by
 refine ux ?_
 have h0 := h.cC uw 203
 refine ⟨fun d vs M => ∃ (A' : Option Addr) (c' : Nat) (out l' : List bz), vs = [.slice A' out.length c'] ∧ d = l'.length ∧ l'.length + out.length = l.length ∧ (dM l'.length l' now).1 = (dM l.length l now).1 ∧ out ++ (dM l'.length l' now).2 = (dM l.length l now).2 ∧
   Hp R (P A l'.length c s :: gk A c l' :: gk A' c' out :: L) M, ⟨_, none, 0, [], l, rfl, rfl, rfl, rfl, rfl, h0.sub bD⟩, ?_⟩
 clear h h0
 rintro d _ A' n' c' M ⟨A2, c2, out, l', he, hd, W4, e1, e2, h⟩
 simp only [List.cons.injEq, Value.slice.injEq, and_true, true_and] at he
 obtain ⟨rfl, rfl, rfl⟩ := he
 rw [D.He _ _ _ _ _ _ _ h]
 have stop : ¬ (0 < l'.length ∧ (nR l' 0).t ≤ now) → K (.slice A' out.length c') M := by
  intro hn
  have e : dM l'.length l' now = (l', []) := by
   cases hl' : l'.length with
   | zero => rfl
   | succ m => rw [zA]; rw [if_neg hn]
  rw [e] at e1 e2
  dsimp only at e1 e2
  rw [List.append_nil] at e2
  subst e1; subst e2
  exact k _ _ _ h
 refine bk ?_
 refine aM.2 ⟨fun hgt => ?_, fun hle => stop (by omega)⟩
 have hcap := h.jF A
 obtain ⟨q, rfl⟩ := h.bF (A := A) (by omega) (by decide)
 have hs := h.src (A := some ⟨q, 0, none⟩)
 refine bk ⟨by omega, by omega, bp ?_⟩
 refine aZ (Src.at hs h (i := 0) (j := 0) (l9 (by omega)) rfl rfl) ?_
 clear hs
 refine aM.2 ⟨fun hle => ?_, fun hgt2 => stop (fun hn => hgt2 hn.2)⟩
 refine E8 D h (i := 0) (by omega) (by omega) ?_
 clear h stop; intro M h
 refine ⟨_, _, _, rfl, ?_⟩
 refine aq h ?_
 clear h; intro kb M h
 refine h.bN (A := A') IY [nR l' 0] rfl rfl (by simp only [List.length_singleton]; omega) ?_
 clear h; intro A3 c3 M h
 refine bk ?_
 have jR : (dX l' 0).length = l'.length - 1 := E7
 have hw : dM l'.length l' now = ((dM (dX l' 0).length (dX l' 0) now).1, nR l' 0 :: (dM (dX l' 0).length (dX l' 0) now).2) := by
  obtain ⟨m, hm⟩ : ∃ m, l'.length = m + 1 := ⟨l'.length - 1, by omega⟩
  rw [jR, hm]
  show dM (m + 1) l' now = _
  rw [zA]
  rw [if_pos ⟨by omega, hle⟩]; rfl
 rw [hw] at e1 e2
 rw [← jR] at h
 exact ⟨_, by omega, A3, c3, out ++ [nR l' 0], dX l' 0, rfl, rfl, by simp; omega, e1, by rw [List.append_assoc]; exact e2, h.sub bD⟩
end
def oN (x : Wd) (k : Int) : Lk := x.aL.getD k.toNat ⟨-1, []⟩
def Wd.gy (x : Wd) (k : Int) (c : Lk) : Wd := { x with aL := x.aL.set k.toNat c }
def Wd.lock (x : Wd) (g : Int) (i : cI) : Wd := if ((oN x i.a).take g).2 then x.gy i.a ((oN x i.a).take g).1 else (x.gy i.a ((oN x i.a).take g).1).block g i
def Wd.unlock (x : Wd) (g : Int) (i : cI) : Out Wd :=
 if ((oN x i.a).r7 g).2.2 ≠ 0 then .eC (-3) (x.gy i.a ((oN x i.a).r7 g).1)
 else if ((oN x i.a).r7 g).2.1 ≠ -1 then .on ((x.gy i.a ((oN x i.a).r7 g).1).eT ((oN x i.a).r7 g).2.1) else .on (x.gy i.a ((oN x i.a).r7 g).1)
def Dj (x : Wd) (k : Int) : Prop := 0 ≤ k ∧ k < x.aL.length
instance (x : Wd) (k : Int) : Decidable (Dj x k) := by unfold Dj; infer_instance
def m6 (x : Wd) (g : Int) (i : cI) : Prop := Dj x i.a ∧ (((oN x i.a).r7 g).2.1 ≠ -1 → 0 ≤ ((oN x i.a).r7 g).2.1 ∧ ((oN x i.a).r7 g).2.1 < x.gs.length)
instance (x : Wd) (g : Int) (i : cI) : Decidable (m6 x g i) := by unfold m6; infer_instance
def Wd.rand (x : Wd) (g : Int) (i : cI) : jU → Out Wd
 | .num d => .on ((x.next g).bq g i.a d)
 | .cT l => .cT l x
def qc (x : Wd) (g : Int) (i : cI) : Int := if 1048576 < bt x g i.a then 1048576 else bt x g i.a
def Wd.sleep (x : Wd) (g : Int) (i : cI) : Wd :=
 if 0 < qc x g i then { x.bu g { aj x g with st := 3 } with hl := sw x.hl ⟨IntKind.wrap .u64 (x.clock + IntKind.wrap .u64 (qc x g i)), x.mI, g⟩, mI := IntKind.wrap .u64 (x.mI + 1) } else x
def Wd.tick (x : Wd) : Wd := if x.end_ ≠ 0 then { x with ready := [] } else
 let r := dM x.hl.length x.hl (IntKind.wrap .u64 (x.clock + 1))
 (r.2.map (·.id)).foldl Wd.eT { x with clock := IntKind.wrap .u64 (x.clock + 1), hl := r.1, ready := [] }
section
variable {R : Mem} {L L' L2 : List HP} {M : Mem} {K : Value → Mem → Prop} {Kp : List PanicEntry → Mem → Prop} {pa : PA} {p : b7} {gg : List GA} {dr : Value} {b : Nat} {x : Wd} {g : Int} {i : cI}
theorem Re (hg : bj x g) (hb : aU i.b) : fX R pa p dr 211 x g i (x.call g i) L L := by
 intro gg b bs c M K Kp Q h eD k
 refine qZ ?_
 have Ax := hg
 obtain ⟨h0, h1, h2, h3⟩ := Ax
 unfold Wd.call at k
 refine aq h ?_
 clear h
 intro kb M h
 have hC := h
 have h' := gG h (b := b) h0 h1 eD
 clear h
 obtain ⟨a, gb, hl, fM, h⟩ := h'
 have hl' := hl
 obtain ⟨l1, l2, l3, l4⟩ := hl'
 repeat (first|(refine aq h ?_;clear h;intro kb M h)|(refine au h ?_;clear h;intro M h)|refine St.to h ?_|(apply Exists.intro;(repeat apply Exists.intro);refine And.intro rfl ?_)|refine av ?_|refine ae ?_|refine ai ?_)
 refine vk h fM fun q hq => ?_
 repeat (first|(refine aq h ?_;clear h;intro kb M h)|(refine au h ?_;clear h;intro M h)|refine St.to h ?_|(apply Exists.intro;(repeat apply Exists.intro);refine And.intro rfl ?_)|refine av ?_|refine ae ?_|refine ai ?_)
 refine ⟨hb.1, hb.2, uL h (dW h2) hb rfl ?_⟩
 repeat (first|(refine aq h ?_;clear h;intro kb M h)|(refine au h ?_;clear h;intro M h)|refine St.to h ?_|(apply Exists.intro;(repeat apply Exists.intro);refine And.intro rfl ?_)|refine av ?_|refine ae ?_|refine ai ?_)
 refine GZ h h2 ?_ ?_
 ·intro uN
  rw [if_pos (by omega)] at k
  refine ⟨_, _, _, _, rfl, ae ?_⟩
  exact k _ _ (hC.sub bD)
 ·intro hlt b' c' M' h'
  clear h hC
  have h := h'
  clear h'
  rw [if_neg (by omega)] at k
  refine ⟨_, _, _, _, rfl, ai ?_⟩
  repeat (first|(refine aq h ?_;clear h;intro kb M h)|(refine au h ?_;clear h;intro M h)|refine St.to h ?_|(apply Exists.intro;(repeat apply Exists.intro);refine And.intro rfl ?_)|refine av ?_|refine ae ?_|refine ai ?_)
  refine vk h fM fun q2 lI => ?_
  repeat (first|(refine aq h ?_;clear h;intro kb M h)|(refine au h ?_;clear h;intro M h)|refine St.to h ?_|(apply Exists.intro;(repeat apply Exists.intro);refine And.intro rfl ?_)|refine av ?_|refine ae ?_|refine ai ?_)
  have hlen : (aj x g).fs.length + 1 = ((aj x g).fs ++ [(⟨i.a, 0, [bt x g i.b, 0, 0, 0, 0, 0, 0, 0], i.c⟩ : gN)]).length := by simp
  have h5 := mZ (A := some ⟨b', 0, none⟩) (fs := (aj x g).fs ++ [⟨i.a, 0, [bt x g i.b, 0, 0, 0, 0, 0, 0, 0], i.c⟩]) h gb hlen
  have hi := (List.getElem?_eq_some_iff.1 fM).1
  have h6 := h5.dN fU gb fM (by rw [List.length_zip]; omega)
  rw [zx] at h6
  have kT : eL (gg.set g.toNat (some ⟨b', 0, none⟩, c')) a (x.bu g ⟨(aj x g).st, (aj x g).fs ++ [⟨i.a, 0, [bt x g i.b, 0, 0, 0, 0, 0, 0, 0], i.c⟩], (aj x g).wt⟩) := ⟨by simpa [Wd.bu] using l1, by simpa [Wd.bu] using l2, l3, l4⟩
  have h7 := aW (a := a) (p := p) (pa := pa) (dr := dr) (gg := gg.set g.toNat (some ⟨b', 0, none⟩, c')) (x := x.bu g ⟨(aj x g).st, (aj x g).fs ++ [⟨i.a, 0, [bt x g i.b, 0, 0, 0, 0, 0, 0, 0], i.c⟩], (aj x g).wt⟩) kT h6 b
  exact k _ _ (h7.sub bD)
theorem I3 {a : WA} {k : Int} {c : Lk} (hl : eL gg a x) : eL gg a (x.gy k c) := by
 obtain ⟨l1, l2, l3, l4⟩ := hl
 exact ⟨l1, l2, l3, by simpa [Wd.gy] using l4⟩
theorem Rf (hg : bj x g) (hk : Dj x i.a) (hs : x.Sm) : fX R pa p dr 219 x g i (.on (x.lock g i)) L L := by
 intro gg b bs c M K Kp Q h eD k
 refine rq ?_
 replace k : ∀ lK M', Hp R (az (br pa p lK dr) b (x.lock g i) :: Q :: L) M' → K (.tuple #[]) M' := k
 unfold Wd.lock at k
 obtain ⟨s1, s2, s3, s4, s5, s6, s7, s8⟩ := hs
 obtain ⟨k0, k1⟩ := hk
 refine aq h ?_
 clear h
 intro kb M h
 have h' := cn h (b := b)
 clear h
 obtain ⟨a, hl, h⟩ := h'
 have hl' := hl
 obtain ⟨l1, l2, l3, l4⟩ := hl'
 refine aS h (aI h ⟨k0, by omega, ?_⟩)
 obtain ⟨lb, hlb⟩ := aP (l := a.lb) (i := i.a.toNat) (by omega)
 refine vk h hlb fun q hq => ?_
 obtain ⟨y, hy⟩ := aP (l := x.aL) (i := i.a.toNat) (by omega)
 have e : oN x i.a = y := by simp [oN, hy]
 rw [e] at k
 replace h := h.c6 fL hlb hy
 refine G0 h (Nat.le_trans (s6 y (List.mem_of_getElem? hy)) (by decide)) ?_
 clear h; intro M h
 replace h := h.dN fL lb hlb (by omega)
 replace h := aW (a := a) (p := p) (pa := pa) (dr := dr) (gg := gg) (x := x.gy i.a (y.take g).1) (I3 hl) h b
 refine od ?_
 cases ht : (y.take g).2 with
 | true =>
  rw [ht] at k
  simp only [if_true] at k
  refine ai ?_
  exact k _ _ (h.sub bD)
 | false =>
  rw [ht] at k
  simp only [Bool.false_eq_true, if_false] at k
  refine ae ?_
  refine aI h (aI h (aI h (aI h ?_)))
  refine lH (b := b) (i := i) h hg.1 (show g < (x.gy i.a (y.take g).1).gs.length from hg.2.1) ?_
  clear h; intro M h
  exact ⟨rfl, k _ _ (h.sub bD)⟩
theorem KT (hk : m6 x g i) (hs : x.Sm) : fX R pa p dr 220 x g i (x.unlock g i) L L := by
 intro gg b bs c M K Kp Q h eD k
 refine oE ?_
 unfold Wd.unlock at k
 obtain ⟨s1, s2, s3, s4, s5, s6, s7, s8⟩ := hs
 obtain ⟨⟨k0, k1⟩, hw⟩ := hk
 refine aq h ?_
 clear h
 intro kb M h
 have h' := cn h (b := b)
 clear h
 obtain ⟨a, hl, h⟩ := h'
 have hl' := hl
 obtain ⟨l1, l2, l3, l4⟩ := hl'
 refine aS h (aI h ⟨k0, by omega, ?_⟩)
 obtain ⟨lb, hlb⟩ := aP (l := a.lb) (i := i.a.toNat) (by omega)
 refine vk h hlb fun q hq => ?_
 obtain ⟨y, hy⟩ := aP (l := x.aL) (i := i.a.toNat) (by omega)
 have e : oN x i.a = y := by simp [oN, hy]
 rw [e] at k hw
 replace h := h.c6 fL hlb hy
 refine G1 h (Nat.le_trans (s6 y (List.mem_of_getElem? hy)) (by decide)) ?_
 clear h; intro M h
 replace h := h.dN fL lb hlb (by omega)
 replace h := aW (a := a) (p := p) (pa := pa) (dr := dr) (gg := gg) (x := x.gy i.a (y.r7 g).1) (I3 hl) h b
 refine ⟨_, _, rfl, ?_⟩
 refine eJ.2 ⟨fun hn => ?_, fun hn => ?_⟩
 ·rw [if_pos hn] at k
  exact k _ _ (h.sub bD)
 rw [if_neg (by simpa using hn)] at k
 refine eJ.2 ⟨fun xl => ?_, fun xl => ?_⟩
 ·rw [if_pos xl] at k
  obtain ⟨w0, w1⟩ := hw xl
  refine g8 (b := b) h w0 (show _ < ((x.gy i.a (y.r7 g).1).gs.length : Int) from w1) (by show x.ready.length ≤ _; omega) ?_
  clear h; intro M h
  exact ⟨rfl, k _ _ (h.sub bD)⟩
 ·rw [if_neg (by simpa using xl)] at k
  exact k _ _ (h.sub bD)
theorem Rh : fX R pa p dr 222 x g i (.eC i.a x) L L := by
 intro gg b bs c M K Kp Q h eD k
 refine ry ?_
 refine aq h ?_
 clear h
 intro kb M h
 refine aI h ?_
 exact k _ _ (h.sub bD)
theorem Ox : fX R pa p dr 214 x g i (.on x) L L := by
 intro gg b bs c M K Kp Q h eD k
 refine pM ?_
 refine aq h ?_
 clear h
 intro kb M h
 exact k _ _ (h.sub bD)
theorem Ri {d : jU} (hg : bj x g) (ha : aU i.a) (Bc : 0 ≤ (aj x g).top.pc ∧ (aj x g).top.pc < 1000000000) (hd : iO R dr 4 i.b d L L2) : fX R pa p dr 192 x g i (x.rand g i d) L L2 := by
 intro gg b bs c M K Kp Q h eD k
 refine qX ?_
 refine aq h ?_
 clear h
 intro kb M h
 have Bd : M.ld ⟨b, 0 + 14, none⟩ = some dr := by
  obtain ⟨a, hl, h9⟩ := cn h (b := b)
  exact bM h9
 rw [Bd]
 refine Mv (aI h ?_)
 have h5 : Hp R (sep [az (br pa p gg dr) b x, pt kb [.int .i64 i.op, .int .i64 i.a, .int .i64 i.b, .int .i64 i.c] 27, Q] :: L) M := Hp.aX.2 (h.sub bD)
 refine hd _ _ _ _ h5 ?_
 clear h h5 Bd
 cases d with
 | cT l =>
  dsimp only at k ⊢
  intro M h5
  have h : Hp R (az (br pa p gg dr) b x :: pt kb [.int .i64 i.op, .int .i64 i.a, .int .i64 i.b, .int .i64 i.c] 27 :: Q :: L2) M := Hp.aX.1 h5
  exact k _ _ (h.sub bD)
 | num v =>
  dsimp only at k ⊢
  intro M h5
  have h : Hp R (az (br pa p gg dr) b x :: pt kb [.int .i64 i.op, .int .i64 i.a, .int .i64 i.b, .int .i64 i.c] 27 :: Q :: L2) M := Hp.aX.1 h5
  clear h5
  refine cG ?_
  refine Ht (b := b) h hg eD rfl ?_
  rw [jg Bc.1 (by omega)]
  refine Hs (b := b) h hg eD rfl rfl ?_
  clear h; intro M h
  refine aI h ⟨ha.1, ha.2, ?_⟩
  refine lJ (b := b) h (tC hg) eD ha (by rw [Dg hg]) ?_
  clear h; intro M h
  exact k _ _ (h.sub bD)
abbrev Dk (pa : PA) (p : b7) (dr : Value) (a : WA) (x : Wd) (nr : Nat) (A : Option Addr) (n c : Nat) (s : Int) : List Value :=
 [.slice pa.f p.funcs.length pa.fc, .slice pa.c p.eG.length pa.cc, .int .i64 p.aL, .slice pa.k p.cases.length pa.kc, .slice a.ag a.gb.length a.cg, .int .u64 x.clock,
  .slice a.ac a.cb.length a.cc, .slice a.al a.lb.length a.cl, .slice A n c, .int .u64 s, .slice a.ao x.out.length a.co, .int .i64 x.end_, .int .i64 x.code, .slice a.ar nr a.cr, dr]
theorem SR {a : WA} {nr T : Nat} : SQ b (0 + 8) (fun A n c s => pt b (Dk pa p dr a x nr A n c s) T) :=
 ⟨fun R L M A n c s h => bM h, fun R L M A n c s h => bM h, fun R L M A A' n c n' c' s G h k => au h k, fun R L M A n c s s' G h k => au h k⟩
theorem Oy (hg : bj x g) (ha : aU i.a) (hs : x.hl.length < 1000000) : fX R pa p dr 218 x g i (.on (x.sleep g i)) L L := by
 intro gg b bs c M K Kp Q h eD k
 refine pN ?_
 replace k : ∀ lK M', Hp R (az (br pa p lK dr) b (x.sleep g i) :: Q :: L) M' → K (.tuple #[]) M' := k
 have Ax := hg
 obtain ⟨h0, h1, h2, h3⟩ := Ax
 unfold Wd.sleep at k
 refine aq h ?_
 clear h
 intro kb M h
 refine aI h ⟨ha.1, ha.2, ?_⟩
 refine ES (b := b) h hg eD ha rfl ?_
 have hC := h
 have h' := cn h (b := b)
 clear h
 obtain ⟨a, hl, h⟩ := h'
 have hl' := hl
 obtain ⟨l1, l2, l3, l4⟩ := hl'
 have e : (if (1048576 : Int) < bt x g i.a then 1048576 else bt x g i.a) = qc x g i := rfl
 rw [e]
 refine aM.2 ⟨fun hn => ?_, fun hn => ?_⟩
 ·rw [if_pos (by omega)] at k
  refine aI h ?_
  clear hC
  replace h : Hp R (pt b (Dk pa p dr a x x.ready.length a.ah x.hl.length a.ch x.mI) 161 :: gk a.ah a.ch x.hl :: bg fU a.gb (x.gs.zip gg) :: zh a.ag a.cg a.gb :: zk a.ac a.cc a.cb :: bg bE a.cb x.aD :: zl a.al a.cl a.lb :: bg fL a.lb x.aL :: yR a.ao a.co x.out :: lz a.ar a.cr x.ready :: Q :: L) M := h.sub bD
  refine KR (SR (a := a) (x := x)) h hs ?_
  clear h; intro v A' c' M h
  refine cG ?_
  have h9 : Hp R (az (br pa p gg dr) b { x with hl := sw x.hl ⟨IntKind.wrap .u64 (x.clock + IntKind.wrap .u64 (qc x g i)), x.mI, g⟩, mI := IntKind.wrap .u64 (x.mI + 1) } :: Q :: L) M := by
   have := KP (l := x.hl) (x := ⟨IntKind.wrap .u64 (x.clock + IntKind.wrap .u64 (qc x g i)), x.mI, g⟩)
   rw [← this] at h
   exact jv (a := { a with ah := A', ch := c' }) (x := { x with hl := sw x.hl ⟨IntKind.wrap .u64 (x.clock + IntKind.wrap .u64 (qc x g i)), x.mI, g⟩, mI := IntKind.wrap .u64 (x.mI + 1) }) ⟨l1, l2, l3, l4⟩ (h.sub bD)
  clear h hl l1 l2 l3 l4
  have h := h9
  clear h9
  have h' := gG (x := { x with hl := sw x.hl ⟨IntKind.wrap .u64 (x.clock + IntKind.wrap .u64 (qc x g i)), x.mI, g⟩, mI := IntKind.wrap .u64 (x.mI + 1) }) h (b := b) h0 h1 eD
  clear h
  obtain ⟨a2, gb, hl, fM, h⟩ := h'
  have hl' := hl
  obtain ⟨l1, l2, l3, l4⟩ := hl'
  refine aS h ⟨h0, by dsimp only at l1; omega, ?_⟩
  refine vk h fM fun q hq => ?_
  refine bp ?_
  refine au h ?_
  clear h; intro M h
  replace h := cL h gb hl fM eD
  have kT := c7 (y := { aj x g with st := 3 }) (g := g) hl
  replace h := aW (a := a2) (p := p) (pa := pa) (dr := dr) (gg := gg) (x := { x.bu g { aj x g with st := 3 } with hl := sw x.hl ⟨IntKind.wrap .u64 (x.clock + IntKind.wrap .u64 (qc x g i)), x.mI, g⟩, mI := IntKind.wrap .u64 (x.mI + 1) }) kT h b
  exact k _ _ (h.sub bD)
 ·rw [if_neg (by omega)] at k
  exact k _ _ (hC.sub bD)
theorem Rj {l : List Int} : ∀ {x : Wd}, (l.foldl Wd.eT x).gs.length = x.gs.length := by
 induction l with
 | nil => intro x; rfl
 | cons a l ih => intro x; rw [List.foldl_cons, ih]; simp [Wd.eT, Wd.bu]
theorem Hv {l : List Int} : ∀ {x : Wd}, (l.foldl Wd.eT x).ready = x.ready ++ l := by
 induction l with
 | nil => intro x; simp
 | cons a l ih => intro x; rw [List.foldl_cons, ih]; simp [Wd.eT]
theorem Hw (h : Hp R L M) [o : IX b L pa p x L'] (hs : x.hl.length ≤ 1000000) (hw : ∀ y ∈ (dM x.hl.length x.hl (IntKind.wrap .u64 (x.clock + 1))).2, 0 ≤ y.id ∧ y.id < x.gs.length)
  (k : ∀ R' A c M', R.le R' → RS bB R' A c x.tick.ready → Hp R' (az (bI pa p) b x.tick :: L') M' → K (.slice A x.tick.ready.length c) M') :
  aa Tryz.prog 120 #[.pointer (some ⟨b, 0, none⟩)] M K Kp := by
 refine qU ?_
 have h' := en h (b := b)
 clear h
 obtain ⟨a, gg, dr, n, hl, h⟩ := h'
 have hl' := hl
 obtain ⟨l1, l2, l3, l4⟩ := hl'
 unfold Wd.tick at k
 dsimp only at k
 refine aI h ?_
 refine eJ.2 ⟨fun he => ?_, fun he => ?_⟩
 ·rw [if_pos he] at k
  exact k R none 0 M (Mem.le_refl _) (RS.nil _ _) (lM (a := a) (gg := gg) (dr := dr) (n := n) (x := { x with ready := [] }) hl h)
 rw [if_neg (by simpa using he)] at k
 refine aI h ?_
 refine au h ?_
 clear h; intro M h
 refine au h ?_
 clear h; intro M h
 refine aI h ?_
 replace h : Hp R (pt b (Dk pa p dr { a with ar := none, cr := 0 } { x with clock := IntKind.wrap .u64 (x.clock + 1) } 0 a.ah x.hl.length a.ch x.mI) 161 :: gk a.ah a.ch x.hl :: bg fU a.gb (x.gs.zip gg) :: zh a.ag a.cg a.gb :: zk a.ac a.cc a.cb :: bg bE a.cb x.aD :: zl a.al a.cl a.lb :: bg fL a.lb x.aL :: yR a.ao a.co x.out :: L') M := h.sub (by repeat (first | exact .refl | refine .cons (by repeat (first | exact .here | apply cZ.there)) ?_ | apply Sub.drop))
 refine KS (SR (a := { a with ar := none, cr := 0 }) (x := { x with clock := IntKind.wrap .u64 (x.clock + 1) })) h hs ?_
 clear h; intro A' c' M h
 have hlen : (dM x.hl.length x.hl (IntKind.wrap .u64 (x.clock + 1))).2.length ≤ x.hl.length := by
  have : ∀ (f : Nat) (l : List bz) (now : Int), (dM f l now).2.length ≤ f := by
   intro f
   induction f with
   | zero => intro l now; exact Nat.le_refl _
   | succ f ih =>
    intro l now; unfold dM; split
    ·have := ih (dX l 0) now; simp; exact this
    ·exact Nat.zero_le _
  exact this _ _ _
 generalize dM x.hl.length x.hl (IntKind.wrap .u64 (x.clock + 1)) = r at h k hw hlen
 refine bk ?_
 have h0 := h.cC bB 3
 have hW : Hp R (az (br pa p gg dr) b { x with clock := IntKind.wrap .u64 (x.clock + 1), hl := r.1, ready := [] } :: gk A' c' r.2 :: L') M :=
  jv (a := { a with ar := none, cr := 0 }) (x := { x with clock := IntKind.wrap .u64 (x.clock + 1), hl := r.1, ready := [] }) ⟨l1, l2, l3, l4⟩ (h0.sub (by repeat (first | exact .refl | refine .cons (by repeat (first | exact .here | apply cZ.there)) ?_ | apply Sub.drop)))
 clear h h0
 generalize Dh : ({ x with clock := IntKind.wrap .u64 (x.clock + 1), hl := r.1, ready := [] } : Wd) = x1 at hW k
 have V6 : x1.gs.length = x.gs.length := by rw [← Dh]
 have hrd : x1.ready = [] := by rw [← Dh]
 refine ⟨fun d vs M => ∃ j : Nat, vs = [.int .i64 (j : Int)] ∧ d = r.2.length - j ∧ j ≤ r.2.length ∧ Hp R (az (br pa p gg dr) b (((r.2.take j).map (·.id)).foldl Wd.eT x1) :: gk A' c' r.2 :: L') M, ⟨_, 0, rfl, rfl, by omega, hW⟩, ?_⟩
 clear hW
 rintro d _ nn M ⟨j, tv, hd, hj, h⟩
 simp only [List.cons.injEq, Value.int.injEq, and_true, true_and] at tv
 subst tv
 refine aM.2 ⟨fun hlt => ?_, fun hge => ?_⟩
 ·obtain ⟨w, hww⟩ := aP (l := r.2) (i := j) (by omega)
  have hwm := hw w (List.mem_of_getElem? hww)
  obtain ⟨q, rfl⟩ := h.bF (A := A') (by omega) (by decide)
  have W5 := h.src (A := some ⟨q, 0, none⟩)
  refine ⟨by omega, hlt, bp ?_⟩
  refine lN h W5 hww (by simp) (by simp) (by simp) ?_
  clear W5
  refine aq h ?_
  clear h; intro kw M h
  refine au h ?_
  clear h; intro M h
  refine au h ?_
  clear h; intro M h
  refine au h ?_
  clear h; intro M h
  refine aI h ?_
  refine g8 (b := b) h hwm.1 (by rw [Rj, V6]; exact hwm.2) (by rw [Hv, hrd]; simp; omega) ?_
  clear h; intro M h
  refine ⟨rfl, r.2.length - (j + 1), by omega, j + 1, by rw [aV (by omega)], rfl, by omega, ?_⟩
  rw [dB hww, List.map_append, List.foldl_append]
  exact h.sub (by repeat (first | exact .refl | refine .cons (by repeat (first | exact .here | apply cZ.there)) ?_ | apply Sub.drop))
 ·have Lu : j = r.2.length := by omega
  subst Lu
  rw [List.take_length] at h
  generalize hz : (r.2.map (·.id)).foldl Wd.eT x1 = z at h k
  have h' := cn h (b := b)
  clear h
  obtain ⟨a2, kT, h⟩ := h'
  refine aS h ?_
  obtain ⟨R', hle, yb, h6⟩ := h.gE a2.ar
  exact k R' _ _ _ hle yb (lM (a := a2) (n := z.ready.length) (gg := gg) (dr := dr) kT (h6.sub (by repeat (first | exact .refl | refine .cons (by repeat (first | exact .here | apply cZ.there)) ?_ | apply Sub.drop))))
end
def uY (x : Wd) (g : Int) (i : cI) : Out (Wd × Bool) → Prop
 | .on (y, false) => bj y g ∧ (aj y g).fs.length = (aj x g).fs.length ∧ zm y i.a
 | .on (_, true) => True
 | .eC _ _ => True
 | .cT _ _ => True
instance (x : Wd) (g : Int) (i : cI) (r : Out (Wd × Bool)) : Decidable (uY x g i r) := match r with
 | .on (y, false) => by unfold uY; infer_instance
 | .on (_, true) => isTrue trivial
 | .eC _ _ => isTrue trivial
 | .cT _ _ => isTrue trivial
theorem KU {p : b7} {x : Wd} {g : Int} {i : cI} (h : bj x g ∧ aU i.b ∧ oq p x i.a (bt x g i.b) ∧ uY x g i (x.put p i.a (bt x g i.b))) : G4 p x g i := by
 obtain ⟨h1, h2, h3, h4⟩ := h
 refine ⟨h1, h2, h3, ?_⟩
 generalize x.put p i.a (bt x g i.b) = r at h4
 match r, h4 with
 | .on (y, false), h4 => exact h4
 | .on (y, true), _ => trivial
 | .eC _ _, _ => trivial
 | .cT _ _, _ => trivial
instance (x : Wd) (g : Int) (i : cI) : Decidable (wc x g i) := by unfold wc; infer_instance
instance (p : b7) (x : Wd) (i : cI) : Decidable (nO p x i) := by unfold nO; infer_instance
def zC (p : b7) (x : Wd) (g : Int) (i : cI) (k : Int) : Prop :=
 let c := (aC p i).getD k.toNat ⟨0, 0, 0⟩
 let x1 := x.next g
 0 ≤ k ∧ k < (aC p i).length ∧ aU c.bQ ∧
  if c.way = 1 then oq p x1 c.ch (bt x1 g c.bQ) ∧ (match x1.put p c.ch (bt x1 g c.bQ) with
   | .on (y, _) => bj y g ∧ (aj y g).fs.length = (aj x g).fs.length
   | _ => True)
  else uR x1 c.ch ∧ bj (x1.get c.ch).1 g ∧ (aj (x1.get c.ch).1 g).fs.length = (aj x g).fs.length
instance (g : Int) (n : Nat) (r : Out (Wd × Bool)) : Decidable (match r with
   | .on (y, _) => bj y g ∧ (aj y g).fs.length = n
   | _ => True) := match r with
 | .on (y, _) => by dsimp only; infer_instance
 | .eC _ _ => isTrue trivial
 | .cT _ _ => isTrue trivial
instance (p : b7) (x : Wd) (g : Int) (i : cI) (k : Int) : Decidable (zC p x g i k) := by unfold zC; infer_instance
def m7 (p : b7) (x : Wd) (g : Int) (i : cI) (d : jU) : Bool :=
 decide (bj x g ∧ uX p i ∧ aU i.c ∧ x.Sm ∧ (aj x g).top.pc < 1000000000 ∧ 0 ≤ (aj x g).top.pc ∧ (∀ c ∈ aC p i, c.Ok x.aD.length)) &&
 (match d with
  | .cT _ => true
  | .num v => (enabled (aC p i) x.aD).isEmpty || decide (0 ≤ v ∧ v < (enabled (aC p i) x.aD).length ∧ zC p x g i ((enabled (aC p i) x.aD).getD v.toNat 0)))
theorem E9 {p : b7} {x : Wd} {g : Int} {i : cI} {d : jU} (h : m7 p x g i d = true) : E5 p x g i d := by
 unfold m7 at h
 rw [Bool.and_eq_true] at h
 obtain ⟨h1, h2⟩ := h
 obtain ⟨a1, a2, a3, a4, a5, a6, a7⟩ := of_decide_eq_true h1
 refine ⟨a1, a2, a3, a4, a5, a6, a7, ?_⟩
 cases d with
 | cT l => split <;> trivial
 | num v =>
  dsimp only at h2
  cases he : enabled (aC p i) x.aD with
  | nil => trivial
  | cons q l =>
   rw [he] at h2
   rw [List.isEmpty_cons, Bool.false_or] at h2
   have h3 := of_decide_eq_true h2
   exact h3
def nS (p : b7) (x : Wd) (g : Int) (i : cI) : Option (Out Wd) :=
 if i.op = 10 then (if bj x g ∧ aU i.a ∧ aU (aj x g).top.qT then some (.on (x.back g i)) else none)
 else if i.op = 11 then (if bj x g ∧ aU i.b ∧ aU i.c ∧ x.Sm then some (x.spawn g i) else none)
 else if i.op = 13 then (if (bj x g ∧ aU i.b ∧ oq p x i.a (bt x g i.b) ∧ uY x g i (x.put p i.a (bt x g i.b))) ∧ x.Sm then some (x.send p g i) else none)
 else if i.op = 14 then (if wc x g i ∧ x.Sm then some (.on (x.recv g i)) else none)
 else if i.op = 15 then (if nO p x i ∧ x.Sm then some (x.shut p i) else none)
 else if i.op = 20 then (if bj x g ∧ aU i.a ∧ x.Sm then some (x.emit g i) else none)
 else if i.op = 9 then (if bj x g ∧ aU i.b then some (x.call g i) else none)
 else if i.op = 12 then some (.on x)
 else if i.op = 17 then (if bj x g ∧ aU i.a ∧ x.hl.length < 1000000 then some (.on (x.sleep g i)) else none)
 else if i.op = 18 then (if bj x g ∧ Dj x i.a ∧ x.Sm then some (.on (x.lock g i)) else none)
 else if i.op = 19 then (if m6 x g i ∧ x.Sm then some (x.unlock g i) else none)
 else if i.op = 22 then some (.eC i.a x)
 else none
def Fa (p : b7) (x : Wd) (g : Int) : Option cI := match p.funcs[(aj x g).top.fn.toNat]? with
 | none => none
 | some code => code[(aj x g).top.pc.toNat]?
def w6 (x : Wd) (g : Int) : Prop := 0 ≤ g ∧ g < x.gs.length ∧ x.end_ = 0 ∧ (aj x g).st = 1
instance (x : Wd) (g : Int) : Decidable (w6 x g) := by unfold w6; infer_instance
def asks (p : b7) (x : Wd) (g : Int) : Option (Int × Int) :=
 if w6 x g then match Fa p x g with
  | none => none
  | some i => if i.op = 21 then some (4, i.b) else if i.op = 16 then (if enabled (aC p i) x.aD = [] then none else some (3, (enabled (aC p i) x.aD).length)) else none
 else none
def w7 (p : b7) (x0 : Wd) (g : Int) (d : jU) : Option (Out Wd × Bool) :=
 let x := { x0 with ready := [] }
 if w6 x g then
  if bj x g ∧ 0 ≤ (aj x g).top.fn ∧ 0 ≤ (aj x g).top.pc ∧ (aj x g).top.pc < 1000000000 then
   match p.funcs[(aj x g).top.fn.toNat]? with
   | none => none
   | some code => match code[(aj x g).top.pc.toNat]? with
    | none => some (.eC (-7) x, false)
    | some i =>
     if 0 ≤ i.op ∧ i.op ≤ 8 then (if i.cw then some (.on (x.bu g ((aj x g).cJ ((aj x g).top.next.pure i))), false) else none)
     else if i.op = 16 then (if m7 p x g i d = true then (if g < (x.choose p g i d).fin.gs.length then some (x.choose p g i d, false) else none) else none)
     else if i.op = 21 then (if aU i.a then (if g < (x.rand g i d).fin.gs.length then some (x.rand g i d, false) else none) else none)
     else match nS p (x.next g) g i with
      | none => none
      | some r => if g < r.fin.gs.length then some (r, Ho i.op r) else none
  else none
 else some (.on x, true)
section
variable {R : Mem} {L L' L2 : List HP} {M : Mem} {K : Value → Mem → Prop} {Kp : List PanicEntry → Mem → Prop} {pa : PA} {p : b7} {gg : List GA} {dr : Value} {b : Nat} {x : Wd} {g : Int}
theorem cN {α : Type} {c : Prop} [Decidable c] {a b : α} (h : (if c then some a else none) = some b) : c ∧ b = a := by
 split at h
 ·rename_i hc; cases h; exact ⟨hc, rfl⟩
 ·cases h
theorem KV {i : cI} {r : Out Wd} (hp : oM R pa p) (h : nS p x g i = some r) : ∃ fn, Bb V1 i.op = some (.func (.func fn) #[] #[]) ∧ (1 < fn ∧ fn < 255) ∧ i.op ≠ 16 ∧ i.op ≠ 21 ∧ 8 < i.op ∧ ∀ L, fX R pa p dr fn x g i r L L := by
 unfold nS at h
 by_cases e : i.op = 10
 ·rw [if_pos e] at h
  obtain ⟨hc, rfl⟩ := cN h
  exact ⟨212, by rw [e]; rfl, by decide, by omega, by omega, by omega, fun L => Ra hc.1 hc.2.1 hc.2.2⟩
 rw [if_neg e] at h
 clear e
 by_cases e : i.op = 11
 ·rw [if_pos e] at h
  obtain ⟨hc, rfl⟩ := cN h
  exact ⟨213, by rw [e]; rfl, by decide, by omega, by omega, by omega, fun L => On hc.1 hc.2.1 hc.2.2.1 hc.2.2.2⟩
 rw [if_neg e] at h
 clear e
 by_cases e : i.op = 13
 ·rw [if_pos e] at h
  obtain ⟨hc, rfl⟩ := cN h
  exact ⟨215, by rw [e]; rfl, by decide, by omega, by omega, by omega, fun L => Q6 hp (KU hc.1) hc.2⟩
 rw [if_neg e] at h
 clear e
 by_cases e : i.op = 14
 ·rw [if_pos e] at h
  obtain ⟨hc, rfl⟩ := cN h
  exact ⟨216, by rw [e]; rfl, by decide, by omega, by omega, by omega, fun L => Q7 hc.1 hc.2⟩
 rw [if_neg e] at h
 clear e
 by_cases e : i.op = 15
 ·rw [if_pos e] at h
  obtain ⟨hc, rfl⟩ := cN h
  exact ⟨217, by rw [e]; rfl, by decide, by omega, by omega, by omega, fun L => Q9 hp hc.1 hc.2⟩
 rw [if_neg e] at h
 clear e
 by_cases e : i.op = 20
 ·rw [if_pos e] at h
  obtain ⟨hc, rfl⟩ := cN h
  exact ⟨221, by rw [e]; rfl, by decide, by omega, by omega, by omega, fun L => Q8 hc.1 hc.2.1 hc.2.2⟩
 rw [if_neg e] at h
 clear e
 by_cases e : i.op = 9
 ·rw [if_pos e] at h
  obtain ⟨hc, rfl⟩ := cN h
  exact ⟨211, by rw [e]; rfl, by decide, by omega, by omega, by omega, fun L => Re hc.1 hc.2⟩
 rw [if_neg e] at h
 clear e
 by_cases e : i.op = 12
 ·rw [if_pos e] at h
  cases h
  exact ⟨214, by rw [e]; rfl, by decide, by omega, by omega, by omega, fun L => Ox⟩
 rw [if_neg e] at h
 clear e
 by_cases e : i.op = 17
 ·rw [if_pos e] at h
  obtain ⟨hc, rfl⟩ := cN h
  exact ⟨218, by rw [e]; rfl, by decide, by omega, by omega, by omega, fun L => Oy hc.1 hc.2.1 hc.2.2⟩
 rw [if_neg e] at h
 clear e
 by_cases e : i.op = 18
 ·rw [if_pos e] at h
  obtain ⟨hc, rfl⟩ := cN h
  exact ⟨219, by rw [e]; rfl, by decide, by omega, by omega, by omega, fun L => Rf hc.1 hc.2.1 hc.2.2⟩
 rw [if_neg e] at h
 clear e
 by_cases e : i.op = 19
 ·rw [if_pos e] at h
  obtain ⟨hc, rfl⟩ := cN h
  exact ⟨220, by rw [e]; rfl, by decide, by omega, by omega, by omega, fun L => KT hc.1 hc.2⟩
 rw [if_neg e] at h
 clear e
 by_cases e : i.op = 22
 ·rw [if_pos e] at h
  cases h
  exact ⟨222, by rw [e]; rfl, by decide, by omega, by omega, by omega, fun L => Rh⟩
 rw [if_neg e] at h
 clear e
 cases h
theorem Hx {l : List Int} (h : Hp R (az (bI pa p) b x :: L) M) : Hp R (az (bI pa p) b { x with ready := l } :: L) M := by
 obtain ⟨a, gg, dr, n, hl, h⟩ := en h (b := b)
 exact lM (a := a) (gg := gg) (dr := dr) (n := n) (x := { x with ready := l }) hl h
theorem iO.cons {kind n : Int} {d : jU} {Q : HP} (h : iO R dr kind n d L L2) : iO R dr kind n d (Q :: L) (Q :: L2) := by
 intro Q' M K Kp hM k
 refine h (sep [Q', Q]) M K Kp (Hp.aX.2 hM) ?_
 cases d with
 | num v => exact fun M' h' => k M' (Hp.aX.1 h')
 | cT l => exact fun M' h' => k M' (Hp.aX.1 h')
theorem KW {d : jU} {r : Out Wd} {rest : Bool} (h : Hp R L M) [o : IX b L pa p x L'] (hp : oM R pa p) (Bd : ∃ f c d, dr = .func f c d) (he : w7 p x g d = some (r, rest))
  (hd : match asks p { x with ready := [] } g with | none => L2 = L' | some (kd, n) => iO R dr kd n d L' L2) (k : qK R pa p b g L2 K Kp r rest) :
  aa Tryz.prog 121 #[.pointer (some ⟨b, 0, none⟩), .int .i64 g, dr] M K Kp := by
 unfold w7 at he
 dsimp only at he
 split at he
 ·rename_i hg
  have Ax := hg
  obtain ⟨h0, h1, W6, w4⟩ := Ax
  split at he
  ·rename_i Bc
   obtain ⟨Oz, hf0, hp0, SI⟩ := Bc
   split at he
   ·cases he
   ·rename_i code m5
    have done : ∀ (r : Out Wd) (rest : Bool), qK R pa p b g L2 K Kp r rest → (∀ Q, Step R pa p dr { x with ready := [] } g code r rest (Q :: L') (Q :: L2)) → g < r.fin.gs.length → aa Tryz.prog 121 #[.pointer (some ⟨b, 0, none⟩), .int .i64 g, dr] M K Kp := by
     intro r rest k hs hl
     exact Hq (x := x) h hp (show bj x g from Oz) W6 w4 hf0 m5 ⟨hp0, SI⟩ Bd hs hl k
    have jL : ∀ i, code[(aj x g).top.pc.toNat]? = some i → asks p { x with ready := [] } g = if i.op = 21 then some (4, i.b) else if i.op = 16 then (if enabled (aC p i) x.aD = [] then none else some (3, ((enabled (aC p i) x.aD).length : Int))) else none := by
     intro i hi
     unfold asks
     rw [if_pos hg]
     unfold Fa
     rw [show p.funcs[(aj { x with ready := [] } g).top.fn.toNat]? = some code from m5]
     dsimp only
     rw [show code[(aj { x with ready := [] } g).top.pc.toNat]? = some i from hi]
    split at he
    ·rename_i hnone
     cases he
     have e : asks p { x with ready := [] } g = none := by
      unfold asks
      rw [if_pos hg]
      unfold Fa
      rw [show p.funcs[(aj { x with ready := [] } g).top.fn.toNat]? = some code from m5]
      dsimp only
      rw [hnone]
     rw [e] at hd
     dsimp only at hd
     subst hd
     refine done (.eC (-7) { x with ready := [] }) false k (fun Q => .out ?_) h1
     have := List.getElem?_eq_none_iff.1 hnone
     omega
    ·rename_i i hi
     have e := jL i hi
     rw [e] at hd
     clear e jL
     split at he
     ·rename_i h8
      split at he
      ·rename_i hok
       cases he
       rw [if_neg (by omega), if_neg (by omega)] at hd
       dsimp only at hd
       subst hd
       exact done (.on _) false k (fun Q => .pure i hi h8.1 h8.2 hok) (by simpa [Out.fin, Wd.bu] using h1)
      ·cases he
     split at he
     ·rename_i IL
      split at he
      ·rename_i hok
       split at he
       ·rename_i hl
        cases he
        rw [if_neg (by omega), if_pos IL] at hd
        refine done _ false k (fun Q => .De i hi IL (KM hp (E9 hok) ?_)) hl
        split at hd
        ·rename_i hq
         split at hq
         ·rename_i lI
          rw [if_pos (by exact lI), hd]
         ·cases hq
        ·rename_i kd n hq
         split at hq
         ·cases hq
         ·rename_i lI
          cases hq
          rw [if_neg (by exact lI)]
          exact hd.cons
       ·cases he
      ·cases he
     split at he
     ·rename_i W2
      split at he
      ·rename_i hok
       split at he
       ·rename_i hl
        cases he
        rw [if_pos W2] at hd
        exact done _ false k (fun Q => .V2 i hi W2 (Ri Oz hok ⟨hp0, SI⟩ (iO.cons hd))) hl
       ·cases he
      ·cases he
     split at he
     ·cases he
     ·rename_i IL W2 _ r' jM
      split at he
      ·rename_i hl
       cases he
       rw [if_neg W2, if_neg IL] at hd
       dsimp only at hd
       subst hd
       obtain ⟨fn, f1, f2, f3, f4, f5, f6⟩ := KV (R := R) (pa := pa) (dr := dr) hp jM
       exact done _ _ k (fun Q => .dflt i fn hi f5 f3 f4 f1 f2 (f6 _)) hl
      ·cases he
  ·cases he
 ·rename_i hr
  cases he
  have e : asks p { x with ready := [] } g = none := by
   unfold asks
   rw [if_neg hr]
  rw [e] at hd
  dsimp only at hd
  subst hd
  refine jT ?_
  refine aq h ?_
  clear h
  intro kb M h
  have hC := h
  have h' := en h (b := b)
  clear h
  obtain ⟨a, gg, dr0, n0, hl, h⟩ := h'
  have hl' := hl
  obtain ⟨l1, l2, l3, l4⟩ := hl'
  have fin : aK M ⟨kb, 0, none⟩ (.bool false) fun sq => aK sq ⟨kb, (0 + 1), none⟩ (.slice none 0 0) fun AP =>
    de (Mem.ld AP ⟨kb, 0, none⟩) fun t36 => aB (Mem.ld AP ⟨kb, (0 + 1), none⟩) fun Qt iR yY => K (.agg #[(.bool t36), (.slice Qt iR yY)]) AP := by
   have h := hC
   clear hC
   refine au h ?_
   clear h; intro M h
   refine au h ?_
   clear h; intro M h
   refine Ik h (aS h ?_)
   have k2 := k R none 0 M (Mem.le_refl _) (RS.nil _ _) (Hx (h.drop.pick o.pick))
   exact k2
  refine aM.2 ⟨fun hn => fin, fun h0 => ?_⟩
  refine aS h ?_
  refine aM.2 ⟨fun hn => fin, fun h1 => ?_⟩
  refine aI h ?_
  refine eJ.2 ⟨fun hn => fin, fun he0 => ?_⟩
  refine aS h ?_
  refine ⟨by omega, by omega, ?_⟩
  obtain ⟨gb, fM⟩ := aP (l := a.gb) (i := g.toNat) (by omega)
  refine vk h fM fun q hq => ?_
  obtain ⟨ga, V4⟩ := aP (l := gg) (i := g.toNat) (by omega)
  obtain ⟨z, hy⟩ := aP (l := x.gs) (i := g.toNat) (by omega)
  have ey : aj x g = z := by simp [aj, hy]
  refine bp ?_
  have Ot : M.ld ⟨gb, 0, none⟩ = some (.int .i64 z.st) := by
   have h9 := mY (b := gb) (h.c6 fU fM (nN hy V4))
   exact bM h9
  rw [Ot]
  refine cG ?_
  refine eJ.2 ⟨fun hn => fin, fun hn => ?_⟩
  exact absurd ⟨by omega, by show g < (x.gs.length : Int); omega, he0, by show (aj x g).st = 1; rw [ey]; exact hn⟩ hr
end
def Hy (y : jl) : Bool := y.st == 1 || y.st == 3
def Wd.stuck (x : Wd) : Bool := x.end_ == 0 && !(x.gs.any Hy)
section
variable {R : Mem} {L L' L2 : List HP} {M : Mem} {K : Value → Mem → Prop} {Kp : List PanicEntry → Mem → Prop} {pa : PA} {p : b7} {b : Nat} {x : Wd} {g : Int}
theorem Fb (h : Hp R L M) [o : IX b L pa p x L'] (hs : x.gs.length ≤ 1000000) (k : K (.bool x.stuck) M) : aa Tryz.prog 65 #[.pointer (some ⟨b, 0, none⟩)] M K Kp := by
 refine pO ?_
 unfold Wd.stuck at k
 have h' := en h (b := b)
 clear h
 obtain ⟨a, gg, dr, n, hl, h⟩ := h'
 have hl' := hl
 obtain ⟨l1, l2, l3, l4⟩ := hl'
 refine aI h ?_
 refine eJ.2 ⟨fun he => ?_, fun he => ?_⟩
 ·rw [show (x.end_ == 0) = false from by simpa using he, Bool.false_and] at k
  exact k
 rw [show (x.end_ == 0) = true from by simpa using he, Bool.true_and] at k
 refine aS h ?_
 refine ⟨fun d vs M' => ∃ j : Nat, vs = [.int .i64 (j : Int)] ∧ d = x.gs.length - j ∧ j ≤ x.gs.length ∧ (x.gs.take j).any Hy = false ∧ M' = M, ⟨_, 0, rfl, rfl, by omega, rfl, rfl⟩, ?_⟩
 rintro d _ nn M' ⟨j, tv, hd, hj, ha, rfl⟩
 simp only [List.cons.injEq, Value.int.injEq, and_true, true_and] at tv
 subst tv
 refine aM.2 ⟨fun hlt => ?_, fun hge => ?_⟩
 ·obtain ⟨gb, fM⟩ := aP (l := a.gb) (i := j) (by omega)
  obtain ⟨ga, V4⟩ := aP (l := gg) (i := j) (by omega)
  obtain ⟨y, hy⟩ := aP (l := x.gs) (i := j) (by omega)
  have Ot : M'.ld ⟨gb, 0, none⟩ = some (.int .i64 y.st) := by
   have h9 := mY (b := gb) (h.c6 fU fM (nN hy V4))
   exact bM h9
  refine ⟨by omega, by omega, ?_⟩
  refine vk h fM fun q hq => ?_
  refine bp ?_
  rw [Ot]
  refine cG ?_
  have hym := List.mem_of_getElem? hy
  refine aR.2 ⟨fun e1 => ?_, fun e1 => ?_⟩
  ·have : x.gs.any Hy = true := List.any_eq_true.2 ⟨y, hym, by simp [Hy, e1]⟩
   rw [this] at k
   exact k
  refine bp ?_
  rw [Ot]
  refine cG ?_
  refine aR.2 ⟨fun e3 => ?_, fun e3 => ?_⟩
  ·have : x.gs.any Hy = true := List.any_eq_true.2 ⟨y, hym, by simp [Hy, e3]⟩
   rw [this] at k
   exact k
  refine ⟨x.gs.length - (j + 1), by omega, j + 1, by rw [aV (by omega)], rfl, by omega, ?_, rfl⟩
  rw [dB hy, List.any_append, ha]
  simp [Hy, e1, e3]
 ·have Lu : j = x.gs.length := by omega
  subst Lu
  rw [List.take_length] at ha
  rw [ha] at k
  exact k
end
def Dl : iz (Int × Int) := ⟨2, fun w => [.int .i64 w.1, .int .u64 w.2], fun _ => rfl, fun w v hv => by
 simp only [List.mem_cons, List.not_mem_nil, or_false] at hv; obtain rfl | rfl := hv <;> rfl⟩
inductive gT where
 | lA (l : List Int) (at_ : Nat)
 | tape (l : List (Int × Int)) (at_ : Nat)
structure jz where
 k : gT
 taken : List (Int × Int)
def KX : List PanicEntry := [{ v := .iface 240 (.agg #[]), recovered := false }]
def W7 (at_ kind n k v : Int) : List PanicEntry := [{ v := .iface 97 (.agg #[.int .i64 at_, .int .i64 kind, .int .i64 n, .int .i64 k, .int .u64 v]), recovered := false }]
def gU (n : Int) : Int := if 1 > n then 1 else n
def gT.next (k : gT) (kind m : Int) : gT × jU := match k with
 | .lA l i => match l[i]? with
  | none => (.lA l i, .cT KX)
  | some v => (.lA l (i + 1), .num (Int.tmod v m))
 | .tape l i => match l[i]? with
  | none => (.tape l i, .cT KX)
  | some (q, v) => if q ≠ kind then (.tape l i, .cT (W7 i kind m q v)) else if v ≥ m then (.tape l i, .cT (W7 i kind m q v)) else (.tape l (i + 1), .num v)
def jz.draw (x : jz) (kind n : Int) : jz × jU := match x.k.next kind (gU n) with
 | (k', .num v) => (⟨k', x.taken ++ [(kind, v)]⟩, .num v)
 | (k', .cT l) => (⟨k', x.taken⟩, .cT l)
def gT.Ok : gT → Prop
 | .lA l i => l.length ≤ 1000000000 ∧ i ≤ l.length ∧ ∀ v ∈ l, 0 ≤ v ∧ v < 18446744073709551616
 | .tape l i => l.length ≤ 1000000000 ∧ i ≤ l.length ∧ ∀ v ∈ l, 0 ≤ v.2 ∧ v.2 < 18446744073709551616
def jz.Ok (x : jz) : Prop := x.k.Ok ∧ x.taken.length ≤ 1000000000
abbrev me (A : Option Addr) (c : Nat) (l : List (Int × Int)) : HP := bR Dl 95 A c l
abbrev Zv (A : Option Addr) (c : Nat) (l : List Int) : HP := bR Eh 32 A c l
def kR : sG gT := ⟨fun b k => match k with
 | .lA l i => exs fun A : Option Addr => exs fun c : Nat => sep [pt b [.slice A l.length c, .int .i64 (i : Int)] 147, Zv A c l]
 | .tape l i => exs fun A : Option Addr => exs fun c : Nat => sep [pt b [.slice A l.length c, .int .i64 (i : Int)] 354, me A c l]⟩
def w8 : gT → Nat → Value
 | .lA _ _, b => .func (.func 59) #[.pointer (some ⟨b, 0, none⟩)] #[]
 | .tape _ _, b => .func (.func 198) #[.pointer (some ⟨b, 0, none⟩)] #[]
def zD : gT → Nat → Value
 | .lA _ _, b => .func (.func 60) #[.pointer (some ⟨b, 0, none⟩)] #[]
 | .tape _ _, b => .func (.func 199) #[.pointer (some ⟨b, 0, none⟩)] #[]
def cK (KY : Value) : sG jz := ⟨fun b x => exs fun A : Option Addr => exs fun c : Nat => exs fun kb : Nat =>
 sep [pt b [w8 x.k kb, zD x.k kb, .slice A x.taken.length c, KY] 152, me A c x.taken, az kR kb x.k]⟩
theorem OA : bn Tryz.prog 149 95 2 16 [.int .i64 0, .int .u64 0] := bn.mk' (zv := .agg #[.int .i64 0, .int .u64 0]) (by kernel_rfl) (by kernel_rfl) rfl (by omega)
theorem V7 : bn Tryz.prog 31 32 1 8 [.int .u64 0] := bn.mk' (zv := .int .u64 0) (by kernel_rfl) (by kernel_rfl) rfl (by omega)
theorem qd {C : Ctx} {g : Nat} {first : Array Value} {args : List Value} {M : Mem} {K : Value → Mem → Prop} {Kp : List PanicEntry → Mem → Prop} (hg : 1 < g ∧ g < C.ok) (h : aa C.P g (first.toList ++ args).toArray M K Kp) : iB C (.func (.func g) first #[]) args M K Kp := by
 unfold iB
 simp only
 rw [if_pos hg]
 simpa using h
theorem zE (n : Int) : 1 ≤ gU n := by unfold gU; split <;> omega
theorem Fc {z : Int} (h0 : 0 ≤ z) (h : z < 18446744073709551616) : IntKind.wrap .u64 z = z := by
 obtain ⟨n, rfl⟩ := Int.eq_ofNat_of_zero_le h0
 rw [IntKind.wrap_u64]; omega
section
variable {R : Mem} {L L' L2 : List HP} {M : Mem} {K : Value → Mem → Prop} {Kp : List PanicEntry → Mem → Prop} {b : Nat} {x : jz} {KY : Value}
theorem zF {k : gT} {kind m : Int} (hok : k.Ok) (hm : 1 ≤ m) {k' : gT} {v : Int} (h : k.next kind m = (k', .num v)) : 0 ≤ v ∧ v < m := by
 cases k with
 | lA l i =>
  unfold gT.next at h
  dsimp only at h
  split at h
  ·cases h
  ·rename_i w hw
   cases h
   have := hok.2.2 w (List.mem_of_getElem? hw)
   exact ⟨Int.tmod_nonneg _ this.1, Int.tmod_lt_of_pos _ (by omega)⟩
 | tape l i =>
  unfold gT.next at h
  dsimp only at h
  split at h
  ·cases h
  ·rename_i q w hw
   have := hok.2.2 _ (List.mem_of_getElem? hw)
   split at h
   ·cases h
   ·split at h
    ·cases h
    ·cases h
     exact ⟨this.1, by omega⟩
theorem Rk {k : gT} {kind m : Int} (hok : k.Ok) : (k.next kind m).1.Ok := by
 cases k with
 | lA l i =>
  unfold gT.next
  dsimp only
  split
  ·exact hok
  ·rename_i w hw
   have := (List.getElem?_eq_some_iff.1 hw).1
   exact ⟨hok.1, by omega, hok.2.2⟩
 | tape l i =>
  unfold gT.next
  dsimp only
  split
  ·exact hok
  ·rename_i q w hw
   have := (List.getElem?_eq_some_iff.1 hw).1
   split
   ·exact hok
   ·split
    ·exact hok
    ·exact ⟨hok.1, by omega, hok.2.2⟩
theorem Hz {k : gT} {kind m : Int} {kb : Nat} : w8 (k.next kind m).1 kb = w8 k kb ∧ zD (k.next kind m).1 kb = zD k kb := by
 cases k with
 | lA l i => unfold gT.next; dsimp only; split <;> exact ⟨rfl, rfl⟩
 | tape l i =>
  unfold gT.next; dsimp only; split
  ·exact ⟨rfl, rfl⟩
  ·split
   ·exact ⟨rfl, rfl⟩
   ·split <;> exact ⟨rfl, rfl⟩
theorem V8 {k : gT} {kb : Nat} {kind m : Int} (h : Hp R (az kR kb k :: L) M) (hok : k.Ok) (hm : 1 ≤ m) (Rl : m < 9223372036854775808)
  (g : match (k.next kind m).2 with
   | .num v => ∀ M', Hp R (az kR kb (k.next kind m).1 :: L) M' → K (.int .u64 v) M'
   | .cT l => ∀ M', Hp R (az kR kb (k.next kind m).1 :: L) M' → Kp l M') :
  iB Cx (w8 k kb) [.int .i64 kind, .int .i64 m] M K Kp := by
 cases k with
 | lA l i =>
  refine qd ⟨by decide, by show _ < 255; decide⟩ ?_
  refine oI ?_
  obtain ⟨o1, o2, o3⟩ := hok
  unfold gT.next at g
  dsimp only at g
  have h2 := h.obj kR kb
  simp only [kR, Hp.di, Hp.aX, List.cons_append, List.nil_append] at h2
  obtain ⟨A, c, h2⟩ := h2
  clear h
  have h := h2
  clear h2
  have mk : ∀ {M : Mem} {i : Nat}, Hp R (pt kb [.slice A l.length c, .int .i64 (i : Int)] 147 :: Zv A c l :: L) M → Hp R (az kR kb (.lA l i) :: L) M := by
   intro M i h
   refine Hp.vG ?_
   simp only [kR, Hp.di, Hp.aX, List.cons_append, List.nil_append]
   exact ⟨_, _, h⟩
  refine aI h (aS h ?_)
  refine aM.2 ⟨fun hge => ?_, fun hlt => ?_⟩
  ·have e : l[i]? = none := List.getElem?_eq_none_iff.2 (by omega)
   rw [e] at g
   exact g _ (mk h)
  ·obtain ⟨w, hw⟩ := aP (l := l) (i := i) (by omega)
   rw [hw] at g
   have hwb := o3 w (List.mem_of_getElem? hw)
   refine aI h ?_
   rw [aV (by omega)]
   refine au h ?_
   clear h; intro M h
   refine aS h (aI h ?_)
   have e : IntKind.wrap .i64 (((i + 1 : Nat) : Int) - 1) = (i : Int) := by rw [cQ (by omega) (by omega)]; omega
   rw [e]
   obtain ⟨q, rfl⟩ := h.bF (A := A) (by omega) (by decide)
   refine ⟨by omega, by omega, bp ?_⟩
   refine aZ (Src.at (h.src (A := some ⟨q, 0, none⟩)) h (i := i) (j := 0) hw rfl (by simp [Eh])) ?_
   rw [Fc (by omega) (by omega)]
   exact ⟨by omega, g _ (mk h)⟩
 | tape l i =>
  refine qd ⟨by decide, by show _ < 255; decide⟩ ?_
  refine rH ?_
  obtain ⟨o1, o2, o3⟩ := hok
  unfold gT.next at g
  dsimp only at g
  have h2 := h.obj kR kb
  simp only [kR, Hp.di, Hp.aX, List.cons_append, List.nil_append] at h2
  obtain ⟨A, c, h2⟩ := h2
  clear h
  have h := h2
  clear h2
  have mk : ∀ {M : Mem} {i : Nat}, Hp R (pt kb [.slice A l.length c, .int .i64 (i : Int)] 354 :: me A c l :: L) M → Hp R (az kR kb (.tape l i) :: L) M := by
   intro M i h
   refine Hp.vG ?_
   simp only [kR, Hp.di, Hp.aX, List.cons_append, List.nil_append]
   exact ⟨_, _, h⟩
  refine aI h (aS h ?_)
  refine aM.2 ⟨fun hge => ?_, fun hlt => ?_⟩
  ·have e : l[i]? = none := List.getElem?_eq_none_iff.2 (by omega)
   rw [e] at g
   exact g _ (mk h)
  ·obtain ⟨⟨q, w⟩, hw⟩ := aP (l := l) (i := i) (by omega)
   rw [hw] at g
   dsimp only at g
   have hwb := o3 _ (List.mem_of_getElem? hw)
   dsimp only at hwb
   refine aS h (aI h ?_)
   obtain ⟨q0, rfl⟩ := h.bF (A := A) (by omega) (by decide)
   refine ⟨by omega, by omega, bp ?_⟩
   refine aZ (Src.at (h.src (A := some ⟨q0, 0, none⟩)) h (i := i) (j := 0) hw rfl (by simp [Dl])) ?_
   refine aZ (Src.at (h.src (A := some ⟨q0, 0, none⟩)) h (i := i) (j := 1) hw rfl (by simp [Dl])) ?_
   refine aq h ?_
   clear h; intro kk M h
   refine au h ?_
   clear h; intro M h
   refine au h ?_
   clear h; intro M h
   refine aI h ?_
   refine eJ.2 ⟨fun hne => ?_, fun heq => ?_⟩
   ·rw [if_pos hne] at g
    refine aI h (aI h (aI h ?_))
    exact g _ (mk (h.sub bD))
   ·rw [if_neg (by simpa using heq)] at g
    refine aI h ?_
    rw [Fc (by omega) (by omega)]
    refine aM.2 ⟨fun hge => ?_, fun HA => ?_⟩
    ·rw [if_pos hge] at g
     refine aI h (aI h (aI h ?_))
     exact g _ (mk (h.sub bD))
    ·rw [if_neg HA] at g
     refine aI h ?_
     rw [aV (by omega)]
     refine au h ?_
     clear h; intro M h
     refine aI h ?_
     exact g _ (mk (h.sub bD))
theorem Fe (h : Hp R L M) [o : bZ (cK KY) b L x L'] : ∃ A c kb, Hp R (pt b [w8 x.k kb, zD x.k kb, .slice A x.taken.length c, KY] 152 :: me A c x.taken :: az kR kb x.k :: L') M := by
 have := h.obj (cK KY) b
 simpa only [cK, Hp.di, Hp.aX, List.cons_append, List.nil_append] using this
theorem Dm {A : Option Addr} {c kb : Nat} (h : Hp R (pt b [w8 x.k kb, zD x.k kb, .slice A x.taken.length c, KY] 152 :: me A c x.taken :: az kR kb x.k :: L) M) : Hp R (az (cK KY) b x :: L) M := by
 refine Hp.vG ?_
 simp only [cK, Hp.di, Hp.aX, List.cons_append, List.nil_append]
 exact ⟨_, _, _, h⟩
theorem qe {kind n : Int} (h : Hp R L M) [o : bZ (cK .nilFunc) b L x L'] (hok : x.Ok) (hn : n < 9223372036854775808) (ht : x.taken.length < 100000000)
  (g : match (x.draw kind n).2 with
   | .num v => ∀ M', Hp R (az (cK .nilFunc) b (x.draw kind n).1 :: L') M' → K (.int .i64 v) M'
   | .cT l => ∀ M', Hp R (az (cK .nilFunc) b (x.draw kind n).1 :: L') M' → Kp l M') :
  aa Tryz.prog 107 #[.pointer (some ⟨b, 0, none⟩), .int .i64 kind, .int .i64 n] M K Kp := by
 refine oJ ?_
 have h' := Fe (KY := .nilFunc) h (b := b)
 clear h
 obtain ⟨A, c, kb, h⟩ := h'
 refine yI h ?_
 have em : (if (1 : Int) > n then 1 else n) = gU n := rfl
 rw [em]
 have SS := zE n
 have Rl : gU n < 9223372036854775808 := by unfold gU; split <;> omega
 have hnv := Hz (k := x.k) (kind := kind) (m := gU n) (kb := kb)
 obtain ⟨Q2, xl⟩ := hnv
 have HB := fun k' v => zF (k := x.k) (kind := kind) hok.1 SS (k' := k') (v := v)
 unfold jz.draw at g
 replace h : Hp R (az kR kb x.k :: pt b [w8 x.k kb, zD x.k kb, .slice A x.taken.length c, .nilFunc] 152 :: me A c x.taken :: L') M := h.sub bD
 refine V8 (kind := kind) h hok.1 SS Rl ?_
 clear h
 generalize hr : x.k.next kind (gU n) = r at g Q2 xl HB
 obtain ⟨k', d⟩ := r
 dsimp only at Q2 xl ⊢
 rw [← Q2, ← xl]
 cases d with
 | cT l =>
  dsimp only at g ⊢
  intro M h
  exact g _ (Dm (x := ⟨k', x.taken⟩) (h.sub bD))
 | num v =>
  dsimp only at g ⊢
  obtain ⟨v0, v1⟩ := HB k' v rfl
  intro M h
  refine cG ?_
  refine aq h ?_
  clear h; intro k5 M h
  refine au h ?_
  clear h; intro M h
  refine au h ?_
  clear h; intro M h
  refine aS h (aI h (aI h ?_))
  refine aq h ?_
  clear h; intro jH M h
  refine h.bN (A := A) OA [(kind, v)] rfl rfl (by simp only [List.length_singleton]; omega) ?_
  clear h; intro A' c' M h
  refine bk ?_
  refine au h ?_
  clear h; intro M h
  refine yI h ?_
  unfold H7
  dsimp only
  refine ai (aI h ?_)
  rw [cQ (by omega) (by omega)]
  exact g _ (Dm (x := ⟨k', x.taken ++ [(kind, v)]⟩) (h.sub bD))
theorem Dp (h : Hp R L M) [o : bZ (cK KY) b L x L'] (ht : x.taken.length ≤ 100000000) (g : ∀ A c M', Hp R (me A c x.taken :: az (cK KY) b x :: L') M' → K (.slice A x.taken.length c) M') :
  aa Tryz.prog 76 #[.pointer (some ⟨b, 0, none⟩)] M K Kp := by
 refine nI ?_
 have h' := Fe (KY := KY) h (b := b)
 clear h
 obtain ⟨A, c, kb, h⟩ := h'
 refine aq h ?_
 clear h; intro k1 M h
 refine aS h ?_
 refine h.j5 Dl OA x.taken (h.src (A := A)) rfl (by omega) ?_
 clear h; intro A' c' M h
 refine bk ?_
 exact g _ _ _ ((Dm (x := x) (A := A) (c := c) (kb := kb) (h.sub bD)).swap)
theorem Be {B : Option Addr} {m cb : Nat} {l : List Int} (h : Hp R L M) (hB : Src R L B (Eh.cells l)) (hm : m = l.length) (hl : l.length ≤ 1000000000)
  (g : ∀ b M', Hp R (az (cK .nilFunc) b ⟨.lA l 0, []⟩ :: L) M' → K (.pointer (some ⟨b, 0, none⟩)) M') :
  aa Tryz.prog 16 #[.slice B m cb] M K Kp := by
 refine vQ ?_
 refine aq h ?_
 clear h; intro k1 M h
 refine h.j5 Eh V7 l hB.cons hm (by omega) ?_
 clear h; intro A' c' M h
 refine bk ?_
 refine aq h ?_
 clear h; intro k8 M h
 refine aq h ?_
 clear h; intro gh M h
 have h2 := h.cC Dl 95
 refine g gh _ (Dm (x := ⟨.lA l 0, []⟩) (A := none) (c := 0) (kb := k8) ?_)
 have h3 : Hp R (az kR k8 (.lA l 0) :: me none 0 [] :: pt gh [w8 (.lA l 0) k8, zD (.lA l 0) k8, .slice none 0 0, .nilFunc] 152 :: L) M := by
  refine Hp.vG ?_
  simp only [kR, Hp.di, Hp.aX, List.cons_append, List.nil_append]
  exact ⟨A', c', h2.sub bD⟩
 exact h3.sub bD
theorem KZ {kind n : Int} (hok : x.Ok) (hn : n < 9223372036854775808) (ht : x.taken.length < 100000000) :
  iO R (.func (.func 107) #[.pointer (some ⟨b, 0, none⟩)] #[]) kind n (x.draw kind n).2 (az (cK .nilFunc) b x :: L) (az (cK .nilFunc) b (x.draw kind n).1 :: L) := by
 intro Q M K Kp h k
 refine qd ⟨by decide, by show _ < 255; decide⟩ ?_
 refine qe h hok hn ht ?_
 cases hd : (x.draw kind n).2 with
 | num v => rw [hd] at k; exact fun M' h' => k M' h'.swap
 | cT l => rw [hd] at k; exact fun M' h' => k M' h'.swap
end
structure dm where
 q : Loc
 turns : Int
 eN : Int
structure uZ where
 p : Int
 g : Int
 left : Int
 deriving DecidableEq
structure OB where
 P : Int
 M : Int
 R : Int
 S : Int
structure Sc where
 w : Wd
 c : OB
 ps : List dm
 ms : List uZ
 gl : List Int
 d : jz
 steps : Int
structure Ev where
 kind : Int
 m : Int
 g : Int
 ready : List Int
def qf : iz (Nat × Int × Int) := ⟨3, fun w => [.pointer (some ⟨w.1, 0, none⟩), .int .i64 w.2.1, .int .i64 w.2.2], fun _ => rfl, fun w v hv => by
 simp only [List.mem_cons, List.not_mem_nil, or_false] at hv; obtain rfl | rfl | rfl := hv <;> rfl⟩
def lO : iz uZ := ⟨3, fun w => [.int .i64 w.p, .int .i64 w.g, .int .i64 w.left], fun _ => rfl, fun w v hv => by
 simp only [List.mem_cons, List.not_mem_nil, or_false] at hv; obtain rfl | rfl | rfl := hv <;> rfl⟩
def bS (bs : List Nat) (ps : List dm) : List (Nat × Int × Int) := List.zipWith (fun b (p : dm) => (b, p.turns, p.eN)) bs ps
def ax (x : Sc) (m : Int) : uZ := x.ms.getD m.toNat ⟨-1, -1, 0⟩
def ay (x : Sc) (i : Int) : dm := x.ps.getD i.toNat ⟨⟨-1, 0, []⟩, 0, -1⟩
def Sc.gV (x : Sc) (m : Int) (y : uZ) : Sc := { x with ms := x.ms.set m.toNat y }
def Sc.bT (x : Sc) (i : Int) (y : dm) : Sc := { x with ps := x.ps.set i.toNat y }
structure SA where
 ap : Option Addr
 cp : Nat
 lb : List Nat
 am : Option Addr
 cm : Nat
abbrev b6 (A : Option Addr) (c : Nat) (l : List (Nat × Int × Int)) : HP := bR qf 141 A c l
abbrev cq (A : Option Addr) (c : Nat) (l : List uZ) : HP := bR lO 143 A c l
abbrev dY (wb db : Nat) (a : SA) (x : Sc) (A : Option Addr) (n c : Nat) : List Value :=
 [.pointer (some ⟨wb, 0, none⟩), .int .i64 x.c.P, .int .i64 x.c.M, .int .i64 x.c.R, .int .i64 x.c.S, .slice a.ap x.ps.length a.cp, .slice a.am x.ms.length a.cm, .slice A n c, .pointer (some ⟨db, 0, none⟩), .int .i64 x.steps]
abbrev dQ (b wb db : Nat) (a : SA) (x : Sc) : Option Addr → Nat → Nat → HP := fun A n c => pt b (dY wb db a x A n c) 137
theorem zG {b wb db : Nat} {a : SA} {x : Sc} : SH b (0 + 7) (dQ b wb db a x) :=
 ⟨fun R L M A n c h => bM h, fun R L M A A' n c n' c' G h k => au h k⟩
abbrev iP (a : SA) (x : Sc) (L : List HP) : List HP := b6 a.ap a.cp (bS a.lb x.ps) :: bg bJ a.lb (x.ps.map dm.q) :: cq a.am a.cm x.ms :: L
def eU (pa : PA) (p : b7) (wb db : Nat) : sG Sc := ⟨fun b x => exs fun a : SA =>
 sep (gI (dQ b wb db a x) x.gl :: az (bI pa p) wb x.w :: az (cK .nilFunc) db x.d :: fact (a.lb.length = x.ps.length) :: iP a x [])⟩
class qg (b : Nat) (L : List HP) (pa : outParam PA) (p : outParam b7) (wb db : outParam Nat) (x : outParam Sc) (L' : outParam (List HP)) : Prop where
 pick : cZ L (az (eU pa p wb db) b x) L'
instance qg.here {pa : PA} {p : b7} {wb db b : Nat} {x : Sc} {L : List HP} : qg b (az (eU pa p wb db) b x :: L) pa p wb db x L := ⟨.here⟩
instance (priority := low) qg.there {pa : PA} {p : b7} {wb db b : Nat} {x : Sc} {Q : HP} {L L' : List HP} [h : qg b L pa p wb db x L'] : qg b (Q :: L) pa p wb db x (Q :: L') := ⟨.there h.pick⟩
section
variable {R : Mem} {L L' L2 : List HP} {M : Mem} {K : Value → Mem → Prop} {Kp : List PanicEntry → Mem → Prop} {pa : PA} {p : b7} {b wb db : Nat} {x : Sc} {m i : Int}
theorem fj (h : Hp R L M) [o : qg b L pa p wb db x L'] : ∃ a : SA, a.lb.length = x.ps.length ∧ Hp R (gI (dQ b wb db a x) x.gl :: az (bI pa p) wb x.w :: az (cK .nilFunc) db x.d :: iP a x L') M := by
 have := h.pick o.pick
 unfold az at this
 simp only [eU, iP, Hp.di, Hp.aX, List.cons_append, List.nil_append] at this
 obtain ⟨a, h⟩ := this
 refine ⟨a, ?_⟩
 have h2 := h.pick (P := fact (a.lb.length = x.ps.length)) (.there (.there (.there .here)))
 obtain ⟨e, h3⟩ := Hp.fK.1 h2
 exact ⟨e, h3⟩
theorem hH {a : SA} (hl : a.lb.length = x.ps.length) (h : Hp R (gI (dQ b wb db a x) x.gl :: az (bI pa p) wb x.w :: az (cK .nilFunc) db x.d :: iP a x L) M) : Hp R (az (eU pa p wb db) b x :: L) M := by
 refine Hp.vG ?_
 simp only [eU, iP, Hp.di, Hp.aX, List.cons_append, List.nil_append]
 refine ⟨a, ?_⟩
 have h2 : Hp R (fact (a.lb.length = x.ps.length) :: gI (dQ b wb db a x) x.gl :: az (bI pa p) wb x.w :: az (cK .nilFunc) db x.d :: iP a x L) M := Hp.fK.2 ⟨hl, h⟩
 exact h2.nw (.there (.there (.there .here)))
theorem nT {a : SA} (h : Hp R (gI (dQ b wb db a x) x.gl :: L) M) : ∃ A c, Hp R (pt b (dY wb db a x A x.gl.length c) 137 :: lz A c x.gl :: L) M := jn (P := dQ b wb db a x) h
theorem yd {a : SA} {A : Option Addr} {c n : Nat} {l : List Int} (h : Hp R (pt b (dY wb db a x A n c) 137 :: lz A c l :: L) M) (e : n = l.length := by first | rfl | simp) : Hp R (gI (dQ b wb db a x) l :: L) M := IS (P := dQ b wb db a x) h e
theorem Rn {bs : List Nat} {ps : List dm} {i lb : Nat} {pr : dm} (h1 : bs[i]? = some lb) (h2 : ps[i]? = some pr) : (bS bs ps)[i]? = some (lb, pr.turns, pr.eN) := Gw h1 h2
theorem zH {bs : List Nat} {ps : List dm} {i lb : Nat} {pr : dm} (h1 : bs[i]? = some lb) : (bS bs ps).set i (lb, pr.turns, pr.eN) = bS bs (ps.set i pr) := nE (f := fun b (p : dm) => (b, p.turns, p.eN)) h1
theorem kV {bs : List Nat} {ps : List dm} (h : bs.length = ps.length) : (bS bs ps).length = ps.length := by simp [bS, h]
theorem qh (h : Hp R L M) [o : qg b L pa p wb db x L'] (k : K (.pointer (some ⟨wb, 0, none⟩)) M) : aa Tryz.prog 18 #[.pointer (some ⟨b, 0, none⟩)] M K Kp := by
 refine pS ?_
 obtain ⟨a, hl, h⟩ := fj h (b := b)
 obtain ⟨A, c, h⟩ := nT h
 exact kO h k
theorem qi (h : Hp R L M) [o : qg b L pa p wb db x L'] (k : K (.int .i64 x.steps) M) : aa Tryz.prog 35 #[.pointer (some ⟨b, 0, none⟩)] M K Kp := by
 refine pT ?_
 obtain ⟨a, hl, h⟩ := fj h (b := b)
 obtain ⟨A, c, h⟩ := nT h
 exact aI h k
def Sc.status (x : Sc) : Int := if x.w.end_ = 1 then 1 else if x.w.end_ = 2 then 2 else if x.w.stuck then 3 else 0
theorem u5 (h : Hp R L M) [o : qg b L pa p wb db x L'] (hs : x.w.gs.length ≤ 1000000) (k : K (.int .i64 x.status) M) : aa Tryz.prog 22 #[.pointer (some ⟨b, 0, none⟩)] M K Kp := by
 refine oK ?_
 have h' := fj h (b := b)
 clear h
 obtain ⟨a, hl, h⟩ := h'
 have h' := nT h
 clear h
 obtain ⟨A, c, h⟩ := h'
 unfold Sc.status at k
 refine kO h ?_
 refine KJ h ?_
 refine ⟨_, _, rfl, ?_⟩
 refine aR.2 ⟨fun e => ?_, fun e => ?_⟩
 ·rw [if_pos e] at k; exact k
 rw [if_neg e] at k
 refine aR.2 ⟨fun e => ?_, fun e => ?_⟩
 ·rw [if_pos e] at k; exact k
 rw [if_neg e] at k
 refine kO h ?_
 refine Fb h hs ?_
 refine od ?_
 cases hst : x.w.stuck with
 | true => rw [hst] at k; exact ae k
 | false => rw [hst] at k; exact ai k
def Sc.tick (x : Sc) : Sc × Ev := ({ x with w := x.w.tick, gl := x.gl ++ x.w.tick.ready }, ⟨1, -1, -1, x.w.tick.ready⟩)
def K0 (e : Ev) (A : Option Addr) (c : Nat) : Value := .agg #[.int .i64 e.kind, .int .i64 e.m, .int .i64 e.g, .slice A e.ready.length c]
theorem qj {k1 T n : Nat} {v1 v2 v3 v4 : Value} {e1 e2 e3 : Int} {A : Option Addr} {c : Nat} {G : Mem → Prop} (h : Hp R L M) [q : kQ k1 L [v1, v2, v3, v4] T L']
  (k : ∀ M', Hp R (pt k1 [.int .i64 e1, .int .i64 e2, .int .i64 e3, .slice A n c] T :: L') M' → G M') :
  aK M ⟨k1, 0, none⟩ (.int .i64 e1) fun M1 => aK M1 ⟨k1, (0 + 1), none⟩ (.int .i64 e2) fun M2 => aK M2 ⟨k1, (0 + 2), none⟩ (.int .i64 e3) fun M3 => aK M3 ⟨k1, (0 + 3), none⟩ (.slice A n c) G := by
 have h := h.pick q.pick
 refine au h ?_
 clear h; intro M h
 refine au h ?_
 clear h; intro M h
 refine au h ?_
 clear h; intro M h
 refine au h ?_
 clear h; intro M h
 exact k _ h
theorem qk {k1 T n : Nat} {e1 e2 e3 : Int} {A : Option Addr} {c : Nat} {G : Int → Int → Int → Option Addr → Nat → Nat → Prop} (h : Hp R L M) [q : kQ k1 L [.int .i64 e1, .int .i64 e2, .int .i64 e3, .slice A n c] T L'] (g : G e1 e2 e3 A n c) :
  aJ (Mem.ld M ⟨k1, 0, none⟩) .i64 fun n1 => aJ (Mem.ld M ⟨k1, (0 + 1), none⟩) .i64 fun n2 => aJ (Mem.ld M ⟨k1, (0 + 2), none⟩) .i64 fun n3 => aB (Mem.ld M ⟨k1, (0 + 3), none⟩) fun A k l => G n1 n2 n3 A k l := by
 have h := h.pick q.pick
 exact aI h (aI h (aI h (aS h g)))
def zI (x : Sc) : Prop := x.w.hl.length ≤ 1000000 ∧ (∀ y ∈ (dM x.w.hl.length x.w.hl (IntKind.wrap .u64 (x.w.clock + 1))).2, 0 ≤ y.id ∧ y.id < x.w.gs.length) ∧ x.gl.length + x.w.tick.ready.length ≤ 1000000
instance (x : Sc) : Decidable (zI x) := by unfold zI; infer_instance
theorem HC (h : Hp R L M) [o : qg b L pa p wb db x L'] (hk : zI x)
  (k : ∀ R' A c M', R.le R' → RS bB R' A c x.tick.2.ready → Hp R' (az (eU pa p wb db) b x.tick.1 :: L') M' → K (K0 x.tick.2 A c) M') : aa Tryz.prog 108 #[.pointer (some ⟨b, 0, none⟩)] M K Kp := by
 refine rO ?_
 refine aq h ?_
 clear h
 intro k1 M h
 have h' := fj h (b := b)
 clear h
 obtain ⟨a, hl, h⟩ := h'
 have h' := nT h
 clear h
 obtain ⟨A, c, h⟩ := h'
 refine kO h ?_
 refine Hw h hk.1 hk.2.1 ?_
 clear h; intro R2 Ar cr M hle yb h
 refine bk ?_
 replace h : Hp R2 (pt b (dY wb db a x A x.gl.length c) 137 :: lz A c x.gl :: az (bI pa p) wb x.w.tick :: az (cK .nilFunc) db x.d :: b6 a.ap a.cp (bS a.lb x.ps) :: bg bJ a.lb (x.ps.map dm.q) :: cq a.am a.cm x.ms :: pt k1 [.int .i64 0, .int .i64 0, .int .i64 0, .slice none 0 0] 43 :: L') M := h.sub bD
 replace h := yd h
 refine nQ (P := dQ b wb db a x) zG h (yb.src) rfl (by have := hk.2.2; omega) ?_
 clear h; intro M h
 refine ⟨rfl, ?_⟩
 refine qj h ?_
 clear h; intro M h
 refine qk h ?_
 exact k R2 Ar cr _ hle yb (hH (a := a) (x := x.tick.1) hl (h.sub bD))
end
def nU (q : Loc) : Bool := q.next != -1 || !q.l.isEmpty
def fY (q : Loc) (turns : Int) (gl : List Int) : Loc × List Int × Int × Bool :=
 let a := q.dO gl
 if Int.tmod turns 7 = 6 ∧ 0 < a.2.1.length then (a.1, a.2.1.drop 1, a.2.1.headD 0, true)
 else if nU a.1 then (a.1.get.1, a.2.1, a.1.get.2, true)
 else ((a.1.get.1.ee a.2.1 0).1, (a.1.get.1.ee a.2.1 0).2.1, (a.1.get.1.ee a.2.1 0).2.2, !a.2.1.isEmpty)
def fO (f : Loc) (v : Int) : Bool := v != -1 || !f.l.isEmpty
theorem OC {q : Loc} {gl : List Int} : (q.dO gl).2.1.length ≤ gl.length + q.l.length + 1 := by
 unfold Loc.dO
 split
 ·simp; omega
 ·unfold Loc.put
  split
  ·simp; omega
  ·simp; omega
section
variable {R : Mem} {L L' L2 : List HP} {M : Mem} {K : Value → Mem → Prop} {Kp : List PanicEntry → Mem → Prop} {pa : PA} {p : b7} {b wb db : Nat} {x : Sc} {m i : Int}
def Sc.hold (x : Sc) (m : Int) : Sc × Ev := match x.ps.findIdx? (fun pr => pr.eN == -1) with
 | some i => (((x.bT (i : Int) { ay x (i : Int) with eN := m }).gV m { ax x m with p := (i : Int) }), ⟨2, m, -1, []⟩)
 | none => (x, ⟨3, m, -1, []⟩)
theorem zJ {a : SA} {y : dm} : dQ b wb db a (x.bT i y) = dQ b wb db a x := by
 unfold dQ dY Sc.bT; simp
theorem zK {a : SA} {y : uZ} : dQ b wb db a (x.gV i y) = dQ b wb db a x := by
 unfold dQ dY Sc.gV; simp
theorem ql {a : SA} (hl : a.lb.length = x.ps.length) (h0 : 0 ≤ i) (h1 : i < x.ps.length) : ∃ lb, a.lb[i.toNat]? = some lb ∧ x.ps[i.toNat]? = some (ay x i) ∧ (bS a.lb x.ps)[i.toNat]? = some (lb, (ay x i).turns, (ay x i).eN) := by
 obtain ⟨lb, hlb⟩ := aP (l := a.lb) (i := i.toNat) (by omega)
 obtain ⟨y, hy⟩ := aP (l := x.ps) (i := i.toNat) (by omega)
 have e : ay x i = y := by simp [ay, hy]
 rw [e]
 exact ⟨lb, hlb, hy, Rn hlb hy⟩
theorem qm (h0 : 0 ≤ m) (h1 : m < x.ms.length) : x.ms[m.toNat]? = some (ax x m) := by
 obtain ⟨y, hy⟩ := aP (l := x.ms) (i := m.toNat) (by omega)
 have e : ax x m = y := by simp [ax, hy]
 rw [e]; exact hy
theorem wk {ps : List dm} {j : Nat} {pr y : dm} (h : ps[j]? = some pr) (e : y.q = pr.q) : (ps.set j y).map dm.q = ps.map dm.q := by
 obtain ⟨hj, rfl⟩ := List.getElem?_eq_some_iff.1 h
 rw [List.map_set, e]
 have h2 : (ps.map dm.q)[j]'(by simpa using hj) = ps[j].q := by simp
 rw [← h2]
 exact List.set_getElem_self _
theorem wm {a : SA} {A : Option Addr} {c : Nat} {cs : List Value} {l : List Int} {pw : List (Nat × Int × Int)} {qs : List Loc} {ms : List uZ} {L0 L1 L2 L3 L4 L5 L6 : List HP} (h : Hp R L M) (b : Nat)
  [p0 : kQ b L cs 137 L0] [p1 : cH A L0 Int bB 3 c l L1] [p2 : IX wb L1 pa p x.w L2] [p3 : bZ (cK .nilFunc) db L2 x.d L3] [p4 : cH a.ap L3 (Nat × Int × Int) qf 141 a.cp pw L4]
  [p5 : fC bJ L4 a.lb qs L5] [p6 : cH a.am L5 uZ lO 143 a.cm ms L6] (hc : cs = dY wb db a x A x.gl.length c) (hg : l = x.gl) (hl : a.lb.length = x.ps.length) (hp : pw = bS a.lb x.ps) (hq : x.ps.map dm.q = qs) (hm : ms = x.ms) : Hp R (az (eU pa p wb db) b x :: L6) M := by
 subst hc; subst hg; subst hp; subst hq; subst hm
 have h2 : Hp R (pt b (dY wb db a x A x.gl.length c) 137 :: lz A c x.gl :: az (bI pa p) wb x.w :: az (cK .nilFunc) db x.d :: iP a x L6) M :=
  h.sub (.cons p0.pick (.cons p1.pick (.cons p2.pick (.cons p3.pick (.cons p4.pick (.cons p5.pick (.cons p6.pick .refl)))))))
 exact hH (a := a) hl (yd h2)
theorem HD (h : Hp R L M) [o : qg b L pa p wb db x L'] (h0 : 0 ≤ m) (h1 : m < x.ms.length) (hs : x.ps.length ≤ 1000000)
  (k : ∀ M', Hp R (az (eU pa p wb db) b (x.hold m).1 :: L') M' → K (K0 (x.hold m).2 none 0) M') : aa Tryz.prog 109 #[.pointer (some ⟨b, 0, none⟩), .int .i64 m] M K Kp := by
 refine rQ ?_
 refine aq h ?_
 clear h
 intro k1 M h
 have h' := fj h (b := b)
 clear h
 obtain ⟨a, hl, h⟩ := h'
 have h' := nT h
 clear h
 obtain ⟨A, c, h⟩ := h'
 refine aS h ?_
 unfold Sc.hold at k
 have hprl := kV hl
 refine ⟨fun d vs M => ∃ j : Nat, vs = [.int .i64 (j : Int)] ∧ d = x.ps.length - j ∧ j ≤ x.ps.length ∧ (∀ q pr, q < j → x.ps[q]? = some pr → pr.eN ≠ -1) ∧
   Hp R (pt b (dY wb db a x A x.gl.length c) 137 :: lz A c x.gl :: pt k1 [.int .i64 0, .int .i64 0, .int .i64 0, .slice none 0 0] 43 :: az (bI pa p) wb x.w :: az (cK .nilFunc) db x.d :: iP a x L') M,
  ⟨_, 0, rfl, rfl, by omega, fun q pr hq => by omega, h.sub bD⟩, ?_⟩
 clear h
 rintro d _ nn M ⟨j, he, hd, hj, hp, h⟩
 simp only [List.cons.injEq, Value.int.injEq, and_true, true_and] at he
 subst he
 refine aM.2 ⟨fun hlt => ?_, fun hge => ?_⟩
 ·obtain ⟨lb, hlb, jC, hrow⟩ := ql (i := (j : Int)) hl (by omega) hlt
  simp only [Int.toNat_natCast] at hlb jC hrow
  obtain ⟨q, hq⟩ := h.bF (A := a.ap) (l := bS a.lb x.ps) (by omega) (by decide)
  have W5 := h.src (A := a.ap)
  rw [hq] at W5
  refine aS h ⟨by omega, hlt, ?_⟩
  rw [hq]
  refine bp ?_
  refine aZ (Src.at W5 h (i := j) (j := 2) hrow rfl (by show _ = 0 + (j * 3 + 2); simp)) ?_
  refine aR.2 ⟨fun e => ?_, fun e => ?_⟩
  ·have XN : x.ps.findIdx? (fun pr => pr.eN == -1) = some j := by
    refine List.findIdx?_eq_some_iff_getElem.2 ⟨by omega, ?_, fun q hq => ?_⟩
    ·have := (List.getElem?_eq_some_iff.1 jC).2
     rw [this]; simpa using e
    ·have := hp q _ hq (List.getElem?_eq_getElem (by omega))
     simpa using this
   rw [XN] at k
   dsimp only at k
   clear W5
   obtain ⟨q2, lI⟩ := h.bF (A := a.am) (l := x.ms) (by omega) (by decide)
   have ea := bM h (b := b) (o := 0 + 5) (v := .slice a.ap x.ps.length a.cp)
   rw [hq] at ea
   refine (show ∀ {G}, G (some ⟨q, 0, none⟩) x.ps.length a.cp → aB (M.ld ⟨b, 0 + 5, none⟩) G from fun g => by rw [ea]; exact bk g) ?_
   refine aS h ⟨by omega, hlt, bp ?_⟩
   have hap : a.ap = some ⟨q, 0, none⟩ := hq
   have I7 : a.am = some ⟨q2, 0, none⟩ := lI
   obtain ⟨ap, cp, vl, am, cm⟩ := a
   dsimp only at hap I7 hrow hlb hl hprl h
   subst hap; subst I7
   refine gH (E := qf) (a' := (lb, (ay x (j : Int)).turns, m)) j 2 h hrow (by decide) rfl (by show _ = j * 3 + 2; simp) ?_
   clear h; intro M h
   refine ⟨h0, h1, bp ?_⟩
   refine gH (E := lO) (a' := { ax x m with p := (j : Int) }) m.toNat 0 h (qm h0 h1) (by decide) rfl (by show _ = m.toNat * 3 + 0; simp) ?_
   clear h; intro M h
   refine qj h ?_
   clear h; intro M h
   refine qk h ?_
   rw [zH (pr := { ay x (j : Int) with eN := m }) hlb] at h
   have e3 := wk (y := { ay x (j : Int) with eN := m }) jC rfl
   exact k _ (Hp.bW (wm (A := A) (c := c) (a := ⟨some ⟨q, 0, none⟩, cp, vl, some ⟨q2, 0, none⟩, cm⟩) (x := (x.bT (j : Int) { ay x (j : Int) with eN := m }).gV m { ax x m with p := (j : Int) }) h b (by simp [Sc.bT, Sc.gV, dY]) (by rfl) (by simpa [Sc.bT, Sc.gV] using hl) (by rfl) (by exact e3) (by rfl)))
  ·refine ⟨x.ps.length - (j + 1), by omega, j + 1, by rw [aV (by omega)], rfl, by omega, fun q' SU hq' V9 => ?_, h⟩
   rcases Nat.lt_or_ge q' j with h8 | h8
   ·exact hp q' SU h8 V9
   ·have : q' = j := by omega
    subst this
    rw [jC] at V9; cases V9; exact e
 ·have XN : x.ps.findIdx? (fun pr => pr.eN == -1) = none := by
   refine List.findIdx?_eq_none_iff.2 fun pr jC => ?_
   obtain ⟨q, hq, e⟩ := List.getElem_of_mem jC
   have := hp q pr (by omega) (by rw [← e]; exact List.getElem?_eq_getElem hq)
   simpa using this
  rw [XN] at k
  dsimp only at k
  refine qj h ?_
  clear h; intro M h
  refine qk h ?_
  refine k _ (hH (a := a) hl ?_)
  have h2 := yd (h.sub (show Sub _ (pt b (dY wb db a x A x.gl.length c) 137 :: lz A c x.gl :: az (bI pa p) wb x.w :: az (cK .nilFunc) db x.d :: iP a x L') from bD))
  exact h2
theorem zL {bs : List Nat} {ps : List dm} {j : Nat} {pr y : dm} (h : ps[j]? = some pr) (e1 : y.turns = pr.turns) (e2 : y.eN = pr.eN) : bS bs (ps.set j y) = bS bs ps := by
 obtain ⟨hj, rfl⟩ := List.getElem?_eq_some_iff.1 h
 unfold bS
 refine List.ext_getElem (by simp) fun n h1 h2 => ?_
 simp only [List.getElem_zipWith, List.getElem_set]
 split
 ·rename_i he
  subst he
  rw [e1, e2]
 ·rfl
def Sc.own (x : Sc) (i : Int) : Sc × Int × Bool :=
 let r := fY (ay x i).q (ay x i).turns x.gl
 ({ x.bT i { ay x i with q := r.1 } with gl := r.2.1 }, r.2.2.1, r.2.2.2)
theorem K2 {q : Nat} {a : SA} (h : Hp R L M) [o : tw (dQ b wb db a x) L x.gl L'] [o2 : cH (some ⟨q, 0, none⟩) L' (Nat × Int × Int) qf 141 a.cp (bS a.lb x.ps) L2] {L3 : List HP} [o3 : fC bJ L2 a.lb (x.ps.map dm.q) L3]
  (hap : a.ap = some ⟨q, 0, none⟩) (hl : a.lb.length = x.ps.length) (h0 : 0 ≤ i) (h1 : i < x.ps.length) (hs : x.gl.length ≤ 1000000) (ht : 0 ≤ (ay x i).turns)
  (k : ∀ M', Hp R (gI (dQ b wb db a x) (x.own i).1.gl :: b6 (some ⟨q, 0, none⟩) a.cp (bS a.lb x.ps) :: bg bJ a.lb ((x.own i).1.ps.map dm.q) :: L3) M' → K (.tuple #[.int .i64 (x.own i).2.1, .bool (x.own i).2.2]) M') :
  aa Tryz.prog 150 #[.pointer (some ⟨b, 0, none⟩), .pointer (some ⟨q, i.toNat * 3, none⟩)] M K Kp := by
 refine tj ?_
 obtain ⟨lb, hlb, jC, hrow⟩ := ql (i := i) hl h0 h1
 have h2 : Hp R (gI (dQ b wb db a x) x.gl :: b6 (some ⟨q, 0, none⟩) a.cp (bS a.lb x.ps) :: bg bJ a.lb (x.ps.map dm.q) :: L3) M := h.sub (.cons o.pick (.cons o2.pick (.cons o3.pick .refl)))
 clear h
 have h := h2
 clear h2
 have hq : (x.ps.map dm.q)[i.toNat]? = some (ay x i).q := by rw [List.getElem?_map, jC]; rfl
 unfold Sc.own at k
 dsimp only at k
 have ze : ∀ q', (x.bT i { ay x i with q := q' }).ps.map dm.q = (x.ps.map dm.q).set i.toNat q' := fun q' => by simp [Sc.bT, List.map_set]
 simp only [ze] at k
 unfold fY at k
 dsimp only at k
 refine mD (Src.at (Src.row (A := some ⟨q, 0, none⟩) : Src R _ _ (qf.cells (bS a.lb x.ps))) h (i := i.toNat) (j := 0) hrow rfl (by show _ = 0 + (i.toNat * 3 + 0); simp)) ?_
 replace h := h.c6 bJ hlb hq
 replace h : Hp R (az bJ lb (ay x i).q :: gI (dQ b wb db a x) x.gl :: lG bJ a.lb (x.ps.map dm.q) i.toNat :: b6 (some ⟨q, 0, none⟩) a.cp (bS a.lb x.ps) :: L3) M := h.sub bD
 have hbd := wg h (b := lb)
 refine Hh (P := dQ b wb db a x) zG h (by omega) ?_
 clear h; intro M h
 have W1 := OC (q := (ay x i).q) (gl := x.gl)
 refine cG ?_
 generalize htr : (ay x i).q.dO x.gl = r at h k W1
 obtain ⟨q1, g1, n1⟩ := r
 dsimp only at h k W1
 have KN : g1.length ≤ 100000000 := by obtain ⟨a1, a2, a3⟩ := hbd; omega
 refine aZ (Src.at (h.src (A := some ⟨q, 0, none⟩)) h (i := i.toNat) (j := 1) hrow rfl (by show _ = 0 + (i.toNat * 3 + 1); omega)) ?_
 refine ⟨by decide, ?_⟩
 have rest : ∀ {M : Mem}, (Hp R (az bJ lb q1 :: gI (dQ b wb db a x) g1 :: lG bJ a.lb (x.ps.map dm.q) i.toNat :: b6 (some ⟨q, 0, none⟩) a.cp (bS a.lb x.ps) :: L3) M) → ¬ (Int.tmod (ay x i).turns 7 = 6 ∧ 0 < g1.length) →
   cy (Mem.ld M ⟨q, i.toNat * 3, none⟩) fun oT =>
    aa Tryz.prog 149 #[(.pointer oT)] M (fun CU fq =>
    ∃ iQ : Int, ∃ t18 : Bool, (CU = (.tuple #[(.int .i64 iQ), (.bool t18)])) ∧
    aO t18
     (K (.tuple #[(.int .i64 iQ), (.bool true)]) fq)
     (cy (Mem.ld fq ⟨q, i.toNat * 3, none⟩) fun FJ =>
     aa Tryz.prog 180 #[(.pointer FJ), (.pointer (some ⟨b, (0 + 7), none⟩)), (.int .i64 0)] fq (fun v20 ov =>
     ∃ wT : Int, ∃ t23 : Bool, (v20 = (.tuple #[(.int .i64 wT), (.bool t23)])) ∧
     K (.tuple #[(.int .i64 wT), (.bool t23)]) ov) Kp)) Kp := by
  intro M h hno
  rw [if_neg hno] at k
  refine mD (Src.at (h.src (A := some ⟨q, 0, none⟩)) h (i := i.toNat) (j := 0) hrow rfl (by show _ = 0 + (i.toNat * 3 + 0); simp)) ?_
  refine B6 h (b := lb) ?_
  clear h; intro t M SW SX h
  refine ⟨_, _, rfl, ?_⟩
  by_cases hh : nU q1 = true
  ·rw [if_pos hh] at k
   have : t = true := SX (by unfold nU at hh; simpa using hh)
   subst this
   refine ae ?_
   replace h := h.dN bJ lb hlb (by rw [List.length_map]; omega)
   exact k _ (h.sub bD)
  ·rw [if_neg hh] at k
   have hn : q1.next = -1 ∧ q1.l = [] := by
    unfold nU at hh
    rw [Bool.or_eq_true] at hh
    constructor
    ·exact Decidable.byContradiction fun e => hh (.inl (by simpa using e))
    ·cases Zw : q1.l with
     | nil => rfl
     | cons _ _ => exact absurd (.inr (by rw [Zw]; rfl)) hh
   have hg : q1.get.2 = -1 := by unfold Loc.get; rw [if_neg (by simpa using hn.1), hn.2]
   have : t = false := SW hg hn.1 hn.2
   subst this
   refine ai ?_
   refine mD (Src.at (h.src (A := some ⟨q, 0, none⟩)) h (i := i.toNat) (j := 0) hrow rfl (by show _ = 0 + (i.toNat * 3 + 0); simp)) ?_
   replace h : Hp R (az bJ lb q1.get.1 :: gI (dQ b wb db a x) g1 :: lG bJ a.lb (x.ps.map dm.q) i.toNat :: b6 (some ⟨q, 0, none⟩) a.cp (bS a.lb x.ps) :: L3) M := h.sub bD
   refine EY (P := dQ b wb db a x) zG h KN (by decide) ?_
   clear h; intro t2 M ht3 ht4 h
   refine ⟨_, _, rfl, ?_⟩
   have ht5 : t2 = !g1.isEmpty := by
    cases g1 with
    | nil => exact ht3 (by unfold Loc.ee; simp) rfl
    | cons _ _ => exact ht4 (by simp)
   subst ht5
   replace h := h.dN bJ lb hlb (by rw [List.length_map]; omega)
   exact k _ (h.sub bD)
 refine aR.2 ⟨fun e6 => ?_, fun e6 => ?_⟩
 ·replace h : Hp R (gI (dQ b wb db a x) g1 :: az bJ lb q1 :: lG bJ a.lb (x.ps.map dm.q) i.toNat :: b6 (some ⟨q, 0, none⟩) a.cp (bS a.lb x.ps) :: L3) M := h.sub bD
  refine pZ (P := dQ b wb db a x) (n := 1) zG h (by omega) ?_
  clear h; intro A2 c2 M h
  refine bk ?_
  have e1 : (1 : Int).toNat = 1 := rfl
  rw [e1] at h ⊢
  by_cases hg : 0 < g1.length
  ·rw [if_pos ⟨e6, hg⟩] at k
   have hlen : (g1.take 1).length = 1 := by rw [List.length_take]; omega
   rw [hlen]
   refine ae ⟨by omega, by omega, ?_⟩
   obtain ⟨q9, rfl⟩ := h.bF (A := A2) (by omega) (by decide)
   refine bp ?_
   obtain ⟨v, hv⟩ := aP (l := g1) (i := 0) hg
   have Ls : (g1.take 1)[0]? = some v := by rw [List.getElem?_take, if_pos (by omega)]; exact hv
   refine aZ (Src.at (h.src (A := some ⟨q9, 0, none⟩)) h (i := 0) (j := 0) Ls rfl rfl) ?_
   have Zx : g1.headD 0 = v := by
    cases g1 with
    | nil => simp at hg
    | cons w _ => simp at hv; simpa using hv
   rw [Zx] at k
   replace h : Hp R (az bJ lb q1 :: lG bJ a.lb (x.ps.map dm.q) i.toNat :: gI (dQ b wb db a x) (g1.drop 1) :: b6 (some ⟨q, 0, none⟩) a.cp (bS a.lb x.ps) :: L3) M := h.sub bD
   replace h := h.dN bJ lb hlb (by rw [List.length_map]; omega)
   exact k _ (h.sub bD)
  ·have KE : g1 = [] := List.eq_nil_of_length_eq_zero (by omega)
   subst KE
   refine ai ?_
   exact rest (h.sub bD) (fun hc => by simp at hc)
 ·exact rest (h.sub bD) (fun hc => e6 hc.1)
end
inductive gW where
 | ev (e : Ev)
 | cT (l : List PanicEntry)
def Sc.be (x : Sc) (m i kind g : Int) (ok : Bool) : Sc × Ev :=
 if ok then ((x.bT i { ay x i with turns := (ay x i).turns + 1 }).gV m ⟨(ax x m).p, g, x.c.S⟩, ⟨kind, m, g, []⟩)
 else ((x.bT i { ay x i with eN := -1 }).gV m ⟨-1, -1, 0⟩, ⟨6, m, -1, []⟩)
def Sc.find (x : Sc) (m : Int) : Sc × gW :=
 let i := (ax x m).p
 if 0 < (ax x m).left ∧ (ay x i).q.next ≠ -1 then
  ((x.bT i { ay x i with q := (ay x i).q.get.1 }).gV m { ax x m with g := (ay x i).q.get.2 }, .ev ⟨4, m, (ay x i).q.get.2, []⟩)
 else
  let y := (x.own i).1
  if (x.own i).2.2 = false ∧ 1 < x.c.P then match y.d.draw 2 x.c.P with
   | (d', .cT l) => ({ y with d := d' }, .cT l)
   | (d', .num v) =>
    let y := { y with d := d' }
    if v = i then ((y.be m i 5 (-1) false).1, .ev (y.be m i 5 (-1) false).2)
    else
     let s := (ay y i).q.c9 (ay y v).q
     let z := (y.bT i { ay y i with q := s.1 }).bT v { ay y v with q := s.2.1 }
     ((z.be m i 5 s.2.2 (fO (ay y v).q s.2.2)).1, .ev (z.be m i 5 s.2.2 (fO (ay y v).q s.2.2)).2)
  else ((y.be m i 4 (x.own i).2.1 (x.own i).2.2).1, .ev (y.be m i 4 (x.own i).2.1 (x.own i).2.2).2)
section
variable {R : Mem} {L L' L2 : List HP} {M : Mem} {K : Value → Mem → Prop} {Kp : List PanicEntry → Mem → Prop} {pa : PA} {p : b7} {b wb db : Nat} {x : Sc} {m i : Int}
theorem wq {lb : Nat} (k : K (.tuple #[.int .i64 (-1), .bool false]) M) : aa Tryz.prog 151 #[.pointer (some ⟨lb, 0, none⟩), .pointer (some ⟨lb, 0, none⟩)] M K Kp := by
 refine ju ?_
 exact ⟨fun _ => ae k, fun hne => absurd rfl hne⟩
theorem qn {y : dm} : (x.bT i y).ps.length = x.ps.length := by simp [Sc.bT]
theorem K3 {a : SA} {q q2 k1 : Nat} {kind g : Int} {t : Bool}
  (h : Hp R (gI (dQ b wb db a x) x.gl :: az (bI pa p) wb x.w :: az (cK .nilFunc) db x.d :: b6 (some ⟨q, 0, none⟩) a.cp (bS a.lb x.ps) :: bg bJ a.lb (x.ps.map dm.q) :: cq (some ⟨q2, 0, none⟩) a.cm x.ms :: pt k1 [.int .i64 0, .int .i64 0, .int .i64 0, .slice none 0 0] 43 :: L') M)
  (hap : a.ap = some ⟨q, 0, none⟩) (I7 : a.am = some ⟨q2, 0, none⟩) (hl : a.lb.length = x.ps.length) (m0 : 0 ≤ m) (m1 : m < x.ms.length) (i0 : 0 ≤ i) (i1 : i < x.ps.length) (ht : 0 ≤ (ay x i).turns ∧ (ay x i).turns < 1000000000)
  (k : ∀ M', Hp R (az (eU pa p wb db) b (x.be m i kind g t).1 :: L') M' → K (K0 (x.be m i kind g t).2 none 0) M') :
  aO (!t)
   (aB (Mem.ld M ⟨b, (0 + 6), none⟩) fun Qu Ki FN =>
   aK M ⟨q, ((i.toNat * 3) + 2), none⟩ (.int .i64 (-1)) fun QA =>
   ((0 : Int) ≤ m) ∧
   ((m : Int) < ((Ki : Nat) : Int)) ∧
   aF Qu fun LD Ny =>
   aK QA ⟨LD, (Ny + ((Int.toNat m) * 3)), none⟩ (.int .i64 (-1)) fun IE =>
   aK IE ⟨LD, ((Ny + ((Int.toNat m) * 3)) + 1), none⟩ (.int .i64 (-1)) fun Yn =>
   aK Yn ⟨LD, ((Ny + ((Int.toNat m) * 3)) + 2), none⟩ (.int .i64 0) fun Ez =>
   aK Ez ⟨k1, 0, none⟩ (.int .i64 6) fun Yo =>
   aK Yo ⟨k1, (0 + 1), none⟩ (.int .i64 m) fun lj =>
   aK lj ⟨k1, (0 + 2), none⟩ (.int .i64 (-1)) fun Yp =>
   aK Yp ⟨k1, (0 + 3), none⟩ (.slice none 0 0) fun EE =>
   aJ (Mem.ld EE ⟨k1, 0, none⟩) .i64 fun Qm =>
   aJ (Mem.ld EE ⟨k1, (0 + 1), none⟩) .i64 fun Ka =>
   aJ (Mem.ld EE ⟨k1, (0 + 2), none⟩) .i64 fun Kb =>
   aB (Mem.ld EE ⟨k1, (0 + 3), none⟩) fun Yq Yr W0 =>
   K (.agg #[(.int .i64 Qm), (.int .i64 Ka), (.int .i64 Kb), (.slice Yq Yr W0)]) EE)
   (aJ (Mem.ld M ⟨q, ((i.toNat * 3) + 1), none⟩) .i64 fun qQ =>
   aK M ⟨q, ((i.toNat * 3) + 1), none⟩ (.int .i64 (IntKind.wrap .i64 (qQ + 1))) fun jf =>
   aB (Mem.ld jf ⟨b, (0 + 6), none⟩) fun y5 mV EF =>
   aB (Mem.ld jf ⟨b, (0 + 6), none⟩) fun C6 xz Kn =>
   aJ (Mem.ld jf ⟨b, ((0 + 1) + 3), none⟩) .i64 fun C2 =>
   ((0 : Int) ≤ m) ∧
   ((m : Int) < ((mV : Nat) : Int)) ∧
   aF y5 fun GK Ko =>
   aK jf ⟨GK, ((Ko + ((Int.toNat m) * 3)) + 1), none⟩ (.int .i64 g) fun nK =>
   ((0 : Int) ≤ m) ∧
   ((m : Int) < ((xz : Nat) : Int)) ∧
   aF C6 fun Nz GL =>
   aK nK ⟨Nz, ((GL + ((Int.toNat m) * 3)) + 2), none⟩ (.int .i64 C2) fun AR =>
   aK AR ⟨k1, 0, none⟩ (.int .i64 kind) fun GM =>
   aK GM ⟨k1, (0 + 1), none⟩ (.int .i64 m) fun xB =>
   aK xB ⟨k1, (0 + 2), none⟩ (.int .i64 g) fun GI =>
   aK GI ⟨k1, (0 + 3), none⟩ (.slice none 0 0) fun nJ =>
   aJ (Mem.ld nJ ⟨k1, 0, none⟩) .i64 fun NA =>
   aJ (Mem.ld nJ ⟨k1, (0 + 1), none⟩) .i64 fun y3 =>
   aJ (Mem.ld nJ ⟨k1, (0 + 2), none⟩) .i64 fun y4 =>
   aB (Mem.ld nJ ⟨k1, (0 + 3), none⟩) fun NB GN GJ =>
   K (.agg #[(.int .i64 NA), (.int .i64 y3), (.int .i64 y4), (.slice NB GN GJ)]) nJ) := by
 obtain ⟨lb, hlb, jC, hrow⟩ := ql (i := i) hl i0 i1
 have jD := qm m0 m1
 have m2 : m.toNat < x.ms.length := by omega
 obtain ⟨ap, cp, vl, am, cm⟩ := a
 dsimp only at hap I7 hl hlb hrow h
 subst hap; subst I7
 obtain ⟨A, c, h2⟩ := nT h
 clear h
 have h := h2
 clear h2
 unfold Sc.be at k
 cases t with
 | false =>
  simp only [Bool.false_eq_true, if_false] at k
  refine ae ?_
  refine aS h ?_
  refine gH (E := qf) (a' := (lb, (ay x i).turns, -1)) i.toNat 2 h hrow (by decide) rfl rfl ?_
  clear h; intro M h
  refine ⟨m0, m1, bp ?_⟩
  refine gH (E := lO) (a' := ⟨-1, (ax x m).g, (ax x m).left⟩) m.toNat 0 h jD (by decide) rfl (by show _ = m.toNat * 3 + 0; omega) ?_
  clear h; intro M h
  refine gH (E := lO) (a := ⟨-1, (ax x m).g, (ax x m).left⟩) (a' := ⟨-1, -1, (ax x m).left⟩) m.toNat 1 h (by simp [m2]) (by decide) rfl (by show _ = m.toNat * 3 + 1; omega) ?_
  clear h; intro M h
  refine gH (E := lO) (a := ⟨-1, -1, (ax x m).left⟩) (a' := ⟨-1, -1, 0⟩) m.toNat 2 h (by simp [m2]) (by decide) rfl (by show _ = m.toNat * 3 + 2; omega) ?_
  clear h; intro M h
  rw [iJ, iJ, zH (pr := { ay x i with eN := -1 }) hlb] at h
  refine qj h ?_
  clear h; intro M h
  refine qk h ?_
  have e3 := wk (y := { ay x i with eN := -1 }) jC rfl
  exact k _ (Hp.bW (wm (A := A) (c := c) (a := ⟨some ⟨q, 0, none⟩, cp, vl, some ⟨q2, 0, none⟩, cm⟩) (x := (x.bT i { ay x i with eN := -1 }).gV m ⟨-1, -1, 0⟩) h b (by simp [Sc.bT, Sc.gV, dY]) (by rfl) (by simpa [Sc.bT, Sc.gV] using hl) (by rfl) (by exact e3) (by rfl)))
 | true =>
  simp only [if_true] at k
  refine ai ?_
  refine aZ (Src.at (h.src (A := some ⟨q, 0, none⟩)) h (i := i.toNat) (j := 1) hrow rfl (by show _ = 0 + (i.toNat * 3 + 1); omega)) ?_
  rw [jg ht.1 (by omega)]
  refine gH (E := qf) (a' := (lb, (ay x i).turns + 1, (ay x i).eN)) i.toNat 1 h hrow (by decide) rfl rfl ?_
  clear h; intro M h
  refine aS h (aS h (aI h ⟨m0, m1, bp ?_⟩))
  refine gH (E := lO) (a' := ⟨(ax x m).p, g, (ax x m).left⟩) m.toNat 1 h jD (by decide) rfl (by show _ = m.toNat * 3 + 1; omega) ?_
  clear h; intro M h
  refine ⟨m0, m1, bp ?_⟩
  refine gH (E := lO) (a := ⟨(ax x m).p, g, (ax x m).left⟩) (a' := ⟨(ax x m).p, g, x.c.S⟩) m.toNat 2 h (by simp [m2]) (by decide) rfl (by show _ = m.toNat * 3 + 2; omega) ?_
  clear h; intro M h
  rw [iJ, zH (pr := { ay x i with turns := (ay x i).turns + 1 }) hlb] at h
  refine qj h ?_
  clear h; intro M h
  refine qk h ?_
  have e3 := wk (y := { ay x i with turns := (ay x i).turns + 1 }) jC rfl
  exact k _ (Hp.bW (wm (A := A) (c := c) (a := ⟨some ⟨q, 0, none⟩, cp, vl, some ⟨q2, 0, none⟩, cm⟩) (x := (x.bT i { ay x i with turns := (ay x i).turns + 1 }).gV m ⟨(ax x m).p, g, x.c.S⟩) h b (by simp [Sc.bT, Sc.gV, dY]) (by rfl) (by simpa [Sc.bT, Sc.gV] using hl) (by rfl) (by exact e3) (by rfl)))
def wu (x : Sc) (m : Int) : Prop := 0 ≤ m ∧ m < x.ms.length ∧ 0 ≤ (ax x m).p ∧ (ax x m).p < x.ps.length ∧ x.gl.length ≤ 1000000 ∧ 0 ≤ (ay x (ax x m).p).turns ∧ (ay x (ax x m).p).turns < 1000000000 ∧ x.d.taken.length < 100000000 ∧ x.c.P ≤ x.ps.length ∧ x.c.P < 1000000
instance (x : Sc) (m : Int) : Decidable (wu x m) := by unfold wu; infer_instance
theorem K4 {j : Int} (h0 : 0 ≤ i) (hi : i < x.ps.length) (hj : 0 ≤ j) : (ay (x.own i).1 j).turns = (ay x j).turns := by
 unfold Sc.own Sc.bT ay
 dsimp only
 by_cases e : i.toNat = j.toNat
 ·rw [e]
  rw [List.getD_eq_getElem?_getD, List.getElem?_set_self (by omega)]; rfl
 ·rw [List.getD_eq_getElem?_getD, List.getElem?_set_ne e, ← List.getD_eq_getElem?_getD]
end
section
variable {R : Mem} {L L' L2 : List HP} {M : Mem} {K : Value → Mem → Prop} {Kp : List PanicEntry → Mem → Prop} {pa : PA} {p : b7} {b wb db : Nat} {x : Sc} {m i : Int} {a : SA} {g : List Int}
theorem OD (h : Hp R (gI (dQ b wb db a x) g :: L) M) : M.ld ⟨b, 0 + 5, none⟩ = some (.slice a.ap x.ps.length a.cp) := by
 obtain ⟨A, c, h9⟩ := jn (P := dQ b wb db a x) h; exact bM h9
theorem zM (h : Hp R (gI (dQ b wb db a x) g :: L) M) : M.ld ⟨b, 0 + 6, none⟩ = some (.slice a.am x.ms.length a.cm) := by
 obtain ⟨A, c, h9⟩ := jn (P := dQ b wb db a x) h; exact bM h9
theorem sc_P (h : Hp R (gI (dQ b wb db a x) g :: L) M) : M.ld ⟨b, 0 + 1, none⟩ = some (.int .i64 x.c.P) := by
 obtain ⟨A, c, h9⟩ := jn (P := dQ b wb db a x) h; exact bM h9
theorem Zy (h : Hp R (gI (dQ b wb db a x) g :: L) M) : M.ld ⟨b, (0 + 1) + 1, none⟩ = some (.int .i64 x.c.M) := by
 obtain ⟨A, c, h9⟩ := jn (P := dQ b wb db a x) h; exact bM h9
theorem Wa (h : Hp R (gI (dQ b wb db a x) g :: L) M) : M.ld ⟨b, 0 + 8, none⟩ = some (.pointer (some ⟨db, 0, none⟩)) := by
 obtain ⟨A, c, h9⟩ := jn (P := dQ b wb db a x) h; exact bM h9
theorem Zz (h : Hp R (gI (dQ b wb db a x) g :: L) M) : M.ld ⟨b, 0, none⟩ = some (.pointer (some ⟨wb, 0, none⟩)) := by
 obtain ⟨A, c, h9⟩ := jn (P := dQ b wb db a x) h; exact bM h9
theorem Ro : dQ b wb db a (x.own i).1 = dQ b wb db a x := by
 unfold Sc.own dQ dY Sc.bT; simp
def Rdy (R : Mem) (pa : PA) (p : b7) (b wb db : Nat) (a : SA) (L' : List HP) (K : Value → Mem → Prop) (m i : Int) (q q2 k1 : Nat) (z : Sc) (kind g : Int) (t : Bool) (M : Mem) : Prop :=
 Hp R (gI (dQ b wb db a z) z.gl :: az (bI pa p) wb z.w :: az (cK .nilFunc) db z.d :: b6 (some ⟨q, 0, none⟩) a.cp (bS a.lb z.ps) :: bg bJ a.lb (z.ps.map dm.q) :: cq (some ⟨q2, 0, none⟩) a.cm z.ms :: pt k1 [.int .i64 0, .int .i64 0, .int .i64 0, .slice none 0 0] 43 :: L') M ∧
 a.lb.length = z.ps.length ∧ m < z.ms.length ∧ i < z.ps.length ∧ (0 ≤ (ay z i).turns ∧ (ay z i).turns < 1000000000) ∧
 (∀ M', Hp R (az (eU pa p wb db) b (z.be m i kind g t).1 :: L') M' → K (K0 (z.be m i kind g t).2 none 0) M')
theorem Ff {y : dm} {j : Int} (hi : 0 ≤ i) (h1 : i < x.ps.length) (hj : 0 ≤ j) : ay (x.bT i y) j = if i = j then y else ay x j := by
 unfold ay Sc.bT
 dsimp only
 by_cases e : i = j
 ·subst e
  rw [if_pos rfl, List.getD_eq_getElem?_getD, List.getElem?_set_self (by omega)]; rfl
 ·rw [if_neg e, List.getD_eq_getElem?_getD, List.getElem?_set_ne (by omega), ← List.getD_eq_getElem?_getD]
theorem Cc {q q2 k1 : Nat}
  (h : Hp R (gI (dQ b wb db a x) x.gl :: az (bI pa p) wb x.w :: az (cK .nilFunc) db x.d :: b6 (some ⟨q, 0, none⟩) a.cp (bS a.lb x.ps) :: bg bJ a.lb (x.ps.map dm.q) :: cq (some ⟨q2, 0, none⟩) a.cm x.ms :: pt k1 [.int .i64 0, .int .i64 0, .int .i64 0, .slice none 0 0] 43 :: L') M)
  (hap : a.ap = some ⟨q, 0, none⟩) (I7 : a.am = some ⟨q2, 0, none⟩) (hl : a.lb.length = x.ps.length) (hk : wu x m) (hi : i = (ax x m).p) (hd : x.d.Ok)
  (k : let y := (x.own i).1
   if (x.own i).2.2 = false ∧ 1 < x.c.P then match y.d.draw 2 x.c.P with
    | (d', .cT l) => ∀ M', Hp R (az (eU pa p wb db) b { y with d := d' } :: L') M' → Kp l M'
    | (d', .num v) =>
     let y := { y with d := d' }
     let s := (ay y i).q.c9 (ay y v).q
     let z := if v = i then y else (y.bT i { ay y i with q := s.1 }).bT v { ay y v with q := s.2.1 }
     let r := if v = i then (-1, false) else (s.2.2, fO (ay y v).q s.2.2)
     ∀ M', Hp R (az (eU pa p wb db) b (z.be m i 5 r.1 r.2).1 :: L') M' → K (K0 (z.be m i 5 r.1 r.2).2 none 0) M'
   else ∀ M', Hp R (az (eU pa p wb db) b (y.be m i 4 (x.own i).2.1 (x.own i).2.2).1 :: L') M' → K (K0 (y.be m i 4 (x.own i).2.1 (x.own i).2.2).2 none 0) M') :
  aa Tryz.prog 150 #[(.pointer (some ⟨b, 0, none⟩)), (.pointer (some ⟨q, (i.toNat * 3), none⟩))] M (fun Nv vT =>
 ∃ Nw : Int, ∃ t57 : Bool, (Nv = (.tuple #[(.int .i64 Nw), (.bool t57)])) ∧
 aO (!t57)
  (aJ (Mem.ld vT ⟨b, (0 + 1), none⟩) .i64 fun CP =>
  ∃ Uk : List Value → Mem → Prop, (aO (decide ((CP : Int) > 1))
   (cy (Mem.ld vT ⟨b, (0 + 8), none⟩) fun A60 =>
    aJ (Mem.ld vT ⟨b, (0 + 1), none⟩) .i64 fun J6 =>
    aa Tryz.prog 107 #[(.pointer A60), (.int .i64 2), (.int .i64 J6)] vT (fun Qq Al =>
    aJ (some Qq) .i64 fun n64 =>
    cy (Mem.ld Al ⟨q, (i.toNat * 3), none⟩) fun WY =>
    aB (Mem.ld Al ⟨b, (0 + 5), none⟩) fun Nx xw xD =>
    ((0 : Int) ≤ n64) ∧
    ((n64 : Int) < ((xw : Nat) : Int)) ∧
    aF Nx fun Ym IC =>
    cy (Mem.ld Al ⟨Ym, (IC + ((Int.toNat n64) * 3)), none⟩) fun T6 =>
    aa Tryz.prog 151 #[(.pointer WY), (.pointer T6)] Al (fun v72 tN =>
    ∃ Nq : Int, ∃ t75 : Bool, (v72 = (.tuple #[(.int .i64 Nq), (.bool t75)])) ∧
    Uk [(.int .i64 5), (.int .i64 Nq), (.bool t75)] tN) Kp) Kp)
   (Uk [(.int .i64 4), (.int .i64 Nw), (.bool t57)] vT)) ∧
  ∀ Ul : Nat → Value, ∀ CR : Int, ∀ C5 : Int, ∀ t79 : Bool, ∀ xy : Mem, (Uk [(.int .i64 CR), (.int .i64 C5), (.bool t79)] xy) → aO (!t79)
   (aB (Mem.ld xy ⟨b, (0 + 6), none⟩) fun Qu Ki FN =>
   aK xy ⟨q, ((i.toNat * 3) + 2), none⟩ (.int .i64 (-1)) fun QA =>
   ((0 : Int) ≤ m) ∧
   ((m : Int) < ((Ki : Nat) : Int)) ∧
   aF Qu fun LD Ny =>
   aK QA ⟨LD, (Ny + ((Int.toNat m) * 3)), none⟩ (.int .i64 (-1)) fun IE =>
   aK IE ⟨LD, ((Ny + ((Int.toNat m) * 3)) + 1), none⟩ (.int .i64 (-1)) fun Yn =>
   aK Yn ⟨LD, ((Ny + ((Int.toNat m) * 3)) + 2), none⟩ (.int .i64 0) fun Ez =>
   aK Ez ⟨k1, 0, none⟩ (.int .i64 6) fun Yo =>
   aK Yo ⟨k1, (0 + 1), none⟩ (.int .i64 m) fun lj =>
   aK lj ⟨k1, (0 + 2), none⟩ (.int .i64 (-1)) fun Yp =>
   aK Yp ⟨k1, (0 + 3), none⟩ (.slice none 0 0) fun EE =>
   aJ (Mem.ld EE ⟨k1, 0, none⟩) .i64 fun Qm =>
   aJ (Mem.ld EE ⟨k1, (0 + 1), none⟩) .i64 fun Ka =>
   aJ (Mem.ld EE ⟨k1, (0 + 2), none⟩) .i64 fun Kb =>
   aB (Mem.ld EE ⟨k1, (0 + 3), none⟩) fun Yq Yr W0 =>
   K (.agg #[(.int .i64 Qm), (.int .i64 Ka), (.int .i64 Kb), (.slice Yq Yr W0)]) EE)
   (aJ (Mem.ld xy ⟨q, ((i.toNat * 3) + 1), none⟩) .i64 fun qQ =>
   aK xy ⟨q, ((i.toNat * 3) + 1), none⟩ (.int .i64 (IntKind.wrap .i64 (qQ + 1))) fun jf =>
   aB (Mem.ld jf ⟨b, (0 + 6), none⟩) fun y5 mV EF =>
   aB (Mem.ld jf ⟨b, (0 + 6), none⟩) fun C6 xz Kn =>
   aJ (Mem.ld jf ⟨b, ((0 + 1) + 3), none⟩) .i64 fun C2 =>
   ((0 : Int) ≤ m) ∧
   ((m : Int) < ((mV : Nat) : Int)) ∧
   aF y5 fun GK Ko =>
   aK jf ⟨GK, ((Ko + ((Int.toNat m) * 3)) + 1), none⟩ (.int .i64 C5) fun nK =>
   ((0 : Int) ≤ m) ∧
   ((m : Int) < ((xz : Nat) : Int)) ∧
   aF C6 fun Nz GL =>
   aK nK ⟨Nz, ((GL + ((Int.toNat m) * 3)) + 2), none⟩ (.int .i64 C2) fun AR =>
   aK AR ⟨k1, 0, none⟩ (.int .i64 CR) fun GM =>
   aK GM ⟨k1, (0 + 1), none⟩ (.int .i64 m) fun xB =>
   aK xB ⟨k1, (0 + 2), none⟩ (.int .i64 C5) fun GI =>
   aK GI ⟨k1, (0 + 3), none⟩ (.slice none 0 0) fun nJ =>
   aJ (Mem.ld nJ ⟨k1, 0, none⟩) .i64 fun NA =>
   aJ (Mem.ld nJ ⟨k1, (0 + 1), none⟩) .i64 fun y3 =>
   aJ (Mem.ld nJ ⟨k1, (0 + 2), none⟩) .i64 fun y4 =>
   aB (Mem.ld nJ ⟨k1, (0 + 3), none⟩) fun NB GN GJ =>
   K (.agg #[(.int .i64 NA), (.int .i64 y3), (.int .i64 y4), (.slice NB GN GJ)]) nJ))
  (∃ NC : List Value → Mem → Prop, (NC [(.int .i64 4), (.int .i64 Nw), (.bool t57)] vT) ∧
  ∀ QD : Nat → Value, ∀ C7 : Int, ∀ xC : Int, ∀ t129 : Bool, ∀ rT : Mem, (NC [(.int .i64 C7), (.int .i64 xC), (.bool t129)] rT) → aO (!t129)
   (aB (Mem.ld rT ⟨b, (0 + 6), none⟩) fun EB EC Kl =>
   aK rT ⟨q, ((i.toNat * 3) + 2), none⟩ (.int .i64 (-1)) fun Ns =>
   ((0 : Int) ≤ m) ∧
   ((m : Int) < ((EC : Nat) : Int)) ∧
   aF EB fun AS rV =>
   aK Ns ⟨AS, (rV + ((Int.toNat m) * 3)), none⟩ (.int .i64 (-1)) fun Km =>
   aK Km ⟨AS, ((rV + ((Int.toNat m) * 3)) + 1), none⟩ (.int .i64 (-1)) fun Um =>
   aK Um ⟨AS, ((rV + ((Int.toNat m) * 3)) + 2), none⟩ (.int .i64 0) fun C4 =>
   aK C4 ⟨k1, 0, none⟩ (.int .i64 6) fun Un =>
   aK Un ⟨k1, (0 + 1), none⟩ (.int .i64 m) fun Kr =>
   aK Kr ⟨k1, (0 + 2), none⟩ (.int .i64 (-1)) fun ND =>
   aK ND ⟨k1, (0 + 3), none⟩ (.slice none 0 0) fun y6 =>
   aJ (Mem.ld y6 ⟨k1, 0, none⟩) .i64 fun NF =>
   aJ (Mem.ld y6 ⟨k1, (0 + 1), none⟩) .i64 fun NG =>
   aJ (Mem.ld y6 ⟨k1, (0 + 2), none⟩) .i64 fun NH =>
   aB (Mem.ld y6 ⟨k1, (0 + 3), none⟩) fun Uo NI Up =>
   K (.agg #[(.int .i64 NF), (.int .i64 NG), (.int .i64 NH), (.slice Uo NI Up)]) y6)
   (aJ (Mem.ld rT ⟨q, ((i.toNat * 3) + 1), none⟩) .i64 fun Nt =>
   aK rT ⟨q, ((i.toNat * 3) + 1), none⟩ (.int .i64 (IntKind.wrap .i64 (Nt + 1))) fun y7 =>
   aB (Mem.ld y7 ⟨b, (0 + 6), none⟩) fun NJ NK Nu =>
   aB (Mem.ld y7 ⟨b, (0 + 6), none⟩) fun Uq Ur Us =>
   aJ (Mem.ld y7 ⟨b, ((0 + 1) + 3), none⟩) .i64 fun Ut =>
   ((0 : Int) ≤ m) ∧
   ((m : Int) < ((NK : Nat) : Int)) ∧
   aF NJ fun Uu Uv =>
   aK y7 ⟨Uu, ((Uv + ((Int.toNat m) * 3)) + 1), none⟩ (.int .i64 xC) fun vU =>
   ((0 : Int) ≤ m) ∧
   ((m : Int) < ((Ur : Nat) : Int)) ∧
   aF Uq fun NL NM =>
   aK vU ⟨NL, ((NM + ((Int.toNat m) * 3)) + 2), none⟩ (.int .i64 Ut) fun NN =>
   aK NN ⟨k1, 0, none⟩ (.int .i64 C7) fun NO =>
   aK NO ⟨k1, (0 + 1), none⟩ (.int .i64 m) fun NP =>
   aK NP ⟨k1, (0 + 2), none⟩ (.int .i64 xC) fun Ks =>
   aK Ks ⟨k1, (0 + 3), none⟩ (.slice none 0 0) fun y8 =>
   aJ (Mem.ld y8 ⟨k1, 0, none⟩) .i64 fun NQ =>
   aJ (Mem.ld y8 ⟨k1, (0 + 1), none⟩) .i64 fun NR =>
   aJ (Mem.ld y8 ⟨k1, (0 + 2), none⟩) .i64 fun NS =>
   aB (Mem.ld y8 ⟨k1, (0 + 3), none⟩) fun Uw Kt Ux =>
   K (.agg #[(.int .i64 NQ), (.int .i64 NR), (.int .i64 NS), (.slice Uw Kt Ux)]) y8))) Kp := by
 obtain ⟨m0, m1, i0, i1, W8, ht0, SW, Rp, hP, hP2⟩ := hk
 rw [← hi] at i0 i1 ht0 SW
 have go : ∀ (z : Sc) (kind g : Int) (t : Bool) (M : Mem), Rdy R pa p b wb db a L' K m i q q2 k1 z kind g t M → _ := fun z kind g t M ⟨h, a1, a2, a3, a4, a5⟩ => K3 h hap I7 a1 m0 a2 i0 a3 a4 a5
 refine K2 (i := i) (q := q) (a := a) (x := x) (b := b) (wb := wb) (db := db) h hap hl i0 i1 W8 ht0 ?_
 clear h; intro M h
 refine ⟨_, _, rfl, ?_⟩
 dsimp only at k
 have ey : dQ b wb db a (x.own i).1 = dQ b wb db a x := Ro
 have ep : bS a.lb (x.own i).1.ps = bS a.lb x.ps := by
  obtain ⟨lb, hlb, jC, hrow⟩ := ql (i := i) hl i0 i1
  exact zL jC rfl rfl
 have el : (x.own i).1.ps.length = x.ps.length := by simp [Sc.own, Sc.bT]
 have et : ∀ j, 0 ≤ j → (ay (x.own i).1 j).turns = (ay x j).turns := fun j hj => K4 i0 i1 hj
 have em : (x.own i).1.ms = x.ms := rfl
 have ew : (x.own i).1.w = x.w := rfl
 have ed : (x.own i).1.d = x.d := rfl
 rw [← ey, ← ep] at h
 have hR : Hp R (gI (dQ b wb db a (x.own i).1) (x.own i).1.gl :: az (bI pa p) wb (x.own i).1.w :: az (cK .nilFunc) db (x.own i).1.d :: b6 (some ⟨q, 0, none⟩) a.cp (bS a.lb (x.own i).1.ps) :: bg bJ a.lb ((x.own i).1.ps.map dm.q) :: cq (some ⟨q2, 0, none⟩) a.cm (x.own i).1.ms :: pt k1 [.int .i64 0, .int .i64 0, .int .i64 0, .slice none 0 0] 43 :: L') M := h.sub bD
 clear h
 have h := hR
 clear hR
 have ec : (x.own i).1.c = x.c := rfl
 generalize hy : x.own i = r at h k ey ep el et em ew ed ec
 obtain ⟨y, v1, t1⟩ := r
 dsimp only at h k ey ep el et em ew ed ec ⊢
 have PJ := et i i0
 have SY : ∀ M, Hp R (gI (dQ b wb db a y) y.gl :: az (bI pa p) wb y.w :: az (cK .nilFunc) db y.d :: b6 (some ⟨q, 0, none⟩) a.cp (bS a.lb y.ps) :: bg bJ a.lb (y.ps.map dm.q) :: cq (some ⟨q2, 0, none⟩) a.cm y.ms :: pt k1 [.int .i64 0, .int .i64 0, .int .i64 0, .slice none 0 0] 43 :: L') M → ¬ (t1 = false ∧ 1 < x.c.P) → Rdy R pa p b wb db a L' K m i q q2 k1 y 4 v1 t1 M := by
  intro M h hno
  rw [if_neg hno] at k
  exact ⟨h, by omega, by rw [em]; exact m1, by omega, by omega, k⟩
 cases t1 with
 | true =>
  refine ai ?_
  refine ⟨fun vs M => ∃ (z : Sc) (kind g : Int) (t : Bool), vs = [.int .i64 kind, .int .i64 g, .bool t] ∧ Rdy R pa p b wb db a L' K m i q q2 k1 z kind g t M, ⟨y, 4, v1, true, rfl, SY M h (fun hc => by cases hc.1)⟩, ?_⟩
  clear h
  rintro _ n1 n2 t3 M ⟨z, kind, g, t, he, hz⟩
  simp only [List.cons.injEq, Value.int.injEq, Value.bool.injEq, and_true, true_and] at he
  obtain ⟨rfl, rfl, rfl⟩ := he
  exact go z n1 n2 t3 M hz
 | false =>
  refine ae ?_
  rw [sc_P h]
  refine cG ?_
  refine ⟨fun vs M => ∃ (z : Sc) (kind g : Int) (t : Bool), vs = [.int .i64 kind, .int .i64 g, .bool t] ∧ Rdy R pa p b wb db a L' K m i q q2 k1 z kind g t M, ?_, ?_⟩
  ·rw [ec]
   refine aM.2 ⟨fun hgt => ?_, fun hle => ?_⟩
   ·rw [if_pos ⟨rfl, hgt⟩] at k
    rw [Wa h]
    refine js ?_
    refine cG ?_
    rw [ed] at k h
    replace h : Hp R (az (cK .nilFunc) db x.d :: gI (dQ b wb db a y) y.gl :: az (bI pa p) wb y.w :: b6 (some ⟨q, 0, none⟩) a.cp (bS a.lb y.ps) :: bg bJ a.lb (y.ps.map dm.q) :: cq (some ⟨q2, 0, none⟩) a.cm y.ms :: pt k1 [.int .i64 0, .int .i64 0, .int .i64 0, .slice none 0 0] 43 :: L') M := h.sub bD
    refine qe h hd (by omega) Rp ?_
    clear h
    have HB := fun k' v => zF (k := x.d.k) (kind := 2) hd.1 (zE x.c.P) (k' := k') (v := v)
    have Bd : ∀ v, (x.d.draw 2 x.c.P).2 = .num v → 0 ≤ v ∧ v < x.c.P := by
     intro v hv
     unfold jz.draw at hv
     split at hv
     ·rename_i k' v' hn
      cases hv
      have := HB k' _ hn
      have e : gU x.c.P = x.c.P := by unfold gU; rw [if_neg (by omega)]
      rw [e] at this
      exact this
     ·cases hv
    generalize jM : x.d.draw 2 x.c.P = dd at k Bd
    obtain ⟨d', o⟩ := dd
    cases o with
    | cT l =>
     dsimp only at k Bd ⊢
     intro M h
     have hsc : dQ b wb db a y = dQ b wb db a { y with d := d' } := rfl
     rw [hsc] at h
     have h9 : Hp R (gI (dQ b wb db a { y with d := d' }) y.gl :: az (bI pa p) wb y.w :: az (cK .nilFunc) db d' :: b6 a.ap a.cp (bS a.lb y.ps) :: bg bJ a.lb (y.ps.map dm.q) :: cq a.am a.cm y.ms :: pt k1 [.int .i64 0, .int .i64 0, .int .i64 0, .slice none 0 0] 43 :: L') M := by
      rw [show b6 a.ap a.cp (bS a.lb y.ps) = b6 (some ⟨q, 0, none⟩) a.cp (bS a.lb y.ps) from by rw [hap], show cq a.am a.cm y.ms = cq (some ⟨q2, 0, none⟩) a.cm y.ms from by rw [I7]]
      exact h.sub bD
     exact k M (Hp.bW (hH (a := a) (x := { y with d := d' }) (by rw [el]; exact hl) h9))
    | num v =>
     dsimp only at k Bd ⊢
     obtain ⟨v0, v1'⟩ := Bd v rfl
     intro M h
     refine cG ?_
     have hsc : dQ b wb db a y = dQ b wb db a { y with d := d' } := rfl
     rw [hsc] at h
     generalize hyz : ({ y with d := d' } : Sc) = y2 at h k
     have p1 : y2.ps = y.ps := by rw [← hyz]
     have p2 : y2.ms = y.ms := by rw [← hyz]
     have p3 : y2.gl = y.gl := by rw [← hyz]
     have p4 : y2.w = y.w := by rw [← hyz]
     have p5 : y2.d = d' := by rw [← hyz]
     rw [← p1, ← p2, ← p3, ← p4, ← p5] at h
     replace h : Hp R (gI (dQ b wb db a y2) y2.gl :: az (bI pa p) wb y2.w :: az (cK .nilFunc) db y2.d :: b6 (some ⟨q, 0, none⟩) a.cp (bS a.lb y2.ps) :: bg bJ a.lb (y2.ps.map dm.q) :: cq (some ⟨q2, 0, none⟩) a.cm y2.ms :: pt k1 [.int .i64 0, .int .i64 0, .int .i64 0, .slice none 0 0] 43 :: L') M := h.sub bD
     have kT : a.lb.length = y2.ps.length := by rw [p1, el]; exact hl
     have Kw : i < y2.ps.length := by rw [p1, el]; exact i1
     have Ls : v < y2.ps.length := by rw [p1, el]; omega
     have Rl : m < y2.ms.length := by rw [p2, em]; exact m1
     have SX : ∀ j, ay y2 j = ay y j := fun j => by unfold ay; rw [p1]
     obtain ⟨lbi, ZA, ZB, ZC⟩ := ql (i := i) kT i0 Kw
     obtain ⟨lbv, Wb, HE, ZD⟩ := ql (i := v) kT v0 Ls
     refine mD (Src.at (Src.row (A := some ⟨q, 0, none⟩) : Src R _ _ (qf.cells (bS a.lb y2.ps))) h (i := i.toNat) (j := 0) ZC rfl (by show _ = 0 + (i.toNat * 3 + 0); simp)) ?_
     rw [OD h]
     refine bk ⟨v0, Ls, ?_⟩
     rw [hap]
     refine bp ?_
     rw [Nat.zero_add]
     refine mD (Src.at (Src.row (A := some ⟨q, 0, none⟩) : Src R _ _ (qf.cells (bS a.lb y2.ps))) h (i := v.toNat) (j := 0) ZD rfl (by show _ = 0 + (v.toNat * 3 + 0); simp)) ?_
     by_cases ZE : v = i
     ·subst ZE
      rw [ZA] at Wb
      cases Wb
      refine wq ?_
      refine ⟨_, _, rfl, ?_⟩
      simp only [if_true] at k
      exact ⟨y2, 5, -1, false, rfl, h, kT, Rl, Kw, by rw [SX]; omega, k⟩
     ·simp only [if_neg ZE] at k
      have SZ : (y2.ps.map dm.q)[i.toNat]? = some (ay y2 i).q := by rw [List.getElem?_map, ZB]; rfl
      have hqv : (y2.ps.map dm.q)[v.toNat]? = some (ay y2 v).q := by rw [List.getElem?_map, HE]; rfl
      obtain ⟨X, hX, Cd⟩ := h.N1 bJ (i := i.toNat) (j := v.toNat) (by omega) ZA SZ Wb hqv
      clear h
      refine EZ hX ?_
      clear hX; intro t M g1 g2 h
      refine ⟨_, _, rfl, ?_⟩
      have hte : t = fO (ay y2 v).q ((ay y2 i).q.c9 (ay y2 v).q).2.2 := by
       unfold fO
       by_cases hc : ((ay y2 i).q.c9 (ay y2 v).q).2.2 ≠ -1 ∨ (ay y2 v).q.l ≠ []
       ·rw [g2 hc]
        rcases hc with hc | hc
        ·simp [hc]
        ·cases hq : (ay y2 v).q.l with
         | nil => exact absurd hq hc
         | cons _ _ => simp
       ·have W9 : ((ay y2 i).q.c9 (ay y2 v).q).2.2 = -1 := Decidable.byContradiction fun e => hc (.inl e)
        have Pz : (ay y2 v).q.l = [] := by
         cases hq : (ay y2 v).q.l with
         | nil => rfl
         | cons _ _ => exact absurd (.inr (by rw [hq]; simp)) hc
        rw [g1 W9 Pz, W9, Pz]; rfl
      subst hte
      replace h := Cd (L2 := _) h
      generalize hs : (ay y2 i).q.c9 (ay y2 v).q = s at h k ⊢
      obtain ⟨s1, s2, s3⟩ := s
      dsimp only at h k ⊢
      have e1 : bS a.lb ((y2.bT i { ay y2 i with q := s1 }).bT v { ay y2 v with q := s2 }).ps = bS a.lb y2.ps := by
       show bS a.lb ((y2.ps.set i.toNat _).set v.toNat _) = _
       rw [zL (ps := y2.ps.set i.toNat { ay y2 i with q := s1 }) (j := v.toNat) (pr := ay y2 v) (y := { ay y2 v with q := s2 }) (by rw [List.getElem?_set_ne (by omega)]; exact HE) rfl rfl]
       exact zL ZB rfl rfl
      have e2 : ((y2.bT i { ay y2 i with q := s1 }).bT v { ay y2 v with q := s2 }).ps.map dm.q = ((y2.ps.map dm.q).set i.toNat s1).set v.toNat s2 := by
       simp [Sc.bT, List.map_set]
      have e3 : dQ b wb db a ((y2.bT i { ay y2 i with q := s1 }).bT v { ay y2 v with q := s2 }) = dQ b wb db a y2 := by rw [zJ, zJ]
      rw [← e1, ← e2, ← e3] at h
      have e4 : (ay ((y2.bT i { ay y2 i with q := s1 }).bT v { ay y2 v with q := s2 }) i).turns = (ay y2 i).turns := by
       rw [Ff v0 (by rw [qn]; exact Ls) i0, if_neg ZE, Ff i0 Kw i0, if_pos rfl]
      refine ⟨(y2.bT i { ay y2 i with q := s1 }).bT v { ay y2 v with q := s2 }, 5, s3, _, rfl, h.sub bD, ?_, Rl, ?_, ?_, k⟩
      ·rw [qn, qn]; exact kT
      ·rw [qn, qn]; exact Kw
      ·rw [e4, SX]; omega
   ·exact ⟨y, 4, v1, false, rfl, SY M h (fun hc => hle hc.2)⟩
  ·clear h
   rintro _ n1 n2 t3 M ⟨z, kind, g, t, he, hz⟩
   simp only [List.cons.injEq, Value.int.injEq, Value.bool.injEq, and_true, true_and] at he
   obtain ⟨rfl, rfl, rfl⟩ := he
   exact go z n1 n2 t3 M hz
end
def xI (l : List PanicEntry) : List PanicEntry := l ++ l.map fun e => { e with recovered := true }
theorem Ce : B9 KX (xI KX) := fun b v M K Kp h => Kz h
theorem Fg {a k n q v : Int} : B9 (W7 a k n q v) (xI (W7 a k n q v)) := fun b w M K Kp h => C8 h
theorem OE {k k' : gT} {kind m : Int} {l : List PanicEntry} (h : k.next kind m = (k', .cT l)) : k' = k ∧ B9 l (xI l) := by
 cases k with
 | lA l i =>
  unfold gT.next at h
  dsimp only at h
  split at h
  ·cases h; exact ⟨rfl, Ce⟩
  ·cases h
 | tape l i =>
  unfold gT.next at h
  dsimp only at h
  split at h
  ·cases h; exact ⟨rfl, Ce⟩
  ·split at h
   ·cases h; exact ⟨rfl, Fg⟩
   ·split at h
    ·cases h; exact ⟨rfl, Fg⟩
    ·cases h
theorem qo {x x' : jz} {kind n : Int} {l : List PanicEntry} (h : x.draw kind n = (x', .cT l)) : x' = x ∧ B9 l (xI l) := by
 unfold jz.draw at h
 split at h
 ·cases h
 ·rename_i k' l' hn
  cases h
  obtain ⟨e, h2⟩ := OE hn
  subst e
  exact ⟨rfl, h2⟩
theorem lP {x : jz} {kind n : Int} (h : x.k.Ok) : (x.draw kind n).1.k.Ok := by
 unfold jz.draw
 have := Rk (kind := kind) (m := gU n) h
 split
 ·rename_i k' v hn; rw [hn] at this; exact this
 ·rename_i k' v hn; rw [hn] at this; exact this
theorem eF {x x' : jz} {kind n v : Int} (hok : x.k.Ok) (h : x.draw kind n = (x', .num v)) : 0 ≤ v ∧ v < gU n ∧ x'.taken = x.taken ++ [(kind, v)] := by
 unfold jz.draw at h
 split at h
 ·rename_i k' v' hn
  cases h
  have := zF hok (zE n) hn
  exact ⟨this.1, this.2, rfl⟩
 ·cases h
def aE (m : Int) (x : Sc) (r : Int) : Sc :=
 let i := (ax x m).p
 { x.bT i { ay x i with q := ((ay x i).q.ready r x.gl).1 } with gl := ((ay x i).q.ready r x.gl).2.1 }
def Sc.gM (x : Sc) (m g : Int) (keep : Bool) (ready : List Int) : Sc × Ev :=
 if keep = true ∧ (ax x m).left - 1 ≠ 0 then (x.gV m { ax x m with left := (ax x m).left - 1 }, ⟨7, m, g, ready⟩)
 else ({ x.gV m { ax x m with left := (ax x m).left - 1, g := -1 } with gl := if (aj x.w g).st = 1 then x.gl ++ [g] else x.gl }, ⟨7, m, g, ready⟩)
def wv (p : b7) (x : Sc) (m : Int) : Prop := 0 ≤ m ∧ m < x.ms.length ∧ 0 ≤ (ax x m).p ∧ (ax x m).p < x.ps.length ∧ x.gl.length ≤ 1000000 ∧ x.d.taken.length < 100000000 ∧ 1 ≤ (ax x m).left ∧ (ax x m).left < 1000000000 ∧ 0 ≤ (ax x m).g
instance (p : b7) (x : Sc) (m : Int) : Decidable (wv p x m) := by unfold wv; infer_instance
def S0 : Option (Int × Int) → Bool
 | none => true
 | some (_, n) => decide (n < 9223372036854775808)
def fk (x : Sc) (m g : Int) (d : jz) (y : Wd) (rest : Bool) : Option (Sc × gW) :=
 if y.ready.length ≤ 10000 ∧ g < y.gs.length then
  some (((y.ready.foldl (aE m) { x with w := y, d := d }).gM m g (g9 y g rest) y.ready).1, .ev ((y.ready.foldl (aE m) { x with w := y, d := d }).gM m g (g9 y g rest) y.ready).2)
 else none
def dh (d : jz) : Option (Int × Int) → jz × jU
 | none => (d, .num 0)
 | some (k, n) => d.draw k n
def Sc.run (p : b7) (x : Sc) (m : Int) : Option (Sc × gW) :=
 if wv p x m then
  if S0 (asks p { x.w with ready := [] } (ax x m).g) then
   match w7 p x.w (ax x m).g (dh x.d (asks p { x.w with ready := [] } (ax x m).g)).2 with
   | none => none
   | some (.cT l y, _) => some ({ x with w := y, d := (dh x.d (asks p { x.w with ready := [] } (ax x m).g)).1 }, .cT (xI l))
   | some (.on y, rest) => fk x m (ax x m).g (dh x.d (asks p { x.w with ready := [] } (ax x m).g)).1 y rest
   | some (.eC n y, rest) => fk x m (ax x m).g (dh x.d (asks p { x.w with ready := [] } (ax x m).g)).1 { y with end_ := 2, code := n } rest
  else none
 else none
def hJ : Sc × gW → Sc × gW
 | (x, .ev e) => ({ x with steps := x.steps + 1 }, .ev e)
 | (x, .cT l) => (x, .cT l)
def ye (x : Sc) : Prop := x.w.gs.length ≤ 1000000 ∧ x.c.M = x.ms.length ∧ x.ps.length ≤ 1000000 ∧ x.ms.length ≤ 1000000 ∧ x.d.taken.length < 10000000 ∧ 0 ≤ x.steps ∧ x.steps < 1000000000
instance (x : Sc) : Decidable (ye x) := by unfold ye; infer_instance
def Sc.act (p : b7) (x : Sc) (m : Int) : Option (Sc × gW) :=
 if m = x.c.M then (if zI x then some (x.tick.1, .ev x.tick.2) else none)
 else if (ax x m).p = -1 then some ((x.hold m).1, .ev (x.hold m).2)
 else if (ax x m).g = -1 then (if wu x m then some (x.find m) else none)
 else x.run p m
def Sc.step (p : b7) (x : Sc) : Option (Sc × gW) :=
 if ye x then
  if x.status ≠ 0 then some (x, .ev ⟨0, 0, 0, []⟩)
  else match x.d.draw 1 (x.c.M + 1) with
   | (d', .cT l) => some ({ x with d := d' }, .cT l)
   | (d', .num m) => (Sc.act p { x with d := d' } m).map hJ
 else none
section
variable {R : Mem} {L L' L2 : List HP} {M : Mem} {K : Value → Mem → Prop} {Kp : List PanicEntry → Mem → Prop} {pa : PA} {p : b7} {b wb db : Nat} {x : Sc} {m i : Int}
theorem HF (h : Hp R L M) [o : qg b L pa p wb db x L'] (hk : wu x m) (hd : x.d.k.Ok)
  (k : match (x.find m).2 with
   | .ev e => ∀ M', Hp R (az (eU pa p wb db) b (x.find m).1 :: L') M' → K (K0 e none 0) M'
   | .cT l => ∀ M', Hp R (az (eU pa p wb db) b (x.find m).1 :: L') M' → Kp l M') : aa Tryz.prog 110 #[.pointer (some ⟨b, 0, none⟩), .int .i64 m] M K Kp := by
 refine rR ?_
 have hk' := hk
 obtain ⟨m0, m1, i0, i1, W8, ht0, SW, Rp, hP, hP2⟩ := hk'
 have zN : x.d.Ok := ⟨hd, by omega⟩
 refine aq h ?_
 clear h
 intro k1 M h
 have h' := fj h (b := b)
 clear h
 obtain ⟨a, hl, h⟩ := h'
 obtain ⟨lb, hlb, jC, hrow⟩ := ql (i := (ax x m).p) hl i0 i1
 have jD := qm m0 m1
 have m2 : m.toNat < x.ms.length := by omega
 obtain ⟨q, hq⟩ := h.bF (A := a.ap) (l := bS a.lb x.ps) (by rw [kV hl]; omega) (by decide)
 obtain ⟨q2, lI⟩ := h.bF (A := a.am) (l := x.ms) (by omega) (by decide)
 replace h : Hp R (gI (dQ b wb db a x) x.gl :: az (bI pa p) wb x.w :: az (cK .nilFunc) db x.d :: b6 (some ⟨q, 0, none⟩) a.cp (bS a.lb x.ps) :: bg bJ a.lb (x.ps.map dm.q) :: cq (some ⟨q2, 0, none⟩) a.cm x.ms :: pt k1 [.int .i64 0, .int .i64 0, .int .i64 0, .slice none 0 0] 43 :: L') M := by
  unfold iP at h
  rw [show b6 a.ap a.cp (bS a.lb x.ps) = b6 (some ⟨q, 0, none⟩) a.cp (bS a.lb x.ps) from by rw [hq], show cq a.am a.cm x.ms = cq (some ⟨q2, 0, none⟩) a.cm x.ms from by rw [lI]] at h
  exact h.sub (by repeat (first | exact .refl | refine .cons (by repeat (first | exact .here | apply cZ.there)) ?_ | apply Sub.drop))
 rw [OD h]
 refine bk ?_
 rw [zM h]
 refine bk ⟨m0, m1, ?_⟩
 rw [lI]
 refine bp ?_
 refine aZ (Src.at (h.src (A := some ⟨q2, 0, none⟩)) h (i := m.toNat) (j := 0) jD rfl (by show _ = 0 + (m.toNat * 3 + 0); simp)) ?_
 refine ⟨i0, i1, ?_⟩
 rw [hq]
 refine bp ?_
 refine bk ⟨m0, m1, bp ?_⟩
 refine aZ (Src.at (h.src (A := some ⟨q2, 0, none⟩)) h (i := m.toNat) (j := 2) jD rfl (by show _ = 0 + (m.toNat * 3 + 2); omega)) ?_
 simp only [Nat.zero_add]
 have hno : ¬ (0 < (ax x m).left ∧ (ay x (ax x m).p).q.next ≠ -1) → (let y := (x.own (ax x m).p).1
   if (x.own (ax x m).p).2.2 = false ∧ 1 < x.c.P then match y.d.draw 2 x.c.P with
    | (d', .cT l) => ∀ M', Hp R (az (eU pa p wb db) b { y with d := d' } :: L') M' → Kp l M'
    | (d', .num v) =>
     let y := { y with d := d' }
     let s := (ay y (ax x m).p).q.c9 (ay y v).q
     let z := if v = (ax x m).p then y else (y.bT (ax x m).p { ay y (ax x m).p with q := s.1 }).bT v { ay y v with q := s.2.1 }
     let r := if v = (ax x m).p then (-1, false) else (s.2.2, fO (ay y v).q s.2.2)
     ∀ M', Hp R (az (eU pa p wb db) b (z.be m (ax x m).p 5 r.1 r.2).1 :: L') M' → K (K0 (z.be m (ax x m).p 5 r.1 r.2).2 none 0) M'
   else ∀ M', Hp R (az (eU pa p wb db) b (y.be m (ax x m).p 4 (x.own (ax x m).p).2.1 (x.own (ax x m).p).2.2).1 :: L') M' → K (K0 (y.be m (ax x m).p 4 (x.own (ax x m).p).2.1 (x.own (ax x m).p).2.2).2 none 0) M') := by
  intro hn
  unfold Sc.find at k
  dsimp only at k ⊢
  rw [if_neg hn] at k
  split
  ·rename_i hc
   rw [if_pos hc] at k
   split
   ·rename_i d' l jM
    rw [jM] at k
    exact k
   ·rename_i d' v jM
    rw [jM] at k
    dsimp only at k ⊢
    by_cases hv : v = (ax x m).p
    ·simp only [if_pos hv] at k ⊢
     exact k
    ·simp only [if_neg hv] at k ⊢
     exact k
  ·rename_i hc
   rw [if_neg hc] at k
   exact k
 refine aM.2 ⟨fun hgt => ?_, fun hle => ?_⟩
 ·refine mD (Src.at (h.src (A := some ⟨q, 0, none⟩)) h (i := (ax x m).p.toNat) (j := 0) hrow rfl (by show _ = 0 + ((ax x m).p.toNat * 3 + 0); simp)) ?_
  have SZ : (x.ps.map dm.q)[(ax x m).p.toNat]? = some (ay x (ax x m).p).q := by rw [List.getElem?_map, jC]; rfl
  have h3 := h.c6 bJ hlb SZ
  refine Hf h3 ?_
  refine cG ?_
  refine ⟨fun vs M => vs = [] ∧ (ay x (ax x m).p).q.next = -1 ∧ Hp R (gI (dQ b wb db a x) x.gl :: az (bI pa p) wb x.w :: az (cK .nilFunc) db x.d :: b6 (some ⟨q, 0, none⟩) a.cp (bS a.lb x.ps) :: bg bJ a.lb (x.ps.map dm.q) :: cq (some ⟨q2, 0, none⟩) a.cm x.ms :: pt k1 [.int .i64 0, .int .i64 0, .int .i64 0, .slice none 0 0] 43 :: L') M, ?_, ?_⟩
  ·refine eJ.2 ⟨fun hne => ?_, fun heq => ⟨rfl, by simpa using heq, h⟩⟩
   clear h3
   unfold Sc.find at k
   dsimp only at k
   rw [if_pos ⟨by omega, hne⟩] at k
   dsimp only at k
   refine mD (Src.at (h.src (A := some ⟨q, 0, none⟩)) h (i := (ax x m).p.toNat) (j := 0) hrow rfl (by show _ = 0 + ((ax x m).p.toNat * 3 + 0); simp)) ?_
   rw [show M.ld ⟨b, 6, none⟩ = some (.slice a.am x.ms.length a.cm) from zM h]
   refine bk ?_
   replace h := h.c6 bJ hlb SZ
   refine B6 h (b := lb) ?_
   clear h; intro t M _ _ h
   refine ⟨_, _, rfl, ?_⟩
   replace h := h.dN bJ lb hlb (by rw [List.length_map]; omega)
   replace h : Hp R (gI (dQ b wb db a x) x.gl :: az (bI pa p) wb x.w :: az (cK .nilFunc) db x.d :: b6 (some ⟨q, 0, none⟩) a.cp (bS a.lb x.ps) :: bg bJ a.lb ((x.ps.map dm.q).set (ax x m).p.toNat (ay x (ax x m).p).q.get.1) :: cq (some ⟨q2, 0, none⟩) a.cm x.ms :: pt k1 [.int .i64 0, .int .i64 0, .int .i64 0, .slice none 0 0] 43 :: L') M := h.sub (by repeat (first | exact .refl | refine .cons (by repeat (first | exact .here | apply cZ.there)) ?_ | apply Sub.drop))
   refine ⟨zM h, m0, m1, ?_⟩
   rw [lI]
   refine bp ?_
   refine gH (E := lO) (a' := ⟨(ax x m).p, (ay x (ax x m).p).q.get.2, (ax x m).left⟩) m.toNat 1 h jD (by decide) rfl (by show _ = m.toNat * 3 + 1; omega) ?_
   clear h; intro M h
   replace h : Hp R (gI (dQ b wb db a x) x.gl :: az (bI pa p) wb x.w :: az (cK .nilFunc) db x.d :: b6 (some ⟨q, 0, none⟩) a.cp (bS a.lb x.ps) :: bg bJ a.lb ((x.ps.map dm.q).set (ax x m).p.toNat (ay x (ax x m).p).q.get.1) :: cq (some ⟨q2, 0, none⟩) a.cm (x.ms.set m.toNat ⟨(ax x m).p, (ay x (ax x m).p).q.get.2, (ax x m).left⟩) :: pt k1 [.int .i64 0, .int .i64 0, .int .i64 0, .slice none 0 0] 43 :: L') M := h.sub (by repeat (first | exact .refl | refine .cons (by repeat (first | exact .here | apply cZ.there)) ?_ | apply Sub.drop))
   refine ⟨by have := zM h; rw [lI] at this; exact this, ?_⟩
   rw [show M.ld ⟨b, 6, none⟩ = some (.slice a.am x.ms.length a.cm) from zM h, lI]
   refine bk ⟨m0, m1, bp ?_⟩
   refine aZ (Src.at (h.src (A := some ⟨q2, 0, none⟩)) h (i := m.toNat) (j := 1) (a := ⟨(ax x m).p, (ay x (ax x m).p).q.get.2, (ax x m).left⟩) (by simp [m2]) rfl (by show _ = 0 + (m.toNat * 3 + 1); omega)) ?_
   dsimp only
   refine qj h ?_
   clear h; intro M h
   refine qk h ?_
   have e1 : bS a.lb (x.bT (ax x m).p { ay x (ax x m).p with q := (ay x (ax x m).p).q.get.1 }).ps = bS a.lb x.ps := zL jC rfl rfl
   have e2 : ((x.bT (ax x m).p { ay x (ax x m).p with q := (ay x (ax x m).p).q.get.1 }).ps).map dm.q = (x.ps.map dm.q).set (ax x m).p.toNat (ay x (ax x m).p).q.get.1 := by simp [Sc.bT, List.map_set]
   have h9 : Hp R (gI (dQ b wb db a ((x.bT (ax x m).p { ay x (ax x m).p with q := (ay x (ax x m).p).q.get.1 }).gV m { ax x m with g := (ay x (ax x m).p).q.get.2 })) x.gl :: az (bI pa p) wb x.w :: az (cK .nilFunc) db x.d :: b6 a.ap a.cp (bS a.lb ((x.bT (ax x m).p { ay x (ax x m).p with q := (ay x (ax x m).p).q.get.1 }).gV m { ax x m with g := (ay x (ax x m).p).q.get.2 }).ps) :: bg bJ a.lb (((x.bT (ax x m).p { ay x (ax x m).p with q := (ay x (ax x m).p).q.get.1 }).gV m { ax x m with g := (ay x (ax x m).p).q.get.2 }).ps.map dm.q) :: cq a.am a.cm (x.ms.set m.toNat ⟨(ax x m).p, (ay x (ax x m).p).q.get.2, (ax x m).left⟩) :: L') M := by
    rw [zK, zJ]
    show Hp R (_ :: _ :: _ :: b6 a.ap a.cp (bS a.lb (x.bT (ax x m).p { ay x (ax x m).p with q := (ay x (ax x m).p).q.get.1 }).ps) :: bg bJ a.lb ((x.bT (ax x m).p { ay x (ax x m).p with q := (ay x (ax x m).p).q.get.1 }).ps.map dm.q) :: _) M
    rw [e1, e2, hq, lI]
    exact h.sub (by repeat (first | exact .refl | refine .cons (by repeat (first | exact .here | apply cZ.there)) ?_ | apply Sub.drop))
   exact k _ (hH (a := a) (x := (x.bT (ax x m).p { ay x (ax x m).p with q := (ay x (ax x m).p).q.get.1 }).gV m { ax x m with g := (ay x (ax x m).p).q.get.2 }) (by simpa [Sc.bT, Sc.gV] using hl) h9)
  ·clear h h3
   rintro _ M ⟨_, ZF, h⟩
   exact Cc h hq lI hl hk rfl zN (hno (fun hc => hc.2 ZF))
 ·refine ⟨fun vs M => vs = [] ∧ Hp R (gI (dQ b wb db a x) x.gl :: az (bI pa p) wb x.w :: az (cK .nilFunc) db x.d :: b6 (some ⟨q, 0, none⟩) a.cp (bS a.lb x.ps) :: bg bJ a.lb (x.ps.map dm.q) :: cq (some ⟨q2, 0, none⟩) a.cm x.ms :: pt k1 [.int .i64 0, .int .i64 0, .int .i64 0, .slice none 0 0] 43 :: L') M, ⟨rfl, h⟩, ?_⟩
  clear h
  rintro _ M ⟨_, h⟩
  exact Cc h hq lI hl hk rfl zN (hno (fun hc => hle (by omega)))
end
theorem Cf {p : b7} {x : Wd} {k v : Int} {l : List PanicEntry} {y : Wd} : x.put p k v ≠ .cT l y := by
 unfold Wd.put; dsimp only; split <;> simp
theorem HG {p : b7} {x : Wd} {g : Int} {i : cI} {l : List PanicEntry} {y : Wd} (h : nS p x g i = some (.cT l y)) : False := by
 unfold nS at h
 by_cases e : i.op = 10
 ·rw [if_pos e] at h; obtain ⟨_, h⟩ := cN h; cases h
 rw [if_neg e] at h; clear e
 by_cases e : i.op = 11
 ·rw [if_pos e] at h; obtain ⟨_, h⟩ := cN h; unfold Wd.spawn at h; split at h <;> cases h
 rw [if_neg e] at h; clear e
 by_cases e : i.op = 13
 ·rw [if_pos e] at h; obtain ⟨_, h⟩ := cN h
  unfold Wd.send at h
  split at h
  ·cases h
  ·rename_i hp; exact Cf hp
  ·cases h
  ·cases h
 rw [if_neg e] at h; clear e
 by_cases e : i.op = 14
 ·rw [if_pos e] at h; obtain ⟨_, h⟩ := cN h; cases h
 rw [if_neg e] at h; clear e
 by_cases e : i.op = 15
 ·rw [if_pos e] at h; obtain ⟨_, h⟩ := cN h; unfold Wd.shut at h; dsimp only at h; split at h
  ·cases h
  ·split at h <;> cases h
 rw [if_neg e] at h; clear e
 by_cases e : i.op = 20
 ·rw [if_pos e] at h; obtain ⟨_, h⟩ := cN h; unfold Wd.emit at h; split at h <;> cases h
 rw [if_neg e] at h; clear e
 by_cases e : i.op = 9
 ·rw [if_pos e] at h; obtain ⟨_, h⟩ := cN h; unfold Wd.call at h; split at h <;> cases h
 rw [if_neg e] at h; clear e
 by_cases e : i.op = 12
 ·rw [if_pos e] at h; cases h
 rw [if_neg e] at h; clear e
 by_cases e : i.op = 17
 ·rw [if_pos e] at h; obtain ⟨_, h⟩ := cN h; cases h
 rw [if_neg e] at h; clear e
 by_cases e : i.op = 18
 ·rw [if_pos e] at h; obtain ⟨_, h⟩ := cN h; cases h
 rw [if_neg e] at h; clear e
 by_cases e : i.op = 19
 ·rw [if_pos e] at h; obtain ⟨_, h⟩ := cN h; unfold Wd.unlock at h; split at h
  ·cases h
  ·split at h <;> cases h
 rw [if_neg e] at h; clear e
 by_cases e : i.op = 22
 ·rw [if_pos e] at h; cases h
 rw [if_neg e] at h; cases h
theorem Cg {p : b7} {x : Wd} {g : Int} {d : jU} {l : List PanicEntry} {y : Wd} {rest : Bool} (h : w7 p x g d = some (.cT l y, rest)) : d = .cT l ∧ y = { x with ready := [] } := by
 unfold w7 at h
 dsimp only at h
 split at h
 ·split at h
  ·split at h
   ·cases h
   ·split at h
    ·cases h
    ·split at h
     ·split at h <;> cases h
     ·split at h
      ·split at h
       ·split at h
        ·rename_i hc
         simp only [Option.some.injEq, Prod.mk.injEq] at h
         obtain ⟨h, _⟩ := h
         unfold Wd.choose at h
         split at h
         ·cases h
         ·cases d with
          | cT l' => cases h; exact ⟨rfl, rfl⟩
          | num v =>
           dsimp only at h
           unfold Wd.qb at h
           dsimp only at h
           split at h
           ·split at h
            ·cases h
            ·rename_i hp; exact absurd hp Cf
            ·cases h
           ·cases h
        ·cases h
       ·cases h
      ·split at h
       ·split at h
        ·split at h
         ·simp only [Option.some.injEq, Prod.mk.injEq] at h
          obtain ⟨h, _⟩ := h
          cases d with
          | cT l' => cases h; exact ⟨rfl, rfl⟩
          | num v => cases h
         ·cases h
        ·cases h
       ·split at h
        ·cases h
        ·rename_i r hd
         split at h
         ·simp only [Option.some.injEq, Prod.mk.injEq] at h
          obtain ⟨h, _⟩ := h
          subst h
          exact (HG hd).elim
         ·cases h
  ·cases h
 ·cases h
theorem K5 {q : Loc} {r : Int} {gl : List Int} : (q.ready r gl).2.1.length ≤ gl.length + q.l.length + 1 := by
 unfold Loc.ready
 split
 ·dsimp only; omega
 ·unfold Loc.put
  dsimp only
  split
  ·dsimp only; omega
  ·dsimp only; simp; omega
section
variable {R : Mem} {L L' L2 : List HP} {M : Mem} {K : Value → Mem → Prop} {Kp : List PanicEntry → Mem → Prop} {pa : PA} {p : b7} {b wb db : Nat} {x : Sc} {m i : Int} {a : SA}
abbrev zO (fx : Nat) (kp : Bool) (A : Option Addr) (n c : Nat) : HP := pt fx [.bool kp, .slice A n c] 250
theorem Fh {q2 k1 fx c : Nat} {g : Int} {kp : Bool} {A : Option Addr} {rd : List Int}
  (h : Hp R (gI (dQ b wb db a x) x.gl :: az (bI pa p) wb x.w :: az (cK .nilFunc) db x.d :: b6 a.ap a.cp (bS a.lb x.ps) :: bg bJ a.lb (x.ps.map dm.q) :: cq (some ⟨q2, 0, none⟩) a.cm (x.ms.set m.toNat { ax x m with left := (ax x m).left - 1 }) :: zO fx kp A rd.length c :: pt k1 [.int .i64 0, .int .i64 0, .int .i64 0, .slice none 0 0] 43 :: L') M)
  (I7 : a.am = some ⟨q2, 0, none⟩) (hl : a.lb.length = x.ps.length) (m0 : 0 ≤ m) (m1 : m < x.ms.length) (g0 : 0 ≤ g) (g1 : g < x.w.gs.length) (W8 : x.gl.length ≤ 100000000)
  (k : ∀ M', Hp R (az (eU pa p wb db) b { x.gV m { ax x m with left := (ax x m).left - 1, g := -1 } with gl := if (aj x.w g).st = 1 then x.gl ++ [g] else x.gl } :: L') M' → K (K0 ⟨7, m, g, rd⟩ A c) M') :
  aK M ⟨q2, ((m.toNat * 3) + 1), none⟩ (.int .i64 (-1)) fun wY =>
  cy (Mem.ld wY ⟨b, 0, none⟩) fun Np =>
  aa Tryz.prog 119 #[(.pointer Np), (.int .i64 g)] wY (fun J3 xS =>
  aJ (some J3) .i64 fun GC =>
  aO (GC == 1)
   (bh xS (.cells #[(.int .i64 g)] 3 (0, 0)) fun sM GD =>
   aa Tryz.prog 58 #[(.pointer (some ⟨b, (0 + 7), none⟩)), (.slice (some ⟨sM, 0, none⟩) 1 1)] GD (fun Nv vT =>
   (Nv = (.tuple #[])) ∧
   aB (Mem.ld vT ⟨fx, (0 + 1), none⟩) fun QM Au Gr =>
   aK vT ⟨k1, 0, none⟩ (.int .i64 7) fun Aw =>
   aK Aw ⟨k1, (0 + 1), none⟩ (.int .i64 m) fun pD =>
   aK pD ⟨k1, (0 + 2), none⟩ (.int .i64 g) fun DF =>
   aK DF ⟨k1, (0 + 3), none⟩ (.slice QM Au Gr) fun vj =>
   aJ (Mem.ld vj ⟨k1, 0, none⟩) .i64 fun Gs =>
   aJ (Mem.ld vj ⟨k1, (0 + 1), none⟩) .i64 fun n64 =>
   aJ (Mem.ld vj ⟨k1, (0 + 2), none⟩) .i64 fun xT =>
   aB (Mem.ld vj ⟨k1, (0 + 3), none⟩) fun Nx xw xD =>
   K (.agg #[(.int .i64 Gs), (.int .i64 n64), (.int .i64 xT), (.slice Nx xw xD)]) vj) Kp)
   (aB (Mem.ld xS ⟨fx, (0 + 1), none⟩) fun U8 IC PE =>
   aK xS ⟨k1, 0, none⟩ (.int .i64 7) fun Sp =>
   aK Sp ⟨k1, (0 + 1), none⟩ (.int .i64 m) fun tN =>
   aK tN ⟨k1, (0 + 2), none⟩ (.int .i64 g) fun Ew =>
   aK Ew ⟨k1, (0 + 3), none⟩ (.slice U8 IC PE) fun AQ =>
   aJ (Mem.ld AQ ⟨k1, 0, none⟩) .i64 fun J7 =>
   aJ (Mem.ld AQ ⟨k1, (0 + 1), none⟩) .i64 fun CR =>
   aJ (Mem.ld AQ ⟨k1, (0 + 2), none⟩) .i64 fun C5 =>
   aB (Mem.ld AQ ⟨k1, (0 + 3), none⟩) fun TZ No T0 =>
   K (.agg #[(.int .i64 J7), (.int .i64 CR), (.int .i64 C5), (.slice TZ No T0)]) AQ)) Kp := by
 have jD := qm m0 m1
 have m2 : m.toNat < x.ms.length := by omega
 refine gH (E := lO) (a := { ax x m with left := (ax x m).left - 1 }) (a' := ⟨(ax x m).p, -1, (ax x m).left - 1⟩) m.toNat 1 h (by simp [m2]) (by decide) rfl (by show _ = m.toNat * 3 + 1; omega) ?_
 clear h; intro M h
 rw [iJ] at h
 replace h : Hp R (gI (dQ b wb db a x) x.gl :: az (bI pa p) wb x.w :: az (cK .nilFunc) db x.d :: b6 a.ap a.cp (bS a.lb x.ps) :: bg bJ a.lb (x.ps.map dm.q) :: cq (some ⟨q2, 0, none⟩) a.cm (x.ms.set m.toNat ⟨(ax x m).p, -1, (ax x m).left - 1⟩) :: zO fx kp A rd.length c :: pt k1 [.int .i64 0, .int .i64 0, .int .i64 0, .slice none 0 0] 43 :: L') M := h.sub bD
 rw [Zz h]
 refine js ?_
 refine uV h g0 g1 ?_
 refine cG ?_
 have fin : ∀ (Dq : List Int) (M : Mem), Dq = (if (aj x.w g).st = 1 then x.gl ++ [g] else x.gl) → Hp R (gI (dQ b wb db a x) Dq :: az (bI pa p) wb x.w :: az (cK .nilFunc) db x.d :: b6 a.ap a.cp (bS a.lb x.ps) :: bg bJ a.lb (x.ps.map dm.q) :: cq (some ⟨q2, 0, none⟩) a.cm (x.ms.set m.toNat ⟨(ax x m).p, -1, (ax x m).left - 1⟩) :: zO fx kp A rd.length c :: pt k1 [.int .i64 0, .int .i64 0, .int .i64 0, .slice none 0 0] 43 :: L') M →
   aB (Mem.ld M ⟨fx, (0 + 1), none⟩) fun QM Au Gr => aK M ⟨k1, 0, none⟩ (.int .i64 7) fun Aw => aK Aw ⟨k1, (0 + 1), none⟩ (.int .i64 m) fun pD => aK pD ⟨k1, (0 + 2), none⟩ (.int .i64 g) fun DF => aK DF ⟨k1, (0 + 3), none⟩ (.slice QM Au Gr) fun vj =>
   aJ (Mem.ld vj ⟨k1, 0, none⟩) .i64 fun Gs => aJ (Mem.ld vj ⟨k1, (0 + 1), none⟩) .i64 fun n64 => aJ (Mem.ld vj ⟨k1, (0 + 2), none⟩) .i64 fun xT => aB (Mem.ld vj ⟨k1, (0 + 3), none⟩) fun Nx xw xD =>
   K (.agg #[(.int .i64 Gs), (.int .i64 n64), (.int .i64 xT), (.slice Nx xw xD)]) vj := by
  intro Dq M hgl' h
  refine aS h ?_
  refine qj h ?_
  clear h; intro M h
  refine qk h ?_
  refine k _ (hH (a := a) (x := { x.gV m { ax x m with left := (ax x m).left - 1, g := -1 } with gl := if (aj x.w g).st = 1 then x.gl ++ [g] else x.gl }) hl ?_)
  rw [← hgl']
  have e1 : dQ b wb db a { x.gV m { ax x m with left := (ax x m).left - 1, g := -1 } with gl := Dq } = dQ b wb db a x := zK (x := x)
  rw [e1]
  show Hp R (_ :: _ :: _ :: _ :: _ :: cq a.am a.cm (x.ms.set m.toNat ⟨(ax x m).p, -1, (ax x m).left - 1⟩) :: _) M
  rw [I7]
  exact h.sub bD
 refine aR.2 ⟨fun e1 => ?_, fun e1 => ?_⟩
 ·refine aq h ?_
  clear h; intro sM M h
  replace h := (h.pt sM).lV (E := bB) (l := [g]) rfl
  replace h : Hp R (gI (dQ b wb db a x) x.gl :: lz (some ⟨sM, 0, none⟩) 1 [g] :: az (bI pa p) wb x.w :: az (cK .nilFunc) db x.d :: b6 a.ap a.cp (bS a.lb x.ps) :: bg bJ a.lb (x.ps.map dm.q) :: cq (some ⟨q2, 0, none⟩) a.cm (x.ms.set m.toNat ⟨(ax x m).p, -1, (ax x m).left - 1⟩) :: zO fx kp A rd.length c :: pt k1 [.int .i64 0, .int .i64 0, .int .i64 0, .slice none 0 0] 43 :: L') M := h.sub bD
  refine nQ (P := dQ b wb db a x) zG h (Src.row (A := some ⟨sM, 0, none⟩)) rfl (by simp; omega) ?_
  clear h; intro M h
  refine ⟨rfl, ?_⟩
  exact fin _ M (by rw [if_pos e1]) (h.sub bD)
 ·exact fin _ M (by rw [if_neg e1]) h
theorem fE {m : Int} : ∀ (l : List Int) (z : Sc), 0 ≤ (ax z m).p → (ax z m).p < z.ps.length → (l.foldl (aE m) z).ms = z.ms ∧ (l.foldl (aE m) z).ps.length = z.ps.length ∧ (l.foldl (aE m) z).w = z.w ∧ (l.foldl (aE m) z).d = z.d ∧ (l.foldl (aE m) z).c = z.c ∧ (l.foldl (aE m) z).steps = z.steps ∧ ∀ bs, bS bs (l.foldl (aE m) z).ps = bS bs z.ps
 | [], z, _, _ => ⟨rfl, rfl, rfl, rfl, rfl, rfl, fun _ => rfl⟩
 | r :: l, z, h0, h1 => by
  have hp : z.ps[(ax z m).p.toNat]? = some (ay z (ax z m).p) := by
   obtain ⟨y, hy⟩ := aP (l := z.ps) (i := (ax z m).p.toNat) (by omega)
   have e : ay z (ax z m).p = y := by simp [ay, hy]
   rw [e]; exact hy
  have PL : (aE m z r).ms = z.ms := rfl
  have hps : (aE m z r).ps.length = z.ps.length := by simp [aE, Sc.bT]
  have jD : ax (aE m z r) m = ax z m := rfl
  obtain ⟨a1, a2, a3, a4, a5, a6, a7⟩ := fE l (aE m z r) (by rw [jD]; exact h0) (by rw [jD, hps]; exact h1)
  refine ⟨a1, by rw [List.foldl_cons, a2, hps], a3, a4, a5, a6, fun bs => ?_⟩
  rw [List.foldl_cons, a7]
  exact zL hp rfl rfl
end
end Go.Proofs
