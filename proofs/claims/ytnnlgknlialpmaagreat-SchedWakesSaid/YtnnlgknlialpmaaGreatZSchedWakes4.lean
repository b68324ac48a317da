/- A part of proofs about one program. -/
import Derived.Test.YtnnlgknlialpmaaGreatZSchedWakes2
import Derived.Test.YtnnlgknlialpmaaGreatZSchedWakes3
set_option linter.unusedVariables false
namespace Go.Proofs
open Go.AF
set_option maxRecDepth 100000
set_option maxHeartbeats 1000000
attribute [local irreducible] aG cV fC b8 az e7 aD aF bh aW bG aO
def G1 : jO (Option Addr × Nat × Nat) := ⟨1, fun t => [.slice t.1 t.2.1 t.2.2], fun _ => rfl, fun w v hv => by simp only [List.mem_singleton] at hv; subst hv; rfl⟩
structure m5 (R : Mem) (pa : PA) (p : ck) : Prop where
 funcs : ∃ ts : List (Option Addr × Nat × Nat), RS G1 R pa.f pa.fc ts ∧ ts.length = p.funcs.length ∧ ∀ (i : Nat) t f, ts[i]? = some t → p.funcs[i]? = some f → RS BX R t.1 t.2.2 f ∧ t.2.1 = f.length
 cases : RS wG R pa.k pa.kc p.cases
theorem m5.le {R R' : Mem} {pa : PA} {p : ck} (h : m5 R pa p) (hle : R.le R') : m5 R' pa p := by
 obtain ⟨⟨ts, h1, h2, h3⟩, h4⟩ := h
 exact ⟨⟨ts, h1.le hle, h2, fun i t f a b => ⟨(h3 i t f a b).1.le hle, (h3 i t f a b).2⟩⟩, h4.le hle⟩
def Wd.next (x : Wd) (g : Int) : Wd := x.aY g ((ae x g).bW (ae x g).top.next)
def On (n : Int) : List PanicEntry := [{ v := .iface 340 (.int .i64 n), recovered := false }]
def fA (R : Mem) (pa : PA) (p : ck) (dr : Value) (ZP : Nat) (x : Wd) (g : Int) (i : cN) (r : Out Wd) (L L2 : List HP) : Prop :=
 ∀ (gg : List GA) (b bs c : Nat) (M : Mem) (K : Value → Mem → Prop) (Kp : List PanicEntry → Mem → Prop) (Q : HP), Hp R (ax (bg pa p gg dr) b x :: Q :: L) M → gg[g.toNat]? = some (some ⟨bs, 0, none⟩, c) →
  Out.Ok r (fun y => ∀ j4 M', Hp R (ax (bg pa p j4 dr) b y :: Q :: L2) M' → K (.tuple #[]) M') (fun n y => ∀ j4 M', Hp R (ax (bg pa p j4 dr) b y :: Q :: L2) M' → Kp (On n) M') (fun l y => ∀ j4 M', Hp R (ax (bg pa p j4 dr) b y :: Q :: L2) M' → Kp l M') →
  aa Tryz.prog ZP #[.pointer (some ⟨b, 0, none⟩), .int .i64 g, .pointer (some ⟨bs, ((ae x g).fs.length - 1) * 11, none⟩), .agg #[.int .i64 i.op, .int .i64 i.a, .int .i64 i.b, .int .i64 i.c]] M K Kp
theorem Out.Ok.mono {α : Type} {r : Out α} {k1 Vp : α → Prop} {k2 k2' : Int → Wd → Prop} {k3 : List PanicEntry → Wd → Prop} (h : r.Ok k1 k2 k3) (h1 : ∀ y, k1 y → Vp y) (h2 : ∀ n y, k2 n y → k2' n y) : r.Ok Vp k2' := by
 cases r with
 | on y => exact h1 y h
 | dM n y => exact h2 n y h
 | cQ l y => trivial
section
variable {R : Mem} {L L' L2 : List HP} {M : Mem} {K : Value → Mem → Prop} {Kp : List PanicEntry → Mem → Prop} {pa : PA} {p : ck} {gg : List GA} {dr : Value} {b : Nat} {x : Wd} {g : Int} {i : cN}
theorem MO (hp : m5 R pa p) (hk : Eb p x g i) (hs : x.Sm) : fA R pa p dr 215 x g i (x.send p g i) L L := fun gg b bs c M K Kp Q h dU k =>
 Ec h hp.cases dU hk hs (k.mono (fun y hy M' h' => hy gg M' h') (fun n y hy M' h' => hy gg M' h'))
theorem MP (hk : ue x g i) (hs : x.Sm) : fA R pa p dr 216 x g i (.on (x.recv g i)) L L := fun gg b bs c M K Kp Q h dU k =>
 Ed h dU hk hs fun M' h' => k gg M' h'
theorem MQ (hg : aU x g) (ha : bt i.a) (hs : x.Sm) : fA R pa p dr 221 x g i (x.emit g i) L L := fun gg b bs c M K Kp Q h dU k =>
 Ee h dU hg ha hs (k.mono (fun y hy M' h' => hy gg M' h') (fun n y hy M' h' => hy gg M' h'))
theorem J7 (hg : aU x g) (hb : bt i.b) (hc : bt i.c) (hs : x.Sm) : fA R pa p dr 213 x g i (x.spawn g i) L L := fun gg b bs c M K Kp Q h dU k =>
 Cn h dU hg hb hc hs (k.mono (fun y hy => hy) (fun n y hy M' h' => hy gg M' h'))
theorem MR (hp : m5 R pa p) (hk : mh p x i) (hs : x.Sm) : fA R pa p dr 217 x g i (x.shut p i) L L := fun gg b bs c M K Kp Q h dU k =>
 Eg (f := .nilFunc) h hp.cases hk hs (k.mono (fun y hy M' h' => hy gg M' h') (fun n y hy M' h' => hy gg M' h'))
def QZ : AL := [(9, .func (.func 211) #[] #[]), (10, .func (.func 212) #[] #[]), (11, .func (.func 213) #[] #[]), (12, .func (.func 214) #[] #[]), (13, .func (.func 215) #[] #[]), (14, .func (.func 216) #[] #[]), (15, .func (.func 217) #[] #[]), (17, .func (.func 218) #[] #[]), (18, .func (.func 219) #[] #[]), (19, .func (.func 220) #[] #[]), (20, .func (.func 221) #[] #[]), (22, .func (.func 222) #[] #[])]
theorem Cw (h : Hp R L M) (k : ∀ m M', Hp R (ob m (jR QZ) :: L) M' → K (.map (some m)) M') : aa Tryz.prog 193 #[] M K Kp := by
 refine wK ?_
 refine N2 h ?_
 clear h
 intro m M h
 replace h : Hp R (ob m (jR []) :: L) M := h
 have hu : Tryz.prog.underlying 345 = some (.map 25 344) := by kernel_rfl
 have hk : Tryz.prog.underlying 25 = some (.int .i64) := by kernel_rfl
 iterate 12
  refine uO h hu hk ?_
  clear h
  intro M h
 exact k _ _ h
end
theorem wW {α β : Type} : ∀ {l : List α} {m : List β} {i : Nat} {u : α} {v : β}, (l.zip m).set i (u, v) = (l.set i u).zip (m.set i v)
 | [], _, _, _, _ => by simp
 | a :: l, [], i, u, v => by simp
 | a :: l, w :: m, 0, u, v => rfl
 | a :: l, w :: m, i + 1, u, v => by
  have := wW (l := l) (m := m) (i := i) (u := u) (v := v)
  simp [this]
theorem sx {x : Wd} {g : Int} (h0 : 0 ≤ g) (h1 : g < x.gs.length) : x.aY g (ae x g) = x := by
 obtain ⟨y, hy⟩ := aK (l := x.gs) (i := g.toNat) (by omega)
 have e : ae x g = y := by simp [ae, hy]
 rw [e]
 obtain ⟨hi, rfl⟩ := List.getElem?_eq_some_iff.1 hy
 simp [Wd.aY]
section
variable {R : Mem} {L L' L2 : List HP} {M : Mem} {K : Value → Mem → Prop} {Kp : List PanicEntry → Mem → Prop} {pa : PA} {p : ck} {gg : List GA} {dr : Value} {b : Nat} {x : Wd} {g : Int} {i : cN}
theorem MS (hg : aU x g) (ha : bt i.a) (hin : bt (ae x g).top.bK) : fA R pa p dr 212 x g i (.on (x.back g i)) L L := by
 intro gg b bs c M K Kp Q h dU k
 refine pG ?_
 replace k : ∀ j4 M', Hp R (ax (bg pa p j4 dr) b (x.back g i) :: Q :: L) M' → K (.tuple #[]) M' := k
 have Ay := hg
 obtain ⟨h0, h1, h2, h3⟩ := Ay
 unfold Wd.back at k
 refine aj h ?_
 clear h
 intro kb M h
 have h' := fX h (b := b) h0 h1 dU
 clear h
 obtain ⟨a, gb, hl, fk, h⟩ := h'
 have hl' := hl
 obtain ⟨l1, l2, l3, l4⟩ := hl'
 repeat (first|(refine aj h ?_;clear h;intro kb M h)|(refine aq h ?_;clear h;intro M h)|refine St.to h ?_|(apply Exists.intro;(repeat apply Exists.intro);refine And.intro rfl ?_)|refine au ?_|refine af ?_|refine ai ?_)
 refine tw h fk fun q hq => ?_
 repeat (first|(refine aj h ?_;clear h;intro kb M h)|(refine aq h ?_;clear h;intro M h)|refine St.to h ?_|(apply Exists.intro;(repeat apply Exists.intro);refine And.intro rfl ?_)|refine au ?_|refine af ?_|refine ai ?_)
 refine ⟨ha.1, ha.2, sL h (dI h2) ha rfl ?_⟩
 refine Ax h h2 (by omega) (dI h2) hin ?_ ?_
 ·intro hlt
  rw [if_neg (by omega)] at k
  refine ⟨_, _, _, _, rfl, ai ?_⟩
  repeat (first|(refine aj h ?_;clear h;intro kb M h)|(refine aq h ?_;clear h;intro M h)|refine St.to h ?_|(apply Exists.intro;(repeat apply Exists.intro);refine And.intro rfl ?_)|refine au ?_|refine af ?_|refine ai ?_)
  refine tw h fk fun q2 o5 => ?_
  repeat (first|(refine aj h ?_;clear h;intro kb M h)|(refine aq h ?_;clear h;intro M h)|refine St.to h ?_|(apply Exists.intro;(repeat apply Exists.intro);refine And.intro rfl ?_)|refine au ?_|refine af ?_|refine ai ?_)
  refine bU.2 ⟨fun e0 => ?_, fun e0 => ?_⟩
  ·rw [if_pos e0] at k
   repeat (first|(refine aj h ?_;clear h;intro kb M h)|(refine aq h ?_;clear h;intro M h)|refine St.to h ?_|(apply Exists.intro;(repeat apply Exists.intro);refine And.intro rfl ?_)|refine au ?_|refine af ?_|refine ai ?_)
   replace h := cu h gb hl fk dU
   have kA := cC (y := { ae x g with st := 4 }) (g := g) hl
   replace h := aN (a := a) (p := p) (pa := pa) (dr := dr) (gg := gg) (x := { x.aY g { ae x g with st := 4 } with end_ := 1 }) kA h b
   exact k _ _ h.bP
  ·rw [if_neg e0] at k
   replace h := cu h gb hl fk dU
   have kA := cC (y := { ae x g with st := 4 }) (g := g) hl
   replace h := aN (a := a) (p := p) (pa := pa) (dr := dr) (gg := gg) (x := x.aY g { ae x g with st := 4 }) kA h b
   exact k _ _ h.bP
 ·intro hge b' c' M' fr hfr h'
  clear h
  have h := h'
  clear h'
  rw [if_pos hge] at k
  refine ⟨_, _, _, _, rfl, af ?_⟩
  repeat (first|(refine aj h ?_;clear h;intro kb M h)|(refine aq h ?_;clear h;intro M h)|refine St.to h ?_|(apply Exists.intro;(repeat apply Exists.intro);refine And.intro rfl ?_)|refine au ?_|refine af ?_|refine ai ?_)
  refine tw h fk fun q2 o5 => ?_
  repeat (first|(refine aj h ?_;clear h;intro kb M h)|(refine aq h ?_;clear h;intro M h)|refine St.to h ?_|(apply Exists.intro;(repeat apply Exists.intro);refine And.intro rfl ?_)|refine au ?_|refine af ?_|refine ai ?_)
  have hlen : (ae x g).fs.length - 1 = (((ae x g).fs.take ((ae x g).fs.length - 1)).set ((ae x g).fs.length - 2) (fr.set (ae x g).top.bK (aT x g i.a))).length := by simp
  have ZQ : (ae x g).fs.getD ((ae x g).fs.length - 2) ⟨0, 0, [], 0⟩ = fr := by rw [List.getD_eq_getElem?_getD, hfr]; rfl
  have h5 := lf (A := some ⟨b', 0, none⟩) (fs := ((ae x g).fs.take ((ae x g).fs.length - 1)).set ((ae x g).fs.length - 2) (fr.set (ae x g).top.bK (aT x g i.a))) h gb hlen
  have hi := (List.getElem?_eq_some_iff.1 fk).1
  have h6 := h5.dh eX gb fk (by rw [List.length_zip]; omega)
  rw [wW] at h6
  have kA : ee (gg.set g.toNat (some ⟨b', 0, none⟩, c')) a (x.aY g ((ae x g).back (aT x g i.a))) := ⟨by simpa [Wd.aY] using l1, by simpa [Wd.aY] using l2, l3, l4⟩
  have e : (ae x g).back (aT x g i.a) = ⟨(ae x g).st, ((ae x g).fs.take ((ae x g).fs.length - 1)).set ((ae x g).fs.length - 2) (fr.set (ae x g).top.bK (aT x g i.a)), (ae x g).wt⟩ := by
   unfold cT.back; rw [ZQ]
  rw [e] at kA k
  have h7 := aN (a := a) (p := p) (pa := pa) (dr := dr) (gg := gg.set g.toNat (some ⟨b', 0, none⟩, c')) (x := x.aY g ⟨(ae x g).st, ((ae x g).fs.take ((ae x g).fs.length - 1)).set ((ae x g).fs.length - 2) (fr.set (ae x g).top.bK (aT x g i.a)), (ae x g).wt⟩) kA h6 b
  exact k _ _ (h7.sub bM)
end
def Out.fin : Out Wd → Wd
 | .on y => y
 | .dM n y => { y with end_ := 2, code := n }
 | .cQ _ y => y
def wX (op : Int) : Out Wd → Bool
 | .on _ => op == 12 || op == 17
 | .dM _ _ => false
 | .cQ _ _ => false
inductive Step (R : Mem) (pa : PA) (p : ck) (dr : Value) (x : Wd) (g : Int) (code : List cN) : Out Wd → Bool → List HP → List HP → Prop where
 | out {L : List HP} (h : (code.length : Int) ≤ (ae x g).top.pc) : Step R pa p dr x g code (.dM (-7) x) false L L
 | pure {L : List HP} (i : cN) (h : code[(ae x g).top.pc.toNat]? = some i) (h0 : 0 ≤ i.op) (h8 : i.op ≤ 8) (hk : i.kD) : Step R pa p dr x g code (.on (x.aY g ((ae x g).bW ((ae x g).top.next.pure i)))) false L L
 | AB {L L2 : List HP} {r : Out Wd} (i : cN) (h : code[(ae x g).top.pc.toNat]? = some i) (qR : i.op = 16) (hs : fA R pa p dr 191 x g i r L L2) : Step R pa p dr x g code r false L L2
 | Q1 {L L2 : List HP} {r : Out Wd} (i : cN) (h : code[(ae x g).top.pc.toNat]? = some i) (Q2 : i.op = 21) (hs : fA R pa p dr 192 x g i r L L2) : Step R pa p dr x g code r false L L2
 | dflt {L L2 : List HP} {r : Out Wd} (i : cN) (fn : Nat) (h : code[(ae x g).top.pc.toNat]? = some i) (h8 : 8 < i.op) (qR : i.op ≠ 16) (Q2 : i.op ≠ 21) (hf : yn QZ i.op = some (.func (.func fn) #[] #[])) (hn : 1 < fn ∧ fn < 255)
   (hs : fA R pa p dr fn (x.next g) g i r L L2) : Step R pa p dr x g code r (wX i.op r) L L2
section
variable {R : Mem} {L L' L2 : List HP} {M : Mem} {K : Value → Mem → Prop} {Kp : List PanicEntry → Mem → Prop} {pa : PA} {p : ck} {gg : List GA} {dr : Value} {b : Nat} {x : Wd} {g : Int} {i : cN}
theorem Q3 {c bs j : Nat} {l : List fh} {f : fh} {G : Int → Prop} (h : Hp R L M) [q : cq (some ⟨bs, 0, none⟩) L fh jb 275 c l L'] (hi : l[j]? = some f) (g : G f.fn) : aG (M.ld ⟨bs, j * 11, none⟩) .i64 G := by
 refine bq (Src.at (h.src (A := some ⟨bs, 0, none⟩)) h (i := j) (j := 0) hi rfl ?_) g
 show _ = 0 + (j * 11 + 0); omega
theorem AD {n : Int} {v : Value} {Q : HP} (h : Hp R (ax (bg pa p gg dr) b x :: Q :: L) M) (k : ∀ M', Hp R (ax (bg pa p gg dr) b { x with end_ := 2, code := n } :: L) M' → K v M') :
  b9 Tryz.prog 188 (.pointer (some ⟨b, 0, none⟩)) K Kp v (.panicking (On n)) M := by
 refine D2 ?_
 have h' := bX h (b := b)
 clear h
 obtain ⟨a, hl, h⟩ := h'
 repeat (first|(refine aj h ?_;clear h;intro kb M h)|(refine aq h ?_;clear h;intro M h)|refine St.to h ?_|(apply Exists.intro;(repeat apply Exists.intro);refine And.intro rfl ?_)|refine au ?_|refine af ?_|refine ai ?_)
 exact k _ (iB (a := a) (x := { x with end_ := 2, code := n }) hl (h.sub bM))
theorem vJ {k : Nat} {bw : Nat} (h : Hp R L M) [o : jP k L [.int .i64 i.op, .int .i64 i.a, .int .i64 i.b, .int .i64 i.c] 27 L'] (g : K (.bool (i.op == 12 || i.op == 17)) M) :
  aG (M.ld ⟨k, 0, none⟩) .i64 fun n => aO (n == 12) (b9 Tryz.prog 188 (.pointer (some ⟨bw, 0, none⟩)) K Kp (.bool true) .returning M)
   (aG (M.ld ⟨k, 0, none⟩) .i64 fun n => b9 Tryz.prog 188 (.pointer (some ⟨bw, 0, none⟩)) K Kp (.bool (n == 17)) .returning M) := by
 have hp := h.pick o.pick
 refine aH hp ?_
 refine bU.2 ⟨fun e => ?_, fun e => ?_⟩
 ·rw [e] at g; exact Ca g
 ·refine aH hp ?_
  have : (i.op == 12) = false := by simpa using e
  rw [this, Bool.false_or] at g
  exact Ca g
def Ka (R : Mem) (pa : PA) (p : ck) (dr : Value) (b : Nat) (L2 : List HP) (K : Value → Mem → Prop) (Kp : List PanicEntry → Mem → Prop) (r : Out Wd) (rest : Bool) : Prop := match r with
 | .cQ l y => ∀ j4 M', Hp R (ax (bg pa p j4 dr) b y :: L2) M' → b9 Tryz.prog 188 (.pointer (some ⟨b, 0, none⟩)) K Kp (.bool false) (.panicking l) M'
 | .on y => ∀ j4 M', Hp R (ax (bg pa p j4 dr) b y :: L2) M' → K (.bool rest) M'
 | .dM n y => ∀ j4 M', Hp R (ax (bg pa p j4 dr) b { y with end_ := 2, code := n } :: L2) M' → K (.bool rest) M'
theorem Cy {code : List cN} {r : Out Wd} {rest : Bool} (h : Hp R L M) [o : uc b L pa p gg dr x L'] (hp : m5 R pa p) (hg : aU x g) (hfn : 0 ≤ (ae x g).top.fn) (iD : p.funcs[(ae x g).top.fn.toNat]? = some code)
  (vK : 0 ≤ (ae x g).top.pc ∧ (ae x g).top.pc < 1000000000) (hs : Step R pa p dr x g code r rest L' L2)
  (k : Ka R pa p dr b L2 K Kp r rest) : aa Tryz.prog 159 #[.pointer (some ⟨b, 0, none⟩), .int .i64 g] M K Kp := by
 refine sH ?_
 have Ay := hg
 obtain ⟨h0, h1, h2, h3⟩ := Ay
 have h' := iC h (b := b) h0 h1
 clear h
 obtain ⟨a, gb, A, c, hl, fk, dU, h⟩ := h'
 have hl' := hl
 obtain ⟨l1, l2, l3, l4⟩ := hl'
 obtain ⟨bs, rfl⟩ := h.bz (A := A) h2 (by decide)
 have Q4 : ∀ {M : Mem}, Hp R (pt gb (ov (ae x g) (some ⟨bs, 0, none⟩) c) 229 :: sK (some ⟨bs, 0, none⟩) c (ae x g).fs :: pt b (kF pa p dr a x) 161 :: j0 eX a.gb (x.gs.zip gg) g.toNat :: qh a x L') M → Hp R (ax (bg pa p gg dr) b x :: L') M := by
  intro M h
  replace h := cu h gb hl fk dU
  have kA := cC (y := ae x g) (g := g) hl
  replace h := aN (a := a) (p := p) (pa := pa) (dr := dr) (gg := gg) (x := x.aY g (ae x g)) kA h b
  rwa [sx h0 h1] at h
 repeat (first|(refine aj h ?_;clear h;intro kb M h)|(refine aq h ?_;clear h;intro M h)|refine St.to h ?_|(apply Exists.intro;(repeat apply Exists.intro);refine And.intro rfl ?_)|refine au ?_|refine af ?_|refine ai ?_)
 refine tw h fk fun q hq => ?_
 repeat (first|(refine aj h ?_;clear h;intro kb M h)|(refine aq h ?_;clear h;intro M h)|refine St.to h ?_|(apply Exists.intro;(repeat apply Exists.intro);refine And.intro rfl ?_)|refine au ?_|refine af ?_|refine ai ?_)
 refine kY h2 (by omega) ?_
 repeat (first|(refine aj h ?_;clear h;intro kb M h)|(refine aq h ?_;clear h;intro M h)|refine St.to h ?_|(apply Exists.intro;(repeat apply Exists.intro);refine And.intro rfl ?_)|refine au ?_|refine af ?_|refine ai ?_)
 refine Q3 h (dI h2) ?_
 obtain ⟨ts, hts, Vo, hrow⟩ := hp.funcs
 have hfl := (List.getElem?_eq_some_iff.1 iD).1
 obtain ⟨t, ht⟩ := aK (l := ts) (i := (ae x g).top.fn.toNat) (by omega)
 obtain ⟨vn, Oo⟩ := hrow _ t code ht iD
 obtain ⟨tA, tn, tc⟩ := t
 dsimp only at vn Oo
 subst Oo
 refine ⟨hfn, by omega, ?_⟩
 obtain ⟨fb, fo, hfb⟩ := hts.some (by omega) (by decide)
 rw [hfb] at hts ⊢
 refine bp ?_
 refine Pb (Src.at (hts.src (L := _)) h (i := (ae x g).top.fn.toNat) (j := 0) ht rfl (by simp [G1])) ?_
 dsimp only
 refine bp ?_
 refine wT h (dI h2) rfl ?_
 refine aM.2 ⟨fun hge => ?_, fun hlt => ?_⟩
 ·cases hs with
  | out _ =>
   have h5 : Hp R (ax (bg pa p gg dr) b x :: fact True :: L') M := (Hp.fa.2 ⟨trivial, Q4 h⟩).swap
   exact AD h5 fun M' h' => k gg M' h'
  | pure i hi => have := (List.getElem?_eq_some_iff.1 hi).1; omega
  | AB i hi => have := (List.getElem?_eq_some_iff.1 hi).1; omega
  | Q1 i hi => have := (List.getElem?_eq_some_iff.1 hi).1; omega
  | dflt i fn hi => have := (List.getElem?_eq_some_iff.1 hi).1; omega
 refine bp ?_
 refine wT h (dI h2) rfl ?_
 refine ⟨vK.1, by omega, ?_⟩
 obtain ⟨i, hi⟩ := aK (l := code) (i := (ae x g).top.pc.toNat) (by omega)
 obtain ⟨ib, io, rfl⟩ := vn.some (by omega) (by decide)
 refine bp ?_
 refine bq (Src.at (vn.src (L := _)) h (i := (ae x g).top.pc.toNat) (j := 0) hi rfl (by simp [BX])) ?_
 refine bq (Src.at (vn.src (L := _)) h (i := (ae x g).top.pc.toNat) (j := 1) hi rfl (by show _ = io + (_ * 4 + 1); omega)) ?_
 refine bq (Src.at (vn.src (L := _)) h (i := (ae x g).top.pc.toNat) (j := 2) hi rfl (by show _ = io + (_ * 4 + 2); omega)) ?_
 refine bq (Src.at (vn.src (L := _)) h (i := (ae x g).top.pc.toNat) (j := 3) hi rfl (by show _ = io + (_ * 4 + 3); omega)) ?_
 have hpure : i.kD ∧ 0 ≤ i.op ∨ 8 < i.op := by
  cases hs with
  | out h => omega
  | pure j hj a1 a2 a3 => rw [hi] at hj; cases hj; exact .inl ⟨a3, a1⟩
  | AB j hj a1 => rw [hi] at hj; cases hj; exact .inr (by omega)
  | Q1 j hj a1 => rw [hi] at hj; cases hj; exact .inr (by omega)
  | dflt j fn hj a1 => rw [hi] at hj; cases hj; exact .inr a1
 have hok : i.kD ∧ 0 ≤ i.op := by
  rcases hpure with h | h
  ·exact h
  ·exact ⟨⟨fun h => by simp at h; omega, fun h => by omega, fun h => by simp at h; omega⟩, by omega⟩
 refine aj h ?_
 clear h; intro ki M h
 refine aq h ?_
 clear h; intro M h
 refine aq h ?_
 clear h; intro M h
 refine aq h ?_
 clear h; intro M h
 refine aq h ?_
 clear h; intro M h
 refine aH h (aH h (aH h (aH h ?_)))
 refine D5 h (dI h2) hok.1 hok.2 vK ?_ ?_
 ·intro h8 M' h'
  clear h
  have h := h'
  clear h'
  refine mC (af ?_)
  cases hs with
  | out h => omega
  | AB j hj a1 => rw [hi] at hj; cases hj; omega
  | Q1 j hj a1 => rw [hi] at hj; cases hj; omega
  | dflt j fn hj a1 => rw [hi] at hj; cases hj; omega
  | pure j hj a1 a2 a3 =>
   rw [hi] at hj; cases hj
   replace h := cu h gb hl fk dU (by simp)
   have kA := cC (y := (ae x g).bW ((ae x g).top.next.pure i)) (g := g) hl
   have h5 := aN (a := a) (p := p) (pa := pa) (dr := dr) (gg := gg) (x := x.aY g ((ae x g).bW ((ae x g).top.next.pure i))) kA h b
   refine vJ h5 ?_
   have e1 : (i.op == 12) = false := by simp; omega
   have e2 : (i.op == 17) = false := by simp; omega
   rw [e1, e2]
   exact k gg _ h5.bP
 ·intro h8 M' h'
  clear h
  have h := h'
  clear h'
  refine mC (ai ?_)
  refine aH h ?_
  refine bU.2 ⟨fun Fg => ?_, fun Fg => ?_⟩
  ·refine aH h (aH h (aH h (aH h ?_)))
   cases hs with
   | out h => omega
   | pure j hj a1 a2 a3 => rw [hi] at hj; cases hj; omega
   | dflt j fn hj a1 a2 => rw [hi] at hj; cases hj; omega
   | Q1 j hj a1 => rw [hi] at hj; cases hj; omega
   | AB j hj a1 hop =>
    rw [hi] at hj; cases hj
    replace h := cu h gb hl fk dU
    have kA := cC (y := ae x g) (g := g) hl
    replace h := aN (a := a) (p := p) (pa := pa) (dr := dr) (gg := gg) (x := x.aY g (ae x g)) kA h b
    rw [sx h0 h1] at h
    refine hop gg b bs c M' _ _ _ h dU ?_
    cases r with
    | on y =>
     intro j4 M2 h
     refine ⟨rfl, vJ h ?_⟩
     have e1 : (i.op == 12) = false := by simp; omega
     have e2 : (i.op == 17) = false := by simp; omega
     rw [e1, e2]
     exact k j4 _ h.bP
    | dM n y =>
     intro j4 M2 h
     exact AD h fun M3 h3 => k j4 M3 h3
    | cQ l y =>
     intro j4 M2 h
     exact k j4 M2 h.bP
  ·refine aH h ?_
   refine bU.2 ⟨fun Sa => ?_, fun Sa => ?_⟩
   ·refine aH h (aH h (aH h (aH h ?_)))
    cases hs with
    | out h => omega
    | pure j hj a1 a2 a3 => rw [hi] at hj; cases hj; omega
    | AB j hj a1 => rw [hi] at hj; cases hj; omega
    | dflt j fn hj a1 a2 a3 => rw [hi] at hj; cases hj; omega
    | Q1 j hj a1 hop =>
     rw [hi] at hj; cases hj
     replace h := cu h gb hl fk dU
     have kA := cC (y := ae x g) (g := g) hl
     replace h := aN (a := a) (p := p) (pa := pa) (dr := dr) (gg := gg) (x := x.aY g (ae x g)) kA h b
     rw [sx h0 h1] at h
     refine hop gg b bs c M' _ _ _ h dU ?_
     cases r with
     | on y =>
      intro j4 M2 h
      refine ⟨rfl, vJ h ?_⟩
      have e1 : (i.op == 12) = false := by simp; omega
      have e2 : (i.op == 17) = false := by simp; omega
      rw [e1, e2]
      exact k j4 _ h.bP
     | dM n y =>
      intro j4 M2 h
      exact AD h fun M3 h3 => k j4 M3 h3
     | cQ l y =>
      intro j4 M2 h
      exact k j4 M2 h.bP
   cases hs with
   | out h => omega
   | pure j hj a1 a2 a3 => rw [hi] at hj; cases hj; omega
   | AB j hj a1 => rw [hi] at hj; cases hj; omega
   | Q1 j hj a1 => rw [hi] at hj; cases hj; omega
   | dflt j fn hj a1 a2 a3 hf hn hop =>
    rw [hi] at hj; cases hj
    refine bp ?_
    refine wT h (dI h2) rfl ?_
    refine bp ?_
    rw [ik vK.1 (by omega)]
    refine wU h (dI h2) rfl ?_
    clear h; intro M h
    refine aH h (aH h (aH h (aH h (aH h ?_))))
    refine Cw h ?_
    clear h; intro mp M h
    refine ⟨bx (bk h) (bx (bk h) (bx (bk h) (bx (bk h) dQ))), bk h, ?_⟩
    have hu : Tryz.prog.underlying 345 = some (.map 25 344) := by kernel_rfl
    have hkk : Tryz.prog.underlying 25 = some (.int .i64) := by kernel_rfl
    obtain ⟨ti, Vn, ZL⟩ : ∃ ti, Tryz.prog.info? 344 = some ti ∧ ti.zero = some .nilFunc := ⟨_, rfl, rfl⟩
    refine JS h hu hkk Vn ZL ?_
    rw [hf]
    refine ⟨bx (bk h) (bx (bk h) (bx (bk h) (bx (bk h) dQ))), bk h, ?_⟩
    refine Cg hn ?_
    replace h := cu h gb hl fk dU (by simp)
    have kA := cC (y := (ae x g).bW (ae x g).top.next) (g := g) hl
    have h5 := aN (a := a) (p := p) (pa := pa) (dr := dr) (gg := gg) (x := x.next g) kA h b
    have h6 : Hp R (ax (bg pa p gg dr) b (x.next g) :: pt ki [.int .i64 i.op, .int .i64 i.a, .int .i64 i.b, .int .i64 i.c] 27 :: L') M := h5.sub bM
    clear h h5
    have hfl : (ae (x.next g) g).fs.length = (ae x g).fs.length := by
     unfold Wd.next; rw [fW h0 h1]; simp [cT.bW]
    have hc := hop gg b bs c M (fun Jo oX => (Jo = (.tuple #[])) ∧ ((Mem.gp oX ⟨ki, 0, none⟩ 0 4) = some [(.int .i64 i.op), (.int .i64 i.a), (.int .i64 i.b), (.int .i64 i.c)]) ∧ ((Mem.ld oX ⟨ki, 0, none⟩) = (some (.int .i64 i.op))) ∧
     aG (oX.ld ⟨ki, 0, none⟩) .i64 fun n => aO (n == 12) (b9 Tryz.prog 188 (.pointer (some ⟨b, 0, none⟩)) K Kp (.bool true) .returning oX)
      (aG (oX.ld ⟨ki, 0, none⟩) .i64 fun n => b9 Tryz.prog 188 (.pointer (some ⟨b, 0, none⟩)) K Kp (.bool (n == 17)) .returning oX))
     (fun l M => b9 Tryz.prog 188 (.pointer (some ⟨b, 0, none⟩)) K Kp (.bool false) (.panicking l) M) _ h6 dU ?_
    ·rw [hfl] at hc
     exact hc
    cases r with
    | on y =>
     intro j4 M2 h
     exact ⟨rfl, bx (bk h) (bx (bk h) (bx (bk h) (bx (bk h) dQ))), bk h, vJ h (k j4 _ h.bP)⟩
    | dM n y =>
     intro j4 M2 h
     exact AD h fun M3 h3 => k j4 M3 h3
    | cQ l y =>
     intro j4 M2 h
     exact k j4 M2 h.bP
end
abbrev mq (pa : PA) (p : ck) (dr : Value) (a : WA) (x : Wd) (n : Nat) : List Value :=
 [.slice pa.f p.funcs.length pa.fc, .slice pa.c p.oZ.length pa.cc, .int .i64 p.aS, .slice pa.k p.cases.length pa.kc, .slice a.ag a.gb.length a.cg, .int .u64 x.clock,
  .slice a.ac a.cb.length a.cc, .slice a.al a.lb.length a.cl, .slice a.ah x.hl.length a.ch, .int .u64 x.jA, .slice a.ao x.out.length a.co, .int .i64 x.end_, .int .i64 x.code, .slice a.ar n a.cr, dr]
abbrev qS (a : WA) (x : Wd) (L : List HP) : List HP :=
 uP a.ag a.cg a.gb :: uQ a.ac a.cc a.cb :: aP br a.cb x.ay :: uR a.al a.cl a.lb :: aP eN a.lb x.aS :: dw a.ah a.ch x.hl :: qy a.ao a.co x.out :: L
def bu (pa : PA) (p : ck) : ru Wd := ⟨fun b x => exs fun q : WA × List GA × Value × Nat =>
 sep (pt b (mq pa p q.2.2.1 q.1 x q.2.2.2) 161 :: aP eX q.1.gb (x.gs.zip q.2.1) :: fact (ee q.2.1 q.1 x) :: qS q.1 x [])⟩
section
variable {R : Mem} {L L' L2 : List HP} {M : Mem} {K : Value → Mem → Prop} {Kp : List PanicEntry → Mem → Prop} {pa : PA} {p : ck} {gg : List GA} {dr : Value} {b : Nat} {x : Wd} {g : Int}
class En (b : Nat) (L : List HP) (pa : outParam PA) (p : outParam ck) (x : outParam Wd) (L' : outParam (List HP)) : Prop where
 pick : cy L (ax (bu pa p) b x) L'
instance En.here : En b (ax (bu pa p) b x :: L) pa p x L := ⟨.here⟩
instance (priority := low) En.there {Q : HP} [h : En b L pa p x L'] : En b (Q :: L) pa p x (Q :: L') := ⟨.there h.pick⟩
theorem dx (h : Hp R L M) [o : En b L pa p x L'] : ∃ (a : WA) (gg : List GA) (dr : Value) (n : Nat), ee gg a x ∧ Hp R (pt b (mq pa p dr a x n) 161 :: aP eX a.gb (x.gs.zip gg) :: qS a x L') M := by
 have := h.pick o.pick
 unfold ax at this
 simp only [bu, qS, Hp.dg, Hp.aQ, List.cons_append, List.nil_append] at this
 obtain ⟨⟨a, gg, dr, n⟩, h⟩ := this
 have h2 := h.pick (P := fact (ee gg a x)) (.there (.there .here))
 exact ⟨a, gg, dr, n, (Hp.fa.1 h2).1, (Hp.fa.1 h2).2⟩
theorem jc {a : WA} {n : Nat} (hl : ee gg a x) (h : Hp R (pt b (mq pa p dr a x n) 161 :: aP eX a.gb (x.gs.zip gg) :: qS a x L) M) : Hp R (ax (bu pa p) b x :: L) M := by
 refine Hp.u6 ?_
 simp only [bu, qS, Hp.dg, Hp.aQ, List.cons_append, List.nil_append]
 refine ⟨(a, gg, dr, n), ?_⟩
 have h2 : Hp R (fact (ee gg a x) :: pt b (mq pa p dr a x n) 161 :: aP eX a.gb (x.gs.zip gg) :: qS a x L) M := Hp.fa.2 ⟨hl, h⟩
 exact h2.lS (.there (.there .here))
def dZ (x : Wd) (g : Int) (rest : Bool) : Bool := !rest && x.end_ == 0 && (ae x g).st == 1
def zj (l l' : List PanicEntry) : Prop := ∀ (b : Nat) (v : Value) (M : Mem) (K : Value → Mem → Prop) (Kp : List PanicEntry → Mem → Prop), Kp l' M → b9 Tryz.prog 188 (.pointer (some ⟨b, 0, none⟩)) K Kp v (.panicking l) M
def pe (R : Mem) (pa : PA) (p : ck) (b : Nat) (g : Int) (L2 : List HP) (K : Value → Mem → Prop) (Kp : List PanicEntry → Mem → Prop) (r : Out Wd) (rest : Bool) : Prop := match r with
 | .cQ l y => ∃ l', zj l l' ∧ ∀ M', Hp R (ax (bu pa p) b y :: L2) M' → Kp l' M'
 | .on y => ∀ R' A c M', R.le R' → RS bB R' A c y.ready → Hp R' (ax (bu pa p) b y :: L2) M' → K (.agg #[.bool (dZ y g rest), .slice A y.ready.length c]) M'
 | .dM n y => ∀ R' A c M', R.le R' → RS bB R' A c y.ready → Hp R' (ax (bu pa p) b { y with end_ := 2, code := n } :: L2) M' → K (.agg #[.bool (dZ { y with end_ := 2, code := n } g rest), .slice A y.ready.length c]) M'
theorem Ka.of {r : Out Wd} {rest : Bool} (hd : ¬ ∃ l y, r = .cQ l y) (k : ∀ j4 M', Hp R (ax (bg pa p j4 dr) b r.fin :: L2) M' → K (.bool rest) M') : Ka R pa p dr b L2 K Kp r rest := by
 cases r with
 | on y => exact k
 | dM n y => exact k
 | cQ l y => exact absurd ⟨l, y, rfl⟩ hd
theorem pe.get {r : Out Wd} {rest : Bool} (hd : ¬ ∃ l y, r = .cQ l y) (k : pe R pa p b g L2 K Kp r rest) :
  ∀ R' A c M', R.le R' → RS bB R' A c r.fin.ready → Hp R' (ax (bu pa p) b r.fin :: L2) M' → K (.agg #[.bool (dZ r.fin g rest), .slice A r.fin.ready.length c]) M' := by
 cases r with
 | on y => exact k
 | dM n y => exact k
 | cQ l y => exact absurd ⟨l, y, rfl⟩ hd
theorem Eo {code : List cN} {r : Out Wd} {rest : Bool} (h : Hp R L M) [o : En b L pa p x L'] (hp : m5 R pa p) (hg : aU x g) (he : x.end_ = 0) (hst : (ae x g).st = 1)
  (hfn : 0 ≤ (ae x g).top.fn) (iD : p.funcs[(ae x g).top.fn.toNat]? = some code)
  (vK : 0 ≤ (ae x g).top.pc ∧ (ae x g).top.pc < 1000000000) (vo : ∃ f c d, dr = .func f c d) (hs : ∀ Q, Step R pa p dr { x with ready := [] } g code r rest (Q :: L') (Q :: L2)) (hlen : g < r.fin.gs.length)
  (k : pe R pa p b g L2 K Kp r rest) :
  aa Tryz.prog 121 #[.pointer (some ⟨b, 0, none⟩), .int .i64 g, dr] M K Kp := by
 refine iQ ?_
 have Ay := hg
 obtain ⟨h0, h1, h2, h3⟩ := Ay
 refine aj h ?_
 clear h
 intro kb M h
 have h' := dx h (b := b)
 clear h
 obtain ⟨a, gg, dr0, n0, hl, h⟩ := h'
 have hl' := hl
 obtain ⟨l1, l2, l3, l4⟩ := hl'
 refine aM.2 ⟨fun hn => by omega, fun _ => ?_⟩
 refine bj h ?_
 refine aM.2 ⟨fun hn => by omega, fun _ => ?_⟩
 refine aH h ?_
 refine de.2 ⟨fun hn => absurd he hn, fun _ => ?_⟩
 refine bj h ?_
 refine ⟨h0, by omega, ?_⟩
 obtain ⟨gb, fk⟩ := aK (l := a.gb) (i := g.toNat) (by omega)
 refine tw h fk fun q hq => ?_
 obtain ⟨ga, MT⟩ := aK (l := gg) (i := g.toNat) (by omega)
 obtain ⟨y, hy⟩ := aK (l := x.gs) (i := g.toNat) (by omega)
 have ey : ae x g = y := by simp [ae, hy]
 rw [ey] at hst
 refine bp ?_
 have Kb : M.ld ⟨gb, 0, none⟩ = some (.int .i64 y.st) := by
  have h9 := kZ (b := gb) (h.cB eX fk (me hy MT))
  exact bk h9
 rw [Kb]
 refine cE ?_
 refine de.2 ⟨fun hn => absurd hst hn, fun _ => ?_⟩
 refine aq h ?_
 clear h Kb; intro M h
 have ZR : ∀ X : Prop, X → yw dr X := by
  obtain ⟨f, c, d, rfl⟩ := vo
  intro X hX; exact hX
 refine ZR _ ?_
 refine aq h ?_
 clear h; intro M h
 have h4 := h.cz bB 3
 have h5 : Hp R (ax (bg pa p gg dr) b { x with ready := [] } :: pt kb [.bool false, .slice none 0 0] 250 :: L') M := iB (a := { a with ar := none, cr := 0 }) (x := { x with ready := [] }) hl (h4.sub bM)
 clear h h4
 by_cases Ep : ∃ l y, r = .cQ l y
 ·obtain ⟨l, y, rfl⟩ := Ep
  refine Cy (b := b) (x := { x with ready := [] }) h5 hp hg hfn iD vK (hs _) ?_
  clear h5
  intro j4 M h
  obtain ⟨l', ZS, k⟩ := k
  refine ZS _ _ _ _ _ (k _ ?_)
  have h' := bX h (b := b)
  clear h
  obtain ⟨a2, kA, h⟩ := h'
  exact jc (a := a2) (n := y.ready.length) (gg := j4) (dr := dr) kA (h.sub bM)
 refine Cy (b := b) (x := { x with ready := [] }) h5 hp hg hfn iD vK (hs _) (.of Ep ?_)
 clear h5
 intro j4 M h
 replace k := pe.get Ep k
 generalize r.fin = z at h k hlen
 have h' := bX h (b := b)
 clear h
 obtain ⟨a2, kA, h⟩ := h'
 have QU := kA
 obtain ⟨m1, m2, m3, m4⟩ := QU
 have fin : ∀ t : Bool, t = dZ z g rest → aF M ⟨kb, 0, none⟩ (.bool t) fun Py =>
    aF Py ⟨kb, (0 + 1), none⟩ (.slice a2.ar z.ready.length a2.cr) fun tv =>
    cV (Mem.ld tv ⟨kb, 0, none⟩) fun t60 =>
    az (Mem.ld tv ⟨kb, (0 + 1), none⟩) fun Tt Tu Og =>
    K (.agg #[(.bool t60), (.slice Tt Tu Og)]) tv := by
  intro t ht
  refine aq h ?_
  clear h; intro M h
  refine aq h ?_
  clear h; intro M h
  refine E1 h (bj h ?_)
  obtain ⟨R', hle, uT, h6⟩ := h.eo a2.ar
  subst ht
  exact k R' _ _ _ hle uT (jc (a := a2) (n := z.ready.length) (gg := j4) (dr := dr) kA (h6.sub bM))
 refine mC ?_
 cases rest with
 | true =>
  refine ai ?_
  refine bj h ?_
  exact fin false (by simp [dZ])
 | false =>
  refine af ?_
  refine aH h ?_
  refine bU.2 ⟨fun e0 => ?_, fun e0 => ?_⟩
  ·refine bj h ?_
   refine ⟨h0, by omega, ?_⟩
   obtain ⟨gb2, Uk⟩ := aK (l := a2.gb) (i := g.toNat) (by omega)
   refine tw h Uk fun q2 o5 => ?_
   obtain ⟨ga2, ZT⟩ := aK (l := j4) (i := g.toNat) (by omega)
   obtain ⟨y2, hy2⟩ := aK (l := z.gs) (i := g.toNat) (by omega)
   have ey2 : ae z g = y2 := by simp [ae, hy2]
   refine bp ?_
   have Kb : M.ld ⟨gb2, 0, none⟩ = some (.int .i64 y2.st) := by
    have h9 := kZ (b := gb2) (h.cB eX Uk (me hy2 ZT))
    exact bk h9
   rw [Kb]
   refine cE ?_
   refine bj h ?_
   exact fin (y2.st == 1) (by simp [dZ, e0, ey2])
  ·refine bj h ?_
   have : (z.end_ == 0) = false := by simpa using e0
   exact fin false (by simp [dZ, this])
end
section
variable {R : Mem} {L L' L2 : List HP} {M : Mem} {K : Value → Mem → Prop} {Kp : List PanicEntry → Mem → Prop} {pa : PA} {p : ck} {gg : List GA} {dr : Value} {b : Nat} {x : Wd} {g : Int}
theorem G2 (h : Hp R L M) [o : En b L pa p x L'] (k : K (.tuple #[.int .i64 x.end_, .int .i64 x.code]) M) : aa Tryz.prog 28 #[.pointer (some ⟨b, 0, none⟩)] M K Kp := by
 refine qA ?_
 have h' := dx h (b := b)
 clear h
 obtain ⟨a, gg, dr, n, hl, h⟩ := h'
 refine aH h (aH h ?_)
 exact k
theorem AE (h : Hp R L M) [o : En b L pa p x L'] (h0 : 0 ≤ g) (h1 : g < x.gs.length) (k : K (.int .i64 (ae x g).st) M) : aa Tryz.prog 119 #[.pointer (some ⟨b, 0, none⟩), .int .i64 g] M K Kp := by
 refine mP ?_
 have h' := dx h (b := b)
 clear h
 obtain ⟨a, gg, dr, n, hl, h⟩ := h'
 have hl' := hl
 obtain ⟨l1, l2, l3, l4⟩ := hl'
 refine aM.2 ⟨fun hn => by omega, fun _ => ?_⟩
 refine bj h ?_
 refine aM.2 ⟨fun hn => by omega, fun _ => ?_⟩
 refine bj h ?_
 refine ⟨h0, by omega, ?_⟩
 obtain ⟨gb, fk⟩ := aK (l := a.gb) (i := g.toNat) (by omega)
 refine tw h fk fun q hq => ?_
 obtain ⟨ga, MT⟩ := aK (l := gg) (i := g.toNat) (by omega)
 obtain ⟨y, hy⟩ := aK (l := x.gs) (i := g.toNat) (by omega)
 have ey : ae x g = y := by simp [ae, hy]
 rw [ey] at k
 refine bp ?_
 have Kb : M.ld ⟨gb, 0, none⟩ = some (.int .i64 y.st) := by
  have h9 := kZ (b := gb) (h.cB eX fk (me hy MT))
  exact bk h9
 rw [Kb]
 exact cE k
theorem G3 (h : Hp R L M) [o : En b L pa p x L'] (hs : x.out.length ≤ 1000000) (k : ∀ A c M', Hp R (qy A c x.out :: L) M' → K (.slice A x.out.length c) M') : aa Tryz.prog 23 #[.pointer (some ⟨b, 0, none⟩)] M K Kp := by
 refine qB ?_
 refine aj h ?_
 clear h; intro kb M h
 have hC := h
 have h' := dx h (b := b)
 clear h
 obtain ⟨a, gg, dr, n, hl, h⟩ := h'
 refine bj h ?_
 have hsrc : Sl M a.ao (bB.cells x.out) := (h.src (A := a.ao)) M h
 clear h
 have Ul : Hp R (bV bB 2 (some ⟨kb, 0, none⟩) ([] : List Int).length [] :: L) M := hC.fz rfl
 refine Hp.D4 Ul (l := []) wE hsrc rfl (by simp; omega) ?_
 clear hC Ul hsrc
 intro A' c' M h
 exact aR (k _ _ _ h)
end
def Wd.new (p : ck) : Wd := ⟨[⟨1, [fh.begin 0 0], .zero⟩], 0, p.oZ.map aL.new, List.replicate p.aS.toNat ⟨-1, []⟩, [], 0, [], 0, 0, []⟩
theorem Oq : bA Tryz.prog 156 230 1 8 [.pointer none] := bA.mk' (zv := .pointer none) (by kernel_rfl) (by kernel_rfl) rfl (by omega)
theorem Ot : bA Tryz.prog 157 232 1 8 [.pointer none] := bA.mk' (zv := .pointer none) (by kernel_rfl) (by kernel_rfl) rfl (by omega)
section
variable {R : Mem} {L L' L2 : List HP} {M : Mem} {K : Value → Mem → Prop} {Kp : List PanicEntry → Mem → Prop} {pa : PA} {p : ck} {gg : List GA} {dr : Value} {b : Nat} {x : Wd} {g : Int}
theorem Kc {j : Nat} {q A' : Nat} {c' : Nat} {v : Int} {a : WA} {n k : Nat} {Ac : Option Addr} {Q : List HP} (hl : ee gg a x)
  (h : Hp R (pt b (mq pa p dr { a with ac := Ac, cc := c', cb := a.cb ++ [k] } x n) 161 :: uQ Ac c' (a.cb ++ [k]) :: ax br k (aL.new v) :: aP br a.cb x.ay :: aP eX a.gb (x.gs.zip gg) :: uP a.ag a.cg a.gb :: uR a.al a.cl a.lb :: aP eN a.lb x.aS :: dw a.ah a.ch x.hl :: qy a.ao a.co x.out :: Q) M) :
  Hp R (ax (bu pa p) b { x with ay := x.ay ++ [aL.new v] } :: Q) M := by
 obtain ⟨l1, l2, l3, l4⟩ := hl
 have h2 := h.jk br k l3
 exact jc (a := { a with ac := Ac, cc := c', cb := a.cb ++ [k] }) (gg := gg) (dr := dr) (n := n) (x := { x with ay := x.ay ++ [aL.new v] }) ⟨l1, l2, by simp [l3], l4⟩ (h2.sub bM)
theorem Kd {c' : Nat} {a : WA} {n k : Nat} {Ac : Option Addr} {Q : List HP} (hl : ee gg a x)
  (h : Hp R (pt b (mq pa p dr { a with al := Ac, cl := c', lb := a.lb ++ [k] } x n) 161 :: uR Ac c' (a.lb ++ [k]) :: ax eN k ⟨-1, []⟩ :: aP eN a.lb x.aS :: aP eX a.gb (x.gs.zip gg) :: uP a.ag a.cg a.gb :: uQ a.ac a.cc a.cb :: aP br a.cb x.ay :: dw a.ah a.ch x.hl :: qy a.ao a.co x.out :: Q) M) :
  Hp R (ax (bu pa p) b { x with aS := x.aS ++ [⟨-1, []⟩] } :: Q) M := by
 obtain ⟨l1, l2, l3, l4⟩ := hl
 have h2 := h.jk eN k l4
 exact jc (a := { a with al := Ac, cl := c', lb := a.lb ++ [k] }) (gg := gg) (dr := dr) (n := n) (x := { x with aS := x.aS ++ [⟨-1, []⟩] }) ⟨l1, l2, l3, by simp [l4]⟩ (h2.sub bM)
theorem G4 (h : Hp R L M) (vI : RS bB R pa.c pa.cc p.oZ) (hc : p.oZ.length ≤ 1000000) (hk : 0 ≤ p.aS ∧ p.aS ≤ 1000000)
  (k : ∀ b M', Hp R (ax (bu pa p) b (Wd.new p) :: L) M' → K (.pointer (some ⟨b, 0, none⟩)) M') :
  aa Tryz.prog 56 #[.agg #[.slice pa.f p.funcs.length pa.fc, .slice pa.c p.oZ.length pa.cc, .int .i64 p.aS, .slice pa.k p.cases.length pa.kc]] M K Kp := by
 refine Ah ?_
 repeat (first|(refine aj h ?_;clear h;intro kb M h)|(refine aq h ?_;clear h;intro M h)|refine St.to h ?_|(apply Exists.intro;(repeat apply Exists.intro);refine And.intro rfl ?_)|refine au ?_|refine af ?_|refine ai ?_)
 refine ou h ?_
 clear h
 intro bs M h
 repeat (first|(refine aj h ?_;clear h;intro kb M h)|(refine aq h ?_;clear h;intro M h)|refine St.to h ?_|(apply Exists.intro;(repeat apply Exists.intro);refine And.intro rfl ?_)|refine au ?_|refine af ?_|refine ai ?_)
 rename_i kp _ _ kr _ kw _
 replace h := lf h kr
 replace h := (h.sk eX).jk eX kr rfl
 replace h := (h.pt kw).fz (E := kq) (l := [kr]) rfl
 replace h := (h.cz kq 230).sk br
 replace h := (h.cz kq 232).sk eN
 replace h := (h.cz nL 203).cz bB 2
 have base : Hp R (ax (bu pa p) kb { Wd.new p with ay := (p.oZ.take 0).map aL.new, aS := [] } :: pt kp [.slice pa.f p.funcs.length pa.fc, .slice pa.c p.oZ.length pa.cc, .int .i64 p.aS, .slice pa.k p.cases.length pa.kc] 39 :: L) _ :=
  jc (a := ⟨some ⟨kw, 0, none⟩, 1, [kr], none, 0, [], none, 0, [], none, 0, none, 0, none, 0⟩) (gg := [(some ⟨bs, 0, none⟩, 1)]) (dr := .nilFunc) (n := 0) (x := { Wd.new p with ay := [], aS := [] }) ⟨rfl, rfl, rfl, rfl⟩ (h.sub bM)
 clear h
 refine ⟨fun d vs M => ∃ j : Nat, vs = [.int .i64 (j : Int)] ∧ d = p.oZ.length - j ∧ j ≤ p.oZ.length ∧ Hp R (ax (bu pa p) kb { Wd.new p with ay := (p.oZ.take j).map aL.new, aS := [] } :: pt kp [.slice pa.f p.funcs.length pa.fc, .slice pa.c p.oZ.length pa.cc, .int .i64 p.aS, .slice pa.k p.cases.length pa.kc] 39 :: L) M,
  ⟨_, 0, rfl, rfl, by omega, base⟩, ?_⟩
 clear base
 rintro d _ nn M ⟨j, he, hd, hj, h⟩
 simp only [List.cons.injEq, Value.int.injEq, and_true, true_and] at he
 subst he
 refine aM.2 ⟨fun hlt => ?_, fun hge => ?_⟩
 ·obtain ⟨v, hv⟩ := aK (l := p.oZ) (i := j) (by omega)
  have Uh : (p.oZ.take (j + 1)).map aL.new = (p.oZ.take j).map aL.new ++ [aL.new v] := by rw [dN hv, List.map_append]; rfl
  have AG : ((p.oZ.take j).map aL.new).length ≤ 1000000 := by simp; omega
  rw [bn (by omega)]
  refine ⟨by omega, hlt, ?_⟩
  obtain ⟨cb, co, hcb⟩ := vI.some (by omega) (by decide)
  have Um := vI
  rw [hcb] at Um ⊢
  refine bp ?_
  simp only [Int.toNat_natCast]
  refine bq (Src.at (Um.src (L := _)) h (i := j) (j := 0) hv rfl (by simp [bB])) ?_
  refine ⟨fun _ M => Hp R (ax (bu pa p) kb { Wd.new p with ay := (p.oZ.take j).map aL.new ++ [aL.new v], aS := [] } :: pt kp [.slice pa.f p.funcs.length pa.fc, .slice pa.c p.oZ.length pa.cc, .int .i64 p.aS, .slice pa.k p.cases.length pa.kc] 39 :: L) M, ⟨?_, ?_, trivial⟩, ?_⟩
  ·have h' := dx h (b := kb)
   clear h
   obtain ⟨a, gg, dr, n, hl, h⟩ := h'
   have Q5 : a.cb.length = ((p.oZ.take j).map aL.new).length := hl.2.2.1
   refine bj h ?_
   refine yV h ?_
   clear h
   intro kc M h
   repeat (first|(refine aj h ?_;clear h;intro kb M h)|(refine aq h ?_;clear h;intro M h)|refine St.to h ?_|(apply Exists.intro;(repeat apply Exists.intro);refine And.intro rfl ?_)|refine au ?_|refine af ?_|refine ai ?_)
   refine h.bF Oq [kc] rfl rfl (by simp only [List.length_singleton]; omega) ?_
   clear h
   intro A' c' M h
   repeat (first|(refine aj h ?_;clear h;intro kb M h)|(refine aq h ?_;clear h;intro M h)|refine St.to h ?_|(apply Exists.intro;(repeat apply Exists.intro);refine And.intro rfl ?_)|refine au ?_|refine af ?_|refine ai ?_)
   exact Kc (j := j) (q := j) (A' := j) (a := a) (x := { Wd.new p with ay := (p.oZ.take j).map aL.new, aS := [] }) hl (h.sub bM)
  ·have h' := dx h (b := kb)
   clear h
   obtain ⟨a, gg, dr, n, hl, h⟩ := h'
   have Q5 : a.cb.length = ((p.oZ.take j).map aL.new).length := hl.2.2.1
   refine yV h ?_
   clear h
   intro kc M h
   repeat (first|(refine aj h ?_;clear h;intro kb M h)|(refine aq h ?_;clear h;intro M h)|refine St.to h ?_|(apply Exists.intro;(repeat apply Exists.intro);refine And.intro rfl ?_)|refine au ?_|refine af ?_|refine ai ?_)
   refine h.bF Oq [kc] rfl rfl (by simp only [List.length_singleton]; omega) ?_
   clear h
   intro A' c' M h
   repeat (first|(refine aj h ?_;clear h;intro kb M h)|(refine aq h ?_;clear h;intro M h)|refine St.to h ?_|(apply Exists.intro;(repeat apply Exists.intro);refine And.intro rfl ?_)|refine au ?_|refine af ?_|refine ai ?_)
   exact Kc (j := j) (q := j) (A' := j) (a := a) (x := { Wd.new p with ay := (p.oZ.take j).map aL.new, aS := [] }) hl (h.sub bM)
  ·clear h
   intro _ M h
   refine ⟨p.oZ.length - (j + 1), by omega, j + 1, rfl, rfl, by omega, ?_⟩
   rw [Uh, ← hcb]; exact h
 ·obtain rfl : j = p.oZ.length := by omega
  rw [List.take_length] at h
  refine aH h ?_
  obtain ⟨nl, hnl⟩ := Int.eq_ofNat_of_zero_le hk.1
  refine ⟨fun d vs M => ∃ j : Nat, vs = [.int .i64 (j : Int)] ∧ d = nl - j ∧ j ≤ nl ∧ Hp R (ax (bu pa p) kb { Wd.new p with aS := List.replicate j ⟨-1, []⟩ } :: pt kp [.slice pa.f p.funcs.length pa.fc, .slice pa.c p.oZ.length pa.cc, .int .i64 p.aS, .slice pa.k p.cases.length pa.kc] 39 :: L) M,
   ⟨_, 0, rfl, rfl, by omega, h⟩, ?_⟩
  clear h
  rintro d _ nn M ⟨j, he, hd, hj, h⟩
  simp only [List.cons.injEq, Value.int.injEq, and_true, true_and] at he
  subst he
  refine aM.2 ⟨fun hlt => ?_, fun hge => ?_⟩
  ·have Uh : List.replicate (j + 1) (⟨-1, []⟩ : Lk) = List.replicate j ⟨-1, []⟩ ++ [⟨-1, []⟩] := List.replicate_succ'
   rw [bn (by omega)]
   refine ⟨fun _ M => Hp R (ax (bu pa p) kb { Wd.new p with aS := List.replicate j ⟨-1, []⟩ ++ [⟨-1, []⟩] } :: pt kp [.slice pa.f p.funcs.length pa.fc, .slice pa.c p.oZ.length pa.cc, .int .i64 p.aS, .slice pa.k p.cases.length pa.kc] 39 :: L) M, ⟨?_, ?_, trivial⟩, ?_⟩
   ·have h' := dx h (b := kb)
    clear h
    obtain ⟨a, gg, dr, n, hl, h⟩ := h'
    have Q5 : a.lb.length = (List.replicate j (⟨-1, []⟩ : Lk)).length := hl.2.2.2
    rw [List.length_replicate] at Q5
    refine bj h ?_
    refine y9 h ?_
    clear h
    intro kc M h
    repeat (first|(refine aj h ?_;clear h;intro kb M h)|(refine aq h ?_;clear h;intro M h)|refine St.to h ?_|(apply Exists.intro;(repeat apply Exists.intro);refine And.intro rfl ?_)|refine au ?_|refine af ?_|refine ai ?_)
    refine h.bF Ot [kc] rfl rfl (by simp only [List.length_singleton]; omega) ?_
    clear h
    intro A' c' M h
    repeat (first|(refine aj h ?_;clear h;intro kb M h)|(refine aq h ?_;clear h;intro M h)|refine St.to h ?_|(apply Exists.intro;(repeat apply Exists.intro);refine And.intro rfl ?_)|refine au ?_|refine af ?_|refine ai ?_)
    exact Kd (a := a) (x := { Wd.new p with aS := List.replicate j ⟨-1, []⟩ }) hl (h.sub bM)
   ·have h' := dx h (b := kb)
    clear h
    obtain ⟨a, gg, dr, n, hl, h⟩ := h'
    have Q5 : a.lb.length = (List.replicate j (⟨-1, []⟩ : Lk)).length := hl.2.2.2
    rw [List.length_replicate] at Q5
    refine y9 h ?_
    clear h
    intro kc M h
    repeat (first|(refine aj h ?_;clear h;intro kb M h)|(refine aq h ?_;clear h;intro M h)|refine St.to h ?_|(apply Exists.intro;(repeat apply Exists.intro);refine And.intro rfl ?_)|refine au ?_|refine af ?_|refine ai ?_)
    refine h.bF Ot [kc] rfl rfl (by simp only [List.length_singleton]; omega) ?_
    clear h
    intro A' c' M h
    repeat (first|(refine aj h ?_;clear h;intro kb M h)|(refine aq h ?_;clear h;intro M h)|refine St.to h ?_|(apply Exists.intro;(repeat apply Exists.intro);refine And.intro rfl ?_)|refine au ?_|refine af ?_|refine ai ?_)
    exact Kd (a := a) (x := { Wd.new p with aS := List.replicate j ⟨-1, []⟩ }) hl (h.sub bM)
   ·clear h
    intro _ M h
    refine ⟨nl - (j + 1), by omega, j + 1, rfl, rfl, by omega, ?_⟩
    rw [Uh]; exact h
  ·obtain rfl : j = nl := by omega
   have e : Wd.new p = { Wd.new p with aS := List.replicate j ⟨-1, []⟩ } := by unfold Wd.new; rw [hnl]; rfl
   rw [← e] at h
   exact k _ _ h.bP
end
def aB (p : ck) (i : cN) : List oY := (p.cases.drop i.a.toNat).take i.b.toNat
def sS (f : fh) : List Int := [f.r.getD 0 0, f.r.getD 1 0, f.r.getD 2 0, f.r.getD 3 0, f.r.getD 4 0, f.r.getD 5 0, f.r.getD 6 0, f.r.getD 7 0]
inductive gY where
 | num (d : Int)
 | cQ (l : List PanicEntry)
def gZ (R : Mem) (dr : Value) (kind n : Int) (d : gY) (L L2 : List HP) : Prop := ∀ (Q : HP) (M : Mem) (K : Value → Mem → Prop) (Kp : List PanicEntry → Mem → Prop), Hp R (Q :: L) M →
 (match d with
  | .num v => ∀ M', Hp R (Q :: L2) M' → K (.int .i64 v) M'
  | .cQ l => ∀ M', Hp R (Q :: L2) M' → Kp l M') → gK Cx dr [.int .i64 kind, .int .i64 n] M K Kp
def Wd.oz (p : ck) (x : Wd) (g : Int) (i : cN) (k : Int) : Out Wd :=
 let c := (aB p i).getD k.toNat ⟨0, 0, 0⟩
 let x1 := x.next g
 if c.way = 1 then match x1.put p c.ch (aT x1 g c.bN) with
  | .dM n y => .dM n y
  | .cQ l y => .cQ l y
  | .on (y, _) => .on (y.be g i.c k)
 else .on (((x1.get c.ch).1.be g c.bN (x1.get c.ch).2.1).be g i.c k)
def Wd.qT (p : ck) (x : Wd) (g : Int) (i : cN) : Wd :=
 let x1 := x.next g
 match els (aB p i) with
  | some k => x1.be g i.c (k : Int)
  | none => Wd.block { x1 with ay := dF g (sS (ae x1 g).top) (aB p i) x1.ay (aB p i).length } g i
def Wd.choose (p : ck) (x : Wd) (g : Int) (i : cN) (d : gY) : Out Wd :=
 if enabled (aB p i) x.ay = [] then .on (x.qT p g i)
 else match d with
  | .num v => x.oz p g i ((enabled (aB p i) x.ay).getD v.toNat 0)
  | .cQ l => .cQ l x
section
variable {R : Mem} {L L' L2 : List HP} {M : Mem} {K : Value → Mem → Prop} {Kp : List PanicEntry → Mem → Prop} {pa : PA} {p : ck} {gg : List GA} {dr : Value} {b : Nat} {x : Wd} {g : Int} {i : cN}
def sU (p : ck) (i : cN) : Prop := 0 ≤ i.a ∧ 0 ≤ i.b ∧ i.a + i.b ≤ p.cases.length ∧ p.cases.length ≤ 1000
instance (p : ck) (i : cN) : Decidable (sU p i) := by unfold sU; infer_instance
theorem Cz (h : Hp R L M) [o : uc b L pa p gg dr x L'] (hp : m5 R pa p) (hk : sU p i)
  (k : ∀ A c M', RS wG R A c (aB p i) → Hp R (ax (bg pa p gg dr) b x :: L') M' → K (.slice A (aB p i).length c) M') :
  aa Tryz.prog 204 #[.pointer (some ⟨b, 0, none⟩), .agg #[.int .i64 i.op, .int .i64 i.a, .int .i64 i.b, .int .i64 i.c]] M K Kp := by
 refine nQ ?_
 obtain ⟨a0, b0, hab, hl⟩ := hk
 have hcap := hp.cases.2
 refine aj h ?_
 clear h; intro kb M h
 have hC := h.drop.pick o.pick
 have h' := bX h (b := b)
 clear h
 obtain ⟨a, kA, h⟩ := h'
 refine bj h (aH h (aH h (aH h ?_)))
 rw [cG (by omega) (by omega)]
 refine ⟨by omega, by omega, by omega, by omega, by omega, by omega, ?_⟩
 have e : (aB p i).length = (i.a + i.b).toNat - i.a.toNat := by
  unfold aB
  rw [List.length_take, List.length_drop]; omega
 rw [← e]
 simp only [Int.toNat_natCast]
 exact k _ _ _ ((hp.cases.drop i.a.toNat (by omega)).take i.b.toNat) hC
theorem Ke {bs j : Nat} {l : List fh} {f : fh} (hs : Src R L (some ⟨bs, 0, none⟩) (jb.cells l)) (hi : l[j]? = some f) : Src R L (lF (some ⟨bs, j * 11 + 2, none⟩) 0 8 1) (bB.cells (sS f)) := by
 intro M h
 have e : lF (some ⟨bs, j * 11 + 2, none⟩) 0 8 1 = some ⟨bs, j * 11 + 2, none⟩ := by
  unfold lF; rw [if_neg (by omega)]; rfl
 rw [e]
 intro q hq
 have hq8 : q < 8 := by simpa [bB, jO.cells, sS] using hq
 have e2 : j * 11 + 2 + q = 0 + (j * jb.z + (2 + q)) := by show _ = 0 + (j * 11 + (2 + q)); omega
 obtain rfl | rfl | rfl | rfl | rfl | rfl | rfl | rfl : q = 0 ∨ q = 1 ∨ q = 2 ∨ q = 3 ∨ q = 4 ∨ q = 5 ∨ q = 6 ∨ q = 7 := by omega
 all_goals exact Src.at hs h (i := j) hi rfl e2
theorem Er {bs c oo : Nat} {v : Int} {G : Mem → Prop} (h : Hp R L M) [o : uc b L pa p gg dr x L'] (hg : aU x g) (dU : gg[g.toNat]? = some (some ⟨bs, 0, none⟩, c)) (e : oo = ((ae x g).fs.length - 1) * 11 + 1) (hv : v = (ae x g).top.pc + 1)
  (k : ∀ M', Hp R (ax (bg pa p gg dr) b (x.next g) :: L') M' → G M') : aF M ⟨bs, oo, none⟩ (.int .i64 v) G := by
 subst hv
 obtain ⟨h0, h1, h2, h3⟩ := hg
 obtain ⟨a, gb, hl, fk, h4⟩ := fX h (b := b) h0 h1 dU
 refine wU h4 (dI h2) e fun M' h5 => ?_
 replace h5 := cu h5 gb hl fk dU (by simp)
 exact k M' (aN (a := a) (p := p) (pa := pa) (dr := dr) (gg := gg) (x := x.next g) (cC hl) h5 b)
theorem Es {bs c oo : Nat} {G : Int → Prop} (h : Hp R L M) [o : uc b L pa p gg dr x L'] (hg : aU x g) (dU : gg[g.toNat]? = some (some ⟨bs, 0, none⟩, c)) (e : oo = ((ae x g).fs.length - 1) * 11 + 1)
  (k : G (ae x g).top.pc) : aG (M.ld ⟨bs, oo, none⟩) .i64 G := by
 obtain ⟨h0, h1, h2, h3⟩ := hg
 obtain ⟨a, gb, hl, fk, h4⟩ := fX h (b := b) h0 h1 dU
 exact wT h4 (dI h2) e k
theorem wY (hg : aU x g) : ae (x.next g) g = (ae x g).bW (ae x g).top.next := fW hg.1 hg.2.1
theorem qU (hg : aU x g) : aU (x.next g) g := by
 have e := wY hg
 obtain ⟨h0, h1, h2, h3⟩ := hg
 refine ⟨h0, by simpa [Wd.next, Wd.aY] using h1, ?_, ?_⟩ <;> rw [e] <;> simpa [cT.bW]
theorem AH (hg : aU x g) : (ae (x.next g) g).fs.length = (ae x g).fs.length := by rw [wY hg]; simp [cT.bW]
theorem G5 {q v : Int} (hg : aU x g) : (ae (x.be g q v) g).fs.length = (ae x g).fs.length := by rw [gT hg]; simp [cT.bW]
theorem MU (hs : x.Sm) : (x.next g).Sm := Ff hs
def CA (p : ck) (x : Wd) (g : Int) (i : cN) (d : gY) : Prop := aU x g ∧ sU p i ∧ bt i.c ∧ x.Sm ∧ (ae x g).top.pc < 1000000000 ∧ 0 ≤ (ae x g).top.pc ∧ (∀ c ∈ aB p i, c.Ok x.ay.length) ∧
 match enabled (aB p i) x.ay, d with
 | [], _ => True
 | _, .cQ _ => True
 | can, .num v => 0 ≤ v ∧ v < can.length ∧
  let k := can.getD v.toNat 0
  let c := (aB p i).getD k.toNat ⟨0, 0, 0⟩
  let x1 := x.next g
  0 ≤ k ∧ k < (aB p i).length ∧ bt c.bN ∧
  if c.way = 1 then mG p x1 c.ch (aT x1 g c.bN) ∧ (match x1.put p c.ch (aT x1 g c.bN) with
   | .on (y, _) => aU y g ∧ (ae y g).fs.length = (ae x g).fs.length
   | _ => True)
  else sP x1 c.ch ∧ aU (x1.get c.ch).1 g ∧ (ae (x1.get c.ch).1 g).fs.length = (ae x g).fs.length
theorem G6 {d : gY} (hp : m5 R pa p) (hk : CA p x g i d) (hd : if enabled (aB p i) x.ay = [] then L2 = L else gZ R dr 3 ((enabled (aB p i) x.ay).length : Int) d L L2) :
  fA R pa p dr 191 x g i (x.choose p g i d) L L2 := by
 intro gg b bs c M K Kp Q h dU k
 obtain ⟨hg, hcs, MW, hs, vK, MX, hok, hk⟩ := hk
 have Ay := hg
 obtain ⟨h0, h1, h2, h3⟩ := Ay
 have hs' := hs
 obtain ⟨s1, s2, s3, s4, s5, s6, s7, s8⟩ := hs'
 have Q4 : (aB p i).length ≤ 1000 := by
  obtain ⟨_, _, _, hl⟩ := hcs
  unfold aB
  rw [List.length_take, List.length_drop]; omega
 refine mQ ?_
 refine aj h ?_
 clear h; intro k1 M h
 refine aH h (aH h (aH h (aH h ?_)))
 refine Cz (b := b) h hp hcs ?_
 clear h; intro A ca M hA h
 refine aR ?_
 unfold Wd.choose at k
 have hen : ∀ {X : HP} {M : Mem} {L3 : List HP}, Hp R (ax (bg pa p gg dr) b x :: L3) M → ∀ (K1 : Value → Mem → Prop), (∀ A' c' M', Hp R (jD A' c' (enabled (aB p i) x.ay) :: ax (bg pa p gg dr) b x :: L3) M' → K1 (.slice A' (enabled (aB p i) x.ay).length c') M') →
   az (M.ld ⟨b, 0 + 6, none⟩) fun xN dH iL => aa Tryz.prog 205 #[.slice A (aB p i).length ca, .slice xN dH iL] M K1 Kp := by
  intro X M L3 h K1 k1
  have h' := bX h (b := b)
  clear h
  obtain ⟨a, hl, h⟩ := h'
  have hl' := hl
  obtain ⟨l1, l2, l3, l4⟩ := hl'
  refine bj h ?_
  refine yf h (hA.src) (Src.row (A := a.ac)) rfl rfl (by omega) l3 hok ?_
  clear h; intro A' c' M h
  exact k1 _ _ _ ((aN (a := a) (p := p) (pa := pa) (dr := dr) (gg := gg) (x := x) hl h b).swap)
 refine hen (X := Q) h _ ?_
 clear h hen; intro A2 c2 M h
 refine aR ?_
 by_cases hcan : enabled (aB p i) x.ay = []
 ·rw [if_pos hcan] at k hd
  subst hd
  rw [hcan] at h ⊢
  refine af ?_
  unfold Wd.qT at k
  dsimp only at k
  refine Es (b := b) h hg dU rfl ?_
  rw [ik MX (by omega)]
  refine Er (b := b) h hg dU rfl rfl ?_
  clear h; intro M h
  have G7 := qU hg
  have Il := AH hg
  refine DO h hA.src rfl (by omega) ?_
  clear h; intro M h
  refine ⟨_, _, rfl, ?_⟩
  cases he : els (aB p i) with
  | some q =>
   rw [he] at k
   dsimp only at k ⊢
   refine af ?_
   refine aH h ?_
   refine ⟨MW.1, MW.2, ?_⟩
   refine j3 (b := b) h G7 dU MW (by rw [Il]) ?_
   clear h; intro M h
   exact k _ _ (h.sub bM)
  | none =>
   rw [he] at k
   dsimp only at k ⊢
   refine ai ⟨by decide, by decide, by decide, by decide, by decide, by decide, ?_⟩
   have xL := G7
   obtain ⟨g0, g1, g2, g3⟩ := xL
   have h' := fX h (b := b) g0 g1 dU
   clear h
   obtain ⟨a, gb, hl, fk, h⟩ := h'
   have hl' := hl
   obtain ⟨l1, l2, l3, l4⟩ := hl'
   refine bj h ?_
   refine DQ (eV := sS (ae (x.next g) g).top) h hA.src (Src.row (A := a.ac)) ?_ rfl rfl rfl rfl (by omega) l3 hok (fun c hc => s1 c hc) ?_
   ·have e9 : ∀ {L9 : List HP}, Src R L9 (some ⟨bs, 0, none⟩) (jb.cells (ae (x.next g) g).fs) → Src R L9 (lF (some ⟨bs, ((ae x g).fs.length - 1) * 11 + 2, none⟩) 0 8 1) (bB.cells (sS (ae (x.next g) g).top)) := fun hs => by
     have := Ke hs (dI g2)
     rwa [Il] at this
    exact e9 Src.row
   clear h; intro M h
   refine ⟨rfl, ?_⟩
   refine aH h (aH h (aH h (aH h ?_)))
   replace h := cu h gb hl fk dU
   have kA := cC (y := ae (x.next g) g) (g := g) hl
   have ZU : ∀ x' : Wd, x' = { (x.next g).aY g (ae (x.next g) g) with ay := dF g (sS (ae (x.next g) g).top) (aB p i) x.ay (aB p i).length } → ee gg a x' := by
    rintro _ rfl
    obtain ⟨m1, m2, m3, m4⟩ := kA
    exact ⟨m1, m2, by show _ = List.length _; rw [jz]; exact l3, m4⟩
   replace h := aN (a := a) (p := p) (pa := pa) (dr := dr) (gg := gg) (x := { (x.next g).aY g (ae (x.next g) g) with ay := dF g (sS (ae (x.next g) g).top) (aB p i) x.ay (aB p i).length }) (ZU _ rfl) h b
   rw [sx g0 g1] at h
   refine j1 (b := b) (i := i) (x := { x.next g with ay := dF g (sS (ae (x.next g) g).top) (aB p i) x.ay (aB p i).length }) h g0 g1 ?_
   clear h; intro M h
   exact ⟨rfl, k _ _ (h.sub bM)⟩
 rw [if_neg hcan] at k hd
 have Un : 0 < (enabled (aB p i) x.ay).length := by
  cases hh : enabled (aB p i) x.ay with
  | nil => exact absurd hh hcan
  | cons _ _ => simp
 refine zT (by simp; omega) ?_
 have vo : M.ld ⟨b, 0 + 14, none⟩ = some dr := by
  obtain ⟨a, hl, h9⟩ := bX h (b := b)
  exact bk h9
 rw [vo]
 refine IC ?_
 have h5 : Hp R (sep [jD A2 c2 (enabled (aB p i) x.ay), ax (bg pa p gg dr) b x, pt k1 [.int .i64 i.op, .int .i64 i.a, .int .i64 i.b, .int .i64 i.c] 27, Q] :: L) M := Hp.aQ.2 (h.sub bM)
 refine hd _ _ _ _ h5 ?_
 clear h h5 vo
 cases d with
 | cQ l =>
  dsimp only at k ⊢
  intro M h5
  have h : Hp R (jD A2 c2 (enabled (aB p i) x.ay) :: ax (bg pa p gg dr) b x :: pt k1 [.int .i64 i.op, .int .i64 i.a, .int .i64 i.b, .int .i64 i.c] 27 :: Q :: L2) M := Hp.aQ.1 h5
  exact k _ _ (h.sub bM)
 | num v =>
  dsimp only at k ⊢
  intro M h5
  have h : Hp R (jD A2 c2 (enabled (aB p i) x.ay) :: ax (bg pa p gg dr) b x :: pt k1 [.int .i64 i.op, .int .i64 i.a, .int .i64 i.b, .int .i64 i.c] 27 :: Q :: L2) M := Hp.aQ.1 h5
  clear h5
  have Le : 0 ≤ v ∧ v < (enabled (aB p i) x.ay).length ∧
    0 ≤ (enabled (aB p i) x.ay).getD v.toNat 0 ∧ (enabled (aB p i) x.ay).getD v.toNat 0 < (aB p i).length ∧ bt ((aB p i).getD ((enabled (aB p i) x.ay).getD v.toNat 0).toNat ⟨0, 0, 0⟩).bN ∧
    if ((aB p i).getD ((enabled (aB p i) x.ay).getD v.toNat 0).toNat ⟨0, 0, 0⟩).way = 1 then mG p (x.next g) ((aB p i).getD ((enabled (aB p i) x.ay).getD v.toNat 0).toNat ⟨0, 0, 0⟩).ch (aT (x.next g) g ((aB p i).getD ((enabled (aB p i) x.ay).getD v.toNat 0).toNat ⟨0, 0, 0⟩).bN) ∧
     (match (x.next g).put p ((aB p i).getD ((enabled (aB p i) x.ay).getD v.toNat 0).toNat ⟨0, 0, 0⟩).ch (aT (x.next g) g ((aB p i).getD ((enabled (aB p i) x.ay).getD v.toNat 0).toNat ⟨0, 0, 0⟩).bN) with
      | .on (y, _) => aU y g ∧ (ae y g).fs.length = (ae x g).fs.length
      | _ => True)
    else sP (x.next g) ((aB p i).getD ((enabled (aB p i) x.ay).getD v.toNat 0).toNat ⟨0, 0, 0⟩).ch ∧ aU ((x.next g).get ((aB p i).getD ((enabled (aB p i) x.ay).getD v.toNat 0).toNat ⟨0, 0, 0⟩).ch).1 g ∧ (ae ((x.next g).get ((aB p i).getD ((enabled (aB p i) x.ay).getD v.toNat 0).toNat ⟨0, 0, 0⟩).ch).1 g).fs.length = (ae x g).fs.length := by
   revert hk
   cases hh : enabled (aB p i) x.ay with
   | nil => exact absurd hh hcan
   | cons a l => exact fun hk => hk
  clear hk hcan hd
  generalize hcane : enabled (aB p i) x.ay = can at h k Le Un ⊢
  obtain ⟨v0, v1, q0, q1, Ou, Q6⟩ := Le
  refine cE ⟨v0, v1, ?_⟩
  obtain ⟨ab, rfl⟩ := h.bz (A := A2) Un (by decide)
  refine bp ?_
  obtain ⟨q, hq⟩ := aK (l := can) (i := v.toNat) (by omega)
  have hqe : can.getD v.toNat 0 = q := by simp [hq]
  rw [hqe] at k q0 q1 Ou Q6
  refine bq (Src.at (h.src (A := some ⟨ab, 0, none⟩)) h (i := v.toNat) (j := 0) hq rfl (by simp [bB])) ?_
  unfold Wd.oz at k
  dsimp only at k
  obtain ⟨cc, Sb⟩ := aK (l := aB p i) (i := q.toNat) (by omega)
  have hce : (aB p i).getD q.toNat ⟨0, 0, 0⟩ = cc := by simp [Sb]
  rw [hce] at k Ou Q6
  refine Es (b := b) h hg dU rfl ?_
  rw [ik MX (by omega)]
  refine Er (b := b) h hg dU rfl rfl ?_
  clear h; intro M h
  have G7 := qU hg
  have Il := AH hg
  have tF : (x.next g).Sm := MU hs
  generalize AI : x.next g = x1 at h k Q6 G7 Il tF
  refine ⟨q0, q1, ?_⟩
  obtain ⟨cb, co, rfl⟩ := hA.some (by omega) (by decide)
  refine bp ?_
  refine bq (Src.at (hA.src (L := _)) h (i := q.toNat) (j := 0) Sb rfl (by simp [wG])) ?_
  refine bq (Src.at (hA.src (L := _)) h (i := q.toNat) (j := 1) Sb rfl (by show _ = co + (_ * 3 + 1); omega)) ?_
  refine bq (Src.at (hA.src (L := _)) h (i := q.toNat) (j := 2) Sb rfl (by show _ = co + (_ * 3 + 2); omega)) ?_
  refine aj h ?_
  clear h; intro kc M h
  refine aq h ?_
  clear h; intro M h
  refine aq h ?_
  clear h; intro M h
  refine aq h ?_
  clear h; intro M h
  refine aH h ?_
  refine bU.2 ⟨fun e1 => ?_, fun e1 => ?_⟩
  ·rw [if_pos e1] at k Q6
   obtain ⟨hput, hy⟩ := Q6
   refine aH h (aH h ⟨Ou.1, Ou.2, ?_⟩)
   refine Cl (b := b) h G7 dU Ou (by rw [Il]) ?_
   refine za (b := b) h hp.cases hput tF ?_ ?_
   ·clear h
    intro y ok M e h
    rw [e] at k hy
    dsimp only at k hy
    refine mC ?_
    refine aH h ⟨MW.1, MW.2, ?_⟩
    refine j3 (b := b) h hy.1 dU MW (by rw [hy.2]) ?_
    clear h; intro M h
    exact k _ _ (h.sub bM)
   ·clear h
    intro y n M e h
    rw [e] at k
    exact k _ _ (h.sub bM)
  ·rw [if_neg e1] at k Q6
   obtain ⟨JX, Cm, hfl⟩ := Q6
   refine aH h (aH h ?_)
   refine zb (b := b) h JX tF ?_
   clear h; intro M h
   generalize x1.get cc.ch = r at h k Cm hfl
   obtain ⟨y, w, sm, ok⟩ := r
   dsimp only at h k Cm hfl ⊢
   refine ⟨_, _, _, rfl, bk h, Ou.1, Ou.2, ?_⟩
   refine j3 (b := b) h Cm dU Ou (by rw [hfl]) ?_
   clear h; intro M h
   refine ⟨bk h, aH h ⟨MW.1, MW.2, ?_⟩⟩
   refine j3 (b := b) h (gU Cm) dU MW (by rw [G5 Cm, hfl]) ?_
   clear h; intro M h
   exact k _ _ (h.sub bM)
end
def aZ.before (a b : aZ) : Bool := decide (a.t < b.t) || (a.t == b.t && decide (a.seq < b.seq))
def jS (l : List aZ) (i : Nat) : aZ := l.getD i ⟨0, 0, 0⟩
def dW (l : List aZ) (i j : Nat) : List aZ := (l.set i (jS l j)).set j (jS l i)
def G8 : Nat → Nat → List aZ → List aZ
 | 0, _, l => l
 | f + 1, i, l => if 0 < i ∧ (jS l i).before (jS l ((i - 1) / 4)) = true then G8 f ((i - 1) / 4) (dW l i ((i - 1) / 4)) else l
def fO (l : List aZ) : Nat → Nat → Nat → Nat
 | 0, _, out => out
 | n + 1, k, out => if k < l.length then fO l n (k + 1) (if (jS l k).before (jS l out) then k else out) else out
def gf (l : List aZ) (i : Nat) : Nat := fO l 4 (4 * i + 1) i
def mH : Nat → Nat → List aZ → List aZ
 | 0, _, l => l
 | f + 1, i, l => if gf l i = i then l else mH f (gf l i) (dW l i (gf l i))
def oA (l : List aZ) (x : aZ) : List aZ := G8 l.length l.length (l ++ [x])
def ct (l : List aZ) (i : Nat) : List aZ :=
 if i < l.length - 1 then G8 i i (mH l.length i ((dW l i (l.length - 1)).take (l.length - 1))) else (dW l i (l.length - 1)).take (l.length - 1)
def cv : Nat → List aZ → Int → List aZ × List aZ
 | 0, l, _ => (l, [])
 | f + 1, l, now => if 0 < l.length ∧ (jS l 0).t ≤ now then ((cv f (ct l 0) now).1, jS l 0 :: (cv f (ct l 0) now).2) else (l, [])
def di : Nat → List aZ → List aZ
 | 0, _ => []
 | f + 1, l => if 0 < l.length then jS l 0 :: di f (ct l 0) else []
theorem CB {f i : Nat} {l : List aZ} : G8 (f + 1) i l = if 0 < i ∧ (jS l i).before (jS l ((i - 1) / 4)) = true then G8 f ((i - 1) / 4) (dW l i ((i - 1) / 4)) else l := rfl
theorem vp {l : List aZ} {n k out : Nat} : fO l (n + 1) k out = if k < l.length then fO l n (k + 1) (if (jS l k).before (jS l out) then k else out) else out := rfl
theorem Et {f i : Nat} {l : List aZ} : mH (f + 1) i l = if gf l i = i then l else mH f (gf l i) (dW l i (gf l i)) := rfl
theorem qV {f : Nat} {l : List aZ} {now : Int} : cv (f + 1) l now = if 0 < l.length ∧ (jS l 0).t ≤ now then ((cv f (ct l 0) now).1, jS l 0 :: (cv f (ct l 0) now).2) else (l, []) := rfl
theorem sV {f : Nat} {l : List aZ} : di (f + 1) l = if 0 < l.length then jS l 0 :: di f (ct l 0) else [] := rfl
theorem eG {l : List aZ} {i j : Nat} : (dW l i j).length = l.length := by simp [dW]
theorem AJ : ∀ {f i : Nat} {l : List aZ}, (G8 f i l).length = l.length
 | 0, _, _ => rfl
 | f + 1, i, l => by unfold G8; split; rw [AJ, eG]; rfl
theorem ir : ∀ {f i : Nat} {l : List aZ}, (mH f i l).length = l.length
 | 0, _, _ => rfl
 | f + 1, i, l => by unfold mH; split; rfl; rw [ir, eG]
theorem j5 {l : List aZ} {i : Nat} : (ct l i).length = l.length - 1 := by
 unfold ct; split
 ·rw [AJ, ir, List.length_take, eG]; omega
 ·rw [List.length_take, eG]; omega
theorem zl {l : List aZ} {x : aZ} : (oA l x).length = l.length + 1 := by unfold oA; rw [AJ]; simp
theorem jE {l : List aZ} {i : Nat} (h : i < l.length) : l[i]? = some (jS l i) := by
 unfold jS; rw [List.getD_eq_getElem?_getD, List.getElem?_eq_getElem h]; rfl
theorem kG {l : List aZ} : ∀ (n k out : Nat), out < l.length → out < k → fO l n k out < l.length ∧ (out ≤ fO l n k out)
 | 0, _, _, h, _ => ⟨h, Nat.le_refl _⟩
 | n + 1, k, out, h, hk => by
  unfold fO; split
  ·rename_i hl
   split
   ·have := kG n (k + 1) k hl (by omega); omega
   ·exact kG n (k + 1) out h (by omega)
  ·exact ⟨h, Nat.le_refl _⟩
theorem zm {l : List aZ} {i : Nat} (h : i < l.length) : gf l i < l.length ∧ i ≤ gf l i := kG 4 _ i h (by omega)
structure Lf (b o : Nat) (P : Option Addr → Nat → Nat → Int → HP) : Prop where
 Cp : ∀ (R : Mem) (L : List HP) (M : Mem) (A : Option Addr) (n c : Nat) (s : Int), Hp R (P A n c s :: L) M → M.ld ⟨b, o, none⟩ = some (.slice A n c)
 ZV : ∀ (R : Mem) (L : List HP) (M : Mem) (A : Option Addr) (n c : Nat) (s : Int), Hp R (P A n c s :: L) M → M.ld ⟨b, o + 1, none⟩ = some (.int .u64 s)
 Ui : ∀ (R : Mem) (L : List HP) (M : Mem) (A A' : Option Addr) (n c n' c' : Nat) (s : Int) (G : Mem → Prop), Hp R (P A n c s :: L) M → (∀ M', Hp R (P A' n' c' s :: L) M' → G M') → aF M ⟨b, o, none⟩ (.slice A' n' c') G
 stI : ∀ (R : Mem) (L : List HP) (M : Mem) (A : Option Addr) (n c : Nat) (s s' : Int) (G : Mem → Prop), Hp R (P A n c s :: L) M → (∀ M', Hp R (P A n c s' :: L) M' → G M') → aF M ⟨b, o + 1, none⟩ (.int .u64 s') G
theorem vL : bA Tryz.prog 46 203 3 24 [.int .u64 0, .int .u64 0, .int .i64 0] := bA.mk' (zv := .agg #[.int .u64 0, .int .u64 0, .int .i64 0]) (by kernel_rfl) (by kernel_rfl) rfl (by omega)
section
variable {R : Mem} {L L' : List HP} {M : Mem} {K : Value → Mem → Prop} {Kp : List PanicEntry → Mem → Prop} {b o : Nat} {P : Option Addr → Nat → Nat → Int → HP} {A : Option Addr} {c : Nat} {s : Int} {l : List aZ} {i j : Nat}
theorem j6 {q o0 o1 o2 o3 : Nat} {x : aZ} {G : Int → Int → Int → Prop} (h : Hp R L M) (hs : Src R L (some ⟨q, o0, none⟩) (nL.cells l)) (hi : l[i]? = some x) (e1 : o1 = o0 + i * 3) (e2 : o2 = o0 + i * 3 + 1) (e3 : o3 = o0 + i * 3 + 2) (g : G x.t x.seq x.id) :
  aG (M.ld ⟨q, o1, none⟩) .u64 fun a => aG (M.ld ⟨q, o2, none⟩) .u64 fun b => aG (M.ld ⟨q, o3, none⟩) .i64 fun d => G a b d := by
 refine bq (Src.at hs h (i := i) (j := 0) hi rfl (by rw [e1]; rfl)) ?_
 refine bq (Src.at hs h (i := i) (j := 1) hi rfl (by rw [e2]; show _ = o0 + (i * 3 + 1); omega)) ?_
 exact bq (Src.at hs h (i := i) (j := 2) hi rfl (by rw [e3]; show _ = o0 + (i * 3 + 2); omega)) g
theorem Fo {q o1 o2 o3 : Nat} {x y : aZ} {G : Mem → Prop} (h : Hp R L M) [r : cq (some ⟨q, 0, none⟩) L aZ nL 203 c l L'] (hi : l[i]? = some x) (e1 : o1 = i * 3) (e2 : o2 = i * 3 + 1) (e3 : o3 = i * 3 + 2)
  (k : ∀ M', Hp R (dw (some ⟨q, 0, none⟩) c (l.set i y) :: L') M' → G M') :
  aF M ⟨q, o1, none⟩ (.int .u64 y.t) fun M1 => aF M1 ⟨q, o2, none⟩ (.int .u64 y.seq) fun M2 => aF M2 ⟨q, o3, none⟩ (.int .i64 y.id) G := by
 have hl := (List.getElem?_eq_some_iff.1 hi).1
 refine gO (E := nL) (a := x) (a' := ⟨y.t, x.seq, x.id⟩) i 0 h hi (by decide) rfl e1 ?_
 clear h; intro M h
 refine gO (E := nL) (a := ⟨y.t, x.seq, x.id⟩) (a' := ⟨y.t, y.seq, x.id⟩) i 1 h (by simp [hl]) (by decide) rfl e2 ?_
 clear h; intro M h
 refine gO (E := nL) (a := ⟨y.t, y.seq, x.id⟩) (a' := y) i 2 h (by simp [hl]) (by decide) rfl e3 ?_
 clear h; intro M h
 rw [gS, gS] at h
 exact k _ h
theorem uU {x y : aZ} (h : Hp R L M) (k : ∀ M', Hp R L M' → K (.bool (x.before y)) M') : aa Tryz.prog 187 #[.agg #[.int .u64 x.t, .int .u64 x.seq, .int .i64 x.id], .agg #[.int .u64 y.t, .int .u64 y.seq, .int .i64 y.id]] M K Kp := by
 refine wM ?_
 repeat (first|(refine aj h ?_;clear h;intro kb M h)|(refine aq h ?_;clear h;intro M h)|refine St.to h ?_|(apply Exists.intro;(repeat apply Exists.intro);refine And.intro rfl ?_)|refine au ?_|refine af ?_|refine ai ?_)
 unfold aZ.before at k
 refine aM.2 ⟨fun h1 => ?_, fun h1 => ?_⟩
 ·have := k _ h.wB
  rwa [decide_eq_true h1, Bool.true_or] at this
 ·repeat (first|(refine aj h ?_;clear h;intro kb M h)|(refine aq h ?_;clear h;intro M h)|refine St.to h ?_|(apply Exists.intro;(repeat apply Exists.intro);refine And.intro rfl ?_)|refine au ?_|refine af ?_|refine ai ?_)
  refine bU.2 ⟨fun h2 => ?_, fun h2 => ?_⟩
  ·repeat (first|(refine aj h ?_;clear h;intro kb M h)|(refine aq h ?_;clear h;intro M h)|refine St.to h ?_|(apply Exists.intro;(repeat apply Exists.intro);refine And.intro rfl ?_)|refine au ?_|refine af ?_|refine ai ?_)
   have := k _ h.wB
   rwa [decide_eq_false h1, Bool.false_or, beq_iff_eq.2 h2, Bool.true_and] at this
  ·have := k _ h.wB
   rwa [decide_eq_false h1, Bool.false_or, show (x.t == y.t) = false from by simpa using h2, Bool.false_and] at this
theorem uh (D : Lf b o P) (h : Hp R (P A l.length c s :: dw A c l :: L) M) (hi : i < l.length) (hj : j < l.length)
  (k : ∀ M', Hp R (P A l.length c s :: dw A c (dW l i j) :: L) M' → K (.tuple #[]) M') : aa Tryz.prog 154 #[.pointer (some ⟨b, o, none⟩), .int .i64 (i : Int), .int .i64 (j : Int)] M K Kp := by
 refine sA ?_
 obtain ⟨q, rfl⟩ := h.bz (A := A) (by omega) (by decide)
 have hs := h.src (A := some ⟨q, 0, none⟩)
 rw [D.Cp _ _ _ _ _ _ _ h]
 refine aR (aR (aR ⟨by omega, by omega, bp ?_⟩))
 refine j6 h hs (jE hj) (by simp) (by simp) (by simp) ?_
 refine aR ⟨by omega, by omega, bp ?_⟩
 refine j6 h hs (jE hi) (by simp) (by simp) (by simp) ?_
 clear hs
 refine ⟨by omega, by omega, bp ?_⟩
 refine Fo (y := jS l j) h (jE hi) (by simp) (by simp) (by simp) ?_
 clear h; intro M h
 refine ⟨by omega, by omega, bp ?_⟩
 have Dw : (l.set i (jS l j))[j]? = some (jS l j) := by
  rw [List.getElem?_set]
  split
  ·rfl
  ·exact jE hj
 refine Fo (y := jS l i) h Dw (by simp) (by simp) (by simp) ?_
 clear h; intro M h
 exact k _ (h.sub bM)
theorem wZ (D : Lf b o P) (h : Hp R (P A l.length c s :: dw A c l :: L) M) (hi : i < l.length) (hl : l.length ≤ 1000000)
  (k : ∀ M', Hp R (P A l.length c s :: dw A c l :: L) M' → K (.int .i64 (gf l i : Int)) M') : aa Tryz.prog 186 #[.pointer (some ⟨b, o, none⟩), .int .i64 (i : Int)] M K Kp := by
 refine qK ?_
 have e1 : IntKind.wrap .i64 (IntKind.wrap .i64 (4 * (i : Int)) + 1) = ((4 * i + 1 : Nat) : Int) := by
  rw [cG (z := 4 * (i : Int)) (by omega) (by omega), cG (by omega) (by omega)]; omega
 have e4 : IntKind.wrap .i64 (IntKind.wrap .i64 (4 * (i : Int)) + 4) = ((4 * i + 4 : Nat) : Int) := by
  rw [cG (z := 4 * (i : Int)) (by omega) (by omega), cG (by omega) (by omega)]; omega
 rw [e1, e4]
 refine ⟨fun d vs M => ∃ kk out : Nat, vs = [.int .i64 (out : Int), .int .i64 (kk : Int)] ∧ d = 4 * i + 5 - kk ∧ kk ≤ 4 * i + 5 ∧ out < l.length ∧ out < kk ∧ fO l (4 * i + 5 - kk) kk out = gf l i ∧ Hp R (P A l.length c s :: dw A c l :: L) M,
  ⟨_, 4 * i + 1, i, rfl, rfl, by omega, hi, by omega, by rw [show 4 * i + 5 - (4 * i + 1) = 4 from by omega]; rfl, h⟩, ?_⟩
 clear h
 rintro d _ n5 n6 M ⟨kk, out, he, hd, hkk, ho, hok, hf, h⟩
 simp only [List.cons.injEq, Value.int.injEq, and_true, true_and] at he
 obtain ⟨rfl, rfl⟩ := he
 refine aM.2 ⟨fun hle => ?_, fun hgt => ?_⟩
 ·rw [D.Cp _ _ _ _ _ _ _ h]
  obtain ⟨n, hn⟩ : ∃ n, 4 * i + 5 - kk = n + 1 := ⟨4 * i + 4 - kk, by omega⟩
  rw [hn] at hf
  rw [vp] at hf
  refine aR ?_
  refine aM.2 ⟨fun hlt => ?_, fun hge => ?_⟩
  ·rw [if_pos (by omega)] at hf
   obtain ⟨q, rfl⟩ := h.bz (A := A) (by omega) (by decide)
   have hs := h.src (A := some ⟨q, 0, none⟩)
   refine aR ⟨by omega, by omega, bp ?_⟩
   refine j6 h hs (jE (i := kk) (by omega)) (by simp) (by simp) (by simp) ?_
   refine aR ⟨by omega, by omega, bp ?_⟩
   refine j6 h hs (jE (i := out) (by omega)) (by simp) (by simp) (by simp) ?_
   refine uU h ?_
   clear h hs; intro M h
   refine mC ?_
   have e : IntKind.wrap .i64 ((kk : Int) + 1) = ((kk + 1 : Nat) : Int) := by rw [cG (by omega) (by omega)]; omega
   rw [e]
   cases hb : (jS l kk).before (jS l out) with
   | true =>
    rw [hb] at hf
    exact af ⟨n, by omega, kk + 1, kk, rfl, by omega, by omega, by omega, by omega, by rw [show 4 * i + 5 - (kk + 1) = n from by omega]; exact hf, h⟩
   | false =>
    rw [hb] at hf
    exact ai ⟨n, by omega, kk + 1, out, rfl, by omega, by omega, by omega, by omega, by rw [show 4 * i + 5 - (kk + 1) = n from by omega]; exact hf, h⟩
  ·rw [if_neg (by omega)] at hf
   subst hf
   exact k _ h
 ·have : 4 * i + 5 - kk = 0 := by omega
  rw [this] at hf
  have Dk : out = gf l i := hf
  subst Dk
  exact k _ h
theorem G9 (D : Lf b o P) {f : Nat} (h : Hp R (P A l.length c s :: dw A c l :: L) M) (hi : i < l.length) (hl : l.length ≤ 1000000) (hf : l.length ≤ f + i)
  (k : ∀ M', Hp R (P A l.length c s :: dw A c (mH f i l) :: L) M' → K (.tuple #[]) M') : aa Tryz.prog 155 #[.pointer (some ⟨b, o, none⟩), .int .i64 (i : Int)] M K Kp := by
 refine sB ?_
 refine wZ D h hi hl ?_
 clear h; intro M h
 refine cE ?_
 refine ⟨fun d vs M => ∃ (f' i' : Nat) (l' : List aZ), vs = [.int .i64 (i' : Int), .int .i64 (gf l' i' : Int)] ∧ d = l.length - i' ∧ i' < l.length ∧ l'.length = l.length ∧ l.length ≤ f' + i' ∧ mH f' i' l' = mH f i l ∧ Hp R (P A l.length c s :: dw A c l' :: L) M,
  ⟨_, f, i, l, rfl, rfl, hi, rfl, hf, rfl, h⟩, ?_⟩
 clear h
 rintro d _ n5 n6 M ⟨f', i', l', he, hd, hi', hl', U0, zn, h⟩
 simp only [List.cons.injEq, Value.int.injEq, and_true, true_and] at he
 obtain ⟨rfl, rfl⟩ := he
 obtain ⟨g, rfl⟩ : ∃ g, f' = g + 1 := ⟨f' - 1, by omega⟩
 rw [Et] at zn
 obtain ⟨m1, m2⟩ := zm (l := l') (i := i') (by omega)
 rw [← hl'] at h
 refine de.2 ⟨fun hne => ?_, fun heq => ?_⟩
 ·rw [if_neg (by intro e; apply hne; rw [e])] at zn
  refine uh D h (i := i') (j := gf l' i') (by omega) (by omega) ?_
  clear h; intro M h
  refine ⟨rfl, ?_⟩
  have Q7 : (dW l' i' (gf l' i')).length = l'.length := eG
  rw [← Q7] at h
  refine wZ D h (by omega) (by omega) ?_
  clear h; intro M h
  rw [Q7] at h
  refine cE ?_
  exact ⟨l.length - gf l' i', by omega, g, gf l' i', _, rfl, rfl, by omega, by omega, by omega, zn, by rw [← hl']; exact h⟩
 ·rw [if_pos (by omega)] at zn
  subst zn
  rw [hl'] at h
  exact k _ h
theorem Fp (D : Lf b o P) {f : Nat} (h : Hp R (P A l.length c s :: dw A c l :: L) M) (hi : i < l.length) (hl : l.length ≤ 1000000) (hf : i ≤ f)
  (k : ∀ M', Hp R (P A l.length c s :: dw A c (G8 f i l) :: L) M' → K (.tuple #[]) M') : aa Tryz.prog 156 #[.pointer (some ⟨b, o, none⟩), .int .i64 (i : Int)] M K Kp := by
 refine vj ?_
 refine ⟨fun d vs M => ∃ (f' i' : Nat) (l' : List aZ), vs = [.int .i64 (i' : Int)] ∧ d = i' ∧ i' < l.length ∧ l'.length = l.length ∧ i' ≤ f' ∧ G8 f' i' l' = G8 f i l ∧ Hp R (P A l.length c s :: dw A c l' :: L) M,
  ⟨_, f, i, l, rfl, rfl, hi, rfl, hf, rfl, h⟩, ?_⟩
 clear h
 rintro d _ n5 M ⟨f', i', l', he, hd, hi', hl', U0, zn, h⟩
 simp only [List.cons.injEq, Value.int.injEq, and_true, true_and] at he
 subst he
 refine aM.2 ⟨fun hgt => ?_, fun hle => ?_⟩
 ·obtain ⟨g, rfl⟩ : ∃ g, f' = g + 1 := ⟨f' - 1, by omega⟩
  rw [CB] at zn
  have ep : IntKind.wrap .i64 (Int.tdiv (IntKind.wrap .i64 ((i' : Int) - 1)) 4) = (((i' - 1) / 4 : Nat) : Int) := by
   rw [cG (z := (i' : Int) - 1) (by omega) (by omega), show ((i' : Int) - 1) = ((i' - 1 : Nat) : Int) from by omega, show (4 : Int) = ((4 : Nat) : Int) from rfl, ← Int.ofNat_tdiv, cG (by omega) (by omega)]
  have hp : (i' - 1) / 4 < i' := by omega
  generalize hpe : (i' - 1) / 4 = p at ep zn hp
  rw [ep, D.Cp _ _ _ _ _ _ _ h]
  obtain ⟨q, rfl⟩ := h.bz (A := A) (by omega) (by decide)
  have hs := h.src (A := some ⟨q, 0, none⟩)
  refine ⟨by omega, aR ⟨by omega, by omega, bp ?_⟩⟩
  refine j6 h hs (jE (i := i') (by omega)) (by simp) (by simp) (by simp) ?_
  refine aR ⟨by omega, by omega, bp ?_⟩
  refine j6 h hs (jE (i := p) (by omega)) (by simp) (by simp) (by simp) ?_
  refine uU h ?_
  clear h hs; intro M h
  refine mC ?_
  cases hb : (jS l' i').before (jS l' p) with
  | true =>
   rw [if_pos ⟨by omega, hb⟩] at zn
   refine af ⟨by omega, ?_⟩
   rw [← hl'] at h
   refine uh D h (i := i') (j := p) (by omega) (by omega) ?_
   clear h; intro M h
   rw [hl'] at h
   exact ⟨rfl, by omega, p, by omega, g, p, _, rfl, rfl, by omega, by rw [eG]; exact hl', by omega, zn, h⟩
  | false =>
   rw [if_neg (by rintro ⟨_, h2⟩; rw [hb] at h2; cases h2)] at zn
   refine ai ?_
   subst zn
   exact k _ h
 ·have : G8 f' i' l' = l' := by
   have h0 : i' = 0 := by omega
   subst h0
   cases f' with
   | zero => rfl
   | succ g => rw [CB]; rw [if_neg (by omega)]
  rw [this] at zn
  subst zn
  exact k _ h
theorem He (D : Lf b o P) {t id : Int} (h : Hp R (P A l.length c s :: dw A c l :: L) M) (hl : l.length < 1000000)
  (k : ∀ v A' c' M', Hp R (P A' (l.length + 1) c' (IntKind.wrap .u64 (s + 1)) :: dw A' c' (oA l ⟨t, s, id⟩) :: L) M' → K (.int .u64 v) M') : aa Tryz.prog 244 #[.pointer (some ⟨b, o, none⟩), .int .u64 t, .int .i64 id] M K Kp := by
 refine sC ?_
 rw [D.Cp _ _ _ _ _ _ _ h, D.ZV _ _ _ _ _ _ _ h]
 refine aR (cE ?_)
 refine aj h ?_
 clear h; intro kb M h
 replace h : Hp R (P A l.length c s :: dw A c l :: pt kb [.int .u64 t, .int .u64 s, .int .i64 id] 203 :: L) M := h.sub bM
 refine h.bF (A := A) vL [(⟨t, s, id⟩ : aZ)] rfl rfl (by simp only [List.length_singleton]; omega) ?_
 clear h; intro A' c' M h
 refine aR ?_
 have hlen : (l ++ [(⟨t, s, id⟩ : aZ)]).length = l.length + 1 := by simp
 refine D.Ui _ _ _ _ _ _ _ _ _ _ _ h.swap ?_
 clear h; intro M h
 rw [D.ZV _ _ _ _ _ _ _ h]
 refine cE ?_
 refine D.stI _ _ _ _ _ _ _ _ _ h ?_
 clear h; intro M h
 rw [D.Cp _ _ _ _ _ _ _ h]
 refine aR ?_
 have e : IntKind.wrap .i64 (((l ++ [(⟨t, s, id⟩ : aZ)]).length : Int) - 1) = ((l.length : Nat) : Int) := by
  rw [cG (by omega) (by omega)]; omega
 rw [e]
 refine Fp D (f := l.length) h (by omega) (by omega) (Nat.le_refl _) ?_
 clear h; intro M h
 refine ⟨rfl, ?_⟩
 rw [D.ZV _ _ _ _ _ _ _ h]
 refine cE ?_
 rw [hlen] at h
 exact k _ _ _ _ h
theorem uV (D : Lf b o P) (h : Hp R (P A l.length c s :: dw A c l :: L) M) (hi : i < l.length) (hl : l.length ≤ 1000000)
  (k : ∀ M', Hp R (P A (l.length - 1) c s :: dw A c (ct l i) :: L) M' → K (.agg #[.int .u64 (jS l i).t, .int .u64 (jS l i).seq, .int .i64 (jS l i).id]) M') : aa Tryz.prog 117 #[.pointer (some ⟨b, o, none⟩), .int .i64 (i : Int)] M K Kp := by
 refine pE ?_
 have hcap := h.iJ A
 obtain ⟨q, rfl⟩ := h.bz (A := A) (by omega) (by decide)
 refine aj h ?_
 clear h; intro k1 M h
 have hs := h.src (A := some ⟨q, 0, none⟩)
 replace h : Hp R (P (some ⟨q, 0, none⟩) l.length c s :: dw (some ⟨q, 0, none⟩) c l :: pt k1 [.int .u64 0, .int .u64 0, .int .i64 0] 203 :: L) M := h.sub bM
 replace hs := h.src (A := some ⟨q, 0, none⟩)
 rw [D.Cp _ _ _ _ _ _ _ h]
 refine aR ⟨by omega, by omega, bp ?_⟩
 refine j6 h hs (jE hi) (by simp) (by simp) (by simp) ?_
 clear hs
 generalize hx : jS l i = x at k
 refine aj h ?_
 clear h; intro k2 M h
 refine aq h ?_
 clear h; intro M h
 refine aq h ?_
 clear h; intro M h
 refine aq h ?_
 clear h; intro M h
 replace h : Hp R (P (some ⟨q, 0, none⟩) l.length c s :: dw (some ⟨q, 0, none⟩) c l :: pt k2 [.int .u64 x.t, .int .u64 x.seq, .int .i64 x.id] 203 :: pt k1 [.int .u64 0, .int .u64 0, .int .i64 0] 203 :: L) M := h.sub bM
 rw [D.Cp _ _ _ _ _ _ _ h]
 have e : IntKind.wrap .i64 ((l.length : Int) - 1) = ((l.length - 1 : Nat) : Int) := by
  rw [cG (by omega) (by omega)]; omega
 refine aR ?_
 rw [e]
 refine uh D h hi (j := l.length - 1) (by omega) ?_
 clear h; intro M h
 refine ⟨rfl, ?_⟩
 rw [D.Cp _ _ _ _ _ _ _ h]
 refine aR ⟨by omega, by omega, by omega, by omega, by omega, by omega, ?_⟩
 have e2 : lF (some ⟨q, 0, none⟩) 0 (Int.toNat (c : Int)) 3 = some ⟨q, 0, none⟩ := by
  unfold lF; rw [if_neg (by simp; omega)]; rfl
 rw [e2]
 simp only [Int.toNat_natCast, Nat.sub_zero]
 refine D.Ui _ _ _ _ _ _ _ _ _ _ _ h ?_
 clear h; intro M h
 have Q7 : ((dW l i (l.length - 1)).take (l.length - 1)).length = l.length - 1 := by rw [List.length_take, eG]; omega
 have fin : ∀ (M : Mem) (Q : List HP), Hp R (P (some ⟨q, 0, none⟩) (l.length - 1) c s :: dw (some ⟨q, 0, none⟩) c (ct l i) :: pt k2 [.int .u64 x.t, .int .u64 x.seq, .int .i64 x.id] 203 :: pt k1 [.int .u64 0, .int .u64 0, .int .i64 0] 203 :: L) M →
   aG (Mem.ld M ⟨k2, 0, none⟩) .u64 fun yW => aG (Mem.ld M ⟨k2, (0 + 1), none⟩) .u64 fun Ad => aG (Mem.ld M ⟨k2, (0 + 2), none⟩) .i64 fun vF =>
   aF M ⟨k1, 0, none⟩ (.int .u64 yW) fun oW => aF oW ⟨k1, (0 + 1), none⟩ (.int .u64 Ad) fun BQ => aF BQ ⟨k1, (0 + 2), none⟩ (.int .i64 vF) fun rC =>
   aG (Mem.ld rC ⟨k1, 0, none⟩) .u64 fun Fa => aG (Mem.ld rC ⟨k1, (0 + 1), none⟩) .u64 fun wI => aG (Mem.ld rC ⟨k1, (0 + 2), none⟩) .i64 fun LK =>
   K (.agg #[(.int .u64 Fa), (.int .u64 wI), (.int .i64 LK)]) rC := by
  intro M _ h
  refine aH h (aH h (aH h ?_))
  refine aq h ?_
  clear h; intro M h
  refine aq h ?_
  clear h; intro M h
  refine aq h ?_
  clear h; intro M h
  refine aH h (aH h (aH h ?_))
  exact k _ (h.sub bM)
 replace h : Hp R (P (some ⟨q, 0, none⟩) (l.length - 1) c s :: dw (some ⟨q, 0, none⟩) c ((dW l i (l.length - 1)).take (l.length - 1)) :: pt k2 [.int .u64 x.t, .int .u64 x.seq, .int .i64 x.id] 203 :: pt k1 [.int .u64 0, .int .u64 0, .int .i64 0] 203 :: L) M := (h.swap.IF (l.length - 1)).swap
 unfold ct at fin
 refine aM.2 ⟨fun hlt => ?_, fun hge => ?_⟩
 ·rw [if_pos (by omega)] at fin
  have h' : Hp R (P (some ⟨q, 0, none⟩) ((dW l i (l.length - 1)).take (l.length - 1)).length c s :: dw (some ⟨q, 0, none⟩) c ((dW l i (l.length - 1)).take (l.length - 1)) :: pt k2 [.int .u64 x.t, .int .u64 x.seq, .int .i64 x.id] 203 :: pt k1 [.int .u64 0, .int .u64 0, .int .i64 0] 203 :: L) M := by rw [Q7]; exact h
  clear h
  have h := h'
  clear h'
  refine G9 D (f := l.length) h (by omega) (by omega) (by omega) ?_
  clear h; intro M h
  refine ⟨rfl, ?_⟩
  rw [show ((dW l i (l.length - 1)).take (l.length - 1)).length = (mH l.length i ((dW l i (l.length - 1)).take (l.length - 1))).length from ir.symm] at h
  refine Fp D (f := i) h (by rw [ir]; omega) (by rw [ir]; omega) (Nat.le_refl _) ?_
  clear h; intro M h
  refine ⟨rfl, ?_⟩
  rw [ir, Q7] at h
  exact fin M [] h
 ·rw [if_neg (by omega)] at fin
  exact fin M [] h
theorem Hf (D : Lf b o P) {now : Int} (h : Hp R (P A l.length c s :: dw A c l :: L) M) (hl : l.length ≤ 1000000)
  (k : ∀ A' c' M', Hp R (P A (cv l.length l now).1.length c s :: dw A c (cv l.length l now).1 :: dw A' c' (cv l.length l now).2 :: L) M' → K (.slice A' (cv l.length l now).2.length c') M') :
  aa Tryz.prog 157 #[.pointer (some ⟨b, o, none⟩), .int .u64 now] M K Kp := by
 refine su ?_
 have h0 := h.cz nL 203
 refine ⟨fun d vs M => ∃ (A' : Option Addr) (c' : Nat) (out l' : List aZ), vs = [.slice A' out.length c'] ∧ d = l'.length ∧ l'.length + out.length = l.length ∧ (cv l'.length l' now).1 = (cv l.length l now).1 ∧ out ++ (cv l'.length l' now).2 = (cv l.length l now).2 ∧
   Hp R (P A l'.length c s :: dw A c l' :: dw A' c' out :: L) M, ⟨_, none, 0, [], l, rfl, rfl, rfl, rfl, rfl, h0.sub bM⟩, ?_⟩
 clear h h0
 rintro d _ A' n' c' M ⟨A2, c2, out, l', he, hd, Q7, e1, e2, h⟩
 simp only [List.cons.injEq, Value.slice.injEq, and_true, true_and] at he
 obtain ⟨rfl, rfl, rfl⟩ := he
 rw [D.Cp _ _ _ _ _ _ _ h]
 have stop : ¬ (0 < l'.length ∧ (jS l' 0).t ≤ now) → K (.slice A' out.length c') M := by
  intro hn
  have e : cv l'.length l' now = (l', []) := by
   cases hl' : l'.length with
   | zero => rfl
   | succ m => rw [qV]; rw [if_neg hn]
  rw [e] at e1 e2
  dsimp only at e1 e2
  rw [List.append_nil] at e2
  subst e1; subst e2
  exact k _ _ _ h
 refine aR ?_
 refine aM.2 ⟨fun hgt => ?_, fun hle => stop (by omega)⟩
 have hcap := h.iJ A
 obtain ⟨q, rfl⟩ := h.bz (A := A) (by omega) (by decide)
 have hs := h.src (A := some ⟨q, 0, none⟩)
 refine aR ⟨by omega, by omega, bp ?_⟩
 refine bq (Src.at hs h (i := 0) (j := 0) (jE (by omega)) rfl rfl) ?_
 clear hs
 refine aM.2 ⟨fun hle => ?_, fun ZW => stop (fun hn => ZW hn.2)⟩
 refine uV D h (i := 0) (by omega) (by omega) ?_
 clear h stop; intro M h
 refine ⟨_, _, _, rfl, ?_⟩
 refine aj h ?_
 clear h; intro kb M h
 refine h.bF (A := A') vL [jS l' 0] rfl rfl (by simp only [List.length_singleton]; omega) ?_
 clear h; intro A3 c3 M h
 refine aR ?_
 have iP : (ct l' 0).length = l'.length - 1 := j5
 have hw : cv l'.length l' now = ((cv (ct l' 0).length (ct l' 0) now).1, jS l' 0 :: (cv (ct l' 0).length (ct l' 0) now).2) := by
  obtain ⟨m, hm⟩ : ∃ m, l'.length = m + 1 := ⟨l'.length - 1, by omega⟩
  rw [iP, hm]
  show cv (m + 1) l' now = _
  rw [qV]
  rw [if_pos ⟨by omega, hle⟩]; rfl
 rw [hw] at e1 e2
 rw [← iP] at h
 exact ⟨_, by omega, A3, c3, out ++ [jS l' 0], ct l' 0, rfl, rfl, by simp; omega, e1, by rw [List.append_assoc]; exact e2, h.sub bM⟩
theorem Q8 {kb T : Nat} : Lf kb 0 (fun A n c s => pt kb [.slice A n c, .int .u64 s] T) :=
 ⟨fun R L M A n c s h => bk h, fun R L M A n c s h => bk h, fun R L M A A' n c n' c' s G h k => aq h k, fun R L M A n c s s' G h k => aq h k⟩
theorem Hg (D : Lf b o P) (h : Hp R (P A l.length c s :: dw A c l :: L) M) (hl : l.length ≤ 1000000)
  (k : ∀ A' c' M', Hp R (dw A' c' (di l.length l) :: P A l.length c s :: dw A c l :: L) M' → K (.slice A' (di l.length l).length c') M') :
  aa Tryz.prog 63 #[.pointer (some ⟨b, o, none⟩)] M K Kp := by
 refine sv ?_
 refine aj h ?_
 clear h; intro kb M h
 replace h : Hp R (P A l.length c s :: dw A c l :: pt kb [] 203 :: L) M := h.sub (by repeat (first | exact .refl | refine .cons (by repeat (first | exact .here | apply cy.there)) ?_ | apply Sub.drop))
 rw [D.Cp _ _ _ _ _ _ _ h]
 refine aR ?_
 refine h.iY nL (k := kb) vL l (h.src (A := A)) rfl (by omega) ?_
 clear h; intro A1 c1 M h
 refine aR ?_
 refine aj h ?_
 clear h; intro kc M h
 refine aq h ?_
 clear h; intro M h
 refine aq h ?_
 clear h; intro M h
 have h0 := h.cz nL 203
 refine ⟨fun d vs M => ∃ (A' : Option Addr) (c' : Nat) (out l' : List aZ), vs = [.slice A' out.length c'] ∧ d = l'.length ∧ l'.length + out.length = l.length ∧ out ++ di l'.length l' = di l.length l ∧
   Hp R (pt kc [.slice A1 l'.length c1, .int .u64 0] 159 :: dw A1 c1 l' :: dw A' c' out :: P A l.length c s :: dw A c l :: L) M, ⟨_, none, 0, [], l, rfl, rfl, rfl, rfl, h0.sub (by repeat (first | exact .refl | refine .cons (by repeat (first | exact .here | apply cy.there)) ?_ | apply Sub.drop))⟩, ?_⟩
 clear h h0
 rintro d _ A' n' c' M ⟨A2, c2, out, l', he, hd, Q7, e2, h⟩
 simp only [List.cons.injEq, Value.slice.injEq, and_true, true_and] at he
 obtain ⟨rfl, rfl, rfl⟩ := he
 refine bj h ?_
 refine aM.2 ⟨fun hgt => ?_, fun hle => ?_⟩
 ·refine uV Q8 h (i := 0) (by omega) (by omega) ?_
  clear h; intro M h
  refine ⟨_, _, _, rfl, ?_⟩
  refine aj h ?_
  clear h; intro kb2 M h
  refine h.bF (A := A') vL [jS l' 0] rfl rfl (by simp only [List.length_singleton]; omega) ?_
  clear h; intro A3 c3 M h
  refine aR ?_
  have iP : (ct l' 0).length = l'.length - 1 := j5
  have hw : di l'.length l' = jS l' 0 :: di (ct l' 0).length (ct l' 0) := by
   obtain ⟨m, hm⟩ : ∃ m, l'.length = m + 1 := ⟨l'.length - 1, by omega⟩
   rw [iP, hm]
   show di (m + 1) l' = _
   rw [sV]
   rw [if_pos (by omega)]; rfl
  rw [hw] at e2
  rw [← iP] at h
  exact ⟨_, by omega, A3, c3, out ++ [jS l' 0], ct l' 0, rfl, rfl, by simp; omega, by rw [List.append_assoc]; exact e2, h.sub (by repeat (first | exact .refl | refine .cons (by repeat (first | exact .here | apply cy.there)) ?_ | apply Sub.drop))⟩
 ·have hz : l'.length = 0 := by omega
  rw [hz] at e2
  have e3 : out = di l.length l := by rw [← e2]; simp [di]
  subst e3
  exact k _ _ _ (h.sub (by repeat (first | exact .refl | refine .cons (by repeat (first | exact .here | apply cy.there)) ?_ | apply Sub.drop)))
end
def m6 (x : Wd) (k : Int) : Lk := x.aS.getD k.toNat ⟨-1, []⟩
def Wd.fP (x : Wd) (k : Int) (c : Lk) : Wd := { x with aS := x.aS.set k.toNat c }
def Wd.lock (x : Wd) (g : Int) (i : cN) : Wd := if ((m6 x i.a).take g).2 then x.fP i.a ((m6 x i.a).take g).1 else (x.fP i.a ((m6 x i.a).take g).1).block g i
def Wd.unlock (x : Wd) (g : Int) (i : cN) : Out Wd :=
 if ((m6 x i.a).qd g).2.2 ≠ 0 then .dM (-3) (x.fP i.a ((m6 x i.a).qd g).1)
 else if ((m6 x i.a).qd g).2.1 ≠ -1 then .on ((x.fP i.a ((m6 x i.a).qd g).1).cO ((m6 x i.a).qd g).2.1) else .on (x.fP i.a ((m6 x i.a).qd g).1)
def AK (x : Wd) (k : Int) : Prop := 0 ≤ k ∧ k < x.aS.length
instance (x : Wd) (k : Int) : Decidable (AK x k) := by unfold AK; infer_instance
def lg (x : Wd) (g : Int) (i : cN) : Prop := AK x i.a ∧ (((m6 x i.a).qd g).2.1 ≠ -1 → 0 ≤ ((m6 x i.a).qd g).2.1 ∧ ((m6 x i.a).qd g).2.1 < x.gs.length)
instance (x : Wd) (g : Int) (i : cN) : Decidable (lg x g i) := by unfold lg; infer_instance
def Wd.rand (x : Wd) (g : Int) (i : cN) : gY → Out Wd
 | .num d => .on ((x.next g).be g i.a d)
 | .cQ l => .cQ l x
def kH (x : Wd) (g : Int) (i : cN) : Int := if 1048576 < aT x g i.a then 1048576 else aT x g i.a
def Wd.sleep (x : Wd) (g : Int) (i : cN) : Wd :=
 if 0 < kH x g i then { x.aY g { ae x g with st := 3 } with hl := oA x.hl ⟨IntKind.wrap .u64 (x.clock + IntKind.wrap .u64 (kH x g i)), x.jA, g⟩, jA := IntKind.wrap .u64 (x.jA + 1) } else x
def Wd.tick (x : Wd) : Wd := if x.end_ ≠ 0 then { x with ready := [] } else
 let r := cv x.hl.length x.hl (IntKind.wrap .u64 (x.clock + 1))
 (r.2.map (·.id)).foldl Wd.cO { x with clock := IntKind.wrap .u64 (x.clock + 1), hl := r.1, ready := [] }
section
variable {R : Mem} {L L' L2 : List HP} {M : Mem} {K : Value → Mem → Prop} {Kp : List PanicEntry → Mem → Prop} {pa : PA} {p : ck} {gg : List GA} {dr : Value} {b : Nat} {x : Wd} {g : Int} {i : cN}
theorem MY (hg : aU x g) (hb : bt i.b) : fA R pa p dr 211 x g i (x.call g i) L L := by
 intro gg b bs c M K Kp Q h dU k
 refine pF ?_
 have Ay := hg
 obtain ⟨h0, h1, h2, h3⟩ := Ay
 unfold Wd.call at k
 refine aj h ?_
 clear h
 intro kb M h
 have hC := h
 have h' := fX h (b := b) h0 h1 dU
 clear h
 obtain ⟨a, gb, hl, fk, h⟩ := h'
 have hl' := hl
 obtain ⟨l1, l2, l3, l4⟩ := hl'
 repeat (first|(refine aj h ?_;clear h;intro kb M h)|(refine aq h ?_;clear h;intro M h)|refine St.to h ?_|(apply Exists.intro;(repeat apply Exists.intro);refine And.intro rfl ?_)|refine au ?_|refine af ?_|refine ai ?_)
 refine tw h fk fun q hq => ?_
 repeat (first|(refine aj h ?_;clear h;intro kb M h)|(refine aq h ?_;clear h;intro M h)|refine St.to h ?_|(apply Exists.intro;(repeat apply Exists.intro);refine And.intro rfl ?_)|refine au ?_|refine af ?_|refine ai ?_)
 refine ⟨hb.1, hb.2, sL h (dI h2) hb rfl ?_⟩
 repeat (first|(refine aj h ?_;clear h;intro kb M h)|(refine aq h ?_;clear h;intro M h)|refine St.to h ?_|(apply Exists.intro;(repeat apply Exists.intro);refine And.intro rfl ?_)|refine au ?_|refine af ?_|refine ai ?_)
 refine D6 h h2 ?_ ?_
 ·intro qR
  rw [if_pos (by omega)] at k
  refine ⟨_, _, _, _, rfl, af ?_⟩
  exact k _ _ (hC.sub bM)
 ·intro hlt b' c' M' h'
  clear h hC
  have h := h'
  clear h'
  rw [if_neg (by omega)] at k
  refine ⟨_, _, _, _, rfl, ai ?_⟩
  repeat (first|(refine aj h ?_;clear h;intro kb M h)|(refine aq h ?_;clear h;intro M h)|refine St.to h ?_|(apply Exists.intro;(repeat apply Exists.intro);refine And.intro rfl ?_)|refine au ?_|refine af ?_|refine ai ?_)
  refine tw h fk fun q2 o5 => ?_
  repeat (first|(refine aj h ?_;clear h;intro kb M h)|(refine aq h ?_;clear h;intro M h)|refine St.to h ?_|(apply Exists.intro;(repeat apply Exists.intro);refine And.intro rfl ?_)|refine au ?_|refine af ?_|refine ai ?_)
  have hlen : (ae x g).fs.length + 1 = ((ae x g).fs ++ [(⟨i.a, 0, [aT x g i.b, 0, 0, 0, 0, 0, 0, 0], i.c⟩ : fh)]).length := by simp
  have h5 := lf (A := some ⟨b', 0, none⟩) (fs := (ae x g).fs ++ [⟨i.a, 0, [aT x g i.b, 0, 0, 0, 0, 0, 0, 0], i.c⟩]) h gb hlen
  have hi := (List.getElem?_eq_some_iff.1 fk).1
  have h6 := h5.dh eX gb fk (by rw [List.length_zip]; omega)
  rw [wW] at h6
  have kA : ee (gg.set g.toNat (some ⟨b', 0, none⟩, c')) a (x.aY g ⟨(ae x g).st, (ae x g).fs ++ [⟨i.a, 0, [aT x g i.b, 0, 0, 0, 0, 0, 0, 0], i.c⟩], (ae x g).wt⟩) := ⟨by simpa [Wd.aY] using l1, by simpa [Wd.aY] using l2, l3, l4⟩
  have h7 := aN (a := a) (p := p) (pa := pa) (dr := dr) (gg := gg.set g.toNat (some ⟨b', 0, none⟩, c')) (x := x.aY g ⟨(ae x g).st, (ae x g).fs ++ [⟨i.a, 0, [aT x g i.b, 0, 0, 0, 0, 0, 0, 0], i.c⟩], (ae x g).wt⟩) kA h6 b
  exact k _ _ (h7.sub bM)
theorem Fq {a : WA} {k : Int} {c : Lk} (hl : ee gg a x) : ee gg a (x.fP k c) := by
 obtain ⟨l1, l2, l3, l4⟩ := hl
 exact ⟨l1, l2, l3, by simpa [Wd.fP] using l4⟩
theorem MZ (hg : aU x g) (hk : AK x i.a) (hs : x.Sm) : fA R pa p dr 219 x g i (.on (x.lock g i)) L L := by
 intro gg b bs c M K Kp Q h dU k
 refine pK ?_
 replace k : ∀ j4 M', Hp R (ax (bg pa p j4 dr) b (x.lock g i) :: Q :: L) M' → K (.tuple #[]) M' := k
 unfold Wd.lock at k
 obtain ⟨s1, s2, s3, s4, s5, s6, s7, s8⟩ := hs
 obtain ⟨k0, k1⟩ := hk
 refine aj h ?_
 clear h
 intro kb M h
 have h' := bX h (b := b)
 clear h
 obtain ⟨a, hl, h⟩ := h'
 have hl' := hl
 obtain ⟨l1, l2, l3, l4⟩ := hl'
 refine bj h (aH h ⟨k0, by omega, ?_⟩)
 obtain ⟨lb, hlb⟩ := aK (l := a.lb) (i := i.a.toNat) (by omega)
 refine tw h hlb fun q hq => ?_
 obtain ⟨y, hy⟩ := aK (l := x.aS) (i := i.a.toNat) (by omega)
 have e : m6 x i.a = y := by simp [m6, hy]
 rw [e] at k
 replace h := h.cB eN hlb hy
 refine D7 h (Nat.le_trans (s6 y (List.mem_of_getElem? hy)) (by decide)) ?_
 clear h; intro M h
 replace h := h.dh eN lb hlb (by omega)
 replace h := aN (a := a) (p := p) (pa := pa) (dr := dr) (gg := gg) (x := x.fP i.a (y.take g).1) (Fq hl) h b
 refine mC ?_
 cases ht : (y.take g).2 with
 | true =>
  rw [ht] at k
  simp only [if_true] at k
  refine ai ?_
  exact k _ _ (h.sub bM)
 | false =>
  rw [ht] at k
  simp only [Bool.false_eq_true, if_false] at k
  refine af ?_
  refine aH h (aH h (aH h (aH h ?_)))
  refine j1 (b := b) (i := i) h hg.1 (show g < (x.fP i.a (y.take g).1).gs.length from hg.2.1) ?_
  clear h; intro M h
  exact ⟨rfl, k _ _ (h.sub bM)⟩
theorem Hh (hk : lg x g i) (hs : x.Sm) : fA R pa p dr 220 x g i (x.unlock g i) L L := by
 intro gg b bs c M K Kp Q h dU k
 refine mR ?_
 unfold Wd.unlock at k
 obtain ⟨s1, s2, s3, s4, s5, s6, s7, s8⟩ := hs
 obtain ⟨⟨k0, k1⟩, hw⟩ := hk
 refine aj h ?_
 clear h
 intro kb M h
 have h' := bX h (b := b)
 clear h
 obtain ⟨a, hl, h⟩ := h'
 have hl' := hl
 obtain ⟨l1, l2, l3, l4⟩ := hl'
 refine bj h (aH h ⟨k0, by omega, ?_⟩)
 obtain ⟨lb, hlb⟩ := aK (l := a.lb) (i := i.a.toNat) (by omega)
 refine tw h hlb fun q hq => ?_
 obtain ⟨y, hy⟩ := aK (l := x.aS) (i := i.a.toNat) (by omega)
 have e : m6 x i.a = y := by simp [m6, hy]
 rw [e] at k hw
 replace h := h.cB eN hlb hy
 refine D8 h (Nat.le_trans (s6 y (List.mem_of_getElem? hy)) (by decide)) ?_
 clear h; intro M h
 replace h := h.dh eN lb hlb (by omega)
 replace h := aN (a := a) (p := p) (pa := pa) (dr := dr) (gg := gg) (x := x.fP i.a (y.qd g).1) (Fq hl) h b
 refine ⟨_, _, rfl, ?_⟩
 refine de.2 ⟨fun hn => ?_, fun hn => ?_⟩
 ·rw [if_pos hn] at k
  exact k _ _ (h.sub bM)
 rw [if_neg (by simpa using hn)] at k
 refine de.2 ⟨fun xU => ?_, fun xU => ?_⟩
 ·rw [if_pos xU] at k
  obtain ⟨w0, w1⟩ := hw xU
  refine gv (b := b) h w0 (show _ < ((x.fP i.a (y.qd g).1).gs.length : Int) from w1) (by show x.ready.length ≤ _; omega) ?_
  clear h; intro M h
  exact ⟨rfl, k _ _ (h.sub bM)⟩
 ·rw [if_neg (by simpa using xU)] at k
  exact k _ _ (h.sub bM)
theorem Na : fA R pa p dr 222 x g i (.dM i.a x) L L := by
 intro gg b bs c M K Kp Q h dU k
 refine pM ?_
 refine aj h ?_
 clear h
 intro kb M h
 refine aH h ?_
 exact k _ _ (h.sub bM)
theorem Kf : fA R pa p dr 214 x g i (.on x) L L := by
 intro gg b bs c M K Kp Q h dU k
 refine nT ?_
 refine aj h ?_
 clear h
 intro kb M h
 exact k _ _ (h.sub bM)
theorem Nb {d : gY} (hg : aU x g) (ha : bt i.a) (vK : 0 ≤ (ae x g).top.pc ∧ (ae x g).top.pc < 1000000000) (hd : gZ R dr 4 i.b d L L2) : fA R pa p dr 192 x g i (x.rand g i d) L L2 := by
 intro gg b bs c M K Kp Q h dU k
 refine pD ?_
 refine aj h ?_
 clear h
 intro kb M h
 have vo : M.ld ⟨b, 0 + 14, none⟩ = some dr := by
  obtain ⟨a, hl, h9⟩ := bX h (b := b)
  exact bk h9
 rw [vo]
 refine IC (aH h ?_)
 have h5 : Hp R (sep [ax (bg pa p gg dr) b x, pt kb [.int .i64 i.op, .int .i64 i.a, .int .i64 i.b, .int .i64 i.c] 27, Q] :: L) M := Hp.aQ.2 (h.sub bM)
 refine hd _ _ _ _ h5 ?_
 clear h h5 vo
 cases d with
 | cQ l =>
  dsimp only at k ⊢
  intro M h5
  have h : Hp R (ax (bg pa p gg dr) b x :: pt kb [.int .i64 i.op, .int .i64 i.a, .int .i64 i.b, .int .i64 i.c] 27 :: Q :: L2) M := Hp.aQ.1 h5
  exact k _ _ (h.sub bM)
 | num v =>
  dsimp only at k ⊢
  intro M h5
  have h : Hp R (ax (bg pa p gg dr) b x :: pt kb [.int .i64 i.op, .int .i64 i.a, .int .i64 i.b, .int .i64 i.c] 27 :: Q :: L2) M := Hp.aQ.1 h5
  clear h5
  refine cE ?_
  refine Es (b := b) h hg dU rfl ?_
  rw [ik vK.1 (by omega)]
  refine Er (b := b) h hg dU rfl rfl ?_
  clear h; intro M h
  refine aH h ⟨ha.1, ha.2, ?_⟩
  refine j3 (b := b) h (qU hg) dU ha (by rw [AH hg]) ?_
  clear h; intro M h
  exact k _ _ (h.sub bM)
abbrev vM (pa : PA) (p : ck) (dr : Value) (a : WA) (x : Wd) (nr : Nat) (A : Option Addr) (n c : Nat) (s : Int) : List Value :=
 [.slice pa.f p.funcs.length pa.fc, .slice pa.c p.oZ.length pa.cc, .int .i64 p.aS, .slice pa.k p.cases.length pa.kc, .slice a.ag a.gb.length a.cg, .int .u64 x.clock,
  .slice a.ac a.cb.length a.cc, .slice a.al a.lb.length a.cl, .slice A n c, .int .u64 s, .slice a.ao x.out.length a.co, .int .i64 x.end_, .int .i64 x.code, .slice a.ar nr a.cr, dr]
theorem Kg {a : WA} {nr T : Nat} : Lf b (0 + 8) (fun A n c s => pt b (vM pa p dr a x nr A n c s) T) :=
 ⟨fun R L M A n c s h => bk h, fun R L M A n c s h => bk h, fun R L M A A' n c n' c' s G h k => aq h k, fun R L M A n c s s' G h k => aq h k⟩
theorem Kh (hg : aU x g) (ha : bt i.a) (hs : x.hl.length < 1000000) : fA R pa p dr 218 x g i (.on (x.sleep g i)) L L := by
 intro gg b bs c M K Kp Q h dU k
 refine nU ?_
 replace k : ∀ j4 M', Hp R (ax (bg pa p j4 dr) b (x.sleep g i) :: Q :: L) M' → K (.tuple #[]) M' := k
 have Ay := hg
 obtain ⟨h0, h1, h2, h3⟩ := Ay
 unfold Wd.sleep at k
 refine aj h ?_
 clear h
 intro kb M h
 refine aH h ⟨ha.1, ha.2, ?_⟩
 refine Cl (b := b) h hg dU ha rfl ?_
 have hC := h
 have h' := bX h (b := b)
 clear h
 obtain ⟨a, hl, h⟩ := h'
 have hl' := hl
 obtain ⟨l1, l2, l3, l4⟩ := hl'
 have e : (if (1048576 : Int) < aT x g i.a then 1048576 else aT x g i.a) = kH x g i := rfl
 rw [e]
 refine aM.2 ⟨fun hn => ?_, fun hn => ?_⟩
 ·rw [if_pos (by omega)] at k
  refine aH h ?_
  clear hC
  replace h : Hp R (pt b (vM pa p dr a x x.ready.length a.ah x.hl.length a.ch x.jA) 161 :: dw a.ah a.ch x.hl :: aP eX a.gb (x.gs.zip gg) :: uP a.ag a.cg a.gb :: uQ a.ac a.cc a.cb :: aP br a.cb x.ay :: uR a.al a.cl a.lb :: aP eN a.lb x.aS :: qy a.ao a.co x.out :: jD a.ar a.cr x.ready :: Q :: L) M := h.sub bM
  refine He (Kg (a := a) (x := x)) h hs ?_
  clear h; intro v A' c' M h
  refine cE ?_
  have h9 : Hp R (ax (bg pa p gg dr) b { x with hl := oA x.hl ⟨IntKind.wrap .u64 (x.clock + IntKind.wrap .u64 (kH x g i)), x.jA, g⟩, jA := IntKind.wrap .u64 (x.jA + 1) } :: Q :: L) M := by
   have := zl (l := x.hl) (x := ⟨IntKind.wrap .u64 (x.clock + IntKind.wrap .u64 (kH x g i)), x.jA, g⟩)
   rw [← this] at h
   exact iB (a := { a with ah := A', ch := c' }) (x := { x with hl := oA x.hl ⟨IntKind.wrap .u64 (x.clock + IntKind.wrap .u64 (kH x g i)), x.jA, g⟩, jA := IntKind.wrap .u64 (x.jA + 1) }) ⟨l1, l2, l3, l4⟩ (h.sub bM)
  clear h hl l1 l2 l3 l4
  have h := h9
  clear h9
  have h' := fX (x := { x with hl := oA x.hl ⟨IntKind.wrap .u64 (x.clock + IntKind.wrap .u64 (kH x g i)), x.jA, g⟩, jA := IntKind.wrap .u64 (x.jA + 1) }) h (b := b) h0 h1 dU
  clear h
  obtain ⟨a2, gb, hl, fk, h⟩ := h'
  have hl' := hl
  obtain ⟨l1, l2, l3, l4⟩ := hl'
  refine bj h ⟨h0, by dsimp only at l1; omega, ?_⟩
  refine tw h fk fun q hq => ?_
  refine bp ?_
  refine aq h ?_
  clear h; intro M h
  replace h := cu h gb hl fk dU
  have kA := cC (y := { ae x g with st := 3 }) (g := g) hl
  replace h := aN (a := a2) (p := p) (pa := pa) (dr := dr) (gg := gg) (x := { x.aY g { ae x g with st := 3 } with hl := oA x.hl ⟨IntKind.wrap .u64 (x.clock + IntKind.wrap .u64 (kH x g i)), x.jA, g⟩, jA := IntKind.wrap .u64 (x.jA + 1) }) kA h b
  exact k _ _ (h.sub bM)
 ·rw [if_neg (by omega)] at k
  exact k _ _ (hC.sub bM)
theorem Nc {l : List Int} : ∀ {x : Wd}, (l.foldl Wd.cO x).gs.length = x.gs.length := by
 induction l with
 | nil => intro x; rfl
 | cons a l ih => intro x; rw [List.foldl_cons, ih]; simp [Wd.cO, Wd.aY]
theorem Eu {l : List Int} : ∀ {x : Wd}, (l.foldl Wd.cO x).ready = x.ready ++ l := by
 induction l with
 | nil => intro x; simp
 | cons a l ih => intro x; rw [List.foldl_cons, ih]; simp [Wd.cO]
theorem Ew (h : Hp R L M) [o : En b L pa p x L'] (hs : x.hl.length ≤ 1000000) (hw : ∀ y ∈ (cv x.hl.length x.hl (IntKind.wrap .u64 (x.clock + 1))).2, 0 ≤ y.id ∧ y.id < x.gs.length)
  (k : ∀ R' A c M', R.le R' → RS bB R' A c x.tick.ready → Hp R' (ax (bu pa p) b x.tick :: L') M' → K (.slice A x.tick.ready.length c) M') :
  aa Tryz.prog 120 #[.pointer (some ⟨b, 0, none⟩)] M K Kp := by
 refine pA ?_
 have h' := dx h (b := b)
 clear h
 obtain ⟨a, gg, dr, n, hl, h⟩ := h'
 have hl' := hl
 obtain ⟨l1, l2, l3, l4⟩ := hl'
 unfold Wd.tick at k
 dsimp only at k
 refine aH h ?_
 refine de.2 ⟨fun he => ?_, fun he => ?_⟩
 ·rw [if_pos he] at k
  exact k R none 0 M (Mem.le_refl _) (RS.nil _ _) (jc (a := a) (gg := gg) (dr := dr) (n := n) (x := { x with ready := [] }) hl h)
 rw [if_neg (by simpa using he)] at k
 refine aH h ?_
 refine aq h ?_
 clear h; intro M h
 refine aq h ?_
 clear h; intro M h
 refine aH h ?_
 replace h : Hp R (pt b (vM pa p dr { a with ar := none, cr := 0 } { x with clock := IntKind.wrap .u64 (x.clock + 1) } 0 a.ah x.hl.length a.ch x.jA) 161 :: dw a.ah a.ch x.hl :: aP eX a.gb (x.gs.zip gg) :: uP a.ag a.cg a.gb :: uQ a.ac a.cc a.cb :: aP br a.cb x.ay :: uR a.al a.cl a.lb :: aP eN a.lb x.aS :: qy a.ao a.co x.out :: L') M := h.sub (by repeat (first | exact .refl | refine .cons (by repeat (first | exact .here | apply cy.there)) ?_ | apply Sub.drop))
 refine Hf (Kg (a := { a with ar := none, cr := 0 }) (x := { x with clock := IntKind.wrap .u64 (x.clock + 1) })) h hs ?_
 clear h; intro A' c' M h
 have hlen : (cv x.hl.length x.hl (IntKind.wrap .u64 (x.clock + 1))).2.length ≤ x.hl.length := by
  have : ∀ (f : Nat) (l : List aZ) (now : Int), (cv f l now).2.length ≤ f := by
   intro f
   induction f with
   | zero => intro l now; exact Nat.le_refl _
   | succ f ih =>
    intro l now; unfold cv; split
    ·have := ih (ct l 0) now; simp; exact this
    ·exact Nat.zero_le _
  exact this _ _ _
 generalize cv x.hl.length x.hl (IntKind.wrap .u64 (x.clock + 1)) = r at h k hw hlen
 refine aR ?_
 have h0 := h.cz bB 3
 have hW : Hp R (ax (bg pa p gg dr) b { x with clock := IntKind.wrap .u64 (x.clock + 1), hl := r.1, ready := [] } :: dw A' c' r.2 :: L') M :=
  iB (a := { a with ar := none, cr := 0 }) (x := { x with clock := IntKind.wrap .u64 (x.clock + 1), hl := r.1, ready := [] }) ⟨l1, l2, l3, l4⟩ (h0.sub (by repeat (first | exact .refl | refine .cons (by repeat (first | exact .here | apply cy.there)) ?_ | apply Sub.drop)))
 clear h h0
 generalize AI : ({ x with clock := IntKind.wrap .u64 (x.clock + 1), hl := r.1, ready := [] } : Wd) = x1 at hW k
 have zo : x1.gs.length = x.gs.length := by rw [← AI]
 have hrd : x1.ready = [] := by rw [← AI]
 refine ⟨fun d vs M => ∃ j : Nat, vs = [.int .i64 (j : Int)] ∧ d = r.2.length - j ∧ j ≤ r.2.length ∧ Hp R (ax (bg pa p gg dr) b (((r.2.take j).map (·.id)).foldl Wd.cO x1) :: dw A' c' r.2 :: L') M, ⟨_, 0, rfl, rfl, by omega, hW⟩, ?_⟩
 clear hW
 rintro d _ nn M ⟨j, uS, hd, hj, h⟩
 simp only [List.cons.injEq, Value.int.injEq, and_true, true_and] at uS
 subst uS
 refine aM.2 ⟨fun hlt => ?_, fun hge => ?_⟩
 ·obtain ⟨w, ZX⟩ := aK (l := r.2) (i := j) (by omega)
  have hwm := hw w (List.mem_of_getElem? ZX)
  obtain ⟨q, rfl⟩ := h.bz (A := A') (by omega) (by decide)
  have Sd := h.src (A := some ⟨q, 0, none⟩)
  refine ⟨by omega, hlt, bp ?_⟩
  refine j6 h Sd ZX (by simp) (by simp) (by simp) ?_
  clear Sd
  refine aj h ?_
  clear h; intro kw M h
  refine aq h ?_
  clear h; intro M h
  refine aq h ?_
  clear h; intro M h
  refine aq h ?_
  clear h; intro M h
  refine aH h ?_
  refine gv (b := b) h hwm.1 (by rw [Nc, zo]; exact hwm.2) (by rw [Eu, hrd]; simp; omega) ?_
  clear h; intro M h
  refine ⟨rfl, r.2.length - (j + 1), by omega, j + 1, by rw [bn (by omega)], rfl, by omega, ?_⟩
  rw [dN ZX, List.map_append, List.foldl_append]
  exact h.sub (by repeat (first | exact .refl | refine .cons (by repeat (first | exact .here | apply cy.there)) ?_ | apply Sub.drop))
 ·have AG : j = r.2.length := by omega
  subst AG
  rw [List.take_length] at h
  generalize hz : (r.2.map (·.id)).foldl Wd.cO x1 = z at h k
  have h' := bX h (b := b)
  clear h
  obtain ⟨a2, kA, h⟩ := h'
  refine bj h ?_
  obtain ⟨R', hle, uT, h6⟩ := h.eo a2.ar
  exact k R' _ _ _ hle uT (jc (a := a2) (n := z.ready.length) (gg := gg) (dr := dr) kA (h6.sub (by repeat (first | exact .refl | refine .cons (by repeat (first | exact .here | apply cy.there)) ?_ | apply Sub.drop))))
theorem w4 (h : Hp R L M) [o : En b L pa p x L'] (hs : x.hl.length ≤ 1000000)
  (k : ∀ A c M', Hp R (dw A c (di x.hl.length x.hl) :: ax (bu pa p) b x :: L') M' → K (.slice A (di x.hl.length x.hl).length c) M') :
  aa Tryz.prog 19 #[.pointer (some ⟨b, 0, none⟩)] M K Kp := by
 refine kV ?_
 have h' := dx h (b := b)
 clear h
 obtain ⟨a, gg, dr, n, hl, h⟩ := h'
 replace h : Hp R (pt b (vM pa p dr a x n a.ah x.hl.length a.ch x.jA) 161 :: dw a.ah a.ch x.hl :: aP eX a.gb (x.gs.zip gg) :: uP a.ag a.cg a.gb :: uQ a.ac a.cc a.cb :: aP br a.cb x.ay :: uR a.al a.cl a.lb :: aP eN a.lb x.aS :: qy a.ao a.co x.out :: L') M := h.sub bM
 refine Hg (Kg (a := a) (x := x)) h hs ?_
 clear h; intro A' c' M h
 refine aR ?_
 have h2 : Hp R (pt b (mq pa p dr a x n) 161 :: aP eX a.gb (x.gs.zip gg) :: qS a x (dw A' c' (di x.hl.length x.hl) :: L')) M := h.sub bM
 have h3 := jc (a := a) (gg := gg) (dr := dr) (n := n) (x := x) hl h2
 exact k _ _ _ h3.swap
end
def sW (x : Wd) (g : Int) (i : cN) : Out (Wd × Bool) → Prop
 | .on (y, false) => aU y g ∧ (ae y g).fs.length = (ae x g).fs.length ∧ wV y i.a
 | .on (_, true) => True
 | .dM _ _ => True
 | .cQ _ _ => True
instance (x : Wd) (g : Int) (i : cN) (r : Out (Wd × Bool)) : Decidable (sW x g i r) := match r with
 | .on (y, false) => by unfold sW; infer_instance
 | .on (_, true) => isTrue trivial
 | .dM _ _ => isTrue trivial
 | .cQ _ _ => isTrue trivial
theorem Hi {p : ck} {x : Wd} {g : Int} {i : cN} (h : aU x g ∧ bt i.b ∧ mG p x i.a (aT x g i.b) ∧ sW x g i (x.put p i.a (aT x g i.b))) : Eb p x g i := by
 obtain ⟨h1, h2, h3, h4⟩ := h
 refine ⟨h1, h2, h3, ?_⟩
 generalize x.put p i.a (aT x g i.b) = r at h4
 match r, h4 with
 | .on (y, false), h4 => exact h4
 | .on (y, true), _ => trivial
 | .dM _ _, _ => trivial
 | .cQ _ _, _ => trivial
instance (x : Wd) (g : Int) (i : cN) : Decidable (ue x g i) := by unfold ue; infer_instance
instance (p : ck) (x : Wd) (i : cN) : Decidable (mh p x i) := by unfold mh; infer_instance
def w5 (p : ck) (x : Wd) (g : Int) (i : cN) (k : Int) : Prop :=
 let c := (aB p i).getD k.toNat ⟨0, 0, 0⟩
 let x1 := x.next g
 0 ≤ k ∧ k < (aB p i).length ∧ bt c.bN ∧
  if c.way = 1 then mG p x1 c.ch (aT x1 g c.bN) ∧ (match x1.put p c.ch (aT x1 g c.bN) with
   | .on (y, _) => aU y g ∧ (ae y g).fs.length = (ae x g).fs.length
   | _ => True)
  else sP x1 c.ch ∧ aU (x1.get c.ch).1 g ∧ (ae (x1.get c.ch).1 g).fs.length = (ae x g).fs.length
instance (g : Int) (n : Nat) (r : Out (Wd × Bool)) : Decidable (match r with
   | .on (y, _) => aU y g ∧ (ae y g).fs.length = n
   | _ => True) := match r with
 | .on (y, _) => by dsimp only; infer_instance
 | .dM _ _ => isTrue trivial
 | .cQ _ _ => isTrue trivial
instance (p : ck) (x : Wd) (g : Int) (i : cN) (k : Int) : Decidable (w5 p x g i k) := by unfold w5; infer_instance
def lj (p : ck) (x : Wd) (g : Int) (i : cN) (d : gY) : Bool :=
 decide (aU x g ∧ sU p i ∧ bt i.c ∧ x.Sm ∧ (ae x g).top.pc < 1000000000 ∧ 0 ≤ (ae x g).top.pc ∧ (∀ c ∈ aB p i, c.Ok x.ay.length)) &&
 (match d with
  | .cQ _ => true
  | .num v => (enabled (aB p i) x.ay).isEmpty || decide (0 ≤ v ∧ v < (enabled (aB p i) x.ay).length ∧ w5 p x g i ((enabled (aB p i) x.ay).getD v.toNat 0)))
theorem CC {p : ck} {x : Wd} {g : Int} {i : cN} {d : gY} (h : lj p x g i d = true) : CA p x g i d := by
 unfold lj at h
 rw [Bool.and_eq_true] at h
 obtain ⟨h1, h2⟩ := h
 obtain ⟨a1, a2, a3, a4, a5, a6, a7⟩ := of_decide_eq_true h1
 refine ⟨a1, a2, a3, a4, a5, a6, a7, ?_⟩
 cases d with
 | cQ l => split <;> trivial
 | num v =>
  dsimp only at h2
  cases he : enabled (aB p i) x.ay with
  | nil => trivial
  | cons q l =>
   rw [he] at h2
   rw [List.isEmpty_cons, Bool.false_or] at h2
   have h3 := of_decide_eq_true h2
   exact h3
def iE (p : ck) (x : Wd) (g : Int) (i : cN) : Option (Out Wd) :=
 if i.op = 10 then (if aU x g ∧ bt i.a ∧ bt (ae x g).top.bK then some (.on (x.back g i)) else none)
 else if i.op = 11 then (if aU x g ∧ bt i.b ∧ bt i.c ∧ x.Sm then some (x.spawn g i) else none)
 else if i.op = 13 then (if (aU x g ∧ bt i.b ∧ mG p x i.a (aT x g i.b) ∧ sW x g i (x.put p i.a (aT x g i.b))) ∧ x.Sm then some (x.send p g i) else none)
 else if i.op = 14 then (if ue x g i ∧ x.Sm then some (.on (x.recv g i)) else none)
 else if i.op = 15 then (if mh p x i ∧ x.Sm then some (x.shut p i) else none)
 else if i.op = 20 then (if aU x g ∧ bt i.a ∧ x.Sm then some (x.emit g i) else none)
 else if i.op = 9 then (if aU x g ∧ bt i.b then some (x.call g i) else none)
 else if i.op = 12 then some (.on x)
 else if i.op = 17 then (if aU x g ∧ bt i.a ∧ x.hl.length < 1000000 then some (.on (x.sleep g i)) else none)
 else if i.op = 18 then (if aU x g ∧ AK x i.a ∧ x.Sm then some (.on (x.lock g i)) else none)
 else if i.op = 19 then (if lg x g i ∧ x.Sm then some (x.unlock g i) else none)
 else if i.op = 22 then some (.dM i.a x)
 else none
def iR (p : ck) (x : Wd) (g : Int) : Option cN := match p.funcs[(ae x g).top.fn.toNat]? with
 | none => none
 | some code => code[(ae x g).top.pc.toNat]?
def lp (x : Wd) (g : Int) : Prop := 0 ≤ g ∧ g < x.gs.length ∧ x.end_ = 0 ∧ (ae x g).st = 1
instance (x : Wd) (g : Int) : Decidable (lp x g) := by unfold lp; infer_instance
def asks (p : ck) (x : Wd) (g : Int) : Option (Int × Int) :=
 if lp x g then match iR p x g with
  | none => none
  | some i => if i.op = 21 then some (4, i.b) else if i.op = 16 then (if enabled (aB p i) x.ay = [] then none else some (3, (enabled (aB p i) x.ay).length)) else none
 else none
def j7 (p : ck) (x0 : Wd) (g : Int) (d : gY) : Option (Out Wd × Bool) :=
 let x := { x0 with ready := [] }
 if lp x g then
  if aU x g ∧ 0 ≤ (ae x g).top.fn ∧ 0 ≤ (ae x g).top.pc ∧ (ae x g).top.pc < 1000000000 then
   match p.funcs[(ae x g).top.fn.toNat]? with
   | none => none
   | some code => match code[(ae x g).top.pc.toNat]? with
    | none => some (.dM (-7) x, false)
    | some i =>
     if 0 ≤ i.op ∧ i.op ≤ 8 then (if i.kD then some (.on (x.aY g ((ae x g).bW ((ae x g).top.next.pure i))), false) else none)
     else if i.op = 16 then (if lj p x g i d = true then (if g < (x.choose p g i d).fin.gs.length then some (x.choose p g i d, false) else none) else none)
     else if i.op = 21 then (if bt i.a then (if g < (x.rand g i d).fin.gs.length then some (x.rand g i d, false) else none) else none)
     else match iE p (x.next g) g i with
      | none => none
      | some r => if g < r.fin.gs.length then some (r, wX i.op r) else none
  else none
 else some (.on x, true)
def exec (p : ck) (x : Wd) (g : Int) (d : gY) : Option (Wd × Bool) := match j7 p x g d with
 | some (.on y, rest) => some (y, dZ y g rest)
 | some (.dM n y, rest) => some ({ y with end_ := 2, code := n }, dZ { y with end_ := 2, code := n } g rest)
 | _ => none
section
variable {R : Mem} {L L' L2 : List HP} {M : Mem} {K : Value → Mem → Prop} {Kp : List PanicEntry → Mem → Prop} {pa : PA} {p : ck} {gg : List GA} {dr : Value} {b : Nat} {x : Wd} {g : Int}
theorem b6 {α : Type} {c : Prop} [Decidable c] {a b : α} (h : (if c then some a else none) = some b) : c ∧ b = a := by
 split at h
 ·rename_i hc; cases h; exact ⟨hc, rfl⟩
 ·cases h
theorem Hj {i : cN} {r : Out Wd} (hp : m5 R pa p) (h : iE p x g i = some r) : ∃ fn, yn QZ i.op = some (.func (.func fn) #[] #[]) ∧ (1 < fn ∧ fn < 255) ∧ i.op ≠ 16 ∧ i.op ≠ 21 ∧ 8 < i.op ∧ ∀ L, fA R pa p dr fn x g i r L L := by
 unfold iE at h
 by_cases e : i.op = 10
 ·rw [if_pos e] at h
  obtain ⟨hc, rfl⟩ := b6 h
  exact ⟨212, by rw [e]; rfl, by decide, by omega, by omega, by omega, fun L => MS hc.1 hc.2.1 hc.2.2⟩
 rw [if_neg e] at h
 clear e
 by_cases e : i.op = 11
 ·rw [if_pos e] at h
  obtain ⟨hc, rfl⟩ := b6 h
  exact ⟨213, by rw [e]; rfl, by decide, by omega, by omega, by omega, fun L => J7 hc.1 hc.2.1 hc.2.2.1 hc.2.2.2⟩
 rw [if_neg e] at h
 clear e
 by_cases e : i.op = 13
 ·rw [if_pos e] at h
  obtain ⟨hc, rfl⟩ := b6 h
  exact ⟨215, by rw [e]; rfl, by decide, by omega, by omega, by omega, fun L => MO hp (Hi hc.1) hc.2⟩
 rw [if_neg e] at h
 clear e
 by_cases e : i.op = 14
 ·rw [if_pos e] at h
  obtain ⟨hc, rfl⟩ := b6 h
  exact ⟨216, by rw [e]; rfl, by decide, by omega, by omega, by omega, fun L => MP hc.1 hc.2⟩
 rw [if_neg e] at h
 clear e
 by_cases e : i.op = 15
 ·rw [if_pos e] at h
  obtain ⟨hc, rfl⟩ := b6 h
  exact ⟨217, by rw [e]; rfl, by decide, by omega, by omega, by omega, fun L => MR hp hc.1 hc.2⟩
 rw [if_neg e] at h
 clear e
 by_cases e : i.op = 20
 ·rw [if_pos e] at h
  obtain ⟨hc, rfl⟩ := b6 h
  exact ⟨221, by rw [e]; rfl, by decide, by omega, by omega, by omega, fun L => MQ hc.1 hc.2.1 hc.2.2⟩
 rw [if_neg e] at h
 clear e
 by_cases e : i.op = 9
 ·rw [if_pos e] at h
  obtain ⟨hc, rfl⟩ := b6 h
  exact ⟨211, by rw [e]; rfl, by decide, by omega, by omega, by omega, fun L => MY hc.1 hc.2⟩
 rw [if_neg e] at h
 clear e
 by_cases e : i.op = 12
 ·rw [if_pos e] at h
  cases h
  exact ⟨214, by rw [e]; rfl, by decide, by omega, by omega, by omega, fun L => Kf⟩
 rw [if_neg e] at h
 clear e
 by_cases e : i.op = 17
 ·rw [if_pos e] at h
  obtain ⟨hc, rfl⟩ := b6 h
  exact ⟨218, by rw [e]; rfl, by decide, by omega, by omega, by omega, fun L => Kh hc.1 hc.2.1 hc.2.2⟩
 rw [if_neg e] at h
 clear e
 by_cases e : i.op = 18
 ·rw [if_pos e] at h
  obtain ⟨hc, rfl⟩ := b6 h
  exact ⟨219, by rw [e]; rfl, by decide, by omega, by omega, by omega, fun L => MZ hc.1 hc.2.1 hc.2.2⟩
 rw [if_neg e] at h
 clear e
 by_cases e : i.op = 19
 ·rw [if_pos e] at h
  obtain ⟨hc, rfl⟩ := b6 h
  exact ⟨220, by rw [e]; rfl, by decide, by omega, by omega, by omega, fun L => Hh hc.1 hc.2⟩
 rw [if_neg e] at h
 clear e
 by_cases e : i.op = 22
 ·rw [if_pos e] at h
  cases h
  exact ⟨222, by rw [e]; rfl, by decide, by omega, by omega, by omega, fun L => Na⟩
 rw [if_neg e] at h
 clear e
 cases h
theorem Ey {l : List Int} (h : Hp R (ax (bu pa p) b x :: L) M) : Hp R (ax (bu pa p) b { x with ready := l } :: L) M := by
 obtain ⟨a, gg, dr, n, hl, h⟩ := dx h (b := b)
 exact jc (a := a) (gg := gg) (dr := dr) (n := n) (x := { x with ready := l }) hl h
theorem gZ.cons {kind n : Int} {d : gY} {Q : HP} (h : gZ R dr kind n d L L2) : gZ R dr kind n d (Q :: L) (Q :: L2) := by
 intro Q' M K Kp hM k
 refine h (sep [Q', Q]) M K Kp (Hp.aQ.2 hM) ?_
 cases d with
 | num v => exact fun M' h' => k M' (Hp.aQ.1 h')
 | cQ l => exact fun M' h' => k M' (Hp.aQ.1 h')
theorem Hl {d : gY} {r : Out Wd} {rest : Bool} (h : Hp R L M) [o : En b L pa p x L'] (hp : m5 R pa p) (vo : ∃ f c d, dr = .func f c d) (he : j7 p x g d = some (r, rest))
  (hd : match asks p { x with ready := [] } g with | none => L2 = L' | some (kd, n) => gZ R dr kd n d L' L2) (k : pe R pa p b g L2 K Kp r rest) :
  aa Tryz.prog 121 #[.pointer (some ⟨b, 0, none⟩), .int .i64 g, dr] M K Kp := by
 unfold j7 at he
 dsimp only at he
 split at he
 ·rename_i hg
  have Ay := hg
  obtain ⟨h0, h1, ZY, vn⟩ := Ay
  split at he
  ·rename_i vK
   obtain ⟨Ki, hf0, hp0, R9⟩ := vK
   split at he
   ·cases he
   ·rename_i code iD
    have done : ∀ (r : Out Wd) (rest : Bool), pe R pa p b g L2 K Kp r rest → (∀ Q, Step R pa p dr { x with ready := [] } g code r rest (Q :: L') (Q :: L2)) → g < r.fin.gs.length → aa Tryz.prog 121 #[.pointer (some ⟨b, 0, none⟩), .int .i64 g, dr] M K Kp := by
     intro r rest k hs hl
     exact Eo (x := x) h hp (show aU x g from Ki) ZY vn hf0 iD ⟨hp0, R9⟩ vo hs hl k
    have vq : ∀ i, code[(ae x g).top.pc.toNat]? = some i → asks p { x with ready := [] } g = if i.op = 21 then some (4, i.b) else if i.op = 16 then (if enabled (aB p i) x.ay = [] then none else some (3, ((enabled (aB p i) x.ay).length : Int))) else none := by
     intro i hi
     unfold asks
     rw [if_pos hg]
     unfold iR
     rw [show p.funcs[(ae { x with ready := [] } g).top.fn.toNat]? = some code from iD]
     dsimp only
     rw [show code[(ae { x with ready := [] } g).top.pc.toNat]? = some i from hi]
    split at he
    ·rename_i hnone
     cases he
     have e : asks p { x with ready := [] } g = none := by
      unfold asks
      rw [if_pos hg]
      unfold iR
      rw [show p.funcs[(ae { x with ready := [] } g).top.fn.toNat]? = some code from iD]
      dsimp only
      rw [hnone]
     rw [e] at hd
     dsimp only at hd
     subst hd
     refine done (.dM (-7) { x with ready := [] }) false k (fun Q => .out ?_) h1
     have := List.getElem?_eq_none_iff.1 hnone
     omega
    ·rename_i i hi
     have e := vq i hi
     rw [e] at hd
     clear e vq
     split at he
     ·rename_i h8
      split at he
      ·rename_i hok
       cases he
       rw [if_neg (by omega), if_neg (by omega)] at hd
       dsimp only at hd
       subst hd
       exact done (.on _) false k (fun Q => .pure i hi h8.1 h8.2 hok) (by simpa [Out.fin, Wd.aY] using h1)
      ·cases he
     split at he
     ·rename_i Fg
      split at he
      ·rename_i hok
       split at he
       ·rename_i hl
        cases he
        rw [if_neg (by omega), if_pos Fg] at hd
        refine done _ false k (fun Q => .AB i hi Fg (G6 hp (CC hok) ?_)) hl
        split at hd
        ·rename_i hq
         split at hq
         ·rename_i o5
          rw [if_pos (by exact o5), hd]
         ·cases hq
        ·rename_i kd n hq
         split at hq
         ·cases hq
         ·rename_i o5
          cases hq
          rw [if_neg (by exact o5)]
          exact hd.cons
       ·cases he
      ·cases he
     split at he
     ·rename_i Sa
      split at he
      ·rename_i hok
       split at he
       ·rename_i hl
        cases he
        rw [if_pos Sa] at hd
        exact done _ false k (fun Q => .Q1 i hi Sa (Nb Ki hok ⟨hp0, R9⟩ (gZ.cons hd))) hl
       ·cases he
      ·cases he
     split at he
     ·cases he
     ·rename_i Fg Sa _ r' uW
      split at he
      ·rename_i hl
       cases he
       rw [if_neg Sa, if_neg Fg] at hd
       dsimp only at hd
       subst hd
       obtain ⟨fn, f1, f2, f3, f4, f5, f6⟩ := Hj (R := R) (pa := pa) (dr := dr) hp uW
       exact done _ _ k (fun Q => .dflt i fn hi f5 f3 f4 f1 f2 (f6 _)) hl
      ·cases he
  ·cases he
 ·rename_i hr
  cases he
  have e : asks p { x with ready := [] } g = none := by
   unfold asks
   rw [if_neg hr]
  rw [e] at hd
  dsimp only at hd
  subst hd
  refine iQ ?_
  refine aj h ?_
  clear h
  intro kb M h
  have hC := h
  have h' := dx h (b := b)
  clear h
  obtain ⟨a, gg, dr0, n0, hl, h⟩ := h'
  have hl' := hl
  obtain ⟨l1, l2, l3, l4⟩ := hl'
  have fin : aF M ⟨kb, 0, none⟩ (.bool false) fun rC => aF rC ⟨kb, (0 + 1), none⟩ (.slice none 0 0) fun yh =>
    cV (Mem.ld yh ⟨kb, 0, none⟩) fun t36 => az (Mem.ld yh ⟨kb, (0 + 1), none⟩) fun Mg hU Af => K (.agg #[(.bool t36), (.slice Mg hU Af)]) yh := by
   have h := hC
   clear hC
   refine aq h ?_
   clear h; intro M h
   refine aq h ?_
   clear h; intro M h
   refine E1 h (bj h ?_)
   have k2 := k R none 0 M (Mem.le_refl _) (RS.nil _ _) (Ey (h.drop.pick o.pick))
   exact k2
  refine aM.2 ⟨fun hn => fin, fun h0 => ?_⟩
  refine bj h ?_
  refine aM.2 ⟨fun hn => fin, fun h1 => ?_⟩
  refine aH h ?_
  refine de.2 ⟨fun hn => fin, fun he0 => ?_⟩
  refine bj h ?_
  refine ⟨by omega, by omega, ?_⟩
  obtain ⟨gb, fk⟩ := aK (l := a.gb) (i := g.toNat) (by omega)
  refine tw h fk fun q hq => ?_
  obtain ⟨ga, MT⟩ := aK (l := gg) (i := g.toNat) (by omega)
  obtain ⟨z, hy⟩ := aK (l := x.gs) (i := g.toNat) (by omega)
  have ey : ae x g = z := by simp [ae, hy]
  refine bp ?_
  have Kb : M.ld ⟨gb, 0, none⟩ = some (.int .i64 z.st) := by
   have h9 := kZ (b := gb) (h.cB eX fk (me hy MT))
   exact bk h9
  rw [Kb]
  refine cE ?_
  refine de.2 ⟨fun hn => fin, fun hn => ?_⟩
  exact absurd ⟨by omega, by show g < (x.gs.length : Int); omega, he0, by show (ae x g).st = 1; rw [ey]; exact hn⟩ hr
end
def sX (y : cT) : Bool := y.st == 1 || y.st == 3
def Wd.stuck (x : Wd) : Bool := x.end_ == 0 && !(x.gs.any sX)
section
variable {R : Mem} {L L' L2 : List HP} {M : Mem} {K : Value → Mem → Prop} {Kp : List PanicEntry → Mem → Prop} {pa : PA} {p : ck} {b : Nat} {x : Wd} {g : Int}
theorem CD (h : Hp R L M) [o : En b L pa p x L'] (hs : x.gs.length ≤ 1000000) (k : K (.bool x.stuck) M) : aa Tryz.prog 65 #[.pointer (some ⟨b, 0, none⟩)] M K Kp := by
 refine nV ?_
 unfold Wd.stuck at k
 have h' := dx h (b := b)
 clear h
 obtain ⟨a, gg, dr, n, hl, h⟩ := h'
 have hl' := hl
 obtain ⟨l1, l2, l3, l4⟩ := hl'
 refine aH h ?_
 refine de.2 ⟨fun he => ?_, fun he => ?_⟩
 ·rw [show (x.end_ == 0) = false from by simpa using he, Bool.false_and] at k
  exact k
 rw [show (x.end_ == 0) = true from by simpa using he, Bool.true_and] at k
 refine bj h ?_
 refine ⟨fun d vs M' => ∃ j : Nat, vs = [.int .i64 (j : Int)] ∧ d = x.gs.length - j ∧ j ≤ x.gs.length ∧ (x.gs.take j).any sX = false ∧ M' = M, ⟨_, 0, rfl, rfl, by omega, rfl, rfl⟩, ?_⟩
 rintro d _ nn M' ⟨j, uS, hd, hj, ha, rfl⟩
 simp only [List.cons.injEq, Value.int.injEq, and_true, true_and] at uS
 subst uS
 refine aM.2 ⟨fun hlt => ?_, fun hge => ?_⟩
 ·obtain ⟨gb, fk⟩ := aK (l := a.gb) (i := j) (by omega)
  obtain ⟨ga, MT⟩ := aK (l := gg) (i := j) (by omega)
  obtain ⟨y, hy⟩ := aK (l := x.gs) (i := j) (by omega)
  have Kb : M'.ld ⟨gb, 0, none⟩ = some (.int .i64 y.st) := by
   have h9 := kZ (b := gb) (h.cB eX fk (me hy MT))
   exact bk h9
  refine ⟨by omega, by omega, ?_⟩
  refine tw h fk fun q hq => ?_
  refine bp ?_
  rw [Kb]
  refine cE ?_
  have hym := List.mem_of_getElem? hy
  refine bU.2 ⟨fun e1 => ?_, fun e1 => ?_⟩
  ·have : x.gs.any sX = true := List.any_eq_true.2 ⟨y, hym, by simp [sX, e1]⟩
   rw [this] at k
   exact k
  refine bp ?_
  rw [Kb]
  refine cE ?_
  refine bU.2 ⟨fun e3 => ?_, fun e3 => ?_⟩
  ·have : x.gs.any sX = true := List.any_eq_true.2 ⟨y, hym, by simp [sX, e3]⟩
   rw [this] at k
   exact k
  refine ⟨x.gs.length - (j + 1), by omega, j + 1, by rw [bn (by omega)], rfl, by omega, ?_, rfl⟩
  rw [dN hy, List.any_append, ha]
  simp [sX, e1, e3]
 ·have AG : j = x.gs.length := by omega
  subst AG
  rw [List.take_length] at ha
  rw [ha] at k
  exact k
end
def Nd : jO (Int × Int) := ⟨2, fun w => [.int .i64 w.1, .int .u64 w.2], fun _ => rfl, fun w v hv => by
 simp only [List.mem_cons, List.not_mem_nil, or_false] at hv; obtain rfl | rfl := hv <;> rfl⟩
inductive gx where
 | m7 (l : List Int) (at_ : Nat)
 | tape (l : List (Int × Int)) (at_ : Nat)
structure kK where
 k : gx
 taken : List (Int × Int)
def Ho : List PanicEntry := [{ v := .iface 240 (.agg #[]), recovered := false }]
def Se (at_ kind n k v : Int) : List PanicEntry := [{ v := .iface 97 (.agg #[.int .i64 at_, .int .i64 kind, .int .i64 n, .int .i64 k, .int .u64 v]), recovered := false }]
def jT (n : Int) : Int := if 1 > n then 1 else n
def gx.next (k : gx) (kind m : Int) : gx × gY := match k with
 | .m7 l i => match l[i]? with
  | none => (.m7 l i, .cQ Ho)
  | some v => (.m7 l (i + 1), .num (Int.tmod v m))
 | .tape l i => match l[i]? with
  | none => (.tape l i, .cQ Ho)
  | some (q, v) => if q ≠ kind then (.tape l i, .cQ (Se i kind m q v)) else if v ≥ m then (.tape l i, .cQ (Se i kind m q v)) else (.tape l (i + 1), .num v)
def kK.draw (x : kK) (kind n : Int) : kK × gY := match x.k.next kind (jT n) with
 | (k', .num v) => (⟨k', x.taken ++ [(kind, v)]⟩, .num v)
 | (k', .cQ l) => (⟨k', x.taken⟩, .cQ l)
def gx.Ok : gx → Prop
 | .m7 l i => l.length ≤ 1000000000 ∧ i ≤ l.length ∧ ∀ v ∈ l, 0 ≤ v ∧ v < 18446744073709551616
 | .tape l i => l.length ≤ 1000000000 ∧ i ≤ l.length ∧ ∀ v ∈ l, 0 ≤ v.2 ∧ v.2 < 18446744073709551616
def kK.Ok (x : kK) : Prop := x.k.Ok ∧ x.taken.length ≤ 1000000000
abbrev qW (A : Option Addr) (c : Nat) (l : List (Int × Int)) : HP := bV Nd 95 A c l
abbrev Uo (A : Option Addr) (c : Nat) (l : List Int) : HP := bV Dz 32 A c l
def kR : ru gx := ⟨fun b k => match k with
 | .m7 l i => exs fun A : Option Addr => exs fun c : Nat => sep [pt b [.slice A l.length c, .int .i64 (i : Int)] 147, Uo A c l]
 | .tape l i => exs fun A : Option Addr => exs fun c : Nat => sep [pt b [.slice A l.length c, .int .i64 (i : Int)] 354, qW A c l]⟩
def uX : gx → Nat → Value
 | .m7 _ _, b => .func (.func 59) #[.pointer (some ⟨b, 0, none⟩)] #[]
 | .tape _ _, b => .func (.func 198) #[.pointer (some ⟨b, 0, none⟩)] #[]
def w6 : gx → Nat → Value
 | .m7 _ _, b => .func (.func 60) #[.pointer (some ⟨b, 0, none⟩)] #[]
 | .tape _ _, b => .func (.func 199) #[.pointer (some ⟨b, 0, none⟩)] #[]
def b7 (Ov : Value) : ru kK := ⟨fun b x => exs fun A : Option Addr => exs fun c : Nat => exs fun kb : Nat =>
 sep [pt b [uX x.k kb, w6 x.k kb, .slice A x.taken.length c, Ov] 152, qW A c x.taken, ax kR kb x.k]⟩
theorem Q9 : bA Tryz.prog 149 95 2 16 [.int .i64 0, .int .u64 0] := bA.mk' (zv := .agg #[.int .i64 0, .int .u64 0]) (by kernel_rfl) (by kernel_rfl) rfl (by omega)
theorem Kj : bA Tryz.prog 31 32 1 8 [.int .u64 0] := bA.mk' (zv := .int .u64 0) (by kernel_rfl) (by kernel_rfl) rfl (by omega)
theorem oB {C : Ctx} {g : Nat} {first : Array Value} {args : List Value} {M : Mem} {K : Value → Mem → Prop} {Kp : List PanicEntry → Mem → Prop} (hg : 1 < g ∧ g < C.ok) (h : aa C.P g (first.toList ++ args).toArray M K Kp) : gK C (.func (.func g) first #[]) args M K Kp := by
 unfold gK
 simp only
 rw [if_pos hg]
 simpa using h
theorem w7 (n : Int) : 1 ≤ jT n := by unfold jT; split <;> omega
theorem CE {z : Int} (h0 : 0 ≤ z) (h : z < 18446744073709551616) : IntKind.wrap .u64 z = z := by
 obtain ⟨n, rfl⟩ := Int.eq_ofNat_of_zero_le h0
 rw [IntKind.wrap_u64]; omega
section
variable {R : Mem} {L L' L2 : List HP} {M : Mem} {K : Value → Mem → Prop} {Kp : List PanicEntry → Mem → Prop} {b : Nat} {x : kK} {Ov : Value}
theorem w8 {k : gx} {kind m : Int} (hok : k.Ok) (hm : 1 ≤ m) {k' : gx} {v : Int} (h : k.next kind m = (k', .num v)) : 0 ≤ v ∧ v < m := by
 cases k with
 | m7 l i =>
  unfold gx.next at h
  dsimp only at h
  split at h
  ·cases h
  ·rename_i w hw
   cases h
   have := hok.2.2 w (List.mem_of_getElem? hw)
   exact ⟨Int.tmod_nonneg _ this.1, Int.tmod_lt_of_pos _ (by omega)⟩
 | tape l i =>
  unfold gx.next at h
  dsimp only at h
  split at h
  ·cases h
  ·rename_i q w hw
   have := hok.2.2 _ (List.mem_of_getElem? hw)
   split at h
   ·cases h
   ·split at h
    ·cases h
    ·cases h
     exact ⟨this.1, by omega⟩
theorem Nf {k : gx} {kind m : Int} (hok : k.Ok) : (k.next kind m).1.Ok := by
 cases k with
 | m7 l i =>
  unfold gx.next
  dsimp only
  split
  ·exact hok
  ·rename_i w hw
   have := (List.getElem?_eq_some_iff.1 hw).1
   exact ⟨hok.1, by omega, hok.2.2⟩
 | tape l i =>
  unfold gx.next
  dsimp only
  split
  ·exact hok
  ·rename_i q w hw
   have := (List.getElem?_eq_some_iff.1 hw).1
   split
   ·exact hok
   ·split
    ·exact hok
    ·exact ⟨hok.1, by omega, hok.2.2⟩
theorem Ez {k : gx} {kind m : Int} {kb : Nat} : uX (k.next kind m).1 kb = uX k kb ∧ w6 (k.next kind m).1 kb = w6 k kb := by
 cases k with
 | m7 l i => unfold gx.next; dsimp only; split <;> exact ⟨rfl, rfl⟩
 | tape l i =>
  unfold gx.next; dsimp only; split
  ·exact ⟨rfl, rfl⟩
  ·split
   ·exact ⟨rfl, rfl⟩
   ·split <;> exact ⟨rfl, rfl⟩
theorem Ra {k : gx} {kb : Nat} {kind m : Int} (h : Hp R (ax kR kb k :: L) M) (hok : k.Ok) (hm : 1 ≤ m) (Up : m < 9223372036854775808)
  (g : match (k.next kind m).2 with
   | .num v => ∀ M', Hp R (ax kR kb (k.next kind m).1 :: L) M' → K (.int .u64 v) M'
   | .cQ l => ∀ M', Hp R (ax kR kb (k.next kind m).1 :: L) M' → Kp l M') :
  gK Cx (uX k kb) [.int .i64 kind, .int .i64 m] M K Kp := by
 cases k with
 | m7 l i =>
  refine oB ⟨by decide, by show _ < 255; decide⟩ ?_
  refine mV ?_
  obtain ⟨o1, o2, o3⟩ := hok
  unfold gx.next at g
  dsimp only at g
  have h2 := h.obj kR kb
  simp only [kR, Hp.dg, Hp.aQ, List.cons_append, List.nil_append] at h2
  obtain ⟨A, c, h2⟩ := h2
  clear h
  have h := h2
  clear h2
  have mk : ∀ {M : Mem} {i : Nat}, Hp R (pt kb [.slice A l.length c, .int .i64 (i : Int)] 147 :: Uo A c l :: L) M → Hp R (ax kR kb (.m7 l i) :: L) M := by
   intro M i h
   refine Hp.u6 ?_
   simp only [kR, Hp.dg, Hp.aQ, List.cons_append, List.nil_append]
   exact ⟨_, _, h⟩
  refine aH h (bj h ?_)
  refine aM.2 ⟨fun hge => ?_, fun hlt => ?_⟩
  ·have e : l[i]? = none := List.getElem?_eq_none_iff.2 (by omega)
   rw [e] at g
   exact g _ (mk h)
  ·obtain ⟨w, hw⟩ := aK (l := l) (i := i) (by omega)
   rw [hw] at g
   have hwb := o3 w (List.mem_of_getElem? hw)
   refine aH h ?_
   rw [bn (by omega)]
   refine aq h ?_
   clear h; intro M h
   refine bj h (aH h ?_)
   have e : IntKind.wrap .i64 (((i + 1 : Nat) : Int) - 1) = (i : Int) := by rw [cG (by omega) (by omega)]; omega
   rw [e]
   obtain ⟨q, rfl⟩ := h.bz (A := A) (by omega) (by decide)
   refine ⟨by omega, by omega, bp ?_⟩
   refine bq (Src.at (h.src (A := some ⟨q, 0, none⟩)) h (i := i) (j := 0) hw rfl (by simp [Dz])) ?_
   rw [CE (by omega) (by omega)]
   exact ⟨by omega, g _ (mk h)⟩
 | tape l i =>
  refine oB ⟨by decide, by show _ < 255; decide⟩ ?_
  refine pS ?_
  obtain ⟨o1, o2, o3⟩ := hok
  unfold gx.next at g
  dsimp only at g
  have h2 := h.obj kR kb
  simp only [kR, Hp.dg, Hp.aQ, List.cons_append, List.nil_append] at h2
  obtain ⟨A, c, h2⟩ := h2
  clear h
  have h := h2
  clear h2
  have mk : ∀ {M : Mem} {i : Nat}, Hp R (pt kb [.slice A l.length c, .int .i64 (i : Int)] 354 :: qW A c l :: L) M → Hp R (ax kR kb (.tape l i) :: L) M := by
   intro M i h
   refine Hp.u6 ?_
   simp only [kR, Hp.dg, Hp.aQ, List.cons_append, List.nil_append]
   exact ⟨_, _, h⟩
  refine aH h (bj h ?_)
  refine aM.2 ⟨fun hge => ?_, fun hlt => ?_⟩
  ·have e : l[i]? = none := List.getElem?_eq_none_iff.2 (by omega)
   rw [e] at g
   exact g _ (mk h)
  ·obtain ⟨⟨q, w⟩, hw⟩ := aK (l := l) (i := i) (by omega)
   rw [hw] at g
   dsimp only at g
   have hwb := o3 _ (List.mem_of_getElem? hw)
   dsimp only at hwb
   refine bj h (aH h ?_)
   obtain ⟨q0, rfl⟩ := h.bz (A := A) (by omega) (by decide)
   refine ⟨by omega, by omega, bp ?_⟩
   refine bq (Src.at (h.src (A := some ⟨q0, 0, none⟩)) h (i := i) (j := 0) hw rfl (by simp [Nd])) ?_
   refine bq (Src.at (h.src (A := some ⟨q0, 0, none⟩)) h (i := i) (j := 1) hw rfl (by simp [Nd])) ?_
   refine aj h ?_
   clear h; intro kk M h
   refine aq h ?_
   clear h; intro M h
   refine aq h ?_
   clear h; intro M h
   refine aH h ?_
   refine de.2 ⟨fun hne => ?_, fun heq => ?_⟩
   ·rw [if_pos hne] at g
    refine aH h (aH h (aH h ?_))
    exact g _ (mk (h.sub bM))
   ·rw [if_neg (by simpa using heq)] at g
    refine aH h ?_
    rw [CE (by omega) (by omega)]
    refine aM.2 ⟨fun hge => ?_, fun ZZ => ?_⟩
    ·rw [if_pos hge] at g
     refine aH h (aH h (aH h ?_))
     exact g _ (mk (h.sub bM))
    ·rw [if_neg ZZ] at g
     refine aH h ?_
     rw [bn (by omega)]
     refine aq h ?_
     clear h; intro M h
     refine aH h ?_
     exact g _ (mk (h.sub bM))
theorem Kk (h : Hp R L M) [o : bZ (b7 Ov) b L x L'] : ∃ A c kb, Hp R (pt b [uX x.k kb, w6 x.k kb, .slice A x.taken.length c, Ov] 152 :: qW A c x.taken :: ax kR kb x.k :: L') M := by
 have := h.obj (b7 Ov) b
 simpa only [b7, Hp.dg, Hp.aQ, List.cons_append, List.nil_append] using this
theorem EA {A : Option Addr} {c kb : Nat} (h : Hp R (pt b [uX x.k kb, w6 x.k kb, .slice A x.taken.length c, Ov] 152 :: qW A c x.taken :: ax kR kb x.k :: L) M) : Hp R (ax (b7 Ov) b x :: L) M := by
 refine Hp.u6 ?_
 simp only [b7, Hp.dg, Hp.aQ, List.cons_append, List.nil_append]
 exact ⟨_, _, _, h⟩
theorem oC {kind n : Int} (h : Hp R L M) [o : bZ (b7 .nilFunc) b L x L'] (hok : x.Ok) (hn : n < 9223372036854775808) (ht : x.taken.length < 100000000)
  (g : match (x.draw kind n).2 with
   | .num v => ∀ M', Hp R (ax (b7 .nilFunc) b (x.draw kind n).1 :: L') M' → K (.int .i64 v) M'
   | .cQ l => ∀ M', Hp R (ax (b7 .nilFunc) b (x.draw kind n).1 :: L') M' → Kp l M') :
  aa Tryz.prog 107 #[.pointer (some ⟨b, 0, none⟩), .int .i64 kind, .int .i64 n] M K Kp := by
 refine mW ?_
 have h' := Kk (Ov := .nilFunc) h (b := b)
 clear h
 obtain ⟨A, c, kb, h⟩ := h'
 refine Iz h ?_
 have em : (if (1 : Int) > n then 1 else n) = jT n := rfl
 rw [em]
 have hm1 := w7 n
 have Up : jT n < 9223372036854775808 := by unfold jT; split <;> omega
 have hnv := Ez (k := x.k) (kind := kind) (m := jT n) (kb := kb)
 obtain ⟨ML, xU⟩ := hnv
 have EB := fun k' v => w8 (k := x.k) (kind := kind) hok.1 hm1 (k' := k') (v := v)
 unfold kK.draw at g
 replace h : Hp R (ax kR kb x.k :: pt b [uX x.k kb, w6 x.k kb, .slice A x.taken.length c, .nilFunc] 152 :: qW A c x.taken :: L') M := h.sub bM
 refine Ra (kind := kind) h hok.1 hm1 Up ?_
 clear h
 generalize hr : x.k.next kind (jT n) = r at g ML xU EB
 obtain ⟨k', d⟩ := r
 dsimp only at ML xU ⊢
 rw [← ML, ← xU]
 cases d with
 | cQ l =>
  dsimp only at g ⊢
  intro M h
  exact g _ (EA (x := ⟨k', x.taken⟩) (h.sub bM))
 | num v =>
  dsimp only at g ⊢
  obtain ⟨v0, v1⟩ := EB k' v rfl
  intro M h
  refine cE ?_
  refine aj h ?_
  clear h; intro k5 M h
  refine aq h ?_
  clear h; intro M h
  refine aq h ?_
  clear h; intro M h
  refine bj h (aH h (aH h ?_))
  refine aj h ?_
  clear h; intro iL M h
  refine h.bF (A := A) Q9 [(kind, v)] rfl rfl (by simp only [List.length_singleton]; omega) ?_
  clear h; intro A' c' M h
  refine aR ?_
  refine aq h ?_
  clear h; intro M h
  refine Iz h ?_
  unfold ER
  dsimp only
  refine ai (aH h ?_)
  rw [cG (by omega) (by omega)]
  exact g _ (EA (x := ⟨k', x.taken ++ [(kind, v)]⟩) (h.sub bM))
theorem fu {B : Option Addr} {m cb : Nat} {l : List Int} (h : Hp R L M) (hB : Src R L B (Dz.cells l)) (hm : m = l.length) (hl : l.length ≤ 1000000000)
  (g : ∀ b M', Hp R (ax (b7 .nilFunc) b ⟨.m7 l 0, []⟩ :: L) M' → K (.pointer (some ⟨b, 0, none⟩)) M') :
  aa Tryz.prog 16 #[.slice B m cb] M K Kp := by
 refine tU ?_
 refine aj h ?_
 clear h; intro k1 M h
 refine h.iY Dz Kj l hB.cons hm (by omega) ?_
 clear h; intro A' c' M h
 refine aR ?_
 refine aj h ?_
 clear h; intro k8 M h
 refine aj h ?_
 clear h; intro eJ M h
 have h2 := h.cz Nd 95
 refine g eJ _ (EA (x := ⟨.m7 l 0, []⟩) (A := none) (c := 0) (kb := k8) ?_)
 have h3 : Hp R (ax kR k8 (.m7 l 0) :: qW none 0 [] :: pt eJ [uX (.m7 l 0) k8, w6 (.m7 l 0) k8, .slice none 0 0, .nilFunc] 152 :: L) M := by
  refine Hp.u6 ?_
  simp only [kR, Hp.dg, Hp.aQ, List.cons_append, List.nil_append]
  exact ⟨A', c', h2.sub bM⟩
 exact h3.sub bM
theorem Hq {kind n : Int} (hok : x.Ok) (hn : n < 9223372036854775808) (ht : x.taken.length < 100000000) :
  gZ R (.func (.func 107) #[.pointer (some ⟨b, 0, none⟩)] #[]) kind n (x.draw kind n).2 (ax (b7 .nilFunc) b x :: L) (ax (b7 .nilFunc) b (x.draw kind n).1 :: L) := by
 intro Q M K Kp h k
 refine oB ⟨by decide, by show _ < 255; decide⟩ ?_
 refine oC h hok hn ht ?_
 cases hd : (x.draw kind n).2 with
 | num v => rw [hd] at k; exact fun M' h' => k M' h'.swap
 | cQ l => rw [hd] at k; exact fun M' h' => k M' h'.swap
end
structure da where
 q : Loc
 turns : Int
 gj : Int
structure xQ where
 p : Int
 g : Int
 left : Int
 deriving DecidableEq
structure Ow where
 P : Int
 M : Int
 R : Int
 S : Int
structure Sc where
 w : Wd
 c : Ow
 ps : List da
 ms : List xQ
 gl : List Int
 d : kK
 steps : Int
structure Ev where
 kind : Int
 m : Int
 g : Int
 ready : List Int
def oD : jO (Nat × Int × Int) := ⟨3, fun w => [.pointer (some ⟨w.1, 0, none⟩), .int .i64 w.2.1, .int .i64 w.2.2], fun _ => rfl, fun w v hv => by
 simp only [List.mem_cons, List.not_mem_nil, or_false] at hv; obtain rfl | rfl | rfl := hv <;> rfl⟩
def j8 : jO xQ := ⟨3, fun w => [.int .i64 w.p, .int .i64 w.g, .int .i64 w.left], fun _ => rfl, fun w v hv => by
 simp only [List.mem_cons, List.not_mem_nil, or_false] at hv; obtain rfl | rfl | rfl := hv <;> rfl⟩
def bH (bs : List Nat) (ps : List da) : List (Nat × Int × Int) := List.zipWith (fun b (p : da) => (b, p.turns, p.gj)) bs ps
def av (x : Sc) (m : Int) : xQ := x.ms.getD m.toNat ⟨-1, -1, 0⟩
def aC (x : Sc) (i : Int) : da := x.ps.getD i.toNat ⟨⟨-1, 0, []⟩, 0, -1⟩
def Sc.fB (x : Sc) (m : Int) (y : xQ) : Sc := { x with ms := x.ms.set m.toNat y }
def Sc.cj (x : Sc) (i : Int) (y : da) : Sc := { x with ps := x.ps.set i.toNat y }
structure SA where
 ap : Option Addr
 cp : Nat
 lb : List Nat
 am : Option Addr
 cm : Nat
abbrev bT (A : Option Addr) (c : Nat) (l : List (Nat × Int × Int)) : HP := bV oD 141 A c l
abbrev bY (A : Option Addr) (c : Nat) (l : List xQ) : HP := bV j8 143 A c l
abbrev dJ (wb db : Nat) (a : SA) (x : Sc) (A : Option Addr) (n c : Nat) : List Value :=
 [.pointer (some ⟨wb, 0, none⟩), .int .i64 x.c.P, .int .i64 x.c.M, .int .i64 x.c.R, .int .i64 x.c.S, .slice a.ap x.ps.length a.cp, .slice a.am x.ms.length a.cm, .slice A n c, .pointer (some ⟨db, 0, none⟩), .int .i64 x.steps]
abbrev dk (b wb db : Nat) (a : SA) (x : Sc) : Option Addr → Nat → Nat → HP := fun A n c => pt b (dJ wb db a x A n c) 137
theorem uY {b wb db : Nat} {a : SA} {x : Sc} : MJ b (0 + 7) (dk b wb db a x) :=
 ⟨fun R L M A n c h => bk h, fun R L M A A' n c n' c' G h k => aq h k⟩
abbrev gy (a : SA) (x : Sc) (L : List HP) : List HP := bT a.ap a.cp (bH a.lb x.ps) :: aP bC a.lb (x.ps.map da.q) :: bY a.am a.cm x.ms :: L
def eY (pa : PA) (p : ck) (wb db : Nat) : ru Sc := ⟨fun b x => exs fun a : SA =>
 sep (fS (dk b wb db a x) x.gl :: ax (bu pa p) wb x.w :: ax (b7 .nilFunc) db x.d :: fact (a.lb.length = x.ps.length) :: gy a x [])⟩
class mu (b : Nat) (L : List HP) (pa : outParam PA) (p : outParam ck) (wb db : outParam Nat) (x : outParam Sc) (L' : outParam (List HP)) : Prop where
 pick : cy L (ax (eY pa p wb db) b x) L'
instance mu.here {pa : PA} {p : ck} {wb db b : Nat} {x : Sc} {L : List HP} : mu b (ax (eY pa p wb db) b x :: L) pa p wb db x L := ⟨.here⟩
instance (priority := low) mu.there {pa : PA} {p : ck} {wb db b : Nat} {x : Sc} {Q : HP} {L L' : List HP} [h : mu b L pa p wb db x L'] : mu b (Q :: L) pa p wb db x (Q :: L') := ⟨.there h.pick⟩
section
variable {R : Mem} {L L' L2 : List HP} {M : Mem} {K : Value → Mem → Prop} {Kp : List PanicEntry → Mem → Prop} {pa : PA} {p : ck} {b wb db : Nat} {x : Sc} {m i : Int}
theorem eH (h : Hp R L M) [o : mu b L pa p wb db x L'] : ∃ a : SA, a.lb.length = x.ps.length ∧ Hp R (fS (dk b wb db a x) x.gl :: ax (bu pa p) wb x.w :: ax (b7 .nilFunc) db x.d :: gy a x L') M := by
 have := h.pick o.pick
 unfold ax at this
 simp only [eY, gy, Hp.dg, Hp.aQ, List.cons_append, List.nil_append] at this
 obtain ⟨a, h⟩ := this
 refine ⟨a, ?_⟩
 have h2 := h.pick (P := fact (a.lb.length = x.ps.length)) (.there (.there (.there .here)))
 obtain ⟨e, h3⟩ := Hp.fa.1 h2
 exact ⟨e, h3⟩
theorem gz {a : SA} (hl : a.lb.length = x.ps.length) (h : Hp R (fS (dk b wb db a x) x.gl :: ax (bu pa p) wb x.w :: ax (b7 .nilFunc) db x.d :: gy a x L) M) : Hp R (ax (eY pa p wb db) b x :: L) M := by
 refine Hp.u6 ?_
 simp only [eY, gy, Hp.dg, Hp.aQ, List.cons_append, List.nil_append]
 refine ⟨a, ?_⟩
 have h2 : Hp R (fact (a.lb.length = x.ps.length) :: fS (dk b wb db a x) x.gl :: ax (bu pa p) wb x.w :: ax (b7 .nilFunc) db x.d :: gy a x L) M := Hp.fa.2 ⟨hl, h⟩
 exact h2.lS (.there (.there (.there .here)))
theorem mw {a : SA} (h : Hp R (fS (dk b wb db a x) x.gl :: L) M) : ∃ A c, Hp R (pt b (dJ wb db a x A x.gl.length c) 137 :: jD A c x.gl :: L) M := gW (P := dk b wb db a x) h
theorem vN {a : SA} {A : Option Addr} {c n : Nat} {l : List Int} (h : Hp R (pt b (dJ wb db a x A n c) 137 :: jD A c l :: L) M) (e : n = l.length := by first | rfl | simp) : Hp R (fS (dk b wb db a x) l :: L) M := Cq (P := dk b wb db a x) h e
theorem Ng {bs : List Nat} {ps : List da} {i lb : Nat} {pr : da} (h1 : bs[i]? = some lb) (h2 : ps[i]? = some pr) : (bH bs ps)[i]? = some (lb, pr.turns, pr.gj) := DM h1 h2
theorem w9 {bs : List Nat} {ps : List da} {i lb : Nat} {pr : da} (h1 : bs[i]? = some lb) : (bH bs ps).set i (lb, pr.turns, pr.gj) = bH bs (ps.set i pr) := lY (f := fun b (p : da) => (b, p.turns, p.gj)) h1
theorem jF {bs : List Nat} {ps : List da} (h : bs.length = ps.length) : (bH bs ps).length = ps.length := by simp [bH, h]
theorem uZ (h : Hp R L M) [o : mu b L pa p wb db x L'] (k : K (.pointer (some ⟨wb, 0, none⟩)) M) : aa Tryz.prog 18 #[.pointer (some ⟨b, 0, none⟩)] M K Kp := by
 refine oa ?_
 obtain ⟨a, hl, h⟩ := eH h (b := b)
 obtain ⟨A, c, h⟩ := mw h
 exact wA h k
theorem CF (h : Hp R L M) [o : mu b L pa p wb db x L'] (k : K (.int .i64 x.steps) M) : aa Tryz.prog 35 #[.pointer (some ⟨b, 0, none⟩)] M K Kp := by
 refine oc ?_
 obtain ⟨a, hl, h⟩ := eH h (b := b)
 obtain ⟨A, c, h⟩ := mw h
 exact aH h k
theorem sY (h : Hp R L M) [o : mu b L pa p wb db x L'] (hs : x.gl.length ≤ 1000000) (k : ∀ A c M', Hp R (jD A c x.gl :: ax (eY pa p wb db) b x :: L') M' → K (.slice A x.gl.length c) M') : aa Tryz.prog 20 #[.pointer (some ⟨b, 0, none⟩)] M K Kp := by
 refine mY ?_
 have h' := eH h (b := b)
 clear h
 obtain ⟨a, hl, h⟩ := h'
 refine Cr (P := dk b wb db a x) uY h (by omega) ?_
 clear h; intro A c M h
 refine aR ?_
 exact k _ _ _ ((gz hl (h.sub bM)).swap)
def Sc.status (x : Sc) : Int := if x.w.end_ = 1 then 1 else if x.w.end_ = 2 then 2 else if x.w.stuck then 3 else 0
theorem jd (h : Hp R L M) [o : mu b L pa p wb db x L'] (hs : x.w.gs.length ≤ 1000000) (k : K (.int .i64 x.status) M) : aa Tryz.prog 22 #[.pointer (some ⟨b, 0, none⟩)] M K Kp := by
 refine mX ?_
 have h' := eH h (b := b)
 clear h
 obtain ⟨a, hl, h⟩ := h'
 have h' := mw h
 clear h
 obtain ⟨A, c, h⟩ := h'
 unfold Sc.status at k
 refine wA h ?_
 refine G2 h ?_
 refine ⟨_, _, rfl, ?_⟩
 refine bU.2 ⟨fun e => ?_, fun e => ?_⟩
 ·rw [if_pos e] at k; exact k
 rw [if_neg e] at k
 refine bU.2 ⟨fun e => ?_, fun e => ?_⟩
 ·rw [if_pos e] at k; exact k
 rw [if_neg e] at k
 refine wA h ?_
 refine CD h hs ?_
 refine mC ?_
 cases hst : x.w.stuck with
 | true => rw [hst] at k; exact af k
 | false => rw [hst] at k; exact ai k
def Sc.tick (x : Sc) : Sc × Ev := ({ x with w := x.w.tick, gl := x.gl ++ x.w.tick.ready }, ⟨1, -1, -1, x.w.tick.ready⟩)
def EC (e : Ev) (A : Option Addr) (c : Nat) : Value := .agg #[.int .i64 e.kind, .int .i64 e.m, .int .i64 e.g, .slice A e.ready.length c]
theorem iF {k1 T n : Nat} {v1 v2 v3 v4 : Value} {e1 e2 e3 : Int} {A : Option Addr} {c : Nat} {G : Mem → Prop} (h : Hp R L M) [q : jP k1 L [v1, v2, v3, v4] T L']
  (k : ∀ M', Hp R (pt k1 [.int .i64 e1, .int .i64 e2, .int .i64 e3, .slice A n c] T :: L') M' → G M') :
  aF M ⟨k1, 0, none⟩ (.int .i64 e1) fun M1 => aF M1 ⟨k1, (0 + 1), none⟩ (.int .i64 e2) fun M2 => aF M2 ⟨k1, (0 + 2), none⟩ (.int .i64 e3) fun M3 => aF M3 ⟨k1, (0 + 3), none⟩ (.slice A n c) G := by
 have h := h.pick q.pick
 refine aq h ?_
 clear h; intro M h
 refine aq h ?_
 clear h; intro M h
 refine aq h ?_
 clear h; intro M h
 refine aq h ?_
 clear h; intro M h
 exact k _ h
theorem oE {k1 T n : Nat} {e1 e2 e3 : Int} {A : Option Addr} {c : Nat} {G : Int → Int → Int → Option Addr → Nat → Nat → Prop} (h : Hp R L M) [q : jP k1 L [.int .i64 e1, .int .i64 e2, .int .i64 e3, .slice A n c] T L'] (g : G e1 e2 e3 A n c) :
  aG (Mem.ld M ⟨k1, 0, none⟩) .i64 fun n1 => aG (Mem.ld M ⟨k1, (0 + 1), none⟩) .i64 fun n2 => aG (Mem.ld M ⟨k1, (0 + 2), none⟩) .i64 fun n3 => az (Mem.ld M ⟨k1, (0 + 3), none⟩) fun A k l => G n1 n2 n3 A k l := by
 have h := h.pick q.pick
 exact aH h (aH h (aH h (bj h g)))
def xd (x : Sc) : Prop := x.w.hl.length ≤ 1000000 ∧ (∀ y ∈ (cv x.w.hl.length x.w.hl (IntKind.wrap .u64 (x.w.clock + 1))).2, 0 ≤ y.id ∧ y.id < x.w.gs.length) ∧ x.gl.length + x.w.tick.ready.length ≤ 1000000
instance (x : Sc) : Decidable (xd x) := by unfold xd; infer_instance
theorem ED (h : Hp R L M) [o : mu b L pa p wb db x L'] (hk : xd x)
  (k : ∀ R' A c M', R.le R' → RS bB R' A c x.tick.2.ready → Hp R' (ax (eY pa p wb db) b x.tick.1 :: L') M' → K (EC x.tick.2 A c) M') : aa Tryz.prog 108 #[.pointer (some ⟨b, 0, none⟩)] M K Kp := by
 refine pY ?_
 refine aj h ?_
 clear h
 intro k1 M h
 have h' := eH h (b := b)
 clear h
 obtain ⟨a, hl, h⟩ := h'
 have h' := mw h
 clear h
 obtain ⟨A, c, h⟩ := h'
 refine wA h ?_
 refine Ew h hk.1 hk.2.1 ?_
 clear h; intro R2 Ar cr M hle uT h
 refine aR ?_
 replace h : Hp R2 (pt b (dJ wb db a x A x.gl.length c) 137 :: jD A c x.gl :: ax (bu pa p) wb x.w.tick :: ax (b7 .nilFunc) db x.d :: bT a.ap a.cp (bH a.lb x.ps) :: aP bC a.lb (x.ps.map da.q) :: bY a.am a.cm x.ms :: pt k1 [.int .i64 0, .int .i64 0, .int .i64 0, .slice none 0 0] 43 :: L') M := h.sub bM
 replace h := vN h
 refine mo (P := dk b wb db a x) uY h (uT.src) rfl (by have := hk.2.2; omega) ?_
 clear h; intro M h
 refine ⟨rfl, ?_⟩
 refine iF h ?_
 clear h; intro M h
 refine oE h ?_
 exact k R2 Ar cr _ hle uT (gz (a := a) (x := x.tick.1) hl (h.sub bM))
end
def qX (q : Loc) : Bool := q.next != -1 || !q.l.isEmpty
def hJ (q : Loc) (turns : Int) (gl : List Int) : Loc × List Int × Int × Bool :=
 let a := q.eL gl
 if Int.tmod turns 7 = 6 ∧ 0 < a.2.1.length then (a.1, a.2.1.drop 1, a.2.1.headD 0, true)
 else if qX a.1 then (a.1.get.1, a.2.1, a.1.get.2, true)
 else ((a.1.get.1.dV a.2.1 0).1, (a.1.get.1.dV a.2.1 0).2.1, (a.1.get.1.dV a.2.1 0).2.2, !a.2.1.isEmpty)
def iG (f : Loc) (v : Int) : Bool := v != -1 || !f.l.isEmpty
theorem Kl {q : Loc} {gl : List Int} : (q.eL gl).2.1.length ≤ gl.length + q.l.length + 1 := by
 unfold Loc.eL
 split
 ·simp; omega
 ·unfold Loc.put
  split
  ·simp; omega
  ·simp; omega
section
variable {R : Mem} {L L' L2 : List HP} {M : Mem} {K : Value → Mem → Prop} {Kp : List PanicEntry → Mem → Prop} {pa : PA} {p : ck} {b wb db : Nat} {x : Sc} {m i : Int}
def Sc.hold (x : Sc) (m : Int) : Sc × Ev := match x.ps.findIdx? (fun pr => pr.gj == -1) with
 | some i => (((x.cj (i : Int) { aC x (i : Int) with gj := m }).fB m { av x m with p := (i : Int) }), ⟨2, m, -1, []⟩)
 | none => (x, ⟨3, m, -1, []⟩)
theorem xe {a : SA} {y : da} : dk b wb db a (x.cj i y) = dk b wb db a x := by
 unfold dk dJ Sc.cj; simp
theorem xg {a : SA} {y : xQ} : dk b wb db a (x.fB i y) = dk b wb db a x := by
 unfold dk dJ Sc.fB; simp
theorem oF {a : SA} (hl : a.lb.length = x.ps.length) (h0 : 0 ≤ i) (h1 : i < x.ps.length) : ∃ lb, a.lb[i.toNat]? = some lb ∧ x.ps[i.toNat]? = some (aC x i) ∧ (bH a.lb x.ps)[i.toNat]? = some (lb, (aC x i).turns, (aC x i).gj) := by
 obtain ⟨lb, hlb⟩ := aK (l := a.lb) (i := i.toNat) (by omega)
 obtain ⟨y, hy⟩ := aK (l := x.ps) (i := i.toNat) (by omega)
 have e : aC x i = y := by simp [aC, hy]
 rw [e]
 exact ⟨lb, hlb, hy, Ng hlb hy⟩
theorem oG (h0 : 0 ≤ m) (h1 : m < x.ms.length) : x.ms[m.toNat]? = some (av x m) := by
 obtain ⟨y, hy⟩ := aK (l := x.ms) (i := m.toNat) (by omega)
 have e : av x m = y := by simp [av, hy]
 rw [e]; exact hy
theorem uj {ps : List da} {j : Nat} {pr y : da} (h : ps[j]? = some pr) (e : y.q = pr.q) : (ps.set j y).map da.q = ps.map da.q := by
 obtain ⟨hj, rfl⟩ := List.getElem?_eq_some_iff.1 h
 rw [List.map_set, e]
 have h2 : (ps.map da.q)[j]'(by simpa using hj) = ps[j].q := by simp
 rw [← h2]
 exact List.set_getElem_self _
theorem uk {a : SA} {A : Option Addr} {c : Nat} {cs : List Value} {l : List Int} {pw : List (Nat × Int × Int)} {qs : List Loc} {ms : List xQ} {L0 L1 L2 L3 L4 L5 L6 : List HP} (h : Hp R L M) (b : Nat)
  [p0 : jP b L cs 137 L0] [p1 : cq A L0 Int bB 3 c l L1] [p2 : En wb L1 pa p x.w L2] [p3 : bZ (b7 .nilFunc) db L2 x.d L3] [p4 : cq a.ap L3 (Nat × Int × Int) oD 141 a.cp pw L4]
  [p5 : eU bC L4 a.lb qs L5] [p6 : cq a.am L5 xQ j8 143 a.cm ms L6] (hc : cs = dJ wb db a x A x.gl.length c) (hg : l = x.gl) (hl : a.lb.length = x.ps.length) (hp : pw = bH a.lb x.ps) (hq : x.ps.map da.q = qs) (hm : ms = x.ms) : Hp R (ax (eY pa p wb db) b x :: L6) M := by
 subst hc; subst hg; subst hp; subst hq; subst hm
 have h2 : Hp R (pt b (dJ wb db a x A x.gl.length c) 137 :: jD A c x.gl :: ax (bu pa p) wb x.w :: ax (b7 .nilFunc) db x.d :: gy a x L6) M :=
  h.sub (.cons p0.pick (.cons p1.pick (.cons p2.pick (.cons p3.pick (.cons p4.pick (.cons p5.pick (.cons p6.pick .refl)))))))
 exact gz (a := a) hl (vN h2)
theorem EE (h : Hp R L M) [o : mu b L pa p wb db x L'] (h0 : 0 ≤ m) (h1 : m < x.ms.length) (hs : x.ps.length ≤ 1000000)
  (k : ∀ M', Hp R (ax (eY pa p wb db) b (x.hold m).1 :: L') M' → K (EC (x.hold m).2 none 0) M') : aa Tryz.prog 109 #[.pointer (some ⟨b, 0, none⟩), .int .i64 m] M K Kp := by
 refine pZ ?_
 refine aj h ?_
 clear h
 intro k1 M h
 have h' := eH h (b := b)
 clear h
 obtain ⟨a, hl, h⟩ := h'
 have h' := mw h
 clear h
 obtain ⟨A, c, h⟩ := h'
 refine bj h ?_
 unfold Sc.hold at k
 have Z0 := jF hl
 refine ⟨fun d vs M => ∃ j : Nat, vs = [.int .i64 (j : Int)] ∧ d = x.ps.length - j ∧ j ≤ x.ps.length ∧ (∀ q pr, q < j → x.ps[q]? = some pr → pr.gj ≠ -1) ∧
   Hp R (pt b (dJ wb db a x A x.gl.length c) 137 :: jD A c x.gl :: pt k1 [.int .i64 0, .int .i64 0, .int .i64 0, .slice none 0 0] 43 :: ax (bu pa p) wb x.w :: ax (b7 .nilFunc) db x.d :: gy a x L') M,
  ⟨_, 0, rfl, rfl, by omega, fun q pr hq => by omega, h.sub bM⟩, ?_⟩
 clear h
 rintro d _ nn M ⟨j, he, hd, hj, hp, h⟩
 simp only [List.cons.injEq, Value.int.injEq, and_true, true_and] at he
 subst he
 refine aM.2 ⟨fun hlt => ?_, fun hge => ?_⟩
 ·obtain ⟨lb, hlb, lq, hrow⟩ := oF (i := (j : Int)) hl (by omega) hlt
  simp only [Int.toNat_natCast] at hlb lq hrow
  obtain ⟨q, hq⟩ := h.bz (A := a.ap) (l := bH a.lb x.ps) (by omega) (by decide)
  have Sd := h.src (A := a.ap)
  rw [hq] at Sd
  refine bj h ⟨by omega, hlt, ?_⟩
  rw [hq]
  refine bp ?_
  refine bq (Src.at Sd h (i := j) (j := 2) hrow rfl (by show _ = 0 + (j * 3 + 2); simp)) ?_
  refine bU.2 ⟨fun e => ?_, fun e => ?_⟩
  ·have SZ : x.ps.findIdx? (fun pr => pr.gj == -1) = some j := by
    refine List.findIdx?_eq_some_iff_getElem.2 ⟨by omega, ?_, fun q hq => ?_⟩
    ·have := (List.getElem?_eq_some_iff.1 lq).2
     rw [this]; simpa using e
    ·have := hp q _ hq (List.getElem?_eq_getElem (by omega))
     simpa using this
   rw [SZ] at k
   dsimp only at k
   clear Sd
   obtain ⟨q2, o5⟩ := h.bz (A := a.am) (l := x.ms) (by omega) (by decide)
   have ea := bk h (b := b) (o := 0 + 5) (v := .slice a.ap x.ps.length a.cp)
   rw [hq] at ea
   refine (show ∀ {G}, G (some ⟨q, 0, none⟩) x.ps.length a.cp → az (M.ld ⟨b, 0 + 5, none⟩) G from fun g => by rw [ea]; exact aR g) ?_
   refine bj h ⟨by omega, hlt, bp ?_⟩
   have hap : a.ap = some ⟨q, 0, none⟩ := hq
   have Fs : a.am = some ⟨q2, 0, none⟩ := o5
   obtain ⟨ap, cp, tx, am, cm⟩ := a
   dsimp only at hap Fs hrow hlb hl Z0 h
   subst hap; subst Fs
   refine gO (E := oD) (a' := (lb, (aC x (j : Int)).turns, m)) j 2 h hrow (by decide) rfl (by show _ = j * 3 + 2; simp) ?_
   clear h; intro M h
   refine ⟨h0, h1, bp ?_⟩
   refine gO (E := j8) (a' := { av x m with p := (j : Int) }) m.toNat 0 h (oG h0 h1) (by decide) rfl (by show _ = m.toNat * 3 + 0; simp) ?_
   clear h; intro M h
   refine iF h ?_
   clear h; intro M h
   refine oE h ?_
   rw [w9 (pr := { aC x (j : Int) with gj := m }) hlb] at h
   have e3 := uj (y := { aC x (j : Int) with gj := m }) lq rfl
   exact k _ (Hp.bP (uk (A := A) (c := c) (a := ⟨some ⟨q, 0, none⟩, cp, tx, some ⟨q2, 0, none⟩, cm⟩) (x := (x.cj (j : Int) { aC x (j : Int) with gj := m }).fB m { av x m with p := (j : Int) }) h b (by simp [Sc.cj, Sc.fB, dJ]) (by rfl) (by simpa [Sc.cj, Sc.fB] using hl) (by rfl) (by exact e3) (by rfl)))
  ·refine ⟨x.ps.length - (j + 1), by omega, j + 1, by rw [bn (by omega)], rfl, by omega, fun q' Ox hq' Rb => ?_, h⟩
   rcases Nat.lt_or_ge q' j with h8 | h8
   ·exact hp q' Ox h8 Rb
   ·have : q' = j := by omega
    subst this
    rw [lq] at Rb; cases Rb; exact e
 ·have SZ : x.ps.findIdx? (fun pr => pr.gj == -1) = none := by
   refine List.findIdx?_eq_none_iff.2 fun pr lq => ?_
   obtain ⟨q, hq, e⟩ := List.getElem_of_mem lq
   have := hp q pr (by omega) (by rw [← e]; exact List.getElem?_eq_getElem hq)
   simpa using this
  rw [SZ] at k
  dsimp only at k
  refine iF h ?_
  clear h; intro M h
  refine oE h ?_
  refine k _ (gz (a := a) hl ?_)
  have h2 := vN (h.sub (show Sub _ (pt b (dJ wb db a x A x.gl.length c) 137 :: jD A c x.gl :: ax (bu pa p) wb x.w :: ax (b7 .nilFunc) db x.d :: gy a x L') from bM))
  exact h2
theorem xh {bs : List Nat} {ps : List da} {j : Nat} {pr y : da} (h : ps[j]? = some pr) (e1 : y.turns = pr.turns) (e2 : y.gj = pr.gj) : bH bs (ps.set j y) = bH bs ps := by
 obtain ⟨hj, rfl⟩ := List.getElem?_eq_some_iff.1 h
 unfold bH
 refine List.ext_getElem (by simp) fun n h1 h2 => ?_
 simp only [List.getElem_zipWith, List.getElem_set]
 split
 ·rename_i he
  subst he
  rw [e1, e2]
 ·rfl
def Sc.own (x : Sc) (i : Int) : Sc × Int × Bool :=
 let r := hJ (aC x i).q (aC x i).turns x.gl
 ({ x.cj i { aC x i with q := r.1 } with gl := r.2.1 }, r.2.2.1, r.2.2.2)
theorem Hr {q : Nat} {a : SA} (h : Hp R L M) [o : qe (dk b wb db a x) L x.gl L'] [o2 : cq (some ⟨q, 0, none⟩) L' (Nat × Int × Int) oD 141 a.cp (bH a.lb x.ps) L2] {L3 : List HP} [o3 : eU bC L2 a.lb (x.ps.map da.q) L3]
  (hap : a.ap = some ⟨q, 0, none⟩) (hl : a.lb.length = x.ps.length) (h0 : 0 ≤ i) (h1 : i < x.ps.length) (hs : x.gl.length ≤ 1000000) (ht : 0 ≤ (aC x i).turns)
  (k : ∀ M', Hp R (fS (dk b wb db a x) (x.own i).1.gl :: bT (some ⟨q, 0, none⟩) a.cp (bH a.lb x.ps) :: aP bC a.lb ((x.own i).1.ps.map da.q) :: L3) M' → K (.tuple #[.int .i64 (x.own i).2.1, .bool (x.own i).2.2]) M') :
  aa Tryz.prog 150 #[.pointer (some ⟨b, 0, none⟩), .pointer (some ⟨q, i.toNat * 3, none⟩)] M K Kp := by
 refine qO ?_
 obtain ⟨lb, hlb, lq, hrow⟩ := oF (i := i) hl h0 h1
 have h2 : Hp R (fS (dk b wb db a x) x.gl :: bT (some ⟨q, 0, none⟩) a.cp (bH a.lb x.ps) :: aP bC a.lb (x.ps.map da.q) :: L3) M := h.sub (.cons o.pick (.cons o2.pick (.cons o3.pick .refl)))
 clear h
 have h := h2
 clear h2
 have hq : (x.ps.map da.q)[i.toNat]? = some (aC x i).q := by rw [List.getElem?_map, lq]; rfl
 unfold Sc.own at k
 dsimp only at k
 have wS : ∀ q', (x.cj i { aC x i with q := q' }).ps.map da.q = (x.ps.map da.q).set i.toNat q' := fun q' => by simp [Sc.cj, List.map_set]
 simp only [wS] at k
 unfold hJ at k
 dsimp only at k
 refine kU (Src.at (Src.row (A := some ⟨q, 0, none⟩) : Src R _ _ (oD.cells (bH a.lb x.ps))) h (i := i.toNat) (j := 0) hrow rfl (by show _ = 0 + (i.toNat * 3 + 0); simp)) ?_
 replace h := h.cB bC hlb hq
 replace h : Hp R (ax bC lb (aC x i).q :: fS (dk b wb db a x) x.gl :: j0 bC a.lb (x.ps.map da.q) i.toNat :: bT (some ⟨q, 0, none⟩) a.cp (bH a.lb x.ps) :: L3) M := h.sub bM
 have hbd := ug h (b := lb)
 refine Ej (P := dk b wb db a x) uY h (by omega) ?_
 clear h; intro M h
 have Vo := Kl (q := (aC x i).q) (gl := x.gl)
 refine cE ?_
 generalize htr : (aC x i).q.eL x.gl = r at h k Vo
 obtain ⟨q1, g1, n1⟩ := r
 dsimp only at h k Vo
 have G7 : g1.length ≤ 100000000 := by obtain ⟨a1, a2, a3⟩ := hbd; omega
 refine bq (Src.at (h.src (A := some ⟨q, 0, none⟩)) h (i := i.toNat) (j := 1) hrow rfl (by show _ = 0 + (i.toNat * 3 + 1); omega)) ?_
 refine ⟨by decide, ?_⟩
 have rest : ∀ {M : Mem}, (Hp R (ax bC lb q1 :: fS (dk b wb db a x) g1 :: j0 bC a.lb (x.ps.map da.q) i.toNat :: bT (some ⟨q, 0, none⟩) a.cp (bH a.lb x.ps) :: L3) M) → ¬ (Int.tmod (aC x i).turns 7 = 6 ∧ 0 < g1.length) →
   b8 (Mem.ld M ⟨q, i.toNat * 3, none⟩) fun nj =>
    aa Tryz.prog 149 #[(.pointer nj)] M (fun DN eZ =>
    ∃ kC : Int, ∃ t18 : Bool, (DN = (.tuple #[(.int .i64 kC), (.bool t18)])) ∧
    aO t18
     (K (.tuple #[(.int .i64 kC), (.bool true)]) eZ)
     (b8 (Mem.ld eZ ⟨q, i.toNat * 3, none⟩) fun AX =>
     aa Tryz.prog 180 #[(.pointer AX), (.pointer (some ⟨b, (0 + 7), none⟩)), (.int .i64 0)] eZ (fun v20 uI =>
     ∃ va : Int, ∃ t23 : Bool, (v20 = (.tuple #[(.int .i64 va), (.bool t23)])) ∧
     K (.tuple #[(.int .i64 va), (.bool t23)]) uI) Kp)) Kp := by
  intro M h hno
  rw [if_neg hno] at k
  refine kU (Src.at (h.src (A := some ⟨q, 0, none⟩)) h (i := i.toNat) (j := 0) hrow rfl (by show _ = 0 + (i.toNat * 3 + 0); simp)) ?_
  refine zh h (b := lb) ?_
  clear h; intro t M Vq Vr h
  refine ⟨_, _, rfl, ?_⟩
  by_cases hh : qX q1 = true
  ·rw [if_pos hh] at k
   have : t = true := Vr (by unfold qX at hh; simpa using hh)
   subst this
   refine af ?_
   replace h := h.dh bC lb hlb (by rw [List.length_map]; omega)
   exact k _ (h.sub bM)
  ·rw [if_neg hh] at k
   have hn : q1.next = -1 ∧ q1.l = [] := by
    unfold qX at hh
    rw [Bool.or_eq_true] at hh
    constructor
    ·exact Decidable.byContradiction fun e => hh (.inl (by simpa using e))
    ·cases Uq : q1.l with
     | nil => rfl
     | cons _ _ => exact absurd (.inr (by rw [Uq]; rfl)) hh
   have hg : q1.get.2 = -1 := by unfold Loc.get; rw [if_neg (by simpa using hn.1), hn.2]
   have : t = false := Vq hg hn.1 hn.2
   subst this
   refine ai ?_
   refine kU (Src.at (h.src (A := some ⟨q, 0, none⟩)) h (i := i.toNat) (j := 0) hrow rfl (by show _ = 0 + (i.toNat * 3 + 0); simp)) ?_
   replace h : Hp R (ax bC lb q1.get.1 :: fS (dk b wb db a x) g1 :: j0 bC a.lb (x.ps.map da.q) i.toNat :: bT (some ⟨q, 0, none⟩) a.cp (bH a.lb x.ps) :: L3) M := h.sub bM
   refine Cu (P := dk b wb db a x) uY h G7 (by decide) ?_
   clear h; intro t2 M ht3 ht4 h
   refine ⟨_, _, rfl, ?_⟩
   have ht5 : t2 = !g1.isEmpty := by
    cases g1 with
    | nil => exact ht3 (by unfold Loc.dV; simp) rfl
    | cons _ _ => exact ht4 (by simp)
   subst ht5
   replace h := h.dh bC lb hlb (by rw [List.length_map]; omega)
   exact k _ (h.sub bM)
 refine bU.2 ⟨fun e6 => ?_, fun e6 => ?_⟩
 ·replace h : Hp R (fS (dk b wb db a x) g1 :: ax bC lb q1 :: j0 bC a.lb (x.ps.map da.q) i.toNat :: bT (some ⟨q, 0, none⟩) a.cp (bH a.lb x.ps) :: L3) M := h.sub bM
  refine oy (P := dk b wb db a x) (n := 1) uY h (by omega) ?_
  clear h; intro A2 c2 M h
  refine aR ?_
  have e1 : (1 : Int).toNat = 1 := rfl
  rw [e1] at h ⊢
  by_cases hg : 0 < g1.length
  ·rw [if_pos ⟨e6, hg⟩] at k
   have hlen : (g1.take 1).length = 1 := by rw [List.length_take]; omega
   rw [hlen]
   refine af ⟨by omega, by omega, ?_⟩
   obtain ⟨q9, rfl⟩ := h.bz (A := A2) (by omega) (by decide)
   refine bp ?_
   obtain ⟨v, hv⟩ := aK (l := g1) (i := 0) hg
   have NX : (g1.take 1)[0]? = some v := by rw [List.getElem?_take, if_pos (by omega)]; exact hv
   refine bq (Src.at (h.src (A := some ⟨q9, 0, none⟩)) h (i := 0) (j := 0) NX rfl rfl) ?_
   have hvd : g1.headD 0 = v := by
    cases g1 with
    | nil => simp at hg
    | cons w _ => simp at hv; simpa using hv
   rw [hvd] at k
   replace h : Hp R (ax bC lb q1 :: j0 bC a.lb (x.ps.map da.q) i.toNat :: fS (dk b wb db a x) (g1.drop 1) :: bT (some ⟨q, 0, none⟩) a.cp (bH a.lb x.ps) :: L3) M := h.sub bM
   replace h := h.dh bC lb hlb (by rw [List.length_map]; omega)
   exact k _ (h.sub bM)
  ·have QY : g1 = [] := List.eq_nil_of_length_eq_zero (by omega)
   subst QY
   refine ai ?_
   exact rest (h.sub bM) (fun hc => by simp at hc)
 ·exact rest (h.sub bM) (fun hc => e6 hc.1)
end
inductive lu where
 | ev (e : Ev)
 | cQ (l : List PanicEntry)
def Sc.bL (x : Sc) (m i kind g : Int) (ok : Bool) : Sc × Ev :=
 if ok then ((x.cj i { aC x i with turns := (aC x i).turns + 1 }).fB m ⟨(av x m).p, g, x.c.S⟩, ⟨kind, m, g, []⟩)
 else ((x.cj i { aC x i with gj := -1 }).fB m ⟨-1, -1, 0⟩, ⟨6, m, -1, []⟩)
def Sc.find (x : Sc) (m : Int) : Sc × lu :=
 let i := (av x m).p
 if 0 < (av x m).left ∧ (aC x i).q.next ≠ -1 then
  ((x.cj i { aC x i with q := (aC x i).q.get.1 }).fB m { av x m with g := (aC x i).q.get.2 }, .ev ⟨4, m, (aC x i).q.get.2, []⟩)
 else
  let y := (x.own i).1
  if (x.own i).2.2 = false ∧ 1 < x.c.P then match y.d.draw 2 x.c.P with
   | (d', .cQ l) => ({ y with d := d' }, .cQ l)
   | (d', .num v) =>
    let y := { y with d := d' }
    if v = i then ((y.bL m i 5 (-1) false).1, .ev (y.bL m i 5 (-1) false).2)
    else
     let s := (aC y i).q.cZ (aC y v).q
     let z := (y.cj i { aC y i with q := s.1 }).cj v { aC y v with q := s.2.1 }
     ((z.bL m i 5 s.2.2 (iG (aC y v).q s.2.2)).1, .ev (z.bL m i 5 s.2.2 (iG (aC y v).q s.2.2)).2)
  else ((y.bL m i 4 (x.own i).2.1 (x.own i).2.2).1, .ev (y.bL m i 4 (x.own i).2.1 (x.own i).2.2).2)
section
variable {R : Mem} {L L' L2 : List HP} {M : Mem} {K : Value → Mem → Prop} {Kp : List PanicEntry → Mem → Prop} {pa : PA} {p : ck} {b wb db : Nat} {x : Sc} {m i : Int}
theorem um {lb : Nat} (k : K (.tuple #[.int .i64 (-1), .bool false]) M) : aa Tryz.prog 151 #[.pointer (some ⟨lb, 0, none⟩), .pointer (some ⟨lb, 0, none⟩)] M K Kp := by
 refine iA ?_
 exact ⟨fun _ => af k, fun hne => absurd rfl hne⟩
theorem oH {y : da} : (x.cj i y).ps.length = x.ps.length := by simp [Sc.cj]
theorem Hs {a : SA} {q q2 k1 : Nat} {kind g : Int} {t : Bool}
  (h : Hp R (fS (dk b wb db a x) x.gl :: ax (bu pa p) wb x.w :: ax (b7 .nilFunc) db x.d :: bT (some ⟨q, 0, none⟩) a.cp (bH a.lb x.ps) :: aP bC a.lb (x.ps.map da.q) :: bY (some ⟨q2, 0, none⟩) a.cm x.ms :: pt k1 [.int .i64 0, .int .i64 0, .int .i64 0, .slice none 0 0] 43 :: L') M)
  (hap : a.ap = some ⟨q, 0, none⟩) (Fs : a.am = some ⟨q2, 0, none⟩) (hl : a.lb.length = x.ps.length) (m0 : 0 ≤ m) (m1 : m < x.ms.length) (i0 : 0 ≤ i) (i1 : i < x.ps.length) (ht : 0 ≤ (aC x i).turns ∧ (aC x i).turns < 1000000000)
  (k : ∀ M', Hp R (ax (eY pa p wb db) b (x.bL m i kind g t).1 :: L') M' → K (EC (x.bL m i kind g t).2 none 0) M') :
  aO (!t)
   (az (Mem.ld M ⟨b, (0 + 6), none⟩) fun Pz Ld Mm =>
   aF M ⟨q, ((i.toNat * 3) + 2), none⟩ (.int .i64 (-1)) fun GF =>
   ((0 : Int) ≤ m) ∧
   ((m : Int) < ((Ld : Nat) : Int)) ∧
   aD Pz fun GJ Jv =>
   aF GF ⟨GJ, (Jv + ((Int.toNat m) * 3)), none⟩ (.int .i64 (-1)) fun Jw =>
   aF Jw ⟨GJ, ((Jv + ((Int.toNat m) * 3)) + 1), none⟩ (.int .i64 (-1)) fun Oi =>
   aF Oi ⟨GJ, ((Jv + ((Int.toNat m) * 3)) + 2), none⟩ (.int .i64 0) fun DS =>
   aF DS ⟨k1, 0, none⟩ (.int .i64 6) fun TE =>
   aF TE ⟨k1, (0 + 1), none⟩ (.int .i64 m) fun oX =>
   aF oX ⟨k1, (0 + 2), none⟩ (.int .i64 (-1)) fun TF =>
   aF TF ⟨k1, (0 + 3), none⟩ (.slice none 0 0) fun B7 =>
   aG (Mem.ld B7 ⟨k1, 0, none⟩) .i64 fun Pm =>
   aG (Mem.ld B7 ⟨k1, (0 + 1), none⟩) .i64 fun LV =>
   aG (Mem.ld B7 ⟨k1, (0 + 2), none⟩) .i64 fun Pn =>
   az (Mem.ld B7 ⟨k1, (0 + 3), none⟩) fun TG TH TI =>
   K (.agg #[(.int .i64 Pm), (.int .i64 LV), (.int .i64 Pn), (.slice TG TH TI)]) B7)
   (aG (Mem.ld M ⟨q, ((i.toNat * 3) + 1), none⟩) .i64 fun si =>
   aF M ⟨q, ((i.toNat * 3) + 1), none⟩ (.int .i64 (IntKind.wrap .i64 (si + 1))) fun qc =>
   az (Mem.ld qc ⟨b, (0 + 6), none⟩) fun Ao vl B8 =>
   az (Mem.ld qc ⟨b, (0 + 6), none⟩) fun Ap sD GK =>
   aG (Mem.ld qc ⟨b, ((0 + 1) + 3), none⟩) .i64 fun DT =>
   ((0 : Int) ≤ m) ∧
   ((m : Int) < ((vl : Nat) : Int)) ∧
   aD Ao fun Jx Jy =>
   aF qc ⟨Jx, ((Jy + ((Int.toNat m) * 3)) + 1), none⟩ (.int .i64 g) fun od =>
   ((0 : Int) ≤ m) ∧
   ((m : Int) < ((sD : Nat) : Int)) ∧
   aD Ap fun Jz JA =>
   aF od ⟨Jz, ((JA + ((Int.toNat m) * 3)) + 2), none⟩ (.int .i64 DT) fun JB =>
   aF JB ⟨k1, 0, none⟩ (.int .i64 kind) fun JC =>
   aF JC ⟨k1, (0 + 1), none⟩ (.int .i64 m) fun DU =>
   aF DU ⟨k1, (0 + 2), none⟩ (.int .i64 g) fun DV =>
   aF DV ⟨k1, (0 + 3), none⟩ (.slice none 0 0) fun l9 =>
   aG (Mem.ld l9 ⟨k1, 0, none⟩) .i64 fun JD =>
   aG (Mem.ld l9 ⟨k1, (0 + 1), none⟩) .i64 fun DW =>
   aG (Mem.ld l9 ⟨k1, (0 + 2), none⟩) .i64 fun DX =>
   az (Mem.ld l9 ⟨k1, (0 + 3), none⟩) fun JE JF DY =>
   K (.agg #[(.int .i64 JD), (.int .i64 DW), (.int .i64 DX), (.slice JE JF DY)]) l9) := by
 obtain ⟨lb, hlb, lq, hrow⟩ := oF (i := i) hl i0 i1
 have lz := oG m0 m1
 have m2 : m.toNat < x.ms.length := by omega
 obtain ⟨ap, cp, tx, am, cm⟩ := a
 dsimp only at hap Fs hl hlb hrow h
 subst hap; subst Fs
 obtain ⟨A, c, h2⟩ := mw h
 clear h
 have h := h2
 clear h2
 unfold Sc.bL at k
 cases t with
 | false =>
  simp only [Bool.false_eq_true, if_false] at k
  refine af ?_
  refine bj h ?_
  refine gO (E := oD) (a' := (lb, (aC x i).turns, -1)) i.toNat 2 h hrow (by decide) rfl rfl ?_
  clear h; intro M h
  refine ⟨m0, m1, bp ?_⟩
  refine gO (E := j8) (a' := ⟨-1, (av x m).g, (av x m).left⟩) m.toNat 0 h lz (by decide) rfl (by show _ = m.toNat * 3 + 0; omega) ?_
  clear h; intro M h
  refine gO (E := j8) (a := ⟨-1, (av x m).g, (av x m).left⟩) (a' := ⟨-1, -1, (av x m).left⟩) m.toNat 1 h (by simp [m2]) (by decide) rfl (by show _ = m.toNat * 3 + 1; omega) ?_
  clear h; intro M h
  refine gO (E := j8) (a := ⟨-1, -1, (av x m).left⟩) (a' := ⟨-1, -1, 0⟩) m.toNat 2 h (by simp [m2]) (by decide) rfl (by show _ = m.toNat * 3 + 2; omega) ?_
  clear h; intro M h
  rw [gS, gS, w9 (pr := { aC x i with gj := -1 }) hlb] at h
  refine iF h ?_
  clear h; intro M h
  refine oE h ?_
  have e3 := uj (y := { aC x i with gj := -1 }) lq rfl
  exact k _ (Hp.bP (uk (A := A) (c := c) (a := ⟨some ⟨q, 0, none⟩, cp, tx, some ⟨q2, 0, none⟩, cm⟩) (x := (x.cj i { aC x i with gj := -1 }).fB m ⟨-1, -1, 0⟩) h b (by simp [Sc.cj, Sc.fB, dJ]) (by rfl) (by simpa [Sc.cj, Sc.fB] using hl) (by rfl) (by exact e3) (by rfl)))
 | true =>
  simp only [if_true] at k
  refine ai ?_
  refine bq (Src.at (h.src (A := some ⟨q, 0, none⟩)) h (i := i.toNat) (j := 1) hrow rfl (by show _ = 0 + (i.toNat * 3 + 1); omega)) ?_
  rw [ik ht.1 (by omega)]
  refine gO (E := oD) (a' := (lb, (aC x i).turns + 1, (aC x i).gj)) i.toNat 1 h hrow (by decide) rfl rfl ?_
  clear h; intro M h
  refine bj h (bj h (aH h ⟨m0, m1, bp ?_⟩))
  refine gO (E := j8) (a' := ⟨(av x m).p, g, (av x m).left⟩) m.toNat 1 h lz (by decide) rfl (by show _ = m.toNat * 3 + 1; omega) ?_
  clear h; intro M h
  refine ⟨m0, m1, bp ?_⟩
  refine gO (E := j8) (a := ⟨(av x m).p, g, (av x m).left⟩) (a' := ⟨(av x m).p, g, x.c.S⟩) m.toNat 2 h (by simp [m2]) (by decide) rfl (by show _ = m.toNat * 3 + 2; omega) ?_
  clear h; intro M h
  rw [gS, w9 (pr := { aC x i with turns := (aC x i).turns + 1 }) hlb] at h
  refine iF h ?_
  clear h; intro M h
  refine oE h ?_
  have e3 := uj (y := { aC x i with turns := (aC x i).turns + 1 }) lq rfl
  exact k _ (Hp.bP (uk (A := A) (c := c) (a := ⟨some ⟨q, 0, none⟩, cp, tx, some ⟨q2, 0, none⟩, cm⟩) (x := (x.cj i { aC x i with turns := (aC x i).turns + 1 }).fB m ⟨(av x m).p, g, x.c.S⟩) h b (by simp [Sc.cj, Sc.fB, dJ]) (by rfl) (by simpa [Sc.cj, Sc.fB] using hl) (by rfl) (by exact e3) (by rfl)))
def uo (x : Sc) (m : Int) : Prop := 0 ≤ m ∧ m < x.ms.length ∧ 0 ≤ (av x m).p ∧ (av x m).p < x.ps.length ∧ x.gl.length ≤ 1000000 ∧ 0 ≤ (aC x (av x m).p).turns ∧ (aC x (av x m).p).turns < 1000000000 ∧ x.d.taken.length < 100000000 ∧ x.c.P ≤ x.ps.length ∧ x.c.P < 1000000
instance (x : Sc) (m : Int) : Decidable (uo x m) := by unfold uo; infer_instance
theorem Ht {j : Int} (h0 : 0 ≤ i) (hi : i < x.ps.length) (hj : 0 ≤ j) : (aC (x.own i).1 j).turns = (aC x j).turns := by
 unfold Sc.own Sc.cj aC
 dsimp only
 by_cases e : i.toNat = j.toNat
 ·rw [e]
  rw [List.getD_eq_getElem?_getD, List.getElem?_set_self (by omega)]; rfl
 ·rw [List.getD_eq_getElem?_getD, List.getElem?_set_ne e, ← List.getD_eq_getElem?_getD]
end
section
variable {R : Mem} {L L' L2 : List HP} {M : Mem} {K : Value → Mem → Prop} {Kp : List PanicEntry → Mem → Prop} {pa : PA} {p : ck} {b wb db : Nat} {x : Sc} {m i : Int} {a : SA} {g : List Int}
theorem Km (h : Hp R (fS (dk b wb db a x) g :: L) M) : M.ld ⟨b, 0 + 5, none⟩ = some (.slice a.ap x.ps.length a.cp) := by
 obtain ⟨A, c, h9⟩ := gW (P := dk b wb db a x) h; exact bk h9
theorem xk (h : Hp R (fS (dk b wb db a x) g :: L) M) : M.ld ⟨b, 0 + 6, none⟩ = some (.slice a.am x.ms.length a.cm) := by
 obtain ⟨A, c, h9⟩ := gW (P := dk b wb db a x) h; exact bk h9
theorem Z1 (h : Hp R (fS (dk b wb db a x) g :: L) M) : M.ld ⟨b, 0 + 1, none⟩ = some (.int .i64 x.c.P) := by
 obtain ⟨A, c, h9⟩ := gW (P := dk b wb db a x) h; exact bk h9
theorem Ur (h : Hp R (fS (dk b wb db a x) g :: L) M) : M.ld ⟨b, (0 + 1) + 1, none⟩ = some (.int .i64 x.c.M) := by
 obtain ⟨A, c, h9⟩ := gW (P := dk b wb db a x) h; exact bk h9
theorem Rc (h : Hp R (fS (dk b wb db a x) g :: L) M) : M.ld ⟨b, 0 + 8, none⟩ = some (.pointer (some ⟨db, 0, none⟩)) := by
 obtain ⟨A, c, h9⟩ := gW (P := dk b wb db a x) h; exact bk h9
theorem Us (h : Hp R (fS (dk b wb db a x) g :: L) M) : M.ld ⟨b, 0, none⟩ = some (.pointer (some ⟨wb, 0, none⟩)) := by
 obtain ⟨A, c, h9⟩ := gW (P := dk b wb db a x) h; exact bk h9
theorem Nh : dk b wb db a (x.own i).1 = dk b wb db a x := by
 unfold Sc.own dk dJ Sc.cj; simp
def Vs (R : Mem) (pa : PA) (p : ck) (b wb db : Nat) (a : SA) (L' : List HP) (K : Value → Mem → Prop) (m i : Int) (q q2 k1 : Nat) (z : Sc) (kind g : Int) (t : Bool) (M : Mem) : Prop :=
 Hp R (fS (dk b wb db a z) z.gl :: ax (bu pa p) wb z.w :: ax (b7 .nilFunc) db z.d :: bT (some ⟨q, 0, none⟩) a.cp (bH a.lb z.ps) :: aP bC a.lb (z.ps.map da.q) :: bY (some ⟨q2, 0, none⟩) a.cm z.ms :: pt k1 [.int .i64 0, .int .i64 0, .int .i64 0, .slice none 0 0] 43 :: L') M ∧
 a.lb.length = z.ps.length ∧ m < z.ms.length ∧ i < z.ps.length ∧ (0 ≤ (aC z i).turns ∧ (aC z i).turns < 1000000000) ∧
 (∀ M', Hp R (ax (eY pa p wb db) b (z.bL m i kind g t).1 :: L') M' → K (EC (z.bL m i kind g t).2 none 0) M')
theorem CG {y : da} {j : Int} (hi : 0 ≤ i) (h1 : i < x.ps.length) (hj : 0 ≤ j) : aC (x.cj i y) j = if i = j then y else aC x j := by
 unfold aC Sc.cj
 dsimp only
 by_cases e : i = j
 ·subst e
  rw [if_pos rfl, List.getD_eq_getElem?_getD, List.getElem?_set_self (by omega)]; rfl
 ·rw [if_neg e, List.getD_eq_getElem?_getD, List.getElem?_set_ne (by omega), ← List.getD_eq_getElem?_getD]
theorem zp {q q2 k1 : Nat}
  (h : Hp R (fS (dk b wb db a x) x.gl :: ax (bu pa p) wb x.w :: ax (b7 .nilFunc) db x.d :: bT (some ⟨q, 0, none⟩) a.cp (bH a.lb x.ps) :: aP bC a.lb (x.ps.map da.q) :: bY (some ⟨q2, 0, none⟩) a.cm x.ms :: pt k1 [.int .i64 0, .int .i64 0, .int .i64 0, .slice none 0 0] 43 :: L') M)
  (hap : a.ap = some ⟨q, 0, none⟩) (Fs : a.am = some ⟨q2, 0, none⟩) (hl : a.lb.length = x.ps.length) (hk : uo x m) (hi : i = (av x m).p) (hd : x.d.Ok)
  (k : let y := (x.own i).1
   if (x.own i).2.2 = false ∧ 1 < x.c.P then match y.d.draw 2 x.c.P with
    | (d', .cQ l) => ∀ M', Hp R (ax (eY pa p wb db) b { y with d := d' } :: L') M' → Kp l M'
    | (d', .num v) =>
     let y := { y with d := d' }
     let s := (aC y i).q.cZ (aC y v).q
     let z := if v = i then y else (y.cj i { aC y i with q := s.1 }).cj v { aC y v with q := s.2.1 }
     let r := if v = i then (-1, false) else (s.2.2, iG (aC y v).q s.2.2)
     ∀ M', Hp R (ax (eY pa p wb db) b (z.bL m i 5 r.1 r.2).1 :: L') M' → K (EC (z.bL m i 5 r.1 r.2).2 none 0) M'
   else ∀ M', Hp R (ax (eY pa p wb db) b (y.bL m i 4 (x.own i).2.1 (x.own i).2.2).1 :: L') M' → K (EC (y.bL m i 4 (x.own i).2.1 (x.own i).2.2).2 none 0) M') :
  aa Tryz.prog 150 #[(.pointer (some ⟨b, 0, none⟩)), (.pointer (some ⟨q, (i.toNat * 3), none⟩))] M (fun Mu xP =>
 ∃ Mv : Int, ∃ t57 : Bool, (Mu = (.tuple #[(.int .i64 Mv), (.bool t57)])) ∧
 aO (!t57)
  (aG (Mem.ld xP ⟨b, (0 + 1), none⟩) .i64 fun LQ =>
  ∃ PN : List Value → Mem → Prop, (aO (decide ((LQ : Int) > 1))
   (b8 (Mem.ld xP ⟨b, (0 + 8), none⟩) fun XE =>
    aG (Mem.ld xP ⟨b, (0 + 1), none⟩) .i64 fun vf =>
    aa Tryz.prog 107 #[(.pointer XE), (.int .i64 2), (.int .i64 vf)] xP (fun Tf BN =>
    aG (some Tf) .i64 fun n64 =>
    b8 (Mem.ld BN ⟨q, (i.toNat * 3), none⟩) fun RZ =>
    az (Mem.ld BN ⟨b, (0 + 5), none⟩) fun Ju jQ Mw =>
    ((0 : Int) ≤ n64) ∧
    ((n64 : Int) < ((jQ : Nat) : Int)) ∧
    aD Ju fun XF Jn =>
    b8 (Mem.ld BN ⟨XF, (Jn + ((Int.toNat n64) * 3)), none⟩) fun PJ =>
    aa Tryz.prog 151 #[(.pointer RZ), (.pointer PJ)] BN (fun TD AZ =>
    ∃ Mn : Int, ∃ t75 : Bool, (TD = (.tuple #[(.int .i64 Mn), (.bool t75)])) ∧
    PN [(.int .i64 5), (.int .i64 Mn), (.bool t75)] AZ) Kp) Kp)
   (PN [(.int .i64 4), (.int .i64 Mv), (.bool t57)] xP)) ∧
  ∀ PO : Nat → Value, ∀ DH : Int, ∀ GI : Int, ∀ t79 : Bool, ∀ Ai : Mem, (PN [(.int .i64 DH), (.int .i64 GI), (.bool t79)] Ai) → aO (!t79)
   (az (Mem.ld Ai ⟨b, (0 + 6), none⟩) fun Pz Ld Mm =>
   aF Ai ⟨q, ((i.toNat * 3) + 2), none⟩ (.int .i64 (-1)) fun GF =>
   ((0 : Int) ≤ m) ∧
   ((m : Int) < ((Ld : Nat) : Int)) ∧
   aD Pz fun GJ Jv =>
   aF GF ⟨GJ, (Jv + ((Int.toNat m) * 3)), none⟩ (.int .i64 (-1)) fun Jw =>
   aF Jw ⟨GJ, ((Jv + ((Int.toNat m) * 3)) + 1), none⟩ (.int .i64 (-1)) fun Oi =>
   aF Oi ⟨GJ, ((Jv + ((Int.toNat m) * 3)) + 2), none⟩ (.int .i64 0) fun DS =>
   aF DS ⟨k1, 0, none⟩ (.int .i64 6) fun TE =>
   aF TE ⟨k1, (0 + 1), none⟩ (.int .i64 m) fun oX =>
   aF oX ⟨k1, (0 + 2), none⟩ (.int .i64 (-1)) fun TF =>
   aF TF ⟨k1, (0 + 3), none⟩ (.slice none 0 0) fun B7 =>
   aG (Mem.ld B7 ⟨k1, 0, none⟩) .i64 fun Pm =>
   aG (Mem.ld B7 ⟨k1, (0 + 1), none⟩) .i64 fun LV =>
   aG (Mem.ld B7 ⟨k1, (0 + 2), none⟩) .i64 fun Pn =>
   az (Mem.ld B7 ⟨k1, (0 + 3), none⟩) fun TG TH TI =>
   K (.agg #[(.int .i64 Pm), (.int .i64 LV), (.int .i64 Pn), (.slice TG TH TI)]) B7)
   (aG (Mem.ld Ai ⟨q, ((i.toNat * 3) + 1), none⟩) .i64 fun si =>
   aF Ai ⟨q, ((i.toNat * 3) + 1), none⟩ (.int .i64 (IntKind.wrap .i64 (si + 1))) fun qc =>
   az (Mem.ld qc ⟨b, (0 + 6), none⟩) fun Ao vl B8 =>
   az (Mem.ld qc ⟨b, (0 + 6), none⟩) fun Ap sD GK =>
   aG (Mem.ld qc ⟨b, ((0 + 1) + 3), none⟩) .i64 fun DT =>
   ((0 : Int) ≤ m) ∧
   ((m : Int) < ((vl : Nat) : Int)) ∧
   aD Ao fun Jx Jy =>
   aF qc ⟨Jx, ((Jy + ((Int.toNat m) * 3)) + 1), none⟩ (.int .i64 GI) fun od =>
   ((0 : Int) ≤ m) ∧
   ((m : Int) < ((sD : Nat) : Int)) ∧
   aD Ap fun Jz JA =>
   aF od ⟨Jz, ((JA + ((Int.toNat m) * 3)) + 2), none⟩ (.int .i64 DT) fun JB =>
   aF JB ⟨k1, 0, none⟩ (.int .i64 DH) fun JC =>
   aF JC ⟨k1, (0 + 1), none⟩ (.int .i64 m) fun DU =>
   aF DU ⟨k1, (0 + 2), none⟩ (.int .i64 GI) fun DV =>
   aF DV ⟨k1, (0 + 3), none⟩ (.slice none 0 0) fun l9 =>
   aG (Mem.ld l9 ⟨k1, 0, none⟩) .i64 fun JD =>
   aG (Mem.ld l9 ⟨k1, (0 + 1), none⟩) .i64 fun DW =>
   aG (Mem.ld l9 ⟨k1, (0 + 2), none⟩) .i64 fun DX =>
   az (Mem.ld l9 ⟨k1, (0 + 3), none⟩) fun JE JF DY =>
   K (.agg #[(.int .i64 JD), (.int .i64 DW), (.int .i64 DX), (.slice JE JF DY)]) l9))
  (∃ JG : List Value → Mem → Prop, (JG [(.int .i64 4), (.int .i64 Mv), (.bool t57)] xP) ∧
  ∀ Mx : Nat → Value, ∀ Aq : Int, ∀ tX : Int, ∀ t129 : Bool, ∀ tY : Mem, (JG [(.int .i64 Aq), (.int .i64 tX), (.bool t129)] tY) → aO (!t129)
   (az (Mem.ld tY ⟨b, (0 + 6), none⟩) fun GG GH Mq =>
   aF tY ⟨q, ((i.toNat * 3) + 2), none⟩ (.int .i64 (-1)) fun B5 =>
   ((0 : Int) ≤ m) ∧
   ((m : Int) < ((GH : Nat) : Int)) ∧
   aD GG fun yj DZ =>
   aF B5 ⟨yj, (DZ + ((Int.toNat m) * 3)), none⟩ (.int .i64 (-1)) fun B6 =>
   aF B6 ⟨yj, ((DZ + ((Int.toNat m) * 3)) + 1), none⟩ (.int .i64 (-1)) fun PR =>
   aF PR ⟨yj, ((DZ + ((Int.toNat m) * 3)) + 2), none⟩ (.int .i64 0) fun An =>
   aF An ⟨k1, 0, none⟩ (.int .i64 6) fun GL =>
   aF GL ⟨k1, (0 + 1), none⟩ (.int .i64 m) fun PS =>
   aF PS ⟨k1, (0 + 2), none⟩ (.int .i64 (-1)) fun PT =>
   aF PT ⟨k1, (0 + 3), none⟩ (.slice none 0 0) fun wN =>
   aG (Mem.ld wN ⟨k1, 0, none⟩) .i64 fun PU =>
   aG (Mem.ld wN ⟨k1, (0 + 1), none⟩) .i64 fun PV =>
   aG (Mem.ld wN ⟨k1, (0 + 2), none⟩) .i64 fun PW =>
   az (Mem.ld wN ⟨k1, (0 + 3), none⟩) fun PX My PY =>
   K (.agg #[(.int .i64 PU), (.int .i64 PV), (.int .i64 PW), (.slice PX My PY)]) wN)
   (aG (Mem.ld tY ⟨q, ((i.toNat * 3) + 1), none⟩) .i64 fun Jt =>
   aF tY ⟨q, ((i.toNat * 3) + 1), none⟩ (.int .i64 (IntKind.wrap .i64 (Jt + 1))) fun Au =>
   az (Mem.ld Au ⟨b, (0 + 6), none⟩) fun PZ P0 PL =>
   az (Mem.ld Au ⟨b, (0 + 6), none⟩) fun P2 GM XG =>
   aG (Mem.ld Au ⟨b, ((0 + 1) + 3), none⟩) .i64 fun P3 =>
   ((0 : Int) ≤ m) ∧
   ((m : Int) < ((P0 : Nat) : Int)) ∧
   aD PZ fun P4 P5 =>
   aF Au ⟨P4, ((P5 + ((Int.toNat m) * 3)) + 1), none⟩ (.int .i64 tX) fun P6 =>
   ((0 : Int) ≤ m) ∧
   ((m : Int) < ((GM : Nat) : Int)) ∧
   aD P2 fun P7 P8 =>
   aF P6 ⟨P7, ((P8 + ((Int.toNat m) * 3)) + 2), none⟩ (.int .i64 P3) fun P9 =>
   aF P9 ⟨k1, 0, none⟩ (.int .i64 Aq) fun Qa =>
   aF Qa ⟨k1, (0 + 1), none⟩ (.int .i64 m) fun Qb =>
   aF Qb ⟨k1, (0 + 2), none⟩ (.int .i64 tX) fun Qc =>
   aF Qc ⟨k1, (0 + 3), none⟩ (.slice none 0 0) fun wO =>
   aG (Mem.ld wO ⟨k1, 0, none⟩) .i64 fun Qd =>
   aG (Mem.ld wO ⟨k1, (0 + 1), none⟩) .i64 fun Qe =>
   aG (Mem.ld wO ⟨k1, (0 + 2), none⟩) .i64 fun Qf =>
   az (Mem.ld wO ⟨k1, (0 + 3), none⟩) fun Qg Qh JH =>
   K (.agg #[(.int .i64 Qd), (.int .i64 Qe), (.int .i64 Qf), (.slice Qg Qh JH)]) wO))) Kp := by
 obtain ⟨m0, m1, i0, i1, Kn, Z2, Vq, Rd, hP, hP2⟩ := hk
 rw [← hi] at i0 i1 Z2 Vq
 have go : ∀ (z : Sc) (kind g : Int) (t : Bool) (M : Mem), Vs R pa p b wb db a L' K m i q q2 k1 z kind g t M → _ := fun z kind g t M ⟨h, a1, a2, a3, a4, a5⟩ => Hs h hap Fs a1 m0 a2 i0 a3 a4 a5
 refine Hr (i := i) (q := q) (a := a) (x := x) (b := b) (wb := wb) (db := db) h hap hl i0 i1 Kn Z2 ?_
 clear h; intro M h
 refine ⟨_, _, rfl, ?_⟩
 dsimp only at k
 have ey : dk b wb db a (x.own i).1 = dk b wb db a x := Nh
 have ep : bH a.lb (x.own i).1.ps = bH a.lb x.ps := by
  obtain ⟨lb, hlb, lq, hrow⟩ := oF (i := i) hl i0 i1
  exact xh lq rfl rfl
 have el : (x.own i).1.ps.length = x.ps.length := by simp [Sc.own, Sc.cj]
 have et : ∀ j, 0 ≤ j → (aC (x.own i).1 j).turns = (aC x j).turns := fun j hj => Ht i0 i1 hj
 have em : (x.own i).1.ms = x.ms := rfl
 have ew : (x.own i).1.w = x.w := rfl
 have ed : (x.own i).1.d = x.d := rfl
 rw [← ey, ← ep] at h
 have hR : Hp R (fS (dk b wb db a (x.own i).1) (x.own i).1.gl :: ax (bu pa p) wb (x.own i).1.w :: ax (b7 .nilFunc) db (x.own i).1.d :: bT (some ⟨q, 0, none⟩) a.cp (bH a.lb (x.own i).1.ps) :: aP bC a.lb ((x.own i).1.ps.map da.q) :: bY (some ⟨q2, 0, none⟩) a.cm (x.own i).1.ms :: pt k1 [.int .i64 0, .int .i64 0, .int .i64 0, .slice none 0 0] 43 :: L') M := h.sub bM
 clear h
 have h := hR
 clear hR
 have ec : (x.own i).1.c = x.c := rfl
 generalize hy : x.own i = r at h k ey ep el et em ew ed ec
 obtain ⟨y, v1, t1⟩ := r
 dsimp only at h k ey ep el et em ew ed ec ⊢
 have Vn := et i i0
 have Oy : ∀ M, Hp R (fS (dk b wb db a y) y.gl :: ax (bu pa p) wb y.w :: ax (b7 .nilFunc) db y.d :: bT (some ⟨q, 0, none⟩) a.cp (bH a.lb y.ps) :: aP bC a.lb (y.ps.map da.q) :: bY (some ⟨q2, 0, none⟩) a.cm y.ms :: pt k1 [.int .i64 0, .int .i64 0, .int .i64 0, .slice none 0 0] 43 :: L') M → ¬ (t1 = false ∧ 1 < x.c.P) → Vs R pa p b wb db a L' K m i q q2 k1 y 4 v1 t1 M := by
  intro M h hno
  rw [if_neg hno] at k
  exact ⟨h, by omega, by rw [em]; exact m1, by omega, by omega, k⟩
 cases t1 with
 | true =>
  refine ai ?_
  refine ⟨fun vs M => ∃ (z : Sc) (kind g : Int) (t : Bool), vs = [.int .i64 kind, .int .i64 g, .bool t] ∧ Vs R pa p b wb db a L' K m i q q2 k1 z kind g t M, ⟨y, 4, v1, true, rfl, Oy M h (fun hc => by cases hc.1)⟩, ?_⟩
  clear h
  rintro _ n1 n2 t3 M ⟨z, kind, g, t, he, hz⟩
  simp only [List.cons.injEq, Value.int.injEq, Value.bool.injEq, and_true, true_and] at he
  obtain ⟨rfl, rfl, rfl⟩ := he
  exact go z n1 n2 t3 M hz
 | false =>
  refine af ?_
  rw [Z1 h]
  refine cE ?_
  refine ⟨fun vs M => ∃ (z : Sc) (kind g : Int) (t : Bool), vs = [.int .i64 kind, .int .i64 g, .bool t] ∧ Vs R pa p b wb db a L' K m i q q2 k1 z kind g t M, ?_, ?_⟩
  ·rw [ec]
   refine aM.2 ⟨fun hgt => ?_, fun hle => ?_⟩
   ·rw [if_pos ⟨rfl, hgt⟩] at k
    rw [Rc h]
    refine eM ?_
    refine cE ?_
    rw [ed] at k h
    replace h : Hp R (ax (b7 .nilFunc) db x.d :: fS (dk b wb db a y) y.gl :: ax (bu pa p) wb y.w :: bT (some ⟨q, 0, none⟩) a.cp (bH a.lb y.ps) :: aP bC a.lb (y.ps.map da.q) :: bY (some ⟨q2, 0, none⟩) a.cm y.ms :: pt k1 [.int .i64 0, .int .i64 0, .int .i64 0, .slice none 0 0] 43 :: L') M := h.sub bM
    refine oC h hd (by omega) Rd ?_
    clear h
    have EB := fun k' v => w8 (k := x.d.k) (kind := 2) hd.1 (w7 x.c.P) (k' := k') (v := v)
    have vo : ∀ v, (x.d.draw 2 x.c.P).2 = .num v → 0 ≤ v ∧ v < x.c.P := by
     intro v hv
     unfold kK.draw at hv
     split at hv
     ·rename_i k' v' hn
      cases hv
      have := EB k' _ hn
      have e : jT x.c.P = x.c.P := by unfold jT; rw [if_neg (by omega)]
      rw [e] at this
      exact this
     ·cases hv
    generalize uW : x.d.draw 2 x.c.P = dd at k vo
    obtain ⟨d', o⟩ := dd
    cases o with
    | cQ l =>
     dsimp only at k vo ⊢
     intro M h
     have hsc : dk b wb db a y = dk b wb db a { y with d := d' } := rfl
     rw [hsc] at h
     have h9 : Hp R (fS (dk b wb db a { y with d := d' }) y.gl :: ax (bu pa p) wb y.w :: ax (b7 .nilFunc) db d' :: bT a.ap a.cp (bH a.lb y.ps) :: aP bC a.lb (y.ps.map da.q) :: bY a.am a.cm y.ms :: pt k1 [.int .i64 0, .int .i64 0, .int .i64 0, .slice none 0 0] 43 :: L') M := by
      rw [show bT a.ap a.cp (bH a.lb y.ps) = bT (some ⟨q, 0, none⟩) a.cp (bH a.lb y.ps) from by rw [hap], show bY a.am a.cm y.ms = bY (some ⟨q2, 0, none⟩) a.cm y.ms from by rw [Fs]]
      exact h.sub bM
     exact k M (Hp.bP (gz (a := a) (x := { y with d := d' }) (by rw [el]; exact hl) h9))
    | num v =>
     dsimp only at k vo ⊢
     obtain ⟨v0, v1'⟩ := vo v rfl
     intro M h
     refine cE ?_
     have hsc : dk b wb db a y = dk b wb db a { y with d := d' } := rfl
     rw [hsc] at h
     generalize hyz : ({ y with d := d' } : Sc) = y2 at h k
     have p1 : y2.ps = y.ps := by rw [← hyz]
     have p2 : y2.ms = y.ms := by rw [← hyz]
     have p3 : y2.gl = y.gl := by rw [← hyz]
     have p4 : y2.w = y.w := by rw [← hyz]
     have p5 : y2.d = d' := by rw [← hyz]
     rw [← p1, ← p2, ← p3, ← p4, ← p5] at h
     replace h : Hp R (fS (dk b wb db a y2) y2.gl :: ax (bu pa p) wb y2.w :: ax (b7 .nilFunc) db y2.d :: bT (some ⟨q, 0, none⟩) a.cp (bH a.lb y2.ps) :: aP bC a.lb (y2.ps.map da.q) :: bY (some ⟨q2, 0, none⟩) a.cm y2.ms :: pt k1 [.int .i64 0, .int .i64 0, .int .i64 0, .slice none 0 0] 43 :: L') M := h.sub bM
     have kA : a.lb.length = y2.ps.length := by rw [p1, el]; exact hl
     have JR : i < y2.ps.length := by rw [p1, el]; exact i1
     have NX : v < y2.ps.length := by rw [p1, el]; omega
     have Up : m < y2.ms.length := by rw [p2, em]; exact m1
     have Vr : ∀ j, aC y2 j = aC y j := fun j => by unfold aC; rw [p1]
     obtain ⟨lbi, Ut, Uu, Uv⟩ := oF (i := i) kA i0 JR
     obtain ⟨lbv, Re, Ko, Uw⟩ := oF (i := v) kA v0 NX
     refine kU (Src.at (Src.row (A := some ⟨q, 0, none⟩) : Src R _ _ (oD.cells (bH a.lb y2.ps))) h (i := i.toNat) (j := 0) Uv rfl (by show _ = 0 + (i.toNat * 3 + 0); simp)) ?_
     rw [Km h]
     refine aR ⟨v0, NX, ?_⟩
     rw [hap]
     refine bp ?_
     rw [Nat.zero_add]
     refine kU (Src.at (Src.row (A := some ⟨q, 0, none⟩) : Src R _ _ (oD.cells (bH a.lb y2.ps))) h (i := v.toNat) (j := 0) Uw rfl (by show _ = 0 + (v.toNat * 3 + 0); simp)) ?_
     by_cases Vt : v = i
     ·subst Vt
      rw [Ut] at Re
      cases Re
      refine um ?_
      refine ⟨_, _, rfl, ?_⟩
      simp only [if_true] at k
      exact ⟨y2, 5, -1, false, rfl, h, kA, Up, JR, by rw [Vr]; omega, k⟩
     ·simp only [if_neg Vt] at k
      have Vu : (y2.ps.map da.q)[i.toNat]? = some (aC y2 i).q := by rw [List.getElem?_map, Uu]; rfl
      have hqv : (y2.ps.map da.q)[v.toNat]? = some (aC y2 v).q := by rw [List.getElem?_map, Ko]; rfl
      obtain ⟨X, hX, zq⟩ := h.JQ bC (i := i.toNat) (j := v.toNat) (by omega) Ut Vu Re hqv
      clear h
      refine Cv hX ?_
      clear hX; intro t M g1 g2 h
      refine ⟨_, _, rfl, ?_⟩
      have hte : t = iG (aC y2 v).q ((aC y2 i).q.cZ (aC y2 v).q).2.2 := by
       unfold iG
       by_cases hc : ((aC y2 i).q.cZ (aC y2 v).q).2.2 ≠ -1 ∨ (aC y2 v).q.l ≠ []
       ·rw [g2 hc]
        rcases hc with hc | hc
        ·simp [hc]
        ·cases hq : (aC y2 v).q.l with
         | nil => exact absurd hq hc
         | cons _ _ => simp
       ·have hc1 : ((aC y2 i).q.cZ (aC y2 v).q).2.2 = -1 := Decidable.byContradiction fun e => hc (.inl e)
        have Ob : (aC y2 v).q.l = [] := by
         cases hq : (aC y2 v).q.l with
         | nil => rfl
         | cons _ _ => exact absurd (.inr (by rw [hq]; simp)) hc
        rw [g1 hc1 Ob, hc1, Ob]; rfl
      subst hte
      replace h := zq (L2 := _) h
      generalize hs : (aC y2 i).q.cZ (aC y2 v).q = s at h k ⊢
      obtain ⟨s1, s2, s3⟩ := s
      dsimp only at h k ⊢
      have e1 : bH a.lb ((y2.cj i { aC y2 i with q := s1 }).cj v { aC y2 v with q := s2 }).ps = bH a.lb y2.ps := by
       show bH a.lb ((y2.ps.set i.toNat _).set v.toNat _) = _
       rw [xh (ps := y2.ps.set i.toNat { aC y2 i with q := s1 }) (j := v.toNat) (pr := aC y2 v) (y := { aC y2 v with q := s2 }) (by rw [List.getElem?_set_ne (by omega)]; exact Ko) rfl rfl]
       exact xh Uu rfl rfl
      have e2 : ((y2.cj i { aC y2 i with q := s1 }).cj v { aC y2 v with q := s2 }).ps.map da.q = ((y2.ps.map da.q).set i.toNat s1).set v.toNat s2 := by
       simp [Sc.cj, List.map_set]
      have e3 : dk b wb db a ((y2.cj i { aC y2 i with q := s1 }).cj v { aC y2 v with q := s2 }) = dk b wb db a y2 := by rw [xe, xe]
      rw [← e1, ← e2, ← e3] at h
      have e4 : (aC ((y2.cj i { aC y2 i with q := s1 }).cj v { aC y2 v with q := s2 }) i).turns = (aC y2 i).turns := by
       rw [CG v0 (by rw [oH]; exact NX) i0, if_neg Vt, CG i0 JR i0, if_pos rfl]
      refine ⟨(y2.cj i { aC y2 i with q := s1 }).cj v { aC y2 v with q := s2 }, 5, s3, _, rfl, h.sub bM, ?_, Up, ?_, ?_, k⟩
      ·rw [oH, oH]; exact kA
      ·rw [oH, oH]; exact JR
      ·rw [e4, Vr]; omega
   ·exact ⟨y, 4, v1, false, rfl, Oy M h (fun hc => hle hc.2)⟩
  ·clear h
   rintro _ n1 n2 t3 M ⟨z, kind, g, t, he, hz⟩
   simp only [List.cons.injEq, Value.int.injEq, Value.bool.injEq, and_true, true_and] at he
   obtain ⟨rfl, rfl, rfl⟩ := he
   exact go z n1 n2 t3 M hz
end
def vr (l : List PanicEntry) : List PanicEntry := l ++ l.map fun e => { e with recovered := true }
theorem zu : zj Ho (vr Ho) := fun b v M K Kp h => GR h
theorem CH {a k n q v : Int} : zj (Se a k n q v) (vr (Se a k n q v)) := fun b w M K Kp h => Av h
theorem Kr {k k' : gx} {kind m : Int} {l : List PanicEntry} (h : k.next kind m = (k', .cQ l)) : k' = k ∧ zj l (vr l) := by
 cases k with
 | m7 l i =>
  unfold gx.next at h
  dsimp only at h
  split at h
  ·cases h; exact ⟨rfl, zu⟩
  ·cases h
 | tape l i =>
  unfold gx.next at h
  dsimp only at h
  split at h
  ·cases h; exact ⟨rfl, zu⟩
  ·split at h
   ·cases h; exact ⟨rfl, CH⟩
   ·split at h
    ·cases h; exact ⟨rfl, CH⟩
    ·cases h
theorem CI {x x' : kK} {kind n : Int} {l : List PanicEntry} (h : x.draw kind n = (x', .cQ l)) : x' = x ∧ zj l (vr l) := by
 unfold kK.draw at h
 split at h
 ·cases h
 ·rename_i k' l' hn
  cases h
  obtain ⟨e, h2⟩ := Kr hn
  subst e
  exact ⟨rfl, h2⟩
theorem my {x : kK} {kind n : Int} (h : x.k.Ok) : (x.draw kind n).1.k.Ok := by
 unfold kK.draw
 have := Nf (kind := kind) (m := jT n) h
 split
 ·rename_i k' v hn; rw [hn] at this; exact this
 ·rename_i k' v hn; rw [hn] at this; exact this
theorem oI {x x' : kK} {kind n v : Int} (hok : x.k.Ok) (h : x.draw kind n = (x', .num v)) : 0 ≤ v ∧ v < jT n ∧ x'.taken = x.taken ++ [(kind, v)] := by
 unfold kK.draw at h
 split at h
 ·rename_i k' v' hn
  cases h
  have := w8 hok (w7 n) hn
  exact ⟨this.1, this.2, rfl⟩
 ·cases h
def aI (m : Int) (x : Sc) (r : Int) : Sc :=
 let i := (av x m).p
 { x.cj i { aC x i with q := ((aC x i).q.ready r x.gl).1 } with gl := ((aC x i).q.ready r x.gl).2.1 }
def Sc.oJ (x : Sc) (m g : Int) (keep : Bool) (ready : List Int) : Sc × Ev :=
 if keep = true ∧ (av x m).left - 1 ≠ 0 then (x.fB m { av x m with left := (av x m).left - 1 }, ⟨7, m, g, ready⟩)
 else ({ x.fB m { av x m with left := (av x m).left - 1, g := -1 } with gl := if (ae x.w g).st = 1 then x.gl ++ [g] else x.gl }, ⟨7, m, g, ready⟩)
def xl (p : ck) (x : Sc) (m : Int) : Prop := 0 ≤ m ∧ m < x.ms.length ∧ 0 ≤ (av x m).p ∧ (av x m).p < x.ps.length ∧ x.gl.length ≤ 1000000 ∧ x.d.taken.length < 100000000 ∧ 1 ≤ (av x m).left ∧ (av x m).left < 1000000000 ∧ 0 ≤ (av x m).g
instance (p : ck) (x : Sc) (m : Int) : Decidable (xl p x m) := by unfold xl; infer_instance
def Ks : Option (Int × Int) → Bool
 | none => true
 | some (_, n) => decide (n < 9223372036854775808)
def g7 (x : Sc) (m g : Int) (d : kK) (y : Wd) (rest : Bool) : Option (Sc × lu) :=
 if y.ready.length ≤ 10000 ∧ g < y.gs.length then
  some (((y.ready.foldl (aI m) { x with w := y, d := d }).oJ m g (dZ y g rest) y.ready).1, .ev ((y.ready.foldl (aI m) { x with w := y, d := d }).oJ m g (dZ y g rest) y.ready).2)
 else none
def eu (d : kK) : Option (Int × Int) → kK × gY
 | none => (d, .num 0)
 | some (k, n) => d.draw k n
def Sc.run (p : ck) (x : Sc) (m : Int) : Option (Sc × lu) :=
 if xl p x m then
  if Ks (asks p { x.w with ready := [] } (av x m).g) then
   match j7 p x.w (av x m).g (eu x.d (asks p { x.w with ready := [] } (av x m).g)).2 with
   | none => none
   | some (.cQ l y, _) => some ({ x with w := y, d := (eu x.d (asks p { x.w with ready := [] } (av x m).g)).1 }, .cQ (vr l))
   | some (.on y, rest) => g7 x m (av x m).g (eu x.d (asks p { x.w with ready := [] } (av x m).g)).1 y rest
   | some (.dM n y, rest) => g7 x m (av x m).g (eu x.d (asks p { x.w with ready := [] } (av x m).g)).1 { y with end_ := 2, code := n } rest
  else none
 else none
def xm : Sc × lu → Sc × lu
 | (x, .ev e) => ({ x with steps := x.steps + 1 }, .ev e)
 | (x, .cQ l) => (x, .cQ l)
def vO (x : Sc) : Prop := x.w.gs.length ≤ 1000000 ∧ x.c.M = x.ms.length ∧ x.ps.length ≤ 1000000 ∧ x.ms.length ≤ 1000000 ∧ x.d.taken.length < 10000000 ∧ 0 ≤ x.steps ∧ x.steps < 1000000000
instance (x : Sc) : Decidable (vO x) := by unfold vO; infer_instance
def Sc.act (p : ck) (x : Sc) (m : Int) : Option (Sc × lu) :=
 if m = x.c.M then (if xd x then some (x.tick.1, .ev x.tick.2) else none)
 else if (av x m).p = -1 then some ((x.hold m).1, .ev (x.hold m).2)
 else if (av x m).g = -1 then (if uo x m then some (x.find m) else none)
 else x.run p m
def Sc.step (p : ck) (x : Sc) : Option (Sc × lu) :=
 if vO x then
  if x.status ≠ 0 then some (x, .ev ⟨0, 0, 0, []⟩)
  else match x.d.draw 1 (x.c.M + 1) with
   | (d', .cQ l) => some ({ x with d := d' }, .cQ l)
   | (d', .num m) => (Sc.act p { x with d := d' } m).map xm
 else none
section
variable {R : Mem} {L L' L2 : List HP} {M : Mem} {K : Value → Mem → Prop} {Kp : List PanicEntry → Mem → Prop} {pa : PA} {p : ck} {b wb db : Nat} {x : Sc} {m i : Int}
theorem EF (h : Hp R L M) [o : mu b L pa p wb db x L'] (hk : uo x m) (hd : x.d.k.Ok)
  (k : match (x.find m).2 with
   | .ev e => ∀ M', Hp R (ax (eY pa p wb db) b (x.find m).1 :: L') M' → K (EC e none 0) M'
   | .cQ l => ∀ M', Hp R (ax (eY pa p wb db) b (x.find m).1 :: L') M' → Kp l M') : aa Tryz.prog 110 #[.pointer (some ⟨b, 0, none⟩), .int .i64 m] M K Kp := by
 refine qb ?_
 have hk' := hk
 obtain ⟨m0, m1, i0, i1, Kn, Z2, Vq, Rd, hP, hP2⟩ := hk'
 have xn : x.d.Ok := ⟨hd, by omega⟩
 refine aj h ?_
 clear h
 intro k1 M h
 have h' := eH h (b := b)
 clear h
 obtain ⟨a, hl, h⟩ := h'
 obtain ⟨lb, hlb, lq, hrow⟩ := oF (i := (av x m).p) hl i0 i1
 have lz := oG m0 m1
 have m2 : m.toNat < x.ms.length := by omega
 obtain ⟨q, hq⟩ := h.bz (A := a.ap) (l := bH a.lb x.ps) (by rw [jF hl]; omega) (by decide)
 obtain ⟨q2, o5⟩ := h.bz (A := a.am) (l := x.ms) (by omega) (by decide)
 replace h : Hp R (fS (dk b wb db a x) x.gl :: ax (bu pa p) wb x.w :: ax (b7 .nilFunc) db x.d :: bT (some ⟨q, 0, none⟩) a.cp (bH a.lb x.ps) :: aP bC a.lb (x.ps.map da.q) :: bY (some ⟨q2, 0, none⟩) a.cm x.ms :: pt k1 [.int .i64 0, .int .i64 0, .int .i64 0, .slice none 0 0] 43 :: L') M := by
  unfold gy at h
  rw [show bT a.ap a.cp (bH a.lb x.ps) = bT (some ⟨q, 0, none⟩) a.cp (bH a.lb x.ps) from by rw [hq], show bY a.am a.cm x.ms = bY (some ⟨q2, 0, none⟩) a.cm x.ms from by rw [o5]] at h
  exact h.sub (by repeat (first | exact .refl | refine .cons (by repeat (first | exact .here | apply cy.there)) ?_ | apply Sub.drop))
 rw [Km h]
 refine aR ?_
 rw [xk h]
 refine aR ⟨m0, m1, ?_⟩
 rw [o5]
 refine bp ?_
 refine bq (Src.at (h.src (A := some ⟨q2, 0, none⟩)) h (i := m.toNat) (j := 0) lz rfl (by show _ = 0 + (m.toNat * 3 + 0); simp)) ?_
 refine ⟨i0, i1, ?_⟩
 rw [hq]
 refine bp ?_
 refine aR ⟨m0, m1, bp ?_⟩
 refine bq (Src.at (h.src (A := some ⟨q2, 0, none⟩)) h (i := m.toNat) (j := 2) lz rfl (by show _ = 0 + (m.toNat * 3 + 2); omega)) ?_
 simp only [Nat.zero_add]
 have hno : ¬ (0 < (av x m).left ∧ (aC x (av x m).p).q.next ≠ -1) → (let y := (x.own (av x m).p).1
   if (x.own (av x m).p).2.2 = false ∧ 1 < x.c.P then match y.d.draw 2 x.c.P with
    | (d', .cQ l) => ∀ M', Hp R (ax (eY pa p wb db) b { y with d := d' } :: L') M' → Kp l M'
    | (d', .num v) =>
     let y := { y with d := d' }
     let s := (aC y (av x m).p).q.cZ (aC y v).q
     let z := if v = (av x m).p then y else (y.cj (av x m).p { aC y (av x m).p with q := s.1 }).cj v { aC y v with q := s.2.1 }
     let r := if v = (av x m).p then (-1, false) else (s.2.2, iG (aC y v).q s.2.2)
     ∀ M', Hp R (ax (eY pa p wb db) b (z.bL m (av x m).p 5 r.1 r.2).1 :: L') M' → K (EC (z.bL m (av x m).p 5 r.1 r.2).2 none 0) M'
   else ∀ M', Hp R (ax (eY pa p wb db) b (y.bL m (av x m).p 4 (x.own (av x m).p).2.1 (x.own (av x m).p).2.2).1 :: L') M' → K (EC (y.bL m (av x m).p 4 (x.own (av x m).p).2.1 (x.own (av x m).p).2.2).2 none 0) M') := by
  intro hn
  unfold Sc.find at k
  dsimp only at k ⊢
  rw [if_neg hn] at k
  split
  ·rename_i hc
   rw [if_pos hc] at k
   split
   ·rename_i d' l uW
    rw [uW] at k
    exact k
   ·rename_i d' v uW
    rw [uW] at k
    dsimp only at k ⊢
    by_cases hv : v = (av x m).p
    ·simp only [if_pos hv] at k ⊢
     exact k
    ·simp only [if_neg hv] at k ⊢
     exact k
  ·rename_i hc
   rw [if_neg hc] at k
   exact k
 refine aM.2 ⟨fun hgt => ?_, fun hle => ?_⟩
 ·refine kU (Src.at (h.src (A := some ⟨q, 0, none⟩)) h (i := (av x m).p.toNat) (j := 0) hrow rfl (by show _ = 0 + ((av x m).p.toNat * 3 + 0); simp)) ?_
  have Vu : (x.ps.map da.q)[(av x m).p.toNat]? = some (aC x (av x m).p).q := by rw [List.getElem?_map, lq]; rfl
  have h3 := h.cB bC hlb Vu
  refine Eh h3 ?_
  refine cE ?_
  refine ⟨fun vs M => vs = [] ∧ (aC x (av x m).p).q.next = -1 ∧ Hp R (fS (dk b wb db a x) x.gl :: ax (bu pa p) wb x.w :: ax (b7 .nilFunc) db x.d :: bT (some ⟨q, 0, none⟩) a.cp (bH a.lb x.ps) :: aP bC a.lb (x.ps.map da.q) :: bY (some ⟨q2, 0, none⟩) a.cm x.ms :: pt k1 [.int .i64 0, .int .i64 0, .int .i64 0, .slice none 0 0] 43 :: L') M, ?_, ?_⟩
  ·refine de.2 ⟨fun hne => ?_, fun heq => ⟨rfl, by simpa using heq, h⟩⟩
   clear h3
   unfold Sc.find at k
   dsimp only at k
   rw [if_pos ⟨by omega, hne⟩] at k
   dsimp only at k
   refine kU (Src.at (h.src (A := some ⟨q, 0, none⟩)) h (i := (av x m).p.toNat) (j := 0) hrow rfl (by show _ = 0 + ((av x m).p.toNat * 3 + 0); simp)) ?_
   rw [show M.ld ⟨b, 6, none⟩ = some (.slice a.am x.ms.length a.cm) from xk h]
   refine aR ?_
   replace h := h.cB bC hlb Vu
   refine zh h (b := lb) ?_
   clear h; intro t M _ _ h
   refine ⟨_, _, rfl, ?_⟩
   replace h := h.dh bC lb hlb (by rw [List.length_map]; omega)
   replace h : Hp R (fS (dk b wb db a x) x.gl :: ax (bu pa p) wb x.w :: ax (b7 .nilFunc) db x.d :: bT (some ⟨q, 0, none⟩) a.cp (bH a.lb x.ps) :: aP bC a.lb ((x.ps.map da.q).set (av x m).p.toNat (aC x (av x m).p).q.get.1) :: bY (some ⟨q2, 0, none⟩) a.cm x.ms :: pt k1 [.int .i64 0, .int .i64 0, .int .i64 0, .slice none 0 0] 43 :: L') M := h.sub (by repeat (first | exact .refl | refine .cons (by repeat (first | exact .here | apply cy.there)) ?_ | apply Sub.drop))
   refine ⟨xk h, m0, m1, ?_⟩
   rw [o5]
   refine bp ?_
   refine gO (E := j8) (a' := ⟨(av x m).p, (aC x (av x m).p).q.get.2, (av x m).left⟩) m.toNat 1 h lz (by decide) rfl (by show _ = m.toNat * 3 + 1; omega) ?_
   clear h; intro M h
   replace h : Hp R (fS (dk b wb db a x) x.gl :: ax (bu pa p) wb x.w :: ax (b7 .nilFunc) db x.d :: bT (some ⟨q, 0, none⟩) a.cp (bH a.lb x.ps) :: aP bC a.lb ((x.ps.map da.q).set (av x m).p.toNat (aC x (av x m).p).q.get.1) :: bY (some ⟨q2, 0, none⟩) a.cm (x.ms.set m.toNat ⟨(av x m).p, (aC x (av x m).p).q.get.2, (av x m).left⟩) :: pt k1 [.int .i64 0, .int .i64 0, .int .i64 0, .slice none 0 0] 43 :: L') M := h.sub (by repeat (first | exact .refl | refine .cons (by repeat (first | exact .here | apply cy.there)) ?_ | apply Sub.drop))
   refine ⟨by have := xk h; rw [o5] at this; exact this, ?_⟩
   rw [show M.ld ⟨b, 6, none⟩ = some (.slice a.am x.ms.length a.cm) from xk h, o5]
   refine aR ⟨m0, m1, bp ?_⟩
   refine bq (Src.at (h.src (A := some ⟨q2, 0, none⟩)) h (i := m.toNat) (j := 1) (a := ⟨(av x m).p, (aC x (av x m).p).q.get.2, (av x m).left⟩) (by simp [m2]) rfl (by show _ = 0 + (m.toNat * 3 + 1); omega)) ?_
   dsimp only
   refine iF h ?_
   clear h; intro M h
   refine oE h ?_
   have e1 : bH a.lb (x.cj (av x m).p { aC x (av x m).p with q := (aC x (av x m).p).q.get.1 }).ps = bH a.lb x.ps := xh lq rfl rfl
   have e2 : ((x.cj (av x m).p { aC x (av x m).p with q := (aC x (av x m).p).q.get.1 }).ps).map da.q = (x.ps.map da.q).set (av x m).p.toNat (aC x (av x m).p).q.get.1 := by simp [Sc.cj, List.map_set]
   have h9 : Hp R (fS (dk b wb db a ((x.cj (av x m).p { aC x (av x m).p with q := (aC x (av x m).p).q.get.1 }).fB m { av x m with g := (aC x (av x m).p).q.get.2 })) x.gl :: ax (bu pa p) wb x.w :: ax (b7 .nilFunc) db x.d :: bT a.ap a.cp (bH a.lb ((x.cj (av x m).p { aC x (av x m).p with q := (aC x (av x m).p).q.get.1 }).fB m { av x m with g := (aC x (av x m).p).q.get.2 }).ps) :: aP bC a.lb (((x.cj (av x m).p { aC x (av x m).p with q := (aC x (av x m).p).q.get.1 }).fB m { av x m with g := (aC x (av x m).p).q.get.2 }).ps.map da.q) :: bY a.am a.cm (x.ms.set m.toNat ⟨(av x m).p, (aC x (av x m).p).q.get.2, (av x m).left⟩) :: L') M := by
    rw [xg, xe]
    show Hp R (_ :: _ :: _ :: bT a.ap a.cp (bH a.lb (x.cj (av x m).p { aC x (av x m).p with q := (aC x (av x m).p).q.get.1 }).ps) :: aP bC a.lb ((x.cj (av x m).p { aC x (av x m).p with q := (aC x (av x m).p).q.get.1 }).ps.map da.q) :: _) M
    rw [e1, e2, hq, o5]
    exact h.sub (by repeat (first | exact .refl | refine .cons (by repeat (first | exact .here | apply cy.there)) ?_ | apply Sub.drop))
   exact k _ (gz (a := a) (x := (x.cj (av x m).p { aC x (av x m).p with q := (aC x (av x m).p).q.get.1 }).fB m { av x m with g := (aC x (av x m).p).q.get.2 }) (by simpa [Sc.cj, Sc.fB] using hl) h9)
  ·clear h h3
   rintro _ M ⟨_, Oz, h⟩
   exact zp h hq o5 hl hk rfl xn (hno (fun hc => hc.2 Oz))
 ·refine ⟨fun vs M => vs = [] ∧ Hp R (fS (dk b wb db a x) x.gl :: ax (bu pa p) wb x.w :: ax (b7 .nilFunc) db x.d :: bT (some ⟨q, 0, none⟩) a.cp (bH a.lb x.ps) :: aP bC a.lb (x.ps.map da.q) :: bY (some ⟨q2, 0, none⟩) a.cm x.ms :: pt k1 [.int .i64 0, .int .i64 0, .int .i64 0, .slice none 0 0] 43 :: L') M, ⟨rfl, h⟩, ?_⟩
  clear h
  rintro _ M ⟨_, h⟩
  exact zp h hq o5 hl hk rfl xn (hno (fun hc => hle (by omega)))
end
theorem zw {p : ck} {x : Wd} {k v : Int} {l : List PanicEntry} {y : Wd} : x.put p k v ≠ .cQ l y := by
 unfold Wd.put; dsimp only; split <;> simp
theorem EG {p : ck} {x : Wd} {g : Int} {i : cN} {l : List PanicEntry} {y : Wd} (h : iE p x g i = some (.cQ l y)) : False := by
 unfold iE at h
 by_cases e : i.op = 10
 ·rw [if_pos e] at h; obtain ⟨_, h⟩ := b6 h; cases h
 rw [if_neg e] at h; clear e
 by_cases e : i.op = 11
 ·rw [if_pos e] at h; obtain ⟨_, h⟩ := b6 h; unfold Wd.spawn at h; split at h <;> cases h
 rw [if_neg e] at h; clear e
 by_cases e : i.op = 13
 ·rw [if_pos e] at h; obtain ⟨_, h⟩ := b6 h
  unfold Wd.send at h
  split at h
  ·cases h
  ·rename_i hp; exact zw hp
  ·cases h
  ·cases h
 rw [if_neg e] at h; clear e
 by_cases e : i.op = 14
 ·rw [if_pos e] at h; obtain ⟨_, h⟩ := b6 h; cases h
 rw [if_neg e] at h; clear e
 by_cases e : i.op = 15
 ·rw [if_pos e] at h; obtain ⟨_, h⟩ := b6 h; unfold Wd.shut at h; dsimp only at h; split at h
  ·cases h
  ·split at h <;> cases h
 rw [if_neg e] at h; clear e
 by_cases e : i.op = 20
 ·rw [if_pos e] at h; obtain ⟨_, h⟩ := b6 h; unfold Wd.emit at h; split at h <;> cases h
 rw [if_neg e] at h; clear e
 by_cases e : i.op = 9
 ·rw [if_pos e] at h; obtain ⟨_, h⟩ := b6 h; unfold Wd.call at h; split at h <;> cases h
 rw [if_neg e] at h; clear e
 by_cases e : i.op = 12
 ·rw [if_pos e] at h; cases h
 rw [if_neg e] at h; clear e
 by_cases e : i.op = 17
 ·rw [if_pos e] at h; obtain ⟨_, h⟩ := b6 h; cases h
 rw [if_neg e] at h; clear e
 by_cases e : i.op = 18
 ·rw [if_pos e] at h; obtain ⟨_, h⟩ := b6 h; cases h
 rw [if_neg e] at h; clear e
 by_cases e : i.op = 19
 ·rw [if_pos e] at h; obtain ⟨_, h⟩ := b6 h; unfold Wd.unlock at h; split at h
  ·cases h
  ·split at h <;> cases h
 rw [if_neg e] at h; clear e
 by_cases e : i.op = 22
 ·rw [if_pos e] at h; cases h
 rw [if_neg e] at h; cases h
theorem zx {p : ck} {x : Wd} {g : Int} {d : gY} {l : List PanicEntry} {y : Wd} {rest : Bool} (h : j7 p x g d = some (.cQ l y, rest)) : d = .cQ l ∧ y = { x with ready := [] } := by
 unfold j7 at h
 dsimp only at h
 split at h
 ·split at h
  ·split at h
   ·cases h
   ·split at h
    ·cases h
    ·split at h
     ·split at h <;> cases h
     ·split at h
      ·split at h
       ·split at h
        ·rename_i hc
         simp only [Option.some.injEq, Prod.mk.injEq] at h
         obtain ⟨h, _⟩ := h
         unfold Wd.choose at h
         split at h
         ·cases h
         ·cases d with
          | cQ l' => cases h; exact ⟨rfl, rfl⟩
          | num v =>
           dsimp only at h
           unfold Wd.oz at h
           dsimp only at h
           split at h
           ·split at h
            ·cases h
            ·rename_i hp; exact absurd hp zw
            ·cases h
           ·cases h
        ·cases h
       ·cases h
      ·split at h
       ·split at h
        ·split at h
         ·simp only [Option.some.injEq, Prod.mk.injEq] at h
          obtain ⟨h, _⟩ := h
          cases d with
          | cQ l' => cases h; exact ⟨rfl, rfl⟩
          | num v => cases h
         ·cases h
        ·cases h
       ·split at h
        ·cases h
        ·rename_i r hd
         split at h
         ·simp only [Option.some.injEq, Prod.mk.injEq] at h
          obtain ⟨h, _⟩ := h
          subst h
          exact (EG hd).elim
         ·cases h
  ·cases h
 ·cases h
theorem Hu {q : Loc} {r : Int} {gl : List Int} : (q.ready r gl).2.1.length ≤ gl.length + q.l.length + 1 := by
 unfold Loc.ready
 split
 ·dsimp only; omega
 ·unfold Loc.put
  dsimp only
  split
  ·dsimp only; omega
  ·dsimp only; simp; omega
section
variable {R : Mem} {L L' L2 : List HP} {M : Mem} {K : Value → Mem → Prop} {Kp : List PanicEntry → Mem → Prop} {pa : PA} {p : ck} {b wb db : Nat} {x : Sc} {m i : Int} {a : SA}
abbrev xo (eK : Nat) (kp : Bool) (A : Option Addr) (n c : Nat) : HP := pt eK [.bool kp, .slice A n c] 250
theorem CJ {q2 k1 eK c : Nat} {g : Int} {kp : Bool} {A : Option Addr} {rd : List Int}
  (h : Hp R (fS (dk b wb db a x) x.gl :: ax (bu pa p) wb x.w :: ax (b7 .nilFunc) db x.d :: bT a.ap a.cp (bH a.lb x.ps) :: aP bC a.lb (x.ps.map da.q) :: bY (some ⟨q2, 0, none⟩) a.cm (x.ms.set m.toNat { av x m with left := (av x m).left - 1 }) :: xo eK kp A rd.length c :: pt k1 [.int .i64 0, .int .i64 0, .int .i64 0, .slice none 0 0] 43 :: L') M)
  (Fs : a.am = some ⟨q2, 0, none⟩) (hl : a.lb.length = x.ps.length) (m0 : 0 ≤ m) (m1 : m < x.ms.length) (g0 : 0 ≤ g) (g1 : g < x.w.gs.length) (Kn : x.gl.length ≤ 100000000)
  (k : ∀ M', Hp R (ax (eY pa p wb db) b { x.fB m { av x m with left := (av x m).left - 1, g := -1 } with gl := if (ae x.w g).st = 1 then x.gl ++ [g] else x.gl } :: L') M' → K (EC ⟨7, m, g, rd⟩ A c) M') :
  aF M ⟨q2, ((m.toNat * 3) + 1), none⟩ (.int .i64 (-1)) fun wJ =>
  b8 (Mem.ld wJ ⟨b, 0, none⟩) fun Ml =>
  aa Tryz.prog 119 #[(.pointer Ml), (.int .i64 g)] wJ (fun IU xM =>
  aG (some IU) .i64 fun Jb =>
  aO (Jb == 1)
   (bh xM (.cells #[(.int .i64 g)] 3 (0, 0)) fun tp Gz =>
   aa Tryz.prog 58 #[(.pointer (some ⟨b, (0 + 7), none⟩)), (.slice (some ⟨tp, 0, none⟩) 1 1)] Gz (fun Mu xP =>
   (Mu = (.tuple #[])) ∧
   az (Mem.ld xP ⟨eK, (0 + 1), none⟩) fun Qu yZ DG =>
   aF xP ⟨k1, 0, none⟩ (.int .i64 7) fun tv =>
   aF tv ⟨k1, (0 + 1), none⟩ (.int .i64 m) fun BP =>
   aF BP ⟨k1, (0 + 2), none⟩ (.int .i64 g) fun DF =>
   aF DF ⟨k1, (0 + 3), none⟩ (.slice Qu yZ DG) fun rA =>
   aG (Mem.ld rA ⟨k1, 0, none⟩) .i64 fun tq =>
   aG (Mem.ld rA ⟨k1, (0 + 1), none⟩) .i64 fun n64 =>
   aG (Mem.ld rA ⟨k1, (0 + 2), none⟩) .i64 fun BO =>
   az (Mem.ld rA ⟨k1, (0 + 3), none⟩) fun Ju jQ Mw =>
   K (.agg #[(.int .i64 tq), (.int .i64 n64), (.int .i64 BO), (.slice Ju jQ Mw)]) rA) Kp)
   (az (Mem.ld xM ⟨eK, (0 + 1), none⟩) fun TO Jn Lc =>
   aF xM ⟨k1, 0, none⟩ (.int .i64 7) fun AW =>
   aF AW ⟨k1, (0 + 1), none⟩ (.int .i64 m) fun AZ =>
   aF AZ ⟨k1, (0 + 2), none⟩ (.int .i64 g) fun BZ =>
   aF BZ ⟨k1, (0 + 3), none⟩ (.slice TO Jn Lc) fun Al =>
   aG (Mem.ld Al ⟨k1, 0, none⟩) .i64 fun LU =>
   aG (Mem.ld Al ⟨k1, (0 + 1), none⟩) .i64 fun DH =>
   aG (Mem.ld Al ⟨k1, (0 + 2), none⟩) .i64 fun GI =>
   az (Mem.ld Al ⟨k1, (0 + 3), none⟩) fun PI Mk rD =>
   K (.agg #[(.int .i64 LU), (.int .i64 DH), (.int .i64 GI), (.slice PI Mk rD)]) Al)) Kp := by
 have lz := oG m0 m1
 have m2 : m.toNat < x.ms.length := by omega
 refine gO (E := j8) (a := { av x m with left := (av x m).left - 1 }) (a' := ⟨(av x m).p, -1, (av x m).left - 1⟩) m.toNat 1 h (by simp [m2]) (by decide) rfl (by show _ = m.toNat * 3 + 1; omega) ?_
 clear h; intro M h
 rw [gS] at h
 replace h : Hp R (fS (dk b wb db a x) x.gl :: ax (bu pa p) wb x.w :: ax (b7 .nilFunc) db x.d :: bT a.ap a.cp (bH a.lb x.ps) :: aP bC a.lb (x.ps.map da.q) :: bY (some ⟨q2, 0, none⟩) a.cm (x.ms.set m.toNat ⟨(av x m).p, -1, (av x m).left - 1⟩) :: xo eK kp A rd.length c :: pt k1 [.int .i64 0, .int .i64 0, .int .i64 0, .slice none 0 0] 43 :: L') M := h.sub bM
 rw [Us h]
 refine eM ?_
 refine AE h g0 g1 ?_
 refine cE ?_
 have fin : ∀ (Hv : List Int) (M : Mem), Hv = (if (ae x.w g).st = 1 then x.gl ++ [g] else x.gl) → Hp R (fS (dk b wb db a x) Hv :: ax (bu pa p) wb x.w :: ax (b7 .nilFunc) db x.d :: bT a.ap a.cp (bH a.lb x.ps) :: aP bC a.lb (x.ps.map da.q) :: bY (some ⟨q2, 0, none⟩) a.cm (x.ms.set m.toNat ⟨(av x m).p, -1, (av x m).left - 1⟩) :: xo eK kp A rd.length c :: pt k1 [.int .i64 0, .int .i64 0, .int .i64 0, .slice none 0 0] 43 :: L') M →
   az (Mem.ld M ⟨eK, (0 + 1), none⟩) fun Qu yZ DG => aF M ⟨k1, 0, none⟩ (.int .i64 7) fun tv => aF tv ⟨k1, (0 + 1), none⟩ (.int .i64 m) fun BP => aF BP ⟨k1, (0 + 2), none⟩ (.int .i64 g) fun DF => aF DF ⟨k1, (0 + 3), none⟩ (.slice Qu yZ DG) fun rA =>
   aG (Mem.ld rA ⟨k1, 0, none⟩) .i64 fun tq => aG (Mem.ld rA ⟨k1, (0 + 1), none⟩) .i64 fun n64 => aG (Mem.ld rA ⟨k1, (0 + 2), none⟩) .i64 fun BO => az (Mem.ld rA ⟨k1, (0 + 3), none⟩) fun Ju jQ Mw =>
   K (.agg #[(.int .i64 tq), (.int .i64 n64), (.int .i64 BO), (.slice Ju jQ Mw)]) rA := by
  intro Hv M Z3 h
  refine bj h ?_
  refine iF h ?_
  clear h; intro M h
  refine oE h ?_
  refine k _ (gz (a := a) (x := { x.fB m { av x m with left := (av x m).left - 1, g := -1 } with gl := if (ae x.w g).st = 1 then x.gl ++ [g] else x.gl }) hl ?_)
  rw [← Z3]
  have e1 : dk b wb db a { x.fB m { av x m with left := (av x m).left - 1, g := -1 } with gl := Hv } = dk b wb db a x := xg (x := x)
  rw [e1]
  show Hp R (_ :: _ :: _ :: _ :: _ :: bY a.am a.cm (x.ms.set m.toNat ⟨(av x m).p, -1, (av x m).left - 1⟩) :: _) M
  rw [Fs]
  exact h.sub bM
 refine bU.2 ⟨fun e1 => ?_, fun e1 => ?_⟩
 ·refine aj h ?_
  clear h; intro tp M h
  replace h := (h.pt tp).fz (E := bB) (l := [g]) rfl
  replace h : Hp R (fS (dk b wb db a x) x.gl :: jD (some ⟨tp, 0, none⟩) 1 [g] :: ax (bu pa p) wb x.w :: ax (b7 .nilFunc) db x.d :: bT a.ap a.cp (bH a.lb x.ps) :: aP bC a.lb (x.ps.map da.q) :: bY (some ⟨q2, 0, none⟩) a.cm (x.ms.set m.toNat ⟨(av x m).p, -1, (av x m).left - 1⟩) :: xo eK kp A rd.length c :: pt k1 [.int .i64 0, .int .i64 0, .int .i64 0, .slice none 0 0] 43 :: L') M := h.sub bM
  refine mo (P := dk b wb db a x) uY h (Src.row (A := some ⟨tp, 0, none⟩)) rfl (by simp; omega) ?_
  clear h; intro M h
  refine ⟨rfl, ?_⟩
  exact fin _ M (by rw [if_pos e1]) (h.sub bM)
 ·exact fin _ M (by rw [if_neg e1]) h
theorem gA {m : Int} : ∀ (l : List Int) (z : Sc), 0 ≤ (av z m).p → (av z m).p < z.ps.length → (l.foldl (aI m) z).ms = z.ms ∧ (l.foldl (aI m) z).ps.length = z.ps.length ∧ (l.foldl (aI m) z).w = z.w ∧ (l.foldl (aI m) z).d = z.d ∧ (l.foldl (aI m) z).c = z.c ∧ (l.foldl (aI m) z).steps = z.steps ∧ ∀ bs, bH bs (l.foldl (aI m) z).ps = bH bs z.ps
 | [], z, _, _ => ⟨rfl, rfl, rfl, rfl, rfl, rfl, fun _ => rfl⟩
 | r :: l, z, h0, h1 => by
  have hp : z.ps[(av z m).p.toNat]? = some (aC z (av z m).p) := by
   obtain ⟨y, hy⟩ := aK (l := z.ps) (i := (av z m).p.toNat) (by omega)
   have e : aC z (av z m).p = y := by simp [aC, hy]
   rw [e]; exact hy
  have hms : (aI m z r).ms = z.ms := rfl
  have hps : (aI m z r).ps.length = z.ps.length := by simp [aI, Sc.cj]
  have lz : av (aI m z r) m = av z m := rfl
  obtain ⟨a1, a2, a3, a4, a5, a6, a7⟩ := gA l (aI m z r) (by rw [lz]; exact h0) (by rw [lz, hps]; exact h1)
  refine ⟨a1, by rw [List.foldl_cons, a2, hps], a3, a4, a5, a6, fun bs => ?_⟩
  rw [List.foldl_cons, a7]
  exact xh hp rfl rfl
end
end Go.Proofs
