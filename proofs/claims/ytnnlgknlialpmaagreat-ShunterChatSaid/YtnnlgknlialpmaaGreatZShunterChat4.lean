/- A part of proofs about one program. -/
import Derived.Test.YtnnlgknlialpmaaGreatZShunterChat2
import Derived.Test.YtnnlgknlialpmaaGreatZShunterChat3
set_option linter.unusedVariables false
namespace Go.Proofs
open Go.AF
set_option maxRecDepth 100000
set_option maxHeartbeats 1000000
attribute [local irreducible] aH cK dM b8 az dD aF aI aX aN bl aM
def YD : gW (Option Addr × Nat × Nat) := ⟨1, fun t => [.slice t.1 t.2.1 t.2.2], fun _ => rfl, fun w v hv => by simp only [List.mem_singleton] at hv; subst hv; rfl⟩
structure oY (R : Mem) (pa : PA) (p : cj) : Prop where
 funcs : ∃ ts : List (Option Addr × Nat × Nat), RS YD R pa.f pa.fc ts ∧ ts.length = p.funcs.length ∧ ∀ (i : Nat) t f, ts[i]? = some t → p.funcs[i]? = some f → RS wD R t.1 t.2.2 f ∧ t.2.1 = f.length
 cases : RS xS R pa.k pa.kc p.cases
theorem oY.le {R R' : Mem} {pa : PA} {p : cj} (h : oY R pa p) (hle : R.le R') : oY R' pa p := by
 obtain ⟨⟨ts, h1, h2, h3⟩, h4⟩ := h
 exact ⟨⟨ts, h1.le hle, h2, fun i t f a b => ⟨(h3 i t f a b).1.le hle, (h3 i t f a b).2⟩⟩, h4.le hle⟩
def Wd.next (x : Wd) (g : Int) : Wd := x.bh g ((ae x g).bP (ae x g).top.next)
def RE (n : Int) : List PanicEntry := [{ v := .iface 340 (.int .i64 n), recovered := false }]
def fI (R : Mem) (pa : PA) (p : cj) (dr : Value) (fnum : Nat) (x : Wd) (g : Int) (i : dB) (r : Out Wd) (L L2 : List HP) : Prop :=
 ∀ (gg : List GA) (b bs c : Nat) (M : Mem) (K : Value → Mem → Prop) (Kp : List PanicEntry → Mem → Prop) (Q : HP), Hp R (ay (bj pa p gg dr) b x :: Q :: L) M → gg[g.toNat]? = some (some ⟨bs, 0, none⟩, c) →
  Out.Ok r (fun y => ∀ kM M', Hp R (ay (bj pa p kM dr) b y :: Q :: L2) M' → K (.tuple #[]) M') (fun n y => ∀ kM M', Hp R (ay (bj pa p kM dr) b y :: Q :: L2) M' → Kp (RE n) M') (fun l y => ∀ kM M', Hp R (ay (bj pa p kM dr) b y :: Q :: L2) M' → Kp l M') →
  aa Tryz.prog fnum #[.pointer (some ⟨b, 0, none⟩), .int .i64 g, .pointer (some ⟨bs, ((ae x g).fs.length - 1) * 11, none⟩), .agg #[.int .i64 i.op, .int .i64 i.a, .int .i64 i.b, .int .i64 i.c]] M K Kp
theorem Out.Ok.mono {α : Type} {r : Out α} {k1 YE : α → Prop} {k2 k2' : Int → Wd → Prop} {k3 : List PanicEntry → Wd → Prop} (h : r.Ok k1 k2 k3) (h1 : ∀ y, k1 y → YE y) (h2 : ∀ n y, k2 n y → k2' n y) : r.Ok YE k2' := by
 cases r with
 | on y => exact h1 y h
 | dx n y => exact h2 n y h
 | cz l y => trivial
section
variable {R : Mem} {L L' L2 : List HP} {M : Mem} {K : Value → Mem → Prop} {Kp : List PanicEntry → Mem → Prop} {pa : PA} {p : cj} {gg : List GA} {dr : Value} {b : Nat} {x : Wd} {g : Int} {i : dB}
theorem P6 (hp : oY R pa p) (hk : Gc p x g i) (hs : x.Sm) : fI R pa p dr 215 x g i (x.send p g i) L L := fun gg b bs c M K Kp Q h ee k =>
 Gd h hp.cases ee hk hs (k.mono (fun y hy M' h' => hy gg M' h') (fun n y hy M' h' => hy gg M' h'))
theorem P7 (hk : vb x g i) (hs : x.Sm) : fI R pa p dr 216 x g i (.on (x.recv g i)) L L := fun gg b bs c M K Kp Q h ee k =>
 Ge h ee hk hs fun M' h' => k gg M' h'
theorem P8 (hg : aW x g) (ha : bx i.a) (hs : x.Sm) : fI R pa p dr 221 x g i (x.emit g i) L L := fun gg b bs c M K Kp Q h ee k =>
 Gf h ee hg ha hs (k.mono (fun y hy M' h' => hy gg M' h') (fun n y hy M' h' => hy gg M' h'))
theorem Nc (hg : aW x g) (hb : bx i.b) (hc : bx i.c) (hs : x.Sm) : fI R pa p dr 213 x g i (x.spawn g i) L L := fun gg b bs c M K Kp Q h ee k =>
 Eb h ee hg hb hc hs (k.mono (fun y hy => hy) (fun n y hy M' h' => hy gg M' h'))
theorem P9 (hp : oY R pa p) (hk : m7 p x i) (hs : x.Sm) : fI R pa p dr 217 x g i (x.shut p i) L L := fun gg b bs c M K Kp Q h ee k =>
 Gh (f := .nilFunc) h hp.cases hk hs (k.mono (fun y hy M' h' => hy gg M' h') (fun n y hy M' h' => hy gg M' h'))
def UG : AL := [(9, .func (.func 211) #[] #[]), (10, .func (.func 212) #[] #[]), (11, .func (.func 213) #[] #[]), (12, .func (.func 214) #[] #[]), (13, .func (.func 215) #[] #[]), (14, .func (.func 216) #[] #[]), (15, .func (.func 217) #[] #[]), (17, .func (.func 218) #[] #[]), (18, .func (.func 219) #[] #[]), (19, .func (.func 220) #[] #[]), (20, .func (.func 221) #[] #[]), (22, .func (.func 222) #[] #[])]
theorem Em (h : Hp R L M) (k : ∀ m M', Hp R (ob m (kz UG) :: L) M' → K (.map (some m)) M') : aa Tryz.prog 193 #[] M K Kp := by
 refine xV ?_
 refine Lj h ?_
 clear h
 intro m M h
 replace h : Hp R (ob m (kz []) :: L) M := h
 have hu : Tryz.prog.underlying 345 = some (.map 25 344) := by kernel_rfl
 have hk : Tryz.prog.underlying 25 = some (.int .i64) := by kernel_rfl
 iterate 12
  refine vW h hu hk ?_
  clear h
  intro M h
 exact k _ _ h
end
theorem yG {α β : Type} : ∀ {l : List α} {m : List β} {i : Nat} {u : α} {v : β}, (l.zip m).set i (u, v) = (l.set i u).zip (m.set i v)
 | [], _, _, _, _ => by simp
 | a :: l, [], i, u, v => by simp
 | a :: l, w :: m, 0, u, v => rfl
 | a :: l, w :: m, i + 1, u, v => by
  have := yG (l := l) (m := m) (i := i) (u := u) (v := v)
  simp [this]
theorem sx {x : Wd} {g : Int} (h0 : 0 ≤ g) (h1 : g < x.gs.length) : x.bh g (ae x g) = x := by
 obtain ⟨y, hy⟩ := aO (l := x.gs) (i := g.toNat) (by omega)
 have e : ae x g = y := by simp [ae, hy]
 rw [e]
 obtain ⟨hi, rfl⟩ := List.getElem?_eq_some_iff.1 hy
 simp [Wd.bh]
section
variable {R : Mem} {L L' L2 : List HP} {M : Mem} {K : Value → Mem → Prop} {Kp : List PanicEntry → Mem → Prop} {pa : PA} {p : cj} {gg : List GA} {dr : Value} {b : Nat} {x : Wd} {g : Int} {i : dB}
theorem Qa (hg : aW x g) (ha : bx i.a) (hin : bx (ae x g).top.qh) : fI R pa p dr 212 x g i (.on (x.back g i)) L L := by
 intro gg b bs c M K Kp Q h ee k
 refine qo ?_
 replace k : ∀ kM M', Hp R (ay (bj pa p kM dr) b (x.back g i) :: Q :: L) M' → K (.tuple #[]) M' := k
 have zx := hg
 obtain ⟨h0, h1, h2, h3⟩ := zx
 unfold Wd.back at k
 refine aj h ?_
 clear h
 intro kb M h
 have h' := gk h (b := b) h0 h1 ee
 clear h
 obtain ⟨a, gb, hl, fx, h⟩ := h'
 have hl' := hl
 obtain ⟨l1, l2, l3, l4⟩ := hl'
 repeat (first|(refine aj h ?_;clear h;intro kb M h)|(refine aq h ?_;clear h;intro M h)|refine St.to h ?_|(apply Exists.intro;(repeat apply Exists.intro);refine And.intro rfl ?_)|refine au ?_|refine af ?_|refine ai ?_)
 refine uy h fx fun q hq => ?_
 repeat (first|(refine aj h ?_;clear h;intro kb M h)|(refine aq h ?_;clear h;intro M h)|refine St.to h ?_|(apply Exists.intro;(repeat apply Exists.intro);refine And.intro rfl ?_)|refine au ?_|refine af ?_|refine ai ?_)
 refine ⟨ha.1, ha.2, tK h (dJ h2) ha rfl ?_⟩
 refine Cn h h2 (by omega) (dJ h2) hin ?_ ?_
 ·intro hlt
  rw [if_neg (by omega)] at k
  refine ⟨_, _, _, _, rfl, ai ?_⟩
  repeat (first|(refine aj h ?_;clear h;intro kb M h)|(refine aq h ?_;clear h;intro M h)|refine St.to h ?_|(apply Exists.intro;(repeat apply Exists.intro);refine And.intro rfl ?_)|refine au ?_|refine af ?_|refine ai ?_)
  refine uy h fx fun q2 kK => ?_
  repeat (first|(refine aj h ?_;clear h;intro kb M h)|(refine aq h ?_;clear h;intro M h)|refine St.to h ?_|(apply Exists.intro;(repeat apply Exists.intro);refine And.intro rfl ?_)|refine au ?_|refine af ?_|refine ai ?_)
  refine bN.2 ⟨fun e0 => ?_, fun e0 => ?_⟩
  ·rw [if_pos e0] at k
   repeat (first|(refine aj h ?_;clear h;intro kb M h)|(refine aq h ?_;clear h;intro M h)|refine St.to h ?_|(apply Exists.intro;(repeat apply Exists.intro);refine And.intro rfl ?_)|refine au ?_|refine af ?_|refine ai ?_)
   replace h := cC h gb hl fx ee
   have kq := cR (y := { ae x g with st := 4 }) (g := g) hl
   replace h := aQ (a := a) (p := p) (pa := pa) (dr := dr) (gg := gg) (x := { x.bh g { ae x g with st := 4 } with end_ := 1 }) kq h b
   exact k _ _ h.bT
  ·rw [if_neg e0] at k
   replace h := cC h gb hl fx ee
   have kq := cR (y := { ae x g with st := 4 }) (g := g) hl
   replace h := aQ (a := a) (p := p) (pa := pa) (dr := dr) (gg := gg) (x := x.bh g { ae x g with st := 4 }) kq h b
   exact k _ _ h.bT
 ·intro hge b' c' M' fr hfr h'
  clear h
  have h := h'
  clear h'
  rw [if_pos hge] at k
  refine ⟨_, _, _, _, rfl, af ?_⟩
  repeat (first|(refine aj h ?_;clear h;intro kb M h)|(refine aq h ?_;clear h;intro M h)|refine St.to h ?_|(apply Exists.intro;(repeat apply Exists.intro);refine And.intro rfl ?_)|refine au ?_|refine af ?_|refine ai ?_)
  refine uy h fx fun q2 kK => ?_
  repeat (first|(refine aj h ?_;clear h;intro kb M h)|(refine aq h ?_;clear h;intro M h)|refine St.to h ?_|(apply Exists.intro;(repeat apply Exists.intro);refine And.intro rfl ?_)|refine au ?_|refine af ?_|refine ai ?_)
  have hlen : (ae x g).fs.length - 1 = (((ae x g).fs.take ((ae x g).fs.length - 1)).set ((ae x g).fs.length - 2) (fr.set (ae x g).top.qh (aZ x g i.a))).length := by simp
  have hfr2 : (ae x g).fs.getD ((ae x g).fs.length - 2) ⟨0, 0, [], 0⟩ = fr := by rw [List.getD_eq_getElem?_getD, hfr]; rfl
  have h5 := lW (A := some ⟨b', 0, none⟩) (fs := ((ae x g).fs.take ((ae x g).fs.length - 1)).set ((ae x g).fs.length - 2) (fr.set (ae x g).top.qh (aZ x g i.a))) h gb hlen
  have hi := (List.getElem?_eq_some_iff.1 fx).1
  have h6 := h5.dw fF gb fx (by rw [List.length_zip]; omega)
  rw [yG] at h6
  have kq : eB (gg.set g.toNat (some ⟨b', 0, none⟩, c')) a (x.bh g ((ae x g).back (aZ x g i.a))) := ⟨by simpa [Wd.bh] using l1, by simpa [Wd.bh] using l2, l3, l4⟩
  have e : (ae x g).back (aZ x g i.a) = ⟨(ae x g).st, ((ae x g).fs.take ((ae x g).fs.length - 1)).set ((ae x g).fs.length - 2) (fr.set (ae x g).top.qh (aZ x g i.a)), (ae x g).wt⟩ := by
   unfold gT.back; rw [hfr2]
  rw [e] at kq k
  have h7 := aQ (a := a) (p := p) (pa := pa) (dr := dr) (gg := gg.set g.toNat (some ⟨b', 0, none⟩, c')) (x := x.bh g ⟨(ae x g).st, ((ae x g).fs.take ((ae x g).fs.length - 1)).set ((ae x g).fs.length - 2) (fr.set (ae x g).top.qh (aZ x g i.a)), (ae x g).wt⟩) kq h6 b
  exact k _ _ (h7.sub bM)
end
def Out.fin : Out Wd → Wd
 | .on y => y
 | .dx n y => { y with end_ := 2, code := n }
 | .cz _ y => y
def Gr (op : Int) : Out Wd → Bool
 | .on _ => op == 12 || op == 17
 | .dx _ _ => false
 | .cz _ _ => false
inductive Step (R : Mem) (pa : PA) (p : cj) (dr : Value) (x : Wd) (g : Int) (code : List dB) : Out Wd → Bool → List HP → List HP → Prop where
 | out {L : List HP} (h : (code.length : Int) ≤ (ae x g).top.pc) : Step R pa p dr x g code (.dx (-7) x) false L L
 | pure {L : List HP} (i : dB) (h : code[(ae x g).top.pc.toNat]? = some i) (h0 : 0 ≤ i.op) (h8 : i.op ≤ 8) (hk : i.kZ) : Step R pa p dr x g code (.on (x.bh g ((ae x g).bP ((ae x g).top.next.pure i)))) false L L
 | Cw {L L2 : List HP} {r : Out Wd} (i : dB) (h : code[(ae x g).top.pc.toNat]? = some i) (tL : i.op = 16) (hs : fI R pa p dr 191 x g i r L L2) : Step R pa p dr x g code r false L L2
 | UH {L L2 : List HP} {r : Out Wd} (i : dB) (h : code[(ae x g).top.pc.toNat]? = some i) (XA : i.op = 21) (hs : fI R pa p dr 192 x g i r L L2) : Step R pa p dr x g code r false L L2
 | dflt {L L2 : List HP} {r : Out Wd} (i : dB) (fn : Nat) (h : code[(ae x g).top.pc.toNat]? = some i) (h8 : 8 < i.op) (tL : i.op ≠ 16) (XA : i.op ≠ 21) (hf : zT UG i.op = some (.func (.func fn) #[] #[])) (hn : 1 < fn ∧ fn < 255)
   (hs : fI R pa p dr fn (x.next g) g i r L L2) : Step R pa p dr x g code r (Gr i.op r) L L2
section
variable {R : Mem} {L L' L2 : List HP} {M : Mem} {K : Value → Mem → Prop} {Kp : List PanicEntry → Mem → Prop} {pa : PA} {p : cj} {gg : List GA} {dr : Value} {b : Nat} {x : Wd} {g : Int} {i : dB}
theorem UI {c bs j : Nat} {l : List fM} {f : fM} {G : Int → Prop} (h : Hp R L M) [q : ct (some ⟨bs, 0, none⟩) L fM jG 275 c l L'] (hi : l[j]? = some f) (g : G f.fn) : aH (M.ld ⟨bs, j * 11, none⟩) .i64 G := by
 refine bn (Src.at (h.src (A := some ⟨bs, 0, none⟩)) h (i := j) (j := 0) hi rfl ?_) g
 show _ = 0 + (j * 11 + 0); omega
theorem Cy {n : Int} {v : Value} {Q : HP} (h : Hp R (ay (bj pa p gg dr) b x :: Q :: L) M) (k : ∀ M', Hp R (ay (bj pa p gg dr) b { x with end_ := 2, code := n } :: L) M' → K v M') :
  cn Tryz.prog 188 (.pointer (some ⟨b, 0, none⟩)) K Kp v (.panicking (RE n)) M := by
 refine F4 ?_
 have h' := bY h (b := b)
 clear h
 obtain ⟨a, hl, h⟩ := h'
 repeat (first|(refine aj h ?_;clear h;intro kb M h)|(refine aq h ?_;clear h;intro M h)|refine St.to h ?_|(apply Exists.intro;(repeat apply Exists.intro);refine And.intro rfl ?_)|refine au ?_|refine af ?_|refine ai ?_)
 exact k _ (jc (a := a) (x := { x with end_ := 2, code := n }) hl (h.sub bM))
theorem w7 {k : Nat} {bw : Nat} (h : Hp R L M) [o : j4 k L [.int .i64 i.op, .int .i64 i.a, .int .i64 i.b, .int .i64 i.c] 27 L'] (g : K (.bool (i.op == 12 || i.op == 17)) M) :
  aH (M.ld ⟨k, 0, none⟩) .i64 fun n => aM (n == 12) (cn Tryz.prog 188 (.pointer (some ⟨bw, 0, none⟩)) K Kp (.bool true) .returning M)
   (aH (M.ld ⟨k, 0, none⟩) .i64 fun n => cn Tryz.prog 188 (.pointer (some ⟨bw, 0, none⟩)) K Kp (.bool (n == 17)) .returning M) := by
 have hp := h.pick o.pick
 refine aG hp ?_
 refine bN.2 ⟨fun e => ?_, fun e => ?_⟩
 ·rw [e] at g; exact DY g
 ·refine aG hp ?_
  have : (i.op == 12) = false := by simpa using e
  rw [this, Bool.false_or] at g
  exact DY g
def Nd (R : Mem) (pa : PA) (p : cj) (dr : Value) (b : Nat) (L2 : List HP) (K : Value → Mem → Prop) (Kp : List PanicEntry → Mem → Prop) (r : Out Wd) (rest : Bool) : Prop := match r with
 | .cz l y => ∀ kM M', Hp R (ay (bj pa p kM dr) b y :: L2) M' → cn Tryz.prog 188 (.pointer (some ⟨b, 0, none⟩)) K Kp (.bool false) (.panicking l) M'
 | .on y => ∀ kM M', Hp R (ay (bj pa p kM dr) b y :: L2) M' → K (.bool rest) M'
 | .dx n y => ∀ kM M', Hp R (ay (bj pa p kM dr) b { y with end_ := 2, code := n } :: L2) M' → K (.bool rest) M'
theorem En {code : List dB} {r : Out Wd} {rest : Bool} (h : Hp R L M) [o : u9 b L pa p gg dr x L'] (hp : oY R pa p) (hg : aW x g) (hfn : 0 ≤ (ae x g).top.fn) (iF : p.funcs[(ae x g).top.fn.toNat]? = some code)
  (zV : 0 ≤ (ae x g).top.pc ∧ (ae x g).top.pc < 1000000000) (hs : Step R pa p dr x g code r rest L' L2)
  (k : Nd R pa p dr b L2 K Kp r rest) : aa Tryz.prog 159 #[.pointer (some ⟨b, 0, none⟩), .int .i64 g] M K Kp := by
 refine tF ?_
 have zx := hg
 obtain ⟨h0, h1, h2, h3⟩ := zx
 have h' := jd h (b := b) h0 h1
 clear h
 obtain ⟨a, gb, A, c, hl, fx, ee, h⟩ := h'
 have hl' := hl
 obtain ⟨l1, l2, l3, l4⟩ := hl'
 obtain ⟨bs, rfl⟩ := h.bA (A := A) h2 (by decide)
 have UJ : ∀ {M : Mem}, Hp R (pt gb (oU (ae x g) (some ⟨bs, 0, none⟩) c) 229 :: tJ (some ⟨bs, 0, none⟩) c (ae x g).fs :: pt b (lf pa p dr a x) 161 :: kI fF a.gb (x.gs.zip gg) g.toNat :: qV a x L') M → Hp R (ay (bj pa p gg dr) b x :: L') M := by
  intro M h
  replace h := cC h gb hl fx ee
  have kq := cR (y := ae x g) (g := g) hl
  replace h := aQ (a := a) (p := p) (pa := pa) (dr := dr) (gg := gg) (x := x.bh g (ae x g)) kq h b
  rwa [sx h0 h1] at h
 repeat (first|(refine aj h ?_;clear h;intro kb M h)|(refine aq h ?_;clear h;intro M h)|refine St.to h ?_|(apply Exists.intro;(repeat apply Exists.intro);refine And.intro rfl ?_)|refine au ?_|refine af ?_|refine ai ?_)
 refine uy h fx fun q hq => ?_
 repeat (first|(refine aj h ?_;clear h;intro kb M h)|(refine aq h ?_;clear h;intro M h)|refine St.to h ?_|(apply Exists.intro;(repeat apply Exists.intro);refine And.intro rfl ?_)|refine au ?_|refine af ?_|refine ai ?_)
 refine lU h2 (by omega) ?_
 repeat (first|(refine aj h ?_;clear h;intro kb M h)|(refine aq h ?_;clear h;intro M h)|refine St.to h ?_|(apply Exists.intro;(repeat apply Exists.intro);refine And.intro rfl ?_)|refine au ?_|refine af ?_|refine ai ?_)
 refine UI h (dJ h2) ?_
 obtain ⟨ts, hts, Vw, hrow⟩ := hp.funcs
 have hfl := (List.getElem?_eq_some_iff.1 iF).1
 obtain ⟨t, ht⟩ := aO (l := ts) (i := (ae x g).top.fn.toNat) (by omega)
 obtain ⟨tU, Nf⟩ := hrow _ t code ht iF
 obtain ⟨tA, tn, tc⟩ := t
 dsimp only at tU Nf
 subst Nf
 refine ⟨hfn, by omega, ?_⟩
 obtain ⟨fb, fo, hfb⟩ := hts.some (by omega) (by decide)
 rw [hfb] at hts ⊢
 refine bp ?_
 refine SK (Src.at (hts.src (L := _)) h (i := (ae x g).top.fn.toNat) (j := 0) ht rfl (by simp [YD])) ?_
 dsimp only
 refine bp ?_
 refine yo h (dJ h2) rfl ?_
 refine aJ.2 ⟨fun hge => ?_, fun hlt => ?_⟩
 ·cases hs with
  | out _ =>
   have h5 : Hp R (ay (bj pa p gg dr) b x :: fact True :: L') M := (Hp.fk.2 ⟨trivial, UJ h⟩).swap
   exact Cy h5 fun M' h' => k gg M' h'
  | pure i hi => have := (List.getElem?_eq_some_iff.1 hi).1; omega
  | Cw i hi => have := (List.getElem?_eq_some_iff.1 hi).1; omega
  | UH i hi => have := (List.getElem?_eq_some_iff.1 hi).1; omega
  | dflt i fn hi => have := (List.getElem?_eq_some_iff.1 hi).1; omega
 refine bp ?_
 refine yo h (dJ h2) rfl ?_
 refine ⟨zV.1, by omega, ?_⟩
 obtain ⟨i, hi⟩ := aO (l := code) (i := (ae x g).top.pc.toNat) (by omega)
 obtain ⟨ib, io, rfl⟩ := tU.some (by omega) (by decide)
 refine bp ?_
 refine bn (Src.at (tU.src (L := _)) h (i := (ae x g).top.pc.toNat) (j := 0) hi rfl (by simp [wD])) ?_
 refine bn (Src.at (tU.src (L := _)) h (i := (ae x g).top.pc.toNat) (j := 1) hi rfl (by show _ = io + (_ * 4 + 1); omega)) ?_
 refine bn (Src.at (tU.src (L := _)) h (i := (ae x g).top.pc.toNat) (j := 2) hi rfl (by show _ = io + (_ * 4 + 2); omega)) ?_
 refine bn (Src.at (tU.src (L := _)) h (i := (ae x g).top.pc.toNat) (j := 3) hi rfl (by show _ = io + (_ * 4 + 3); omega)) ?_
 have hpure : i.kZ ∧ 0 ≤ i.op ∨ 8 < i.op := by
  cases hs with
  | out h => omega
  | pure j hj a1 a2 a3 => rw [hi] at hj; cases hj; exact .inl ⟨a3, a1⟩
  | Cw j hj a1 => rw [hi] at hj; cases hj; exact .inr (by omega)
  | UH j hj a1 => rw [hi] at hj; cases hj; exact .inr (by omega)
  | dflt j fn hj a1 => rw [hi] at hj; cases hj; exact .inr a1
 have hok : i.kZ ∧ 0 ≤ i.op := by
  rcases hpure with h | h
  ·exact h
  ·exact ⟨⟨fun h => by simp at h; omega, fun h => by omega, fun h => by simp at h; omega⟩, by omega⟩
 refine aj h ?_
 clear h; intro ki M h
 refine aq h ?_
 clear h; intro M h
 refine aq h ?_
 clear h; intro M h
 refine aq h ?_
 clear h; intro M h
 refine aq h ?_
 clear h; intro M h
 refine aG h (aG h (aG h (aG h ?_)))
 refine F6 h (dJ h2) hok.1 hok.2 zV ?_ ?_
 ·intro h8 M' h'
  clear h
  have h := h'
  clear h'
  refine nw (af ?_)
  cases hs with
  | out h => omega
  | Cw j hj a1 => rw [hi] at hj; cases hj; omega
  | UH j hj a1 => rw [hi] at hj; cases hj; omega
  | dflt j fn hj a1 => rw [hi] at hj; cases hj; omega
  | pure j hj a1 a2 a3 =>
   rw [hi] at hj; cases hj
   replace h := cC h gb hl fx ee (by simp)
   have kq := cR (y := (ae x g).bP ((ae x g).top.next.pure i)) (g := g) hl
   have h5 := aQ (a := a) (p := p) (pa := pa) (dr := dr) (gg := gg) (x := x.bh g ((ae x g).bP ((ae x g).top.next.pure i))) kq h b
   refine w7 h5 ?_
   have e1 : (i.op == 12) = false := by simp; omega
   have e2 : (i.op == 17) = false := by simp; omega
   rw [e1, e2]
   exact k gg _ h5.bT
 ·intro h8 M' h'
  clear h
  have h := h'
  clear h'
  refine nw (ai ?_)
  refine aG h ?_
  refine bN.2 ⟨fun HH => ?_, fun HH => ?_⟩
  ·refine aG h (aG h (aG h (aG h ?_)))
   cases hs with
   | out h => omega
   | pure j hj a1 a2 a3 => rw [hi] at hj; cases hj; omega
   | dflt j fn hj a1 a2 => rw [hi] at hj; cases hj; omega
   | UH j hj a1 => rw [hi] at hj; cases hj; omega
   | Cw j hj a1 hop =>
    rw [hi] at hj; cases hj
    replace h := cC h gb hl fx ee
    have kq := cR (y := ae x g) (g := g) hl
    replace h := aQ (a := a) (p := p) (pa := pa) (dr := dr) (gg := gg) (x := x.bh g (ae x g)) kq h b
    rw [sx h0 h1] at h
    refine hop gg b bs c M' _ _ _ h ee ?_
    cases r with
    | on y =>
     intro kM M2 h
     refine ⟨rfl, w7 h ?_⟩
     have e1 : (i.op == 12) = false := by simp; omega
     have e2 : (i.op == 17) = false := by simp; omega
     rw [e1, e2]
     exact k kM _ h.bT
    | dx n y =>
     intro kM M2 h
     exact Cy h fun M3 h3 => k kM M3 h3
    | cz l y =>
     intro kM M2 h
     exact k kM M2 h.bT
  ·refine aG h ?_
   refine bN.2 ⟨fun Vz => ?_, fun Vz => ?_⟩
   ·refine aG h (aG h (aG h (aG h ?_)))
    cases hs with
    | out h => omega
    | pure j hj a1 a2 a3 => rw [hi] at hj; cases hj; omega
    | Cw j hj a1 => rw [hi] at hj; cases hj; omega
    | dflt j fn hj a1 a2 a3 => rw [hi] at hj; cases hj; omega
    | UH j hj a1 hop =>
     rw [hi] at hj; cases hj
     replace h := cC h gb hl fx ee
     have kq := cR (y := ae x g) (g := g) hl
     replace h := aQ (a := a) (p := p) (pa := pa) (dr := dr) (gg := gg) (x := x.bh g (ae x g)) kq h b
     rw [sx h0 h1] at h
     refine hop gg b bs c M' _ _ _ h ee ?_
     cases r with
     | on y =>
      intro kM M2 h
      refine ⟨rfl, w7 h ?_⟩
      have e1 : (i.op == 12) = false := by simp; omega
      have e2 : (i.op == 17) = false := by simp; omega
      rw [e1, e2]
      exact k kM _ h.bT
     | dx n y =>
      intro kM M2 h
      exact Cy h fun M3 h3 => k kM M3 h3
     | cz l y =>
      intro kM M2 h
      exact k kM M2 h.bT
   cases hs with
   | out h => omega
   | pure j hj a1 a2 a3 => rw [hi] at hj; cases hj; omega
   | Cw j hj a1 => rw [hi] at hj; cases hj; omega
   | UH j hj a1 => rw [hi] at hj; cases hj; omega
   | dflt j fn hj a1 a2 a3 hf hn hop =>
    rw [hi] at hj; cases hj
    refine bp ?_
    refine yo h (dJ h2) rfl ?_
    refine bp ?_
    rw [iM zV.1 (by omega)]
    refine yp h (dJ h2) rfl ?_
    clear h; intro M h
    refine aG h (aG h (aG h (aG h (aG h ?_))))
    refine Em h ?_
    clear h; intro mp M h
    refine ⟨iZ (bH h) (iZ (bH h) (iZ (bH h) (iZ (bH h) sS))), bH h, ?_⟩
    have hu : Tryz.prog.underlying 345 = some (.map 25 344) := by kernel_rfl
    have hkk : Tryz.prog.underlying 25 = some (.int .i64) := by kernel_rfl
    obtain ⟨ti, OA, htz⟩ : ∃ ti, Tryz.prog.info? 344 = some ti ∧ ti.zero = some .nilFunc := ⟨_, rfl, rfl⟩
    refine MI h hu hkk OA htz ?_
    rw [hf]
    refine ⟨iZ (bH h) (iZ (bH h) (iZ (bH h) (iZ (bH h) sS))), bH h, ?_⟩
    refine D3 hn ?_
    replace h := cC h gb hl fx ee (by simp)
    have kq := cR (y := (ae x g).bP (ae x g).top.next) (g := g) hl
    have h5 := aQ (a := a) (p := p) (pa := pa) (dr := dr) (gg := gg) (x := x.next g) kq h b
    have h6 : Hp R (ay (bj pa p gg dr) b (x.next g) :: pt ki [.int .i64 i.op, .int .i64 i.a, .int .i64 i.b, .int .i64 i.c] 27 :: L') M := h5.sub bM
    clear h h5
    have hfl : (ae (x.next g) g).fs.length = (ae x g).fs.length := by
     unfold Wd.next; rw [gh h0 h1]; simp [gT.bP]
    have hc := hop gg b bs c M (fun Mg nE => (Mg = (.tuple #[])) ∧ ((Mem.iH nE ⟨ki, 0, none⟩ 0 4) = some [(.int .i64 i.op), (.int .i64 i.a), (.int .i64 i.b), (.int .i64 i.c)]) ∧ ((Mem.ld nE ⟨ki, 0, none⟩) = (some (.int .i64 i.op))) ∧
     aH (nE.ld ⟨ki, 0, none⟩) .i64 fun n => aM (n == 12) (cn Tryz.prog 188 (.pointer (some ⟨b, 0, none⟩)) K Kp (.bool true) .returning nE)
      (aH (nE.ld ⟨ki, 0, none⟩) .i64 fun n => cn Tryz.prog 188 (.pointer (some ⟨b, 0, none⟩)) K Kp (.bool (n == 17)) .returning nE))
     (fun l M => cn Tryz.prog 188 (.pointer (some ⟨b, 0, none⟩)) K Kp (.bool false) (.panicking l) M) _ h6 ee ?_
    ·rw [hfl] at hc
     exact hc
    cases r with
    | on y =>
     intro kM M2 h
     exact ⟨rfl, iZ (bH h) (iZ (bH h) (iZ (bH h) (iZ (bH h) sS))), bH h, w7 h (k kM _ h.bT)⟩
    | dx n y =>
     intro kM M2 h
     exact Cy h fun M3 h3 => k kM M3 h3
    | cz l y =>
     intro kM M2 h
     exact k kM M2 h.bT
end
abbrev pY (pa : PA) (p : cj) (dr : Value) (a : WA) (x : Wd) (n : Nat) : List Value :=
 [.slice pa.f p.funcs.length pa.fc, .slice pa.c p.nY.length pa.cc, .int .i64 p.aU, .slice pa.k p.cases.length pa.kc, .slice a.ag a.gb.length a.cg, .int .u64 x.clock,
  .slice a.ac a.cb.length a.cc, .slice a.al a.lb.length a.cl, .slice a.ah x.hl.length a.ch, .int .u64 x.lQ, .slice a.ao x.out.length a.co, .int .i64 x.end_, .int .i64 x.code, .slice a.ar n a.cr, dr]
abbrev vl (a : WA) (x : Wd) (L : List HP) : List HP :=
 yq a.ag a.cg a.gb :: yu a.ac a.cc a.cb :: aV bz a.cb x.aC :: yw a.al a.cl a.lb :: aV fu a.lb x.aU :: fL a.ah a.ch x.hl :: xQ a.ao a.co x.out :: L
def bC (pa : PA) (p : cj) : rq Wd := ⟨fun b x => exs fun q : WA × List GA × Value × Nat =>
 sep (pt b (pY pa p q.2.2.1 q.1 x q.2.2.2) 161 :: aV fF q.1.gb (x.gs.zip q.2.1) :: fact (eB q.2.1 q.1 x) :: vl q.1 x [])⟩
section
variable {R : Mem} {L L' L2 : List HP} {M : Mem} {K : Value → Mem → Prop} {Kp : List PanicEntry → Mem → Prop} {pa : PA} {p : cj} {gg : List GA} {dr : Value} {b : Nat} {x : Wd} {g : Int}
class HT (b : Nat) (L : List HP) (pa : outParam PA) (p : outParam cj) (x : outParam Wd) (L' : outParam (List HP)) : Prop where
 pick : cG L (ay (bC pa p) b x) L'
instance HT.here : HT b (ay (bC pa p) b x :: L) pa p x L := ⟨.here⟩
instance (priority := low) HT.there {Q : HP} [h : HT b L pa p x L'] : HT b (Q :: L) pa p x (Q :: L') := ⟨.there h.pick⟩
theorem dP (h : Hp R L M) [o : HT b L pa p x L'] : ∃ (a : WA) (gg : List GA) (dr : Value) (n : Nat), eB gg a x ∧ Hp R (pt b (pY pa p dr a x n) 161 :: aV fF a.gb (x.gs.zip gg) :: vl a x L') M := by
 have := h.pick o.pick
 unfold ay at this
 simp only [bC, vl, Hp.c5, Hp.aR, List.cons_append, List.nil_append] at this
 obtain ⟨⟨a, gg, dr, n⟩, h⟩ := this
 have h2 := h.pick (P := fact (eB gg a x)) (.there (.there .here))
 exact ⟨a, gg, dr, n, (Hp.fk.1 h2).1, (Hp.fk.1 h2).2⟩
theorem kN {a : WA} {n : Nat} (hl : eB gg a x) (h : Hp R (pt b (pY pa p dr a x n) 161 :: aV fF a.gb (x.gs.zip gg) :: vl a x L) M) : Hp R (ay (bC pa p) b x :: L) M := by
 refine Hp.uO ?_
 simp only [bC, vl, Hp.c5, Hp.aR, List.cons_append, List.nil_append]
 refine ⟨(a, gg, dr, n), ?_⟩
 have h2 : Hp R (fact (eB gg a x) :: pt b (pY pa p dr a x n) 161 :: aV fF a.gb (x.gs.zip gg) :: vl a x L) M := Hp.fk.2 ⟨hl, h⟩
 exact h2.mG (.there (.there .here))
def gJ (x : Wd) (g : Int) (rest : Bool) : Bool := !rest && x.end_ == 0 && (ae x g).st == 1
def Bc (l l' : List PanicEntry) : Prop := ∀ (b : Nat) (v : Value) (M : Mem) (K : Value → Mem → Prop) (Kp : List PanicEntry → Mem → Prop), Kp l' M → cn Tryz.prog 188 (.pointer (some ⟨b, 0, none⟩)) K Kp v (.panicking l) M
def pZ (R : Mem) (pa : PA) (p : cj) (b : Nat) (g : Int) (L2 : List HP) (K : Value → Mem → Prop) (Kp : List PanicEntry → Mem → Prop) (r : Out Wd) (rest : Bool) : Prop := match r with
 | .cz l y => ∃ l', Bc l l' ∧ ∀ M', Hp R (ay (bC pa p) b y :: L2) M' → Kp l' M'
 | .on y => ∀ R' A c M', R.le R' → RS bI R' A c y.ready → Hp R' (ay (bC pa p) b y :: L2) M' → K (.agg #[.bool (gJ y g rest), .slice A y.ready.length c]) M'
 | .dx n y => ∀ R' A c M', R.le R' → RS bI R' A c y.ready → Hp R' (ay (bC pa p) b { y with end_ := 2, code := n } :: L2) M' → K (.agg #[.bool (gJ { y with end_ := 2, code := n } g rest), .slice A y.ready.length c]) M'
theorem Nd.of {r : Out Wd} {rest : Bool} (hd : ¬ ∃ l y, r = .cz l y) (k : ∀ kM M', Hp R (ay (bj pa p kM dr) b r.fin :: L2) M' → K (.bool rest) M') : Nd R pa p dr b L2 K Kp r rest := by
 cases r with
 | on y => exact k
 | dx n y => exact k
 | cz l y => exact absurd ⟨l, y, rfl⟩ hd
theorem pZ.get {r : Out Wd} {rest : Bool} (hd : ¬ ∃ l y, r = .cz l y) (k : pZ R pa p b g L2 K Kp r rest) :
  ∀ R' A c M', R.le R' → RS bI R' A c r.fin.ready → Hp R' (ay (bC pa p) b r.fin :: L2) M' → K (.agg #[.bool (gJ r.fin g rest), .slice A r.fin.ready.length c]) M' := by
 cases r with
 | on y => exact k
 | dx n y => exact k
 | cz l y => exact absurd ⟨l, y, rfl⟩ hd
theorem Gs {code : List dB} {r : Out Wd} {rest : Bool} (h : Hp R L M) [o : HT b L pa p x L'] (hp : oY R pa p) (hg : aW x g) (he : x.end_ = 0) (hst : (ae x g).st = 1)
  (hfn : 0 ≤ (ae x g).top.fn) (iF : p.funcs[(ae x g).top.fn.toNat]? = some code)
  (zV : 0 ≤ (ae x g).top.pc ∧ (ae x g).top.pc < 1000000000) (yH : ∃ f c d, dr = .func f c d) (hs : ∀ Q, Step R pa p dr { x with ready := [] } g code r rest (Q :: L') (Q :: L2)) (hlen : g < r.fin.gs.length)
  (k : pZ R pa p b g L2 K Kp r rest) :
  aa Tryz.prog 121 #[.pointer (some ⟨b, 0, none⟩), .int .i64 g, dr] M K Kp := by
 refine jy ?_
 have zx := hg
 obtain ⟨h0, h1, h2, h3⟩ := zx
 refine aj h ?_
 clear h
 intro kb M h
 have h' := dP h (b := b)
 clear h
 obtain ⟨a, gg, dr0, n0, hl, h⟩ := h'
 have hl' := hl
 obtain ⟨l1, l2, l3, l4⟩ := hl'
 refine aJ.2 ⟨fun hn => by omega, fun _ => ?_⟩
 refine be h ?_
 refine aJ.2 ⟨fun hn => by omega, fun _ => ?_⟩
 refine aG h ?_
 refine eu.2 ⟨fun hn => absurd he hn, fun _ => ?_⟩
 refine be h ?_
 refine ⟨h0, by omega, ?_⟩
 obtain ⟨gb, fx⟩ := aO (l := a.gb) (i := g.toNat) (by omega)
 refine uy h fx fun q hq => ?_
 obtain ⟨ga, UK⟩ := aO (l := gg) (i := g.toNat) (by omega)
 obtain ⟨y, hy⟩ := aO (l := x.gs) (i := g.toNat) (by omega)
 have ey : ae x g = y := by simp [ae, hy]
 rw [ey] at hst
 refine bp ?_
 have HS : M.ld ⟨gb, 0, none⟩ = some (.int .i64 y.st) := by
  have h9 := lV (b := gb) (h.cQ fF fx (m6 hy UK))
  exact bH h9
 rw [HS]
 refine cy ?_
 refine eu.2 ⟨fun hn => absurd hst hn, fun _ => ?_⟩
 refine aq h ?_
 clear h HS; intro M h
 have hpc2 : ∀ X : Prop, X → Ad dr X := by
  obtain ⟨f, c, d, rfl⟩ := yH
  intro X hX; exact hX
 refine hpc2 _ ?_
 refine aq h ?_
 clear h; intro M h
 have h4 := h.cE bI 3
 have h5 : Hp R (ay (bj pa p gg dr) b { x with ready := [] } :: pt kb [.bool false, .slice none 0 0] 250 :: L') M := jc (a := { a with ar := none, cr := 0 }) (x := { x with ready := [] }) hl (h4.sub bM)
 clear h h4
 by_cases Gt : ∃ l y, r = .cz l y
 ·obtain ⟨l, y, rfl⟩ := Gt
  refine En (b := b) (x := { x with ready := [] }) h5 hp hg hfn iF zV (hs _) ?_
  clear h5
  intro kM M h
  obtain ⟨l', hdr2, k⟩ := k
  refine hdr2 _ _ _ _ _ (k _ ?_)
  have h' := bY h (b := b)
  clear h
  obtain ⟨a2, kq, h⟩ := h'
  exact kN (a := a2) (n := y.ready.length) (gg := kM) (dr := dr) kq (h.sub bM)
 refine En (b := b) (x := { x with ready := [] }) h5 hp hg hfn iF zV (hs _) (.of Gt ?_)
 clear h5
 intro kM M h
 replace k := pZ.get Gt k
 generalize r.fin = z at h k hlen
 have h' := bY h (b := b)
 clear h
 obtain ⟨a2, kq, h⟩ := h'
 have Uz := kq
 obtain ⟨m1, m2, m3, m4⟩ := Uz
 have fin : ∀ t : Bool, t = gJ z g rest → aI M ⟨kb, 0, none⟩ (.bool t) fun Jw =>
    aI Jw ⟨kb, (0 + 1), none⟩ (.slice a2.ar z.ready.length a2.cr) fun AM =>
    cK (Mem.ld AM ⟨kb, 0, none⟩) fun t60 =>
    az (Mem.ld AM ⟨kb, (0 + 1), none⟩) fun Te Tf Ru =>
    K (.agg #[(.bool t60), (.slice Te Tf Ru)]) AM := by
  intro t ht
  refine aq h ?_
  clear h; intro M h
  refine aq h ?_
  clear h; intro M h
  refine Hi h (be h ?_)
  obtain ⟨R', hle, w9, h6⟩ := h.jD a2.ar
  subst ht
  exact k R' _ _ _ hle w9 (kN (a := a2) (n := z.ready.length) (gg := kM) (dr := dr) kq (h6.sub bM))
 refine nw ?_
 cases rest with
 | true =>
  refine ai ?_
  refine be h ?_
  exact fin false (by simp [gJ])
 | false =>
  refine af ?_
  refine aG h ?_
  refine bN.2 ⟨fun e0 => ?_, fun e0 => ?_⟩
  ·refine be h ?_
   refine ⟨h0, by omega, ?_⟩
   obtain ⟨gb2, XB⟩ := aO (l := a2.gb) (i := g.toNat) (by omega)
   refine uy h XB fun q2 kK => ?_
   obtain ⟨ga2, hga2⟩ := aO (l := kM) (i := g.toNat) (by omega)
   obtain ⟨y2, hy2⟩ := aO (l := z.gs) (i := g.toNat) (by omega)
   have ey2 : ae z g = y2 := by simp [ae, hy2]
   refine bp ?_
   have HS : M.ld ⟨gb2, 0, none⟩ = some (.int .i64 y2.st) := by
    have h9 := lV (b := gb2) (h.cQ fF XB (m6 hy2 hga2))
    exact bH h9
   rw [HS]
   refine cy ?_
   refine be h ?_
   exact fin (y2.st == 1) (by simp [gJ, e0, ey2])
  ·refine be h ?_
   have : (z.end_ == 0) = false := by simpa using e0
   exact fin false (by simp [gJ, this])
end
section
variable {R : Mem} {L L' L2 : List HP} {M : Mem} {K : Value → Mem → Prop} {Kp : List PanicEntry → Mem → Prop} {pa : PA} {p : cj} {gg : List GA} {dr : Value} {b : Nat} {x : Wd} {g : Int}
theorem JU (h : Hp R L M) [o : HT b L pa p x L'] (k : K (.int .i64 (x.gs.length : Int)) M) : aa Tryz.prog 73 #[.pointer (some ⟨b, 0, none⟩)] M K Kp := by
 refine rF ?_
 have h' := dP h (b := b)
 clear h
 obtain ⟨a, gg, dr, n, hl, h⟩ := h'
 refine be h ?_
 rw [hl.1]
 exact k
theorem JV (h : Hp R L M) [o : HT b L pa p x L'] (k : K (.tuple #[.int .i64 x.end_, .int .i64 x.code]) M) : aa Tryz.prog 28 #[.pointer (some ⟨b, 0, none⟩)] M K Kp := by
 refine rG ?_
 have h' := dP h (b := b)
 clear h
 obtain ⟨a, gg, dr, n, hl, h⟩ := h'
 refine aG h (aG h ?_)
 exact k
theorem tV (h : Hp R L M) [o : HT b L pa p x L'] (h0 : 0 ≤ g) (h1 : g < x.gs.length) (k : K (.int .i64 (ae x g).st) M) : aa Tryz.prog 119 #[.pointer (some ⟨b, 0, none⟩), .int .i64 g] M K Kp := by
 refine nI ?_
 have h' := dP h (b := b)
 clear h
 obtain ⟨a, gg, dr, n, hl, h⟩ := h'
 have hl' := hl
 obtain ⟨l1, l2, l3, l4⟩ := hl'
 refine aJ.2 ⟨fun hn => by omega, fun _ => ?_⟩
 refine be h ?_
 refine aJ.2 ⟨fun hn => by omega, fun _ => ?_⟩
 refine be h ?_
 refine ⟨h0, by omega, ?_⟩
 obtain ⟨gb, fx⟩ := aO (l := a.gb) (i := g.toNat) (by omega)
 refine uy h fx fun q hq => ?_
 obtain ⟨ga, UK⟩ := aO (l := gg) (i := g.toNat) (by omega)
 obtain ⟨y, hy⟩ := aO (l := x.gs) (i := g.toNat) (by omega)
 have ey : ae x g = y := by simp [ae, hy]
 rw [ey] at k
 refine bp ?_
 have HS : M.ld ⟨gb, 0, none⟩ = some (.int .i64 y.st) := by
  have h9 := lV (b := gb) (h.cQ fF fx (m6 hy UK))
  exact bH h9
 rw [HS]
 exact cy k
end
def Wd.new (p : cj) : Wd := ⟨[⟨1, [fM.begin 0 0], .zero⟩], 0, p.nY.map aP.new, List.replicate p.aU.toNat ⟨-1, []⟩, [], 0, [], 0, 0, []⟩
theorem RF : bu Tryz.prog 156 230 1 8 [.pointer none] := bu.mk' (zv := .pointer none) (by kernel_rfl) (by kernel_rfl) rfl (by omega)
theorem RG : bu Tryz.prog 157 232 1 8 [.pointer none] := bu.mk' (zv := .pointer none) (by kernel_rfl) (by kernel_rfl) rfl (by omega)
section
variable {R : Mem} {L L' L2 : List HP} {M : Mem} {K : Value → Mem → Prop} {Kp : List PanicEntry → Mem → Prop} {pa : PA} {p : cj} {gg : List GA} {dr : Value} {b : Nat} {x : Wd} {g : Int}
theorem Ng {j : Nat} {q A' : Nat} {c' : Nat} {v : Int} {a : WA} {n k : Nat} {Ac : Option Addr} {Q : List HP} (hl : eB gg a x)
  (h : Hp R (pt b (pY pa p dr { a with ac := Ac, cc := c', cb := a.cb ++ [k] } x n) 161 :: yu Ac c' (a.cb ++ [k]) :: ay bz k (aP.new v) :: aV bz a.cb x.aC :: aV fF a.gb (x.gs.zip gg) :: yq a.ag a.cg a.gb :: yw a.al a.cl a.lb :: aV fu a.lb x.aU :: fL a.ah a.ch x.hl :: xQ a.ao a.co x.out :: Q) M) :
  Hp R (ay (bC pa p) b { x with aC := x.aC ++ [aP.new v] } :: Q) M := by
 obtain ⟨l1, l2, l3, l4⟩ := hl
 have h2 := h.jP bz k l3
 exact kN (a := { a with ac := Ac, cc := c', cb := a.cb ++ [k] }) (gg := gg) (dr := dr) (n := n) (x := { x with aC := x.aC ++ [aP.new v] }) ⟨l1, l2, by simp [l3], l4⟩ (h2.sub bM)
theorem Nh {c' : Nat} {a : WA} {n k : Nat} {Ac : Option Addr} {Q : List HP} (hl : eB gg a x)
  (h : Hp R (pt b (pY pa p dr { a with al := Ac, cl := c', lb := a.lb ++ [k] } x n) 161 :: yw Ac c' (a.lb ++ [k]) :: ay fu k ⟨-1, []⟩ :: aV fu a.lb x.aU :: aV fF a.gb (x.gs.zip gg) :: yq a.ag a.cg a.gb :: yu a.ac a.cc a.cb :: aV bz a.cb x.aC :: fL a.ah a.ch x.hl :: xQ a.ao a.co x.out :: Q) M) :
  Hp R (ay (bC pa p) b { x with aU := x.aU ++ [⟨-1, []⟩] } :: Q) M := by
 obtain ⟨l1, l2, l3, l4⟩ := hl
 have h2 := h.jP fu k l4
 exact kN (a := { a with al := Ac, cl := c', lb := a.lb ++ [k] }) (gg := gg) (dr := dr) (n := n) (x := { x with aU := x.aU ++ [⟨-1, []⟩] }) ⟨l1, l2, l3, by simp [l4]⟩ (h2.sub bM)
theorem JW (h : Hp R L M) (w5 : RS bI R pa.c pa.cc p.nY) (hc : p.nY.length ≤ 1000000) (hk : 0 ≤ p.aU ∧ p.aU ≤ 1000000)
  (k : ∀ b M', Hp R (ay (bC pa p) b (Wd.new p) :: L) M' → K (.pointer (some ⟨b, 0, none⟩)) M') :
  aa Tryz.prog 56 #[.agg #[.slice pa.f p.funcs.length pa.fc, .slice pa.c p.nY.length pa.cc, .int .i64 p.aU, .slice pa.k p.cases.length pa.kc]] M K Kp := by
 refine B8 ?_
 repeat (first|(refine aj h ?_;clear h;intro kb M h)|(refine aq h ?_;clear h;intro M h)|refine St.to h ?_|(apply Exists.intro;(repeat apply Exists.intro);refine And.intro rfl ?_)|refine au ?_|refine af ?_|refine ai ?_)
 refine oT h ?_
 clear h
 intro bs M h
 repeat (first|(refine aj h ?_;clear h;intro kb M h)|(refine aq h ?_;clear h;intro M h)|refine St.to h ?_|(apply Exists.intro;(repeat apply Exists.intro);refine And.intro rfl ?_)|refine au ?_|refine af ?_|refine ai ?_)
 rename_i kp _ _ kr _ kw _
 replace h := lW h kr
 replace h := (h.tj fF).jP fF kr rfl
 replace h := (h.pt kw).hH (E := kX) (l := [kr]) rfl
 replace h := (h.cE kX 230).tj bz
 replace h := (h.cE kX 232).tj fu
 replace h := (h.cE tu 203).cE bI 2
 have base : Hp R (ay (bC pa p) kb { Wd.new p with aC := (p.nY.take 0).map aP.new, aU := [] } :: pt kp [.slice pa.f p.funcs.length pa.fc, .slice pa.c p.nY.length pa.cc, .int .i64 p.aU, .slice pa.k p.cases.length pa.kc] 39 :: L) _ :=
  kN (a := ⟨some ⟨kw, 0, none⟩, 1, [kr], none, 0, [], none, 0, [], none, 0, none, 0, none, 0⟩) (gg := [(some ⟨bs, 0, none⟩, 1)]) (dr := .nilFunc) (n := 0) (x := { Wd.new p with aC := [], aU := [] }) ⟨rfl, rfl, rfl, rfl⟩ (h.sub bM)
 clear h
 refine ⟨fun d vs M => ∃ j : Nat, vs = [.int .i64 (j : Int)] ∧ d = p.nY.length - j ∧ j ≤ p.nY.length ∧ Hp R (ay (bC pa p) kb { Wd.new p with aC := (p.nY.take j).map aP.new, aU := [] } :: pt kp [.slice pa.f p.funcs.length pa.fc, .slice pa.c p.nY.length pa.cc, .int .i64 p.aU, .slice pa.k p.cases.length pa.kc] 39 :: L) M,
  ⟨_, 0, rfl, rfl, by omega, base⟩, ?_⟩
 clear base
 rintro d _ nn M ⟨j, he, hd, hj, h⟩
 simp only [List.cons.injEq, Value.int.injEq, and_true, true_and] at he
 subst he
 refine aJ.2 ⟨fun hlt => ?_, fun hge => ?_⟩
 ·obtain ⟨v, hv⟩ := aO (l := p.nY) (i := j) (by omega)
  have Xv : (p.nY.take (j + 1)).map aP.new = (p.nY.take j).map aP.new ++ [aP.new v] := by rw [cV hv, List.map_append]; rfl
  have RH : ((p.nY.take j).map aP.new).length ≤ 1000000 := by simp; omega
  rw [aS (by omega)]
  refine ⟨by omega, hlt, ?_⟩
  obtain ⟨cb, co, hcb⟩ := w5.some (by omega) (by decide)
  have XC := w5
  rw [hcb] at XC ⊢
  refine bp ?_
  simp only [Int.toNat_natCast]
  refine bn (Src.at (XC.src (L := _)) h (i := j) (j := 0) hv rfl (by simp [bI])) ?_
  refine ⟨fun _ M => Hp R (ay (bC pa p) kb { Wd.new p with aC := (p.nY.take j).map aP.new ++ [aP.new v], aU := [] } :: pt kp [.slice pa.f p.funcs.length pa.fc, .slice pa.c p.nY.length pa.cc, .int .i64 p.aU, .slice pa.k p.cases.length pa.kc] 39 :: L) M, ⟨?_, ?_, trivial⟩, ?_⟩
  ·have h' := dP h (b := kb)
   clear h
   obtain ⟨a, gg, dr, n, hl, h⟩ := h'
   have RI : a.cb.length = ((p.nY.take j).map aP.new).length := hl.2.2.1
   refine be h ?_
   refine AI h ?_
   clear h
   intro kc M h
   repeat (first|(refine aj h ?_;clear h;intro kb M h)|(refine aq h ?_;clear h;intro M h)|refine St.to h ?_|(apply Exists.intro;(repeat apply Exists.intro);refine And.intro rfl ?_)|refine au ?_|refine af ?_|refine ai ?_)
   refine h.bD RF [kc] rfl rfl (by simp only [List.length_singleton]; omega) ?_
   clear h
   intro A' c' M h
   repeat (first|(refine aj h ?_;clear h;intro kb M h)|(refine aq h ?_;clear h;intro M h)|refine St.to h ?_|(apply Exists.intro;(repeat apply Exists.intro);refine And.intro rfl ?_)|refine au ?_|refine af ?_|refine ai ?_)
   exact Ng (j := j) (q := j) (A' := j) (a := a) (x := { Wd.new p with aC := (p.nY.take j).map aP.new, aU := [] }) hl (h.sub bM)
  ·have h' := dP h (b := kb)
   clear h
   obtain ⟨a, gg, dr, n, hl, h⟩ := h'
   have RI : a.cb.length = ((p.nY.take j).map aP.new).length := hl.2.2.1
   refine AI h ?_
   clear h
   intro kc M h
   repeat (first|(refine aj h ?_;clear h;intro kb M h)|(refine aq h ?_;clear h;intro M h)|refine St.to h ?_|(apply Exists.intro;(repeat apply Exists.intro);refine And.intro rfl ?_)|refine au ?_|refine af ?_|refine ai ?_)
   refine h.bD RF [kc] rfl rfl (by simp only [List.length_singleton]; omega) ?_
   clear h
   intro A' c' M h
   repeat (first|(refine aj h ?_;clear h;intro kb M h)|(refine aq h ?_;clear h;intro M h)|refine St.to h ?_|(apply Exists.intro;(repeat apply Exists.intro);refine And.intro rfl ?_)|refine au ?_|refine af ?_|refine ai ?_)
   exact Ng (j := j) (q := j) (A' := j) (a := a) (x := { Wd.new p with aC := (p.nY.take j).map aP.new, aU := [] }) hl (h.sub bM)
  ·clear h
   intro _ M h
   refine ⟨p.nY.length - (j + 1), by omega, j + 1, rfl, rfl, by omega, ?_⟩
   rw [Xv, ← hcb]; exact h
 ·obtain rfl : j = p.nY.length := by omega
  rw [List.take_length] at h
  refine aG h ?_
  obtain ⟨nl, hnl⟩ := Int.eq_ofNat_of_zero_le hk.1
  refine ⟨fun d vs M => ∃ j : Nat, vs = [.int .i64 (j : Int)] ∧ d = nl - j ∧ j ≤ nl ∧ Hp R (ay (bC pa p) kb { Wd.new p with aU := List.replicate j ⟨-1, []⟩ } :: pt kp [.slice pa.f p.funcs.length pa.fc, .slice pa.c p.nY.length pa.cc, .int .i64 p.aU, .slice pa.k p.cases.length pa.kc] 39 :: L) M,
   ⟨_, 0, rfl, rfl, by omega, h⟩, ?_⟩
  clear h
  rintro d _ nn M ⟨j, he, hd, hj, h⟩
  simp only [List.cons.injEq, Value.int.injEq, and_true, true_and] at he
  subst he
  refine aJ.2 ⟨fun hlt => ?_, fun hge => ?_⟩
  ·have Xv : List.replicate (j + 1) (⟨-1, []⟩ : Lk) = List.replicate j ⟨-1, []⟩ ++ [⟨-1, []⟩] := List.replicate_succ'
   rw [aS (by omega)]
   refine ⟨fun _ M => Hp R (ay (bC pa p) kb { Wd.new p with aU := List.replicate j ⟨-1, []⟩ ++ [⟨-1, []⟩] } :: pt kp [.slice pa.f p.funcs.length pa.fc, .slice pa.c p.nY.length pa.cc, .int .i64 p.aU, .slice pa.k p.cases.length pa.kc] 39 :: L) M, ⟨?_, ?_, trivial⟩, ?_⟩
   ·have h' := dP h (b := kb)
    clear h
    obtain ⟨a, gg, dr, n, hl, h⟩ := h'
    have RI : a.lb.length = (List.replicate j (⟨-1, []⟩ : Lk)).length := hl.2.2.2
    rw [List.length_replicate] at RI
    refine be h ?_
    refine AP h ?_
    clear h
    intro kc M h
    repeat (first|(refine aj h ?_;clear h;intro kb M h)|(refine aq h ?_;clear h;intro M h)|refine St.to h ?_|(apply Exists.intro;(repeat apply Exists.intro);refine And.intro rfl ?_)|refine au ?_|refine af ?_|refine ai ?_)
    refine h.bD RG [kc] rfl rfl (by simp only [List.length_singleton]; omega) ?_
    clear h
    intro A' c' M h
    repeat (first|(refine aj h ?_;clear h;intro kb M h)|(refine aq h ?_;clear h;intro M h)|refine St.to h ?_|(apply Exists.intro;(repeat apply Exists.intro);refine And.intro rfl ?_)|refine au ?_|refine af ?_|refine ai ?_)
    exact Nh (a := a) (x := { Wd.new p with aU := List.replicate j ⟨-1, []⟩ }) hl (h.sub bM)
   ·have h' := dP h (b := kb)
    clear h
    obtain ⟨a, gg, dr, n, hl, h⟩ := h'
    have RI : a.lb.length = (List.replicate j (⟨-1, []⟩ : Lk)).length := hl.2.2.2
    rw [List.length_replicate] at RI
    refine AP h ?_
    clear h
    intro kc M h
    repeat (first|(refine aj h ?_;clear h;intro kb M h)|(refine aq h ?_;clear h;intro M h)|refine St.to h ?_|(apply Exists.intro;(repeat apply Exists.intro);refine And.intro rfl ?_)|refine au ?_|refine af ?_|refine ai ?_)
    refine h.bD RG [kc] rfl rfl (by simp only [List.length_singleton]; omega) ?_
    clear h
    intro A' c' M h
    repeat (first|(refine aj h ?_;clear h;intro kb M h)|(refine aq h ?_;clear h;intro M h)|refine St.to h ?_|(apply Exists.intro;(repeat apply Exists.intro);refine And.intro rfl ?_)|refine au ?_|refine af ?_|refine ai ?_)
    exact Nh (a := a) (x := { Wd.new p with aU := List.replicate j ⟨-1, []⟩ }) hl (h.sub bM)
   ·clear h
    intro _ M h
    refine ⟨nl - (j + 1), by omega, j + 1, rfl, rfl, by omega, ?_⟩
    rw [Xv]; exact h
  ·obtain rfl : j = nl := by omega
   have e : Wd.new p = { Wd.new p with aU := List.replicate j ⟨-1, []⟩ } := by unfold Wd.new; rw [hnl]; rfl
   rw [← e] at h
   exact k _ _ h.bT
end
def aB (p : cj) (i : dB) : List pS := (p.cases.drop i.a.toNat).take i.b.toNat
def tW (f : fM) : List Int := [f.r.getD 0 0, f.r.getD 1 0, f.r.getD 2 0, f.r.getD 3 0, f.r.getD 4 0, f.r.getD 5 0, f.r.getD 6 0, f.r.getD 7 0]
inductive jf where
 | num (d : Int)
 | cz (l : List PanicEntry)
def iq (R : Mem) (dr : Value) (kind n : Int) (d : jf) (L L2 : List HP) : Prop := ∀ (Q : HP) (M : Mem) (K : Value → Mem → Prop) (Kp : List PanicEntry → Mem → Prop), Hp R (Q :: L) M →
 (match d with
  | .num v => ∀ M', Hp R (Q :: L2) M' → K (.int .i64 v) M'
  | .cz l => ∀ M', Hp R (Q :: L2) M' → Kp l M') → g6 Cx dr [.int .i64 kind, .int .i64 n] M K Kp
def Wd.oZ (p : cj) (x : Wd) (g : Int) (i : dB) (k : Int) : Out Wd :=
 let c := (aB p i).getD k.toNat ⟨0, 0, 0⟩
 let x1 := x.next g
 if c.way = 1 then match x1.put p c.ch (aZ x1 g c.bQ) with
  | .dx n y => .dx n y
  | .cz l y => .cz l y
  | .on (y, _) => .on (y.bg g i.c k)
 else .on (((x1.get c.ch).1.bg g c.bQ (x1.get c.ch).2.1).bg g i.c k)
def Wd.sq (p : cj) (x : Wd) (g : Int) (i : dB) : Wd :=
 let x1 := x.next g
 match els (aB p i) with
  | some k => x1.bg g i.c (k : Int)
  | none => Wd.block { x1 with aC := dH g (tW (ae x1 g).top) (aB p i) x1.aC (aB p i).length } g i
def Wd.choose (p : cj) (x : Wd) (g : Int) (i : dB) (d : jf) : Out Wd :=
 if enabled (aB p i) x.aC = [] then .on (x.sq p g i)
 else match d with
  | .num v => x.oZ p g i ((enabled (aB p i) x.aC).getD v.toNat 0)
  | .cz l => .cz l x
section
variable {R : Mem} {L L' L2 : List HP} {M : Mem} {K : Value → Mem → Prop} {Kp : List PanicEntry → Mem → Prop} {pa : PA} {p : cj} {gg : List GA} {dr : Value} {b : Nat} {x : Wd} {g : Int} {i : dB}
def tX (p : cj) (i : dB) : Prop := 0 ≤ i.a ∧ 0 ≤ i.b ∧ i.a + i.b ≤ p.cases.length ∧ p.cases.length ≤ 1000
instance (p : cj) (i : dB) : Decidable (tX p i) := by unfold tX; infer_instance
theorem Eo (h : Hp R L M) [o : u9 b L pa p gg dr x L'] (hp : oY R pa p) (hk : tX p i)
  (k : ∀ A c M', RS xS R A c (aB p i) → Hp R (ay (bj pa p gg dr) b x :: L') M' → K (.slice A (aB p i).length c) M') :
  aa Tryz.prog 204 #[.pointer (some ⟨b, 0, none⟩), .agg #[.int .i64 i.op, .int .i64 i.a, .int .i64 i.b, .int .i64 i.c]] M K Kp := by
 refine oG ?_
 obtain ⟨a0, b0, hab, hl⟩ := hk
 have hcap := hp.cases.2
 refine aj h ?_
 clear h; intro kb M h
 have hC := h.drop.pick o.pick
 have h' := bY h (b := b)
 clear h
 obtain ⟨a, kq, h⟩ := h'
 refine be h (aG h (aG h (aG h ?_)))
 rw [cY (by omega) (by omega)]
 refine ⟨by omega, by omega, by omega, by omega, by omega, by omega, ?_⟩
 have e : (aB p i).length = (i.a + i.b).toNat - i.a.toNat := by
  unfold aB
  rw [List.length_take, List.length_drop]; omega
 rw [← e]
 simp only [Int.toNat_natCast]
 exact k _ _ _ ((hp.cases.drop i.a.toNat (by omega)).take i.b.toNat) hC
theorem Ni {bs j : Nat} {l : List fM} {f : fM} (hs : Src R L (some ⟨bs, 0, none⟩) (jG.cells l)) (hi : l[j]? = some f) : Src R L (lC (some ⟨bs, j * 11 + 2, none⟩) 0 8 1) (bI.cells (tW f)) := by
 intro M h
 have e : lC (some ⟨bs, j * 11 + 2, none⟩) 0 8 1 = some ⟨bs, j * 11 + 2, none⟩ := by
  unfold lC; rw [if_neg (by omega)]; rfl
 rw [e]
 intro q hq
 have hq8 : q < 8 := by simpa [bI, gW.cells, tW] using hq
 have e2 : j * 11 + 2 + q = 0 + (j * jG.z + (2 + q)) := by show _ = 0 + (j * 11 + (2 + q)); omega
 obtain rfl | rfl | rfl | rfl | rfl | rfl | rfl | rfl : q = 0 ∨ q = 1 ∨ q = 2 ∨ q = 3 ∨ q = 4 ∨ q = 5 ∨ q = 6 ∨ q = 7 := by omega
 all_goals exact Src.at hs h (i := j) hi rfl e2
theorem Gu {bs c oo : Nat} {v : Int} {G : Mem → Prop} (h : Hp R L M) [o : u9 b L pa p gg dr x L'] (hg : aW x g) (ee : gg[g.toNat]? = some (some ⟨bs, 0, none⟩, c)) (e : oo = ((ae x g).fs.length - 1) * 11 + 1) (hv : v = (ae x g).top.pc + 1)
  (k : ∀ M', Hp R (ay (bj pa p gg dr) b (x.next g) :: L') M' → G M') : aI M ⟨bs, oo, none⟩ (.int .i64 v) G := by
 subst hv
 obtain ⟨h0, h1, h2, h3⟩ := hg
 obtain ⟨a, gb, hl, fx, h4⟩ := gk h (b := b) h0 h1 ee
 refine yp h4 (dJ h2) e fun M' h5 => ?_
 replace h5 := cC h5 gb hl fx ee (by simp)
 exact k M' (aQ (a := a) (p := p) (pa := pa) (dr := dr) (gg := gg) (x := x.next g) (cR hl) h5 b)
theorem Gv {bs c oo : Nat} {G : Int → Prop} (h : Hp R L M) [o : u9 b L pa p gg dr x L'] (hg : aW x g) (ee : gg[g.toNat]? = some (some ⟨bs, 0, none⟩, c)) (e : oo = ((ae x g).fs.length - 1) * 11 + 1)
  (k : G (ae x g).top.pc) : aH (M.ld ⟨bs, oo, none⟩) .i64 G := by
 obtain ⟨h0, h1, h2, h3⟩ := hg
 obtain ⟨a, gb, hl, fx, h4⟩ := gk h (b := b) h0 h1 ee
 exact yo h4 (dJ h2) e k
theorem yI (hg : aW x g) : ae (x.next g) g = (ae x g).bP (ae x g).top.next := gh hg.1 hg.2.1
theorem sr (hg : aW x g) : aW (x.next g) g := by
 have e := yI hg
 obtain ⟨h0, h1, h2, h3⟩ := hg
 refine ⟨h0, by simpa [Wd.next, Wd.bh] using h1, ?_, ?_⟩ <;> rw [e] <;> simpa [gT.bP]
theorem Cz (hg : aW x g) : (ae (x.next g) g).fs.length = (ae x g).fs.length := by rw [yI hg]; simp [gT.bP]
theorem JX {q v : Int} (hg : aW x g) : (ae (x.bg g q v) g).fs.length = (ae x g).fs.length := by rw [ia hg]; simp [gT.bP]
theorem Qb (hs : x.Sm) : (x.next g).Sm := HG hs
def Ep (p : cj) (x : Wd) (g : Int) (i : dB) (d : jf) : Prop := aW x g ∧ tX p i ∧ bx i.c ∧ x.Sm ∧ (ae x g).top.pc < 1000000000 ∧ 0 ≤ (ae x g).top.pc ∧ (∀ c ∈ aB p i, c.Ok x.aC.length) ∧
 match enabled (aB p i) x.aC, d with
 | [], _ => True
 | _, .cz _ => True
 | can, .num v => 0 ≤ v ∧ v < can.length ∧
  let k := can.getD v.toNat 0
  let c := (aB p i).getD k.toNat ⟨0, 0, 0⟩
  let x1 := x.next g
  0 ≤ k ∧ k < (aB p i).length ∧ bx c.bQ ∧
  if c.way = 1 then ny p x1 c.ch (aZ x1 g c.bQ) ∧ (match x1.put p c.ch (aZ x1 g c.bQ) with
   | .on (y, _) => aW y g ∧ (ae y g).fs.length = (ae x g).fs.length
   | _ => True)
  else tP x1 c.ch ∧ aW (x1.get c.ch).1 g ∧ (ae (x1.get c.ch).1 g).fs.length = (ae x g).fs.length
theorem JY {d : jf} (hp : oY R pa p) (hk : Ep p x g i d) (hd : if enabled (aB p i) x.aC = [] then L2 = L else iq R dr 3 ((enabled (aB p i) x.aC).length : Int) d L L2) :
  fI R pa p dr 191 x g i (x.choose p g i d) L L2 := by
 intro gg b bs c M K Kp Q h ee k
 obtain ⟨hg, hcs, Qc, hs, zV, Qd, hok, hk⟩ := hk
 have zx := hg
 obtain ⟨h0, h1, h2, h3⟩ := zx
 have hs' := hs
 obtain ⟨s1, s2, s3, s4, s5, s6, s7, s8⟩ := hs'
 have UJ : (aB p i).length ≤ 1000 := by
  obtain ⟨_, _, _, hl⟩ := hcs
  unfold aB
  rw [List.length_take, List.length_drop]; omega
 refine nJ ?_
 refine aj h ?_
 clear h; intro k1 M h
 refine aG h (aG h (aG h (aG h ?_)))
 refine Eo (b := b) h hp hcs ?_
 clear h; intro A ca M hA h
 refine bk ?_
 unfold Wd.choose at k
 have hen : ∀ {X : HP} {M : Mem} {L3 : List HP}, Hp R (ay (bj pa p gg dr) b x :: L3) M → ∀ (K1 : Value → Mem → Prop), (∀ A' c' M', Hp R (kA A' c' (enabled (aB p i) x.aC) :: ay (bj pa p gg dr) b x :: L3) M' → K1 (.slice A' (enabled (aB p i) x.aC).length c') M') →
   az (M.ld ⟨b, 0 + 6, none⟩) fun zp c7 jE => aa Tryz.prog 205 #[.slice A (aB p i).length ca, .slice zp c7 jE] M K1 Kp := by
  intro X M L3 h K1 k1
  have h' := bY h (b := b)
  clear h
  obtain ⟨a, hl, h⟩ := h'
  have hl' := hl
  obtain ⟨l1, l2, l3, l4⟩ := hl'
  refine be h ?_
  refine zL h (hA.src) (Src.row (A := a.ac)) rfl rfl (by omega) l3 hok ?_
  clear h; intro A' c' M h
  exact k1 _ _ _ ((aQ (a := a) (p := p) (pa := pa) (dr := dr) (gg := gg) (x := x) hl h b).swap)
 refine hen (X := Q) h _ ?_
 clear h hen; intro A2 c2 M h
 refine bk ?_
 by_cases hcan : enabled (aB p i) x.aC = []
 ·rw [if_pos hcan] at k hd
  subst hd
  rw [hcan] at h ⊢
  refine af ?_
  unfold Wd.sq at k
  dsimp only at k
  refine Gv (b := b) h hg ee rfl ?_
  rw [iM Qd (by omega)]
  refine Gu (b := b) h hg ee rfl rfl ?_
  clear h; intro M h
  have JZ := sr hg
  have K9 := Cz hg
  refine FL h hA.src rfl (by omega) ?_
  clear h; intro M h
  refine ⟨_, _, rfl, ?_⟩
  cases he : els (aB p i) with
  | some q =>
   rw [he] at k
   dsimp only at k ⊢
   refine af ?_
   refine aG h ?_
   refine ⟨Qc.1, Qc.2, ?_⟩
   refine kL (b := b) h JZ ee Qc (by rw [K9]) ?_
   clear h; intro M h
   exact k _ _ (h.sub bM)
  | none =>
   rw [he] at k
   dsimp only at k ⊢
   refine ai ⟨by decide, by decide, by decide, by decide, by decide, by decide, ?_⟩
   have vJ := JZ
   obtain ⟨g0, g1, g2, g3⟩ := vJ
   have h' := gk h (b := b) g0 g1 ee
   clear h
   obtain ⟨a, gb, hl, fx, h⟩ := h'
   have hl' := hl
   obtain ⟨l1, l2, l3, l4⟩ := hl'
   refine be h ?_
   refine FN (fa := tW (ae (x.next g) g).top) h hA.src (Src.row (A := a.ac)) ?_ rfl rfl rfl rfl (by omega) l3 hok (fun c hc => s1 c hc) ?_
   ·have e9 : ∀ {L9 : List HP}, Src R L9 (some ⟨bs, 0, none⟩) (jG.cells (ae (x.next g) g).fs) → Src R L9 (lC (some ⟨bs, ((ae x g).fs.length - 1) * 11 + 2, none⟩) 0 8 1) (bI.cells (tW (ae (x.next g) g).top)) := fun hs => by
     have := Ni hs (dJ g2)
     rwa [K9] at this
    exact e9 Src.row
   clear h; intro M h
   refine ⟨rfl, ?_⟩
   refine aG h (aG h (aG h (aG h ?_)))
   replace h := cC h gb hl fx ee
   have kq := cR (y := ae (x.next g) g) (g := g) hl
   have hcl2 : ∀ x' : Wd, x' = { (x.next g).bh g (ae (x.next g) g) with aC := dH g (tW (ae (x.next g) g).top) (aB p i) x.aC (aB p i).length } → eB gg a x' := by
    rintro _ rfl
    obtain ⟨m1, m2, m3, m4⟩ := kq
    exact ⟨m1, m2, by show _ = List.length _; rw [j6]; exact l3, m4⟩
   replace h := aQ (a := a) (p := p) (pa := pa) (dr := dr) (gg := gg) (x := { (x.next g).bh g (ae (x.next g) g) with aC := dH g (tW (ae (x.next g) g).top) (aB p i) x.aC (aB p i).length }) (hcl2 _ rfl) h b
   rw [sx g0 g1] at h
   refine kJ (b := b) (i := i) (x := { x.next g with aC := dH g (tW (ae (x.next g) g).top) (aB p i) x.aC (aB p i).length }) h g0 g1 ?_
   clear h; intro M h
   exact ⟨rfl, k _ _ (h.sub bM)⟩
 rw [if_neg hcan] at k hd
 have XD : 0 < (enabled (aB p i) x.aC).length := by
  cases hh : enabled (aB p i) x.aC with
  | nil => exact absurd hh hcan
  | cons _ _ => simp
 refine Fw (by simp; omega) ?_
 have yH : M.ld ⟨b, 0 + 14, none⟩ = some dr := by
  obtain ⟨a, hl, h9⟩ := bY h (b := b)
  exact bH h9
 rw [yH]
 refine Lq ?_
 have h5 : Hp R (sep [kA A2 c2 (enabled (aB p i) x.aC), ay (bj pa p gg dr) b x, pt k1 [.int .i64 i.op, .int .i64 i.a, .int .i64 i.b, .int .i64 i.c] 27, Q] :: L) M := Hp.aR.2 (h.sub bM)
 refine hd _ _ _ _ h5 ?_
 clear h h5 yH
 cases d with
 | cz l =>
  dsimp only at k ⊢
  intro M h5
  have h : Hp R (kA A2 c2 (enabled (aB p i) x.aC) :: ay (bj pa p gg dr) b x :: pt k1 [.int .i64 i.op, .int .i64 i.a, .int .i64 i.b, .int .i64 i.c] 27 :: Q :: L2) M := Hp.aR.1 h5
  exact k _ _ (h.sub bM)
 | num v =>
  dsimp only at k ⊢
  intro M h5
  have h : Hp R (kA A2 c2 (enabled (aB p i) x.aC) :: ay (bj pa p gg dr) b x :: pt k1 [.int .i64 i.op, .int .i64 i.a, .int .i64 i.b, .int .i64 i.c] 27 :: Q :: L2) M := Hp.aR.1 h5
  clear h5
  have YF : 0 ≤ v ∧ v < (enabled (aB p i) x.aC).length ∧
    0 ≤ (enabled (aB p i) x.aC).getD v.toNat 0 ∧ (enabled (aB p i) x.aC).getD v.toNat 0 < (aB p i).length ∧ bx ((aB p i).getD ((enabled (aB p i) x.aC).getD v.toNat 0).toNat ⟨0, 0, 0⟩).bQ ∧
    if ((aB p i).getD ((enabled (aB p i) x.aC).getD v.toNat 0).toNat ⟨0, 0, 0⟩).way = 1 then ny p (x.next g) ((aB p i).getD ((enabled (aB p i) x.aC).getD v.toNat 0).toNat ⟨0, 0, 0⟩).ch (aZ (x.next g) g ((aB p i).getD ((enabled (aB p i) x.aC).getD v.toNat 0).toNat ⟨0, 0, 0⟩).bQ) ∧
     (match (x.next g).put p ((aB p i).getD ((enabled (aB p i) x.aC).getD v.toNat 0).toNat ⟨0, 0, 0⟩).ch (aZ (x.next g) g ((aB p i).getD ((enabled (aB p i) x.aC).getD v.toNat 0).toNat ⟨0, 0, 0⟩).bQ) with
      | .on (y, _) => aW y g ∧ (ae y g).fs.length = (ae x g).fs.length
      | _ => True)
    else tP (x.next g) ((aB p i).getD ((enabled (aB p i) x.aC).getD v.toNat 0).toNat ⟨0, 0, 0⟩).ch ∧ aW ((x.next g).get ((aB p i).getD ((enabled (aB p i) x.aC).getD v.toNat 0).toNat ⟨0, 0, 0⟩).ch).1 g ∧ (ae ((x.next g).get ((aB p i).getD ((enabled (aB p i) x.aC).getD v.toNat 0).toNat ⟨0, 0, 0⟩).ch).1 g).fs.length = (ae x g).fs.length := by
   revert hk
   cases hh : enabled (aB p i) x.aC with
   | nil => exact absurd hh hcan
   | cons a l => exact fun hk => hk
  clear hk hcan hd
  generalize hcane : enabled (aB p i) x.aC = can at h k YF XD ⊢
  obtain ⟨v0, v1, q0, q1, RJ, UL⟩ := YF
  refine cy ⟨v0, v1, ?_⟩
  obtain ⟨ab, rfl⟩ := h.bA (A := A2) XD (by decide)
  refine bp ?_
  obtain ⟨q, hq⟩ := aO (l := can) (i := v.toNat) (by omega)
  have hqe : can.getD v.toNat 0 = q := by simp [hq]
  rw [hqe] at k q0 q1 RJ UL
  refine bn (Src.at (h.src (A := some ⟨ab, 0, none⟩)) h (i := v.toNat) (j := 0) hq rfl (by simp [bI])) ?_
  unfold Wd.oZ at k
  dsimp only at k
  obtain ⟨cc, VA⟩ := aO (l := aB p i) (i := q.toNat) (by omega)
  have hce : (aB p i).getD q.toNat ⟨0, 0, 0⟩ = cc := by simp [VA]
  rw [hce] at k RJ UL
  refine Gv (b := b) h hg ee rfl ?_
  rw [iM Qd (by omega)]
  refine Gu (b := b) h hg ee rfl rfl ?_
  clear h; intro M h
  have JZ := sr hg
  have K9 := Cz hg
  have sM : (x.next g).Sm := Qb hs
  generalize CA : x.next g = x1 at h k UL JZ K9 sM
  refine ⟨q0, q1, ?_⟩
  obtain ⟨cb, co, rfl⟩ := hA.some (by omega) (by decide)
  refine bp ?_
  refine bn (Src.at (hA.src (L := _)) h (i := q.toNat) (j := 0) VA rfl (by simp [xS])) ?_
  refine bn (Src.at (hA.src (L := _)) h (i := q.toNat) (j := 1) VA rfl (by show _ = co + (_ * 3 + 1); omega)) ?_
  refine bn (Src.at (hA.src (L := _)) h (i := q.toNat) (j := 2) VA rfl (by show _ = co + (_ * 3 + 2); omega)) ?_
  refine aj h ?_
  clear h; intro kc M h
  refine aq h ?_
  clear h; intro M h
  refine aq h ?_
  clear h; intro M h
  refine aq h ?_
  clear h; intro M h
  refine aG h ?_
  refine bN.2 ⟨fun e1 => ?_, fun e1 => ?_⟩
  ·rw [if_pos e1] at k UL
   obtain ⟨hput, hy⟩ := UL
   refine aG h (aG h ⟨RJ.1, RJ.2, ?_⟩)
   refine D9 (b := b) h JZ ee RJ (by rw [K9]) ?_
   refine AQ (b := b) h hp.cases hput sM ?_ ?_
   ·clear h
    intro y ok M e h
    rw [e] at k hy
    dsimp only at k hy
    refine nw ?_
    refine aG h ⟨Qc.1, Qc.2, ?_⟩
    refine kL (b := b) h hy.1 ee Qc (by rw [hy.2]) ?_
    clear h; intro M h
    exact k _ _ (h.sub bM)
   ·clear h
    intro y n M e h
    rw [e] at k
    exact k _ _ (h.sub bM)
  ·rw [if_neg e1] at k UL
   obtain ⟨Uy, Ea, hfl⟩ := UL
   refine aG h (aG h ?_)
   refine AR (b := b) h Uy sM ?_
   clear h; intro M h
   generalize x1.get cc.ch = r at h k Ea hfl
   obtain ⟨y, w, sm, ok⟩ := r
   dsimp only at h k Ea hfl ⊢
   refine ⟨_, _, _, rfl, bH h, RJ.1, RJ.2, ?_⟩
   refine kL (b := b) h Ea ee RJ (by rw [hfl]) ?_
   clear h; intro M h
   refine ⟨bH h, aG h ⟨Qc.1, Qc.2, ?_⟩⟩
   refine kL (b := b) h (ie Ea) ee Qc (by rw [JX Ea, hfl]) ?_
   clear h; intro M h
   exact k _ _ (h.sub bM)
end
def bq.before (a b : bq) : Bool := decide (a.t < b.t) || (a.t == b.t && decide (a.seq < b.seq))
def m9 (l : List bq) (i : Nat) : bq := l.getD i ⟨0, 0, 0⟩
def ef (l : List bq) (i j : Nat) : List bq := (l.set i (m9 l j)).set j (m9 l i)
def J0 : Nat → Nat → List bq → List bq
 | 0, _, l => l
 | f + 1, i, l => if 0 < i ∧ (m9 l i).before (m9 l ((i - 1) / 4)) = true then J0 f ((i - 1) / 4) (ef l i ((i - 1) / 4)) else l
def fU (l : List bq) : Nat → Nat → Nat → Nat
 | 0, _, out => out
 | n + 1, k, out => if k < l.length then fU l n (k + 1) (if (m9 l k).before (m9 l out) then k else out) else out
def gv (l : List bq) (i : Nat) : Nat := fU l 4 (4 * i + 1) i
def nA : Nat → Nat → List bq → List bq
 | 0, _, l => l
 | f + 1, i, l => if gv l i = i then l else nA f (gv l i) (ef l i (gv l i))
def qX (l : List bq) (x : bq) : List bq := J0 l.length l.length (l ++ [x])
def dK (l : List bq) (i : Nat) : List bq :=
 if i < l.length - 1 then J0 i i (nA l.length i ((ef l i (l.length - 1)).take (l.length - 1))) else (ef l i (l.length - 1)).take (l.length - 1)
def dn : Nat → List bq → Int → List bq × List bq
 | 0, l, _ => (l, [])
 | f + 1, l, now => if 0 < l.length ∧ (m9 l 0).t ≤ now then ((dn f (dK l 0) now).1, m9 l 0 :: (dn f (dK l 0) now).2) else (l, [])
theorem Er {f i : Nat} {l : List bq} : J0 (f + 1) i l = if 0 < i ∧ (m9 l i).before (m9 l ((i - 1) / 4)) = true then J0 f ((i - 1) / 4) (ef l i ((i - 1) / 4)) else l := rfl
theorem wO {l : List bq} {n k out : Nat} : fU l (n + 1) k out = if k < l.length then fU l n (k + 1) (if (m9 l k).before (m9 l out) then k else out) else out := rfl
theorem Gw {f i : Nat} {l : List bq} : nA (f + 1) i l = if gv l i = i then l else nA f (gv l i) (ef l i (gv l i)) := rfl
theorem yJ {f : Nat} {l : List bq} {now : Int} : dn (f + 1) l now = if 0 < l.length ∧ (m9 l 0).t ≤ now then ((dn f (dK l 0) now).1, m9 l 0 :: (dn f (dK l 0) now).2) else (l, []) := rfl
theorem eO {l : List bq} {i j : Nat} : (ef l i j).length = l.length := by simp [ef]
theorem CB : ∀ {f i : Nat} {l : List bq}, (J0 f i l).length = l.length
 | 0, _, _ => rfl
 | f + 1, i, l => by unfold J0; split; rw [CB, eO]; rfl
theorem iN : ∀ {f i : Nat} {l : List bq}, (nA f i l).length = l.length
 | 0, _, _ => rfl
 | f + 1, i, l => by unfold nA; split; rfl; rw [iN, eO]
theorem Es {l : List bq} {i : Nat} : (dK l i).length = l.length - 1 := by
 unfold dK; split
 ·rw [CB, iN, List.length_take, eO]; omega
 ·rw [List.length_take, eO]; omega
theorem J1 {l : List bq} {x : bq} : (qX l x).length = l.length + 1 := by unfold qX; rw [CB]; simp
theorem lj {l : List bq} {i : Nat} (h : i < l.length) : l[i]? = some (m9 l i) := by
 unfold m9; rw [List.getD_eq_getElem?_getD, List.getElem?_eq_getElem h]; rfl
theorem lp {l : List bq} : ∀ (n k out : Nat), out < l.length → out < k → fU l n k out < l.length ∧ (out ≤ fU l n k out)
 | 0, _, _, h, _ => ⟨h, Nat.le_refl _⟩
 | n + 1, k, out, h, hk => by
  unfold fU; split
  ·rename_i hl
   split
   ·have := lp n (k + 1) k hl (by omega); omega
   ·exact lp n (k + 1) out h (by omega)
  ·exact ⟨h, Nat.le_refl _⟩
theorem Bd {l : List bq} {i : Nat} (h : i < l.length) : gv l i < l.length ∧ i ≤ gv l i := lp 4 _ i h (by omega)
structure RK (b o : Nat) (P : Option Addr → Nat → Nat → Int → HP) : Prop where
 Gi : ∀ (R : Mem) (L : List HP) (M : Mem) (A : Option Addr) (n c : Nat) (s : Int), Hp R (P A n c s :: L) M → M.ld ⟨b, o, none⟩ = some (.slice A n c)
 ldI : ∀ (R : Mem) (L : List HP) (M : Mem) (A : Option Addr) (n c : Nat) (s : Int), Hp R (P A n c s :: L) M → M.ld ⟨b, o + 1, none⟩ = some (.int .u64 s)
 Xw : ∀ (R : Mem) (L : List HP) (M : Mem) (A A' : Option Addr) (n c n' c' : Nat) (s : Int) (G : Mem → Prop), Hp R (P A n c s :: L) M → (∀ M', Hp R (P A' n' c' s :: L) M' → G M') → aI M ⟨b, o, none⟩ (.slice A' n' c') G
 stI : ∀ (R : Mem) (L : List HP) (M : Mem) (A : Option Addr) (n c : Nat) (s s' : Int) (G : Mem → Prop), Hp R (P A n c s :: L) M → (∀ M', Hp R (P A n c s' :: L) M' → G M') → aI M ⟨b, o + 1, none⟩ (.int .u64 s') G
theorem HU : bu Tryz.prog 46 203 3 24 [.int .u64 0, .int .u64 0, .int .i64 0] := bu.mk' (zv := .agg #[.int .u64 0, .int .u64 0, .int .i64 0]) (by kernel_rfl) (by kernel_rfl) rfl (by omega)
section
variable {R : Mem} {L L' : List HP} {M : Mem} {K : Value → Mem → Prop} {Kp : List PanicEntry → Mem → Prop} {b o : Nat} {P : Option Addr → Nat → Nat → Int → HP} {A : Option Addr} {c : Nat} {s : Int} {l : List bq} {i j : Nat}
theorem kO {q o0 o1 o2 o3 : Nat} {x : bq} {G : Int → Int → Int → Prop} (h : Hp R L M) (hs : Src R L (some ⟨q, o0, none⟩) (tu.cells l)) (hi : l[i]? = some x) (e1 : o1 = o0 + i * 3) (e2 : o2 = o0 + i * 3 + 1) (e3 : o3 = o0 + i * 3 + 2) (g : G x.t x.seq x.id) :
  aH (M.ld ⟨q, o1, none⟩) .u64 fun a => aH (M.ld ⟨q, o2, none⟩) .u64 fun b => aH (M.ld ⟨q, o3, none⟩) .i64 fun d => G a b d := by
 refine bn (Src.at hs h (i := i) (j := 0) hi rfl (by rw [e1]; rfl)) ?_
 refine bn (Src.at hs h (i := i) (j := 1) hi rfl (by rw [e2]; show _ = o0 + (i * 3 + 1); omega)) ?_
 exact bn (Src.at hs h (i := i) (j := 2) hi rfl (by rw [e3]; show _ = o0 + (i * 3 + 2); omega)) g
theorem HW {q o1 o2 o3 : Nat} {x y : bq} {G : Mem → Prop} (h : Hp R L M) [r : ct (some ⟨q, 0, none⟩) L bq tu 203 c l L'] (hi : l[i]? = some x) (e1 : o1 = i * 3) (e2 : o2 = i * 3 + 1) (e3 : o3 = i * 3 + 2)
  (k : ∀ M', Hp R (fL (some ⟨q, 0, none⟩) c (l.set i y) :: L') M' → G M') :
  aI M ⟨q, o1, none⟩ (.int .u64 y.t) fun M1 => aI M1 ⟨q, o2, none⟩ (.int .u64 y.seq) fun M2 => aI M2 ⟨q, o3, none⟩ (.int .i64 y.id) G := by
 have hl := (List.getElem?_eq_some_iff.1 hi).1
 refine gp (E := tu) (a := x) (a' := ⟨y.t, x.seq, x.id⟩) i 0 h hi (by decide) rfl e1 ?_
 clear h; intro M h
 refine gp (E := tu) (a := ⟨y.t, x.seq, x.id⟩) (a' := ⟨y.t, y.seq, x.id⟩) i 1 h (by simp [hl]) (by decide) rfl e2 ?_
 clear h; intro M h
 refine gp (E := tu) (a := ⟨y.t, y.seq, x.id⟩) (a' := y) i 2 h (by simp [hl]) (by decide) rfl e3 ?_
 clear h; intro M h
 rw [hU, hU] at h
 exact k _ h
theorem vY {x y : bq} (h : Hp R L M) (k : ∀ M', Hp R L M' → K (.bool (x.before y)) M') : aa Tryz.prog 187 #[.agg #[.int .u64 x.t, .int .u64 x.seq, .int .i64 x.id], .agg #[.int .u64 y.t, .int .u64 y.seq, .int .i64 y.id]] M K Kp := by
 refine xY ?_
 repeat (first|(refine aj h ?_;clear h;intro kb M h)|(refine aq h ?_;clear h;intro M h)|refine St.to h ?_|(apply Exists.intro;(repeat apply Exists.intro);refine And.intro rfl ?_)|refine au ?_|refine af ?_|refine ai ?_)
 unfold bq.before at k
 refine aJ.2 ⟨fun h1 => ?_, fun h1 => ?_⟩
 ·have := k _ h.mJ
  rwa [decide_eq_true h1, Bool.true_or] at this
 ·repeat (first|(refine aj h ?_;clear h;intro kb M h)|(refine aq h ?_;clear h;intro M h)|refine St.to h ?_|(apply Exists.intro;(repeat apply Exists.intro);refine And.intro rfl ?_)|refine au ?_|refine af ?_|refine ai ?_)
  refine bN.2 ⟨fun h2 => ?_, fun h2 => ?_⟩
  ·repeat (first|(refine aj h ?_;clear h;intro kb M h)|(refine aq h ?_;clear h;intro M h)|refine St.to h ?_|(apply Exists.intro;(repeat apply Exists.intro);refine And.intro rfl ?_)|refine au ?_|refine af ?_|refine ai ?_)
   have := k _ h.mJ
   rwa [decide_eq_false h1, Bool.false_or, beq_iff_eq.2 h2, Bool.true_and] at this
  ·have := k _ h.mJ
   rwa [decide_eq_false h1, Bool.false_or, show (x.t == y.t) = false from by simpa using h2, Bool.false_and] at this
theorem vn (D : RK b o P) (h : Hp R (P A l.length c s :: fL A c l :: L) M) (hi : i < l.length) (hj : j < l.length)
  (k : ∀ M', Hp R (P A l.length c s :: fL A c (ef l i j) :: L) M' → K (.tuple #[]) M') : aa Tryz.prog 154 #[.pointer (some ⟨b, o, none⟩), .int .i64 (i : Int), .int .i64 (j : Int)] M K Kp := by
 refine tw ?_
 obtain ⟨q, rfl⟩ := h.bA (A := A) (by omega) (by decide)
 have hs := h.src (A := some ⟨q, 0, none⟩)
 rw [D.Gi _ _ _ _ _ _ _ h]
 refine bk (bk (bk ⟨by omega, by omega, bp ?_⟩))
 refine kO h hs (lj hj) (by simp) (by simp) (by simp) ?_
 refine bk ⟨by omega, by omega, bp ?_⟩
 refine kO h hs (lj hi) (by simp) (by simp) (by simp) ?_
 clear hs
 refine ⟨by omega, by omega, bp ?_⟩
 refine HW (y := m9 l j) h (lj hi) (by simp) (by simp) (by simp) ?_
 clear h; intro M h
 refine ⟨by omega, by omega, bp ?_⟩
 have I9 : (l.set i (m9 l j))[j]? = some (m9 l j) := by
  rw [List.getElem?_set]
  split
  ·rfl
  ·exact lj hj
 refine HW (y := m9 l i) h I9 (by simp) (by simp) (by simp) ?_
 clear h; intro M h
 exact k _ (h.sub bM)
theorem yK (D : RK b o P) (h : Hp R (P A l.length c s :: fL A c l :: L) M) (hi : i < l.length) (hl : l.length ≤ 1000000)
  (k : ∀ M', Hp R (P A l.length c s :: fL A c l :: L) M' → K (.int .i64 (gv l i : Int)) M') : aa Tryz.prog 186 #[.pointer (some ⟨b, o, none⟩), .int .i64 (i : Int)] M K Kp := by
 refine rR ?_
 have e1 : IntKind.wrap .i64 (IntKind.wrap .i64 (4 * (i : Int)) + 1) = ((4 * i + 1 : Nat) : Int) := by
  rw [cY (z := 4 * (i : Int)) (by omega) (by omega), cY (by omega) (by omega)]; omega
 have e4 : IntKind.wrap .i64 (IntKind.wrap .i64 (4 * (i : Int)) + 4) = ((4 * i + 4 : Nat) : Int) := by
  rw [cY (z := 4 * (i : Int)) (by omega) (by omega), cY (by omega) (by omega)]; omega
 rw [e1, e4]
 refine ⟨fun d vs M => ∃ kk out : Nat, vs = [.int .i64 (out : Int), .int .i64 (kk : Int)] ∧ d = 4 * i + 5 - kk ∧ kk ≤ 4 * i + 5 ∧ out < l.length ∧ out < kk ∧ fU l (4 * i + 5 - kk) kk out = gv l i ∧ Hp R (P A l.length c s :: fL A c l :: L) M,
  ⟨_, 4 * i + 1, i, rfl, rfl, by omega, hi, by omega, by rw [show 4 * i + 5 - (4 * i + 1) = 4 from by omega]; rfl, h⟩, ?_⟩
 clear h
 rintro d _ n5 n6 M ⟨kk, out, he, hd, hkk, ho, hok, hf, h⟩
 simp only [List.cons.injEq, Value.int.injEq, and_true, true_and] at he
 obtain ⟨rfl, rfl⟩ := he
 refine aJ.2 ⟨fun hle => ?_, fun hgt => ?_⟩
 ·rw [D.Gi _ _ _ _ _ _ _ h]
  obtain ⟨n, hn⟩ : ∃ n, 4 * i + 5 - kk = n + 1 := ⟨4 * i + 4 - kk, by omega⟩
  rw [hn] at hf
  rw [wO] at hf
  refine bk ?_
  refine aJ.2 ⟨fun hlt => ?_, fun hge => ?_⟩
  ·rw [if_pos (by omega)] at hf
   obtain ⟨q, rfl⟩ := h.bA (A := A) (by omega) (by decide)
   have hs := h.src (A := some ⟨q, 0, none⟩)
   refine bk ⟨by omega, by omega, bp ?_⟩
   refine kO h hs (lj (i := kk) (by omega)) (by simp) (by simp) (by simp) ?_
   refine bk ⟨by omega, by omega, bp ?_⟩
   refine kO h hs (lj (i := out) (by omega)) (by simp) (by simp) (by simp) ?_
   refine vY h ?_
   clear h hs; intro M h
   refine nw ?_
   have e : IntKind.wrap .i64 ((kk : Int) + 1) = ((kk + 1 : Nat) : Int) := by rw [cY (by omega) (by omega)]; omega
   rw [e]
   cases hb : (m9 l kk).before (m9 l out) with
   | true =>
    rw [hb] at hf
    exact af ⟨n, by omega, kk + 1, kk, rfl, by omega, by omega, by omega, by omega, by rw [show 4 * i + 5 - (kk + 1) = n from by omega]; exact hf, h⟩
   | false =>
    rw [hb] at hf
    exact ai ⟨n, by omega, kk + 1, out, rfl, by omega, by omega, by omega, by omega, by rw [show 4 * i + 5 - (kk + 1) = n from by omega]; exact hf, h⟩
  ·rw [if_neg (by omega)] at hf
   subst hf
   exact k _ h
 ·have : 4 * i + 5 - kk = 0 := by omega
  rw [this] at hf
  have Fi : out = gv l i := hf
  subst Fi
  exact k _ h
theorem J2 (D : RK b o P) {f : Nat} (h : Hp R (P A l.length c s :: fL A c l :: L) M) (hi : i < l.length) (hl : l.length ≤ 1000000) (hf : l.length ≤ f + i)
  (k : ∀ M', Hp R (P A l.length c s :: fL A c (nA f i l) :: L) M' → K (.tuple #[]) M') : aa Tryz.prog 155 #[.pointer (some ⟨b, o, none⟩), .int .i64 (i : Int)] M K Kp := by
 refine tx ?_
 refine yK D h hi hl ?_
 clear h; intro M h
 refine cy ?_
 refine ⟨fun d vs M => ∃ (f' i' : Nat) (l' : List bq), vs = [.int .i64 (i' : Int), .int .i64 (gv l' i' : Int)] ∧ d = l.length - i' ∧ i' < l.length ∧ l'.length = l.length ∧ l.length ≤ f' + i' ∧ nA f' i' l' = nA f i l ∧ Hp R (P A l.length c s :: fL A c l' :: L) M,
  ⟨_, f, i, l, rfl, rfl, hi, rfl, hf, rfl, h⟩, ?_⟩
 clear h
 rintro d _ n5 n6 M ⟨f', i', l', he, hd, hi', hl', Yh, Be, h⟩
 simp only [List.cons.injEq, Value.int.injEq, and_true, true_and] at he
 obtain ⟨rfl, rfl⟩ := he
 obtain ⟨g, rfl⟩ : ∃ g, f' = g + 1 := ⟨f' - 1, by omega⟩
 rw [Gw] at Be
 obtain ⟨m1, m2⟩ := Bd (l := l') (i := i') (by omega)
 rw [← hl'] at h
 refine eu.2 ⟨fun hne => ?_, fun heq => ?_⟩
 ·rw [if_neg (by intro e; apply hne; rw [e])] at Be
  refine vn D h (i := i') (j := gv l' i') (by omega) (by omega) ?_
  clear h; intro M h
  refine ⟨rfl, ?_⟩
  have VB : (ef l' i' (gv l' i')).length = l'.length := eO
  rw [← VB] at h
  refine yK D h (by omega) (by omega) ?_
  clear h; intro M h
  rw [VB] at h
  refine cy ?_
  exact ⟨l.length - gv l' i', by omega, g, gv l' i', _, rfl, rfl, by omega, by omega, by omega, Be, by rw [← hl']; exact h⟩
 ·rw [if_pos (by omega)] at Be
  subst Be
  rw [hl'] at h
  exact k _ h
theorem HX (D : RK b o P) {f : Nat} (h : Hp R (P A l.length c s :: fL A c l :: L) M) (hi : i < l.length) (hl : l.length ≤ 1000000) (hf : i ≤ f)
  (k : ∀ M', Hp R (P A l.length c s :: fL A c (J0 f i l) :: L) M' → K (.tuple #[]) M') : aa Tryz.prog 156 #[.pointer (some ⟨b, o, none⟩), .int .i64 (i : Int)] M K Kp := by
 refine wF ?_
 refine ⟨fun d vs M => ∃ (f' i' : Nat) (l' : List bq), vs = [.int .i64 (i' : Int)] ∧ d = i' ∧ i' < l.length ∧ l'.length = l.length ∧ i' ≤ f' ∧ J0 f' i' l' = J0 f i l ∧ Hp R (P A l.length c s :: fL A c l' :: L) M,
  ⟨_, f, i, l, rfl, rfl, hi, rfl, hf, rfl, h⟩, ?_⟩
 clear h
 rintro d _ n5 M ⟨f', i', l', he, hd, hi', hl', Yh, Be, h⟩
 simp only [List.cons.injEq, Value.int.injEq, and_true, true_and] at he
 subst he
 refine aJ.2 ⟨fun hgt => ?_, fun hle => ?_⟩
 ·obtain ⟨g, rfl⟩ : ∃ g, f' = g + 1 := ⟨f' - 1, by omega⟩
  rw [Er] at Be
  have ep : IntKind.wrap .i64 (Int.tdiv (IntKind.wrap .i64 ((i' : Int) - 1)) 4) = (((i' - 1) / 4 : Nat) : Int) := by
   rw [cY (z := (i' : Int) - 1) (by omega) (by omega), show ((i' : Int) - 1) = ((i' - 1 : Nat) : Int) from by omega, show (4 : Int) = ((4 : Nat) : Int) from rfl, ← Int.ofNat_tdiv, cY (by omega) (by omega)]
  have hp : (i' - 1) / 4 < i' := by omega
  generalize hpe : (i' - 1) / 4 = p at ep Be hp
  rw [ep, D.Gi _ _ _ _ _ _ _ h]
  obtain ⟨q, rfl⟩ := h.bA (A := A) (by omega) (by decide)
  have hs := h.src (A := some ⟨q, 0, none⟩)
  refine ⟨by omega, bk ⟨by omega, by omega, bp ?_⟩⟩
  refine kO h hs (lj (i := i') (by omega)) (by simp) (by simp) (by simp) ?_
  refine bk ⟨by omega, by omega, bp ?_⟩
  refine kO h hs (lj (i := p) (by omega)) (by simp) (by simp) (by simp) ?_
  refine vY h ?_
  clear h hs; intro M h
  refine nw ?_
  cases hb : (m9 l' i').before (m9 l' p) with
  | true =>
   rw [if_pos ⟨by omega, hb⟩] at Be
   refine af ⟨by omega, ?_⟩
   rw [← hl'] at h
   refine vn D h (i := i') (j := p) (by omega) (by omega) ?_
   clear h; intro M h
   rw [hl'] at h
   exact ⟨rfl, by omega, p, by omega, g, p, _, rfl, rfl, by omega, by rw [eO]; exact hl', by omega, Be, h⟩
  | false =>
   rw [if_neg (by rintro ⟨_, h2⟩; rw [hb] at h2; cases h2)] at Be
   refine ai ?_
   subst Be
   exact k _ h
 ·have : J0 f' i' l' = l' := by
   have h0 : i' = 0 := by omega
   subst h0
   cases f' with
   | zero => rfl
   | succ g => rw [Er]; rw [if_neg (by omega)]
  rw [this] at Be
  subst Be
  exact k _ h
theorem J3 (D : RK b o P) {t id : Int} (h : Hp R (P A l.length c s :: fL A c l :: L) M) (hl : l.length < 1000000)
  (k : ∀ v A' c' M', Hp R (P A' (l.length + 1) c' (IntKind.wrap .u64 (s + 1)) :: fL A' c' (qX l ⟨t, s, id⟩) :: L) M' → K (.int .u64 v) M') : aa Tryz.prog 244 #[.pointer (some ⟨b, o, none⟩), .int .u64 t, .int .i64 id] M K Kp := by
 refine tB ?_
 rw [D.Gi _ _ _ _ _ _ _ h, D.ldI _ _ _ _ _ _ _ h]
 refine bk (cy ?_)
 refine aj h ?_
 clear h; intro kb M h
 replace h : Hp R (P A l.length c s :: fL A c l :: pt kb [.int .u64 t, .int .u64 s, .int .i64 id] 203 :: L) M := h.sub bM
 refine h.bD (A := A) HU [(⟨t, s, id⟩ : bq)] rfl rfl (by simp only [List.length_singleton]; omega) ?_
 clear h; intro A' c' M h
 refine bk ?_
 have hlen : (l ++ [(⟨t, s, id⟩ : bq)]).length = l.length + 1 := by simp
 refine D.Xw _ _ _ _ _ _ _ _ _ _ _ h.swap ?_
 clear h; intro M h
 rw [D.ldI _ _ _ _ _ _ _ h]
 refine cy ?_
 refine D.stI _ _ _ _ _ _ _ _ _ h ?_
 clear h; intro M h
 rw [D.Gi _ _ _ _ _ _ _ h]
 refine bk ?_
 have e : IntKind.wrap .i64 (((l ++ [(⟨t, s, id⟩ : bq)]).length : Int) - 1) = ((l.length : Nat) : Int) := by
  rw [cY (by omega) (by omega)]; omega
 rw [e]
 refine HX D (f := l.length) h (by omega) (by omega) (Nat.le_refl _) ?_
 clear h; intro M h
 refine ⟨rfl, ?_⟩
 rw [D.ldI _ _ _ _ _ _ _ h]
 refine cy ?_
 rw [hlen] at h
 exact k _ _ _ _ h
theorem Et (D : RK b o P) (h : Hp R (P A l.length c s :: fL A c l :: L) M) (hi : i < l.length) (hl : l.length ≤ 1000000)
  (k : ∀ M', Hp R (P A (l.length - 1) c s :: fL A c (dK l i) :: L) M' → K (.agg #[.int .u64 (m9 l i).t, .int .u64 (m9 l i).seq, .int .i64 (m9 l i).id]) M') : aa Tryz.prog 117 #[.pointer (some ⟨b, o, none⟩), .int .i64 (i : Int)] M K Kp := by
 refine qm ?_
 have hcap := h.jk A
 obtain ⟨q, rfl⟩ := h.bA (A := A) (by omega) (by decide)
 refine aj h ?_
 clear h; intro k1 M h
 have hs := h.src (A := some ⟨q, 0, none⟩)
 replace h : Hp R (P (some ⟨q, 0, none⟩) l.length c s :: fL (some ⟨q, 0, none⟩) c l :: pt k1 [.int .u64 0, .int .u64 0, .int .i64 0] 203 :: L) M := h.sub bM
 replace hs := h.src (A := some ⟨q, 0, none⟩)
 rw [D.Gi _ _ _ _ _ _ _ h]
 refine bk ⟨by omega, by omega, bp ?_⟩
 refine kO h hs (lj hi) (by simp) (by simp) (by simp) ?_
 clear hs
 generalize hx : m9 l i = x at k
 refine aj h ?_
 clear h; intro k2 M h
 refine aq h ?_
 clear h; intro M h
 refine aq h ?_
 clear h; intro M h
 refine aq h ?_
 clear h; intro M h
 replace h : Hp R (P (some ⟨q, 0, none⟩) l.length c s :: fL (some ⟨q, 0, none⟩) c l :: pt k2 [.int .u64 x.t, .int .u64 x.seq, .int .i64 x.id] 203 :: pt k1 [.int .u64 0, .int .u64 0, .int .i64 0] 203 :: L) M := h.sub bM
 rw [D.Gi _ _ _ _ _ _ _ h]
 have e : IntKind.wrap .i64 ((l.length : Int) - 1) = ((l.length - 1 : Nat) : Int) := by
  rw [cY (by omega) (by omega)]; omega
 refine bk ?_
 rw [e]
 refine vn D h hi (j := l.length - 1) (by omega) ?_
 clear h; intro M h
 refine ⟨rfl, ?_⟩
 rw [D.Gi _ _ _ _ _ _ _ h]
 refine bk ⟨by omega, by omega, by omega, by omega, by omega, by omega, ?_⟩
 have e2 : lC (some ⟨q, 0, none⟩) 0 (Int.toNat (c : Int)) 3 = some ⟨q, 0, none⟩ := by
  unfold lC; rw [if_neg (by simp; omega)]; rfl
 rw [e2]
 simp only [Int.toNat_natCast, Nat.sub_zero]
 refine D.Xw _ _ _ _ _ _ _ _ _ _ _ h ?_
 clear h; intro M h
 have VB : ((ef l i (l.length - 1)).take (l.length - 1)).length = l.length - 1 := by rw [List.length_take, eO]; omega
 have fin : ∀ (M : Mem) (Q : List HP), Hp R (P (some ⟨q, 0, none⟩) (l.length - 1) c s :: fL (some ⟨q, 0, none⟩) c (dK l i) :: pt k2 [.int .u64 x.t, .int .u64 x.seq, .int .i64 x.id] 203 :: pt k1 [.int .u64 0, .int .u64 0, .int .i64 0] 203 :: L) M →
   aH (Mem.ld M ⟨k2, 0, none⟩) .u64 fun DG => aH (Mem.ld M ⟨k2, (0 + 1), none⟩) .u64 fun DM => aH (Mem.ld M ⟨k2, (0 + 2), none⟩) .i64 fun td =>
   aI M ⟨k1, 0, none⟩ (.int .u64 DG) fun qQ => aI qQ ⟨k1, (0 + 1), none⟩ (.int .u64 DM) fun zq => aI zq ⟨k1, (0 + 2), none⟩ (.int .i64 td) fun qS =>
   aH (Mem.ld qS ⟨k1, 0, none⟩) .u64 fun KD => aH (Mem.ld qS ⟨k1, (0 + 1), none⟩) .u64 fun zM => aH (Mem.ld qS ⟨k1, (0 + 2), none⟩) .i64 fun O9 =>
   K (.agg #[(.int .u64 KD), (.int .u64 zM), (.int .i64 O9)]) qS := by
  intro M _ h
  refine aG h (aG h (aG h ?_))
  refine aq h ?_
  clear h; intro M h
  refine aq h ?_
  clear h; intro M h
  refine aq h ?_
  clear h; intro M h
  refine aG h (aG h (aG h ?_))
  exact k _ (h.sub bM)
 replace h : Hp R (P (some ⟨q, 0, none⟩) (l.length - 1) c s :: fL (some ⟨q, 0, none⟩) c ((ef l i (l.length - 1)).take (l.length - 1)) :: pt k2 [.int .u64 x.t, .int .u64 x.seq, .int .i64 x.id] 203 :: pt k1 [.int .u64 0, .int .u64 0, .int .i64 0] 203 :: L) M := (h.swap.Lu (l.length - 1)).swap
 unfold dK at fin
 refine aJ.2 ⟨fun hlt => ?_, fun hge => ?_⟩
 ·rw [if_pos (by omega)] at fin
  have h' : Hp R (P (some ⟨q, 0, none⟩) ((ef l i (l.length - 1)).take (l.length - 1)).length c s :: fL (some ⟨q, 0, none⟩) c ((ef l i (l.length - 1)).take (l.length - 1)) :: pt k2 [.int .u64 x.t, .int .u64 x.seq, .int .i64 x.id] 203 :: pt k1 [.int .u64 0, .int .u64 0, .int .i64 0] 203 :: L) M := by rw [VB]; exact h
  clear h
  have h := h'
  clear h'
  refine J2 D (f := l.length) h (by omega) (by omega) (by omega) ?_
  clear h; intro M h
  refine ⟨rfl, ?_⟩
  rw [show ((ef l i (l.length - 1)).take (l.length - 1)).length = (nA l.length i ((ef l i (l.length - 1)).take (l.length - 1))).length from iN.symm] at h
  refine HX D (f := i) h (by rw [iN]; omega) (by rw [iN]; omega) (Nat.le_refl _) ?_
  clear h; intro M h
  refine ⟨rfl, ?_⟩
  rw [iN, VB] at h
  exact fin M [] h
 ·rw [if_neg (by omega)] at fin
  exact fin M [] h
theorem J4 (D : RK b o P) {now : Int} (h : Hp R (P A l.length c s :: fL A c l :: L) M) (hl : l.length ≤ 1000000)
  (k : ∀ A' c' M', Hp R (P A (dn l.length l now).1.length c s :: fL A c (dn l.length l now).1 :: fL A' c' (dn l.length l now).2 :: L) M' → K (.slice A' (dn l.length l now).2.length c') M') :
  aa Tryz.prog 157 #[.pointer (some ⟨b, o, none⟩), .int .u64 now] M K Kp := by
 refine tv ?_
 have h0 := h.cE tu 203
 refine ⟨fun d vs M => ∃ (A' : Option Addr) (c' : Nat) (out l' : List bq), vs = [.slice A' out.length c'] ∧ d = l'.length ∧ l'.length + out.length = l.length ∧ (dn l'.length l' now).1 = (dn l.length l now).1 ∧ out ++ (dn l'.length l' now).2 = (dn l.length l now).2 ∧
   Hp R (P A l'.length c s :: fL A c l' :: fL A' c' out :: L) M, ⟨_, none, 0, [], l, rfl, rfl, rfl, rfl, rfl, h0.sub bM⟩, ?_⟩
 clear h h0
 rintro d _ A' n' c' M ⟨A2, c2, out, l', he, hd, VB, e1, e2, h⟩
 simp only [List.cons.injEq, Value.slice.injEq, and_true, true_and] at he
 obtain ⟨rfl, rfl, rfl⟩ := he
 rw [D.Gi _ _ _ _ _ _ _ h]
 have stop : ¬ (0 < l'.length ∧ (m9 l' 0).t ≤ now) → K (.slice A' out.length c') M := by
  intro hn
  have e : dn l'.length l' now = (l', []) := by
   cases hl' : l'.length with
   | zero => rfl
   | succ m => rw [yJ]; rw [if_neg hn]
  rw [e] at e1 e2
  dsimp only at e1 e2
  rw [List.append_nil] at e2
  subst e1; subst e2
  exact k _ _ _ h
 refine bk ?_
 refine aJ.2 ⟨fun hgt => ?_, fun hle => stop (by omega)⟩
 have hcap := h.jk A
 obtain ⟨q, rfl⟩ := h.bA (A := A) (by omega) (by decide)
 have hs := h.src (A := some ⟨q, 0, none⟩)
 refine bk ⟨by omega, by omega, bp ?_⟩
 refine bn (Src.at hs h (i := 0) (j := 0) (lj (by omega)) rfl rfl) ?_
 clear hs
 refine aJ.2 ⟨fun hle => ?_, fun hgt2 => stop (fun hn => hgt2 hn.2)⟩
 refine Et D h (i := 0) (by omega) (by omega) ?_
 clear h stop; intro M h
 refine ⟨_, _, _, rfl, ?_⟩
 refine aj h ?_
 clear h; intro kb M h
 refine h.bD (A := A') HU [m9 l' 0] rfl rfl (by simp only [List.length_singleton]; omega) ?_
 clear h; intro A3 c3 M h
 refine bk ?_
 have jx : (dK l' 0).length = l'.length - 1 := Es
 have hw : dn l'.length l' now = ((dn (dK l' 0).length (dK l' 0) now).1, m9 l' 0 :: (dn (dK l' 0).length (dK l' 0) now).2) := by
  obtain ⟨m, hm⟩ : ∃ m, l'.length = m + 1 := ⟨l'.length - 1, by omega⟩
  rw [jx, hm]
  show dn (m + 1) l' now = _
  rw [yJ]
  rw [if_pos ⟨by omega, hle⟩]; rfl
 rw [hw] at e1 e2
 rw [← jx] at h
 exact ⟨_, by omega, A3, c3, out ++ [m9 l' 0], dK l' 0, rfl, rfl, by simp; omega, e1, by rw [List.append_assoc]; exact e2, h.sub bM⟩
end
def nT (x : Wd) (k : Int) : Lk := x.aU.getD k.toNat ⟨-1, []⟩
def Wd.fV (x : Wd) (k : Int) (c : Lk) : Wd := { x with aU := x.aU.set k.toNat c }
def Wd.lock (x : Wd) (g : Int) (i : dB) : Wd := if ((nT x i.a).take g).2 then x.fV i.a ((nT x i.a).take g).1 else (x.fV i.a ((nT x i.a).take g).1).block g i
def Wd.unlock (x : Wd) (g : Int) (i : dB) : Out Wd :=
 if ((nT x i.a).qM g).2.2 ≠ 0 then .dx (-3) (x.fV i.a ((nT x i.a).qM g).1)
 else if ((nT x i.a).qM g).2.1 ≠ -1 then .on ((x.fV i.a ((nT x i.a).qM g).1).dV ((nT x i.a).qM g).2.1) else .on (x.fV i.a ((nT x i.a).qM g).1)
def CC (x : Wd) (k : Int) : Prop := 0 ≤ k ∧ k < x.aU.length
instance (x : Wd) (k : Int) : Decidable (CC x k) := by unfold CC; infer_instance
def lX (x : Wd) (g : Int) (i : dB) : Prop := CC x i.a ∧ (((nT x i.a).qM g).2.1 ≠ -1 → 0 ≤ ((nT x i.a).qM g).2.1 ∧ ((nT x i.a).qM g).2.1 < x.gs.length)
instance (x : Wd) (g : Int) (i : dB) : Decidable (lX x g i) := by unfold lX; infer_instance
def Wd.rand (x : Wd) (g : Int) (i : dB) : jf → Out Wd
 | .num d => .on ((x.next g).bg g i.a d)
 | .cz l => .cz l x
def o5 (x : Wd) (g : Int) (i : dB) : Int := if 1048576 < aZ x g i.a then 1048576 else aZ x g i.a
def Wd.sleep (x : Wd) (g : Int) (i : dB) : Wd :=
 if 0 < o5 x g i then { x.bh g { ae x g with st := 3 } with hl := qX x.hl ⟨IntKind.wrap .u64 (x.clock + IntKind.wrap .u64 (o5 x g i)), x.lQ, g⟩, lQ := IntKind.wrap .u64 (x.lQ + 1) } else x
def Wd.tick (x : Wd) : Wd := if x.end_ ≠ 0 then { x with ready := [] } else
 let r := dn x.hl.length x.hl (IntKind.wrap .u64 (x.clock + 1))
 (r.2.map (·.id)).foldl Wd.dV { x with clock := IntKind.wrap .u64 (x.clock + 1), hl := r.1, ready := [] }
section
variable {R : Mem} {L L' L2 : List HP} {M : Mem} {K : Value → Mem → Prop} {Kp : List PanicEntry → Mem → Prop} {pa : PA} {p : cj} {gg : List GA} {dr : Value} {b : Nat} {x : Wd} {g : Int} {i : dB}
theorem Qe (hg : aW x g) (hb : bx i.b) : fI R pa p dr 211 x g i (x.call g i) L L := by
 intro gg b bs c M K Kp Q h ee k
 refine qn ?_
 have zx := hg
 obtain ⟨h0, h1, h2, h3⟩ := zx
 unfold Wd.call at k
 refine aj h ?_
 clear h
 intro kb M h
 have hC := h
 have h' := gk h (b := b) h0 h1 ee
 clear h
 obtain ⟨a, gb, hl, fx, h⟩ := h'
 have hl' := hl
 obtain ⟨l1, l2, l3, l4⟩ := hl'
 repeat (first|(refine aj h ?_;clear h;intro kb M h)|(refine aq h ?_;clear h;intro M h)|refine St.to h ?_|(apply Exists.intro;(repeat apply Exists.intro);refine And.intro rfl ?_)|refine au ?_|refine af ?_|refine ai ?_)
 refine uy h fx fun q hq => ?_
 repeat (first|(refine aj h ?_;clear h;intro kb M h)|(refine aq h ?_;clear h;intro M h)|refine St.to h ?_|(apply Exists.intro;(repeat apply Exists.intro);refine And.intro rfl ?_)|refine au ?_|refine af ?_|refine ai ?_)
 refine ⟨hb.1, hb.2, tK h (dJ h2) hb rfl ?_⟩
 repeat (first|(refine aj h ?_;clear h;intro kb M h)|(refine aq h ?_;clear h;intro M h)|refine St.to h ?_|(apply Exists.intro;(repeat apply Exists.intro);refine And.intro rfl ?_)|refine au ?_|refine af ?_|refine ai ?_)
 refine F7 h h2 ?_ ?_
 ·intro tL
  rw [if_pos (by omega)] at k
  refine ⟨_, _, _, _, rfl, af ?_⟩
  exact k _ _ (hC.sub bM)
 ·intro hlt b' c' M' h'
  clear h hC
  have h := h'
  clear h'
  rw [if_neg (by omega)] at k
  refine ⟨_, _, _, _, rfl, ai ?_⟩
  repeat (first|(refine aj h ?_;clear h;intro kb M h)|(refine aq h ?_;clear h;intro M h)|refine St.to h ?_|(apply Exists.intro;(repeat apply Exists.intro);refine And.intro rfl ?_)|refine au ?_|refine af ?_|refine ai ?_)
  refine uy h fx fun q2 kK => ?_
  repeat (first|(refine aj h ?_;clear h;intro kb M h)|(refine aq h ?_;clear h;intro M h)|refine St.to h ?_|(apply Exists.intro;(repeat apply Exists.intro);refine And.intro rfl ?_)|refine au ?_|refine af ?_|refine ai ?_)
  have hlen : (ae x g).fs.length + 1 = ((ae x g).fs ++ [(⟨i.a, 0, [aZ x g i.b, 0, 0, 0, 0, 0, 0, 0], i.c⟩ : fM)]).length := by simp
  have h5 := lW (A := some ⟨b', 0, none⟩) (fs := (ae x g).fs ++ [⟨i.a, 0, [aZ x g i.b, 0, 0, 0, 0, 0, 0, 0], i.c⟩]) h gb hlen
  have hi := (List.getElem?_eq_some_iff.1 fx).1
  have h6 := h5.dw fF gb fx (by rw [List.length_zip]; omega)
  rw [yG] at h6
  have kq : eB (gg.set g.toNat (some ⟨b', 0, none⟩, c')) a (x.bh g ⟨(ae x g).st, (ae x g).fs ++ [⟨i.a, 0, [aZ x g i.b, 0, 0, 0, 0, 0, 0, 0], i.c⟩], (ae x g).wt⟩) := ⟨by simpa [Wd.bh] using l1, by simpa [Wd.bh] using l2, l3, l4⟩
  have h7 := aQ (a := a) (p := p) (pa := pa) (dr := dr) (gg := gg.set g.toNat (some ⟨b', 0, none⟩, c')) (x := x.bh g ⟨(ae x g).st, (ae x g).fs ++ [⟨i.a, 0, [aZ x g i.b, 0, 0, 0, 0, 0, 0, 0], i.c⟩], (ae x g).wt⟩) kq h6 b
  exact k _ _ (h7.sub bM)
theorem HY {a : WA} {k : Int} {c : Lk} (hl : eB gg a x) : eB gg a (x.fV k c) := by
 obtain ⟨l1, l2, l3, l4⟩ := hl
 exact ⟨l1, l2, l3, by simpa [Wd.fV] using l4⟩
theorem Qf (hg : aW x g) (hk : CC x i.a) (hs : x.Sm) : fI R pa p dr 219 x g i (.on (x.lock g i)) L L := by
 intro gg b bs c M K Kp Q h ee k
 refine qu ?_
 replace k : ∀ kM M', Hp R (ay (bj pa p kM dr) b (x.lock g i) :: Q :: L) M' → K (.tuple #[]) M' := k
 unfold Wd.lock at k
 obtain ⟨s1, s2, s3, s4, s5, s6, s7, s8⟩ := hs
 obtain ⟨k0, k1⟩ := hk
 refine aj h ?_
 clear h
 intro kb M h
 have h' := bY h (b := b)
 clear h
 obtain ⟨a, hl, h⟩ := h'
 have hl' := hl
 obtain ⟨l1, l2, l3, l4⟩ := hl'
 refine be h (aG h ⟨k0, by omega, ?_⟩)
 obtain ⟨lb, hlb⟩ := aO (l := a.lb) (i := i.a.toNat) (by omega)
 refine uy h hlb fun q hq => ?_
 obtain ⟨y, hy⟩ := aO (l := x.aU) (i := i.a.toNat) (by omega)
 have e : nT x i.a = y := by simp [nT, hy]
 rw [e] at k
 replace h := h.cQ fu hlb hy
 refine F8 h (Nat.le_trans (s6 y (List.mem_of_getElem? hy)) (by decide)) ?_
 clear h; intro M h
 replace h := h.dw fu lb hlb (by omega)
 replace h := aQ (a := a) (p := p) (pa := pa) (dr := dr) (gg := gg) (x := x.fV i.a (y.take g).1) (HY hl) h b
 refine nw ?_
 cases ht : (y.take g).2 with
 | true =>
  rw [ht] at k
  simp only [if_true] at k
  refine ai ?_
  exact k _ _ (h.sub bM)
 | false =>
  rw [ht] at k
  simp only [Bool.false_eq_true, if_false] at k
  refine af ?_
  refine aG h (aG h (aG h (aG h ?_)))
  refine kJ (b := b) (i := i) h hg.1 (show g < (x.fV i.a (y.take g).1).gs.length from hg.2.1) ?_
  clear h; intro M h
  exact ⟨rfl, k _ _ (h.sub bM)⟩
theorem J5 (hk : lX x g i) (hs : x.Sm) : fI R pa p dr 220 x g i (x.unlock g i) L L := by
 intro gg b bs c M K Kp Q h ee k
 refine nK ?_
 unfold Wd.unlock at k
 obtain ⟨s1, s2, s3, s4, s5, s6, s7, s8⟩ := hs
 obtain ⟨⟨k0, k1⟩, hw⟩ := hk
 refine aj h ?_
 clear h
 intro kb M h
 have h' := bY h (b := b)
 clear h
 obtain ⟨a, hl, h⟩ := h'
 have hl' := hl
 obtain ⟨l1, l2, l3, l4⟩ := hl'
 refine be h (aG h ⟨k0, by omega, ?_⟩)
 obtain ⟨lb, hlb⟩ := aO (l := a.lb) (i := i.a.toNat) (by omega)
 refine uy h hlb fun q hq => ?_
 obtain ⟨y, hy⟩ := aO (l := x.aU) (i := i.a.toNat) (by omega)
 have e : nT x i.a = y := by simp [nT, hy]
 rw [e] at k hw
 replace h := h.cQ fu hlb hy
 refine F9 h (Nat.le_trans (s6 y (List.mem_of_getElem? hy)) (by decide)) ?_
 clear h; intro M h
 replace h := h.dw fu lb hlb (by omega)
 replace h := aQ (a := a) (p := p) (pa := pa) (dr := dr) (gg := gg) (x := x.fV i.a (y.qM g).1) (HY hl) h b
 refine ⟨_, _, rfl, ?_⟩
 refine eu.2 ⟨fun hn => ?_, fun hn => ?_⟩
 ·rw [if_pos hn] at k
  exact k _ _ (h.sub bM)
 rw [if_neg (by simpa using hn)] at k
 refine eu.2 ⟨fun wq => ?_, fun wq => ?_⟩
 ·rw [if_pos wq] at k
  obtain ⟨w0, w1⟩ := hw wq
  refine gI (b := b) h w0 (show _ < ((x.fV i.a (y.qM g).1).gs.length : Int) from w1) (by show x.ready.length ≤ _; omega) ?_
  clear h; intro M h
  exact ⟨rfl, k _ _ (h.sub bM)⟩
 ·rw [if_neg (by simpa using wq)] at k
  exact k _ _ (h.sub bM)
theorem Qg : fI R pa p dr 222 x g i (.dx i.a x) L L := by
 intro gg b bs c M K Kp Q h ee k
 refine qw ?_
 refine aj h ?_
 clear h
 intro kb M h
 refine aG h ?_
 exact k _ _ (h.sub bM)
theorem Nj : fI R pa p dr 214 x g i (.on x) L L := by
 intro gg b bs c M K Kp Q h ee k
 refine oJ ?_
 refine aj h ?_
 clear h
 intro kb M h
 exact k _ _ (h.sub bM)
theorem Qh {d : jf} (hg : aW x g) (ha : bx i.a) (zV : 0 ≤ (ae x g).top.pc ∧ (ae x g).top.pc < 1000000000) (hd : iq R dr 4 i.b d L L2) : fI R pa p dr 192 x g i (x.rand g i d) L L2 := by
 intro gg b bs c M K Kp Q h ee k
 refine ql ?_
 refine aj h ?_
 clear h
 intro kb M h
 have yH : M.ld ⟨b, 0 + 14, none⟩ = some dr := by
  obtain ⟨a, hl, h9⟩ := bY h (b := b)
  exact bH h9
 rw [yH]
 refine Lq (aG h ?_)
 have h5 : Hp R (sep [ay (bj pa p gg dr) b x, pt kb [.int .i64 i.op, .int .i64 i.a, .int .i64 i.b, .int .i64 i.c] 27, Q] :: L) M := Hp.aR.2 (h.sub bM)
 refine hd _ _ _ _ h5 ?_
 clear h h5 yH
 cases d with
 | cz l =>
  dsimp only at k ⊢
  intro M h5
  have h : Hp R (ay (bj pa p gg dr) b x :: pt kb [.int .i64 i.op, .int .i64 i.a, .int .i64 i.b, .int .i64 i.c] 27 :: Q :: L2) M := Hp.aR.1 h5
  exact k _ _ (h.sub bM)
 | num v =>
  dsimp only at k ⊢
  intro M h5
  have h : Hp R (ay (bj pa p gg dr) b x :: pt kb [.int .i64 i.op, .int .i64 i.a, .int .i64 i.b, .int .i64 i.c] 27 :: Q :: L2) M := Hp.aR.1 h5
  clear h5
  refine cy ?_
  refine Gv (b := b) h hg ee rfl ?_
  rw [iM zV.1 (by omega)]
  refine Gu (b := b) h hg ee rfl rfl ?_
  clear h; intro M h
  refine aG h ⟨ha.1, ha.2, ?_⟩
  refine kL (b := b) h (sr hg) ee ha (by rw [Cz hg]) ?_
  clear h; intro M h
  exact k _ _ (h.sub bM)
abbrev CD (pa : PA) (p : cj) (dr : Value) (a : WA) (x : Wd) (nr : Nat) (A : Option Addr) (n c : Nat) (s : Int) : List Value :=
 [.slice pa.f p.funcs.length pa.fc, .slice pa.c p.nY.length pa.cc, .int .i64 p.aU, .slice pa.k p.cases.length pa.kc, .slice a.ag a.gb.length a.cg, .int .u64 x.clock,
  .slice a.ac a.cb.length a.cc, .slice a.al a.lb.length a.cl, .slice A n c, .int .u64 s, .slice a.ao x.out.length a.co, .int .i64 x.end_, .int .i64 x.code, .slice a.ar nr a.cr, dr]
theorem RL {a : WA} {nr T : Nat} : RK b (0 + 8) (fun A n c s => pt b (CD pa p dr a x nr A n c s) T) :=
 ⟨fun R L M A n c s h => bH h, fun R L M A n c s h => bH h, fun R L M A A' n c n' c' s G h k => aq h k, fun R L M A n c s s' G h k => aq h k⟩
theorem Nk (hg : aW x g) (ha : bx i.a) (hs : x.hl.length < 1000000) : fI R pa p dr 218 x g i (.on (x.sleep g i)) L L := by
 intro gg b bs c M K Kp Q h ee k
 refine oK ?_
 replace k : ∀ kM M', Hp R (ay (bj pa p kM dr) b (x.sleep g i) :: Q :: L) M' → K (.tuple #[]) M' := k
 have zx := hg
 obtain ⟨h0, h1, h2, h3⟩ := zx
 unfold Wd.sleep at k
 refine aj h ?_
 clear h
 intro kb M h
 refine aG h ⟨ha.1, ha.2, ?_⟩
 refine D9 (b := b) h hg ee ha rfl ?_
 have hC := h
 have h' := bY h (b := b)
 clear h
 obtain ⟨a, hl, h⟩ := h'
 have hl' := hl
 obtain ⟨l1, l2, l3, l4⟩ := hl'
 have e : (if (1048576 : Int) < aZ x g i.a then 1048576 else aZ x g i.a) = o5 x g i := rfl
 rw [e]
 refine aJ.2 ⟨fun hn => ?_, fun hn => ?_⟩
 ·rw [if_pos (by omega)] at k
  refine aG h ?_
  clear hC
  replace h : Hp R (pt b (CD pa p dr a x x.ready.length a.ah x.hl.length a.ch x.lQ) 161 :: fL a.ah a.ch x.hl :: aV fF a.gb (x.gs.zip gg) :: yq a.ag a.cg a.gb :: yu a.ac a.cc a.cb :: aV bz a.cb x.aC :: yw a.al a.cl a.lb :: aV fu a.lb x.aU :: xQ a.ao a.co x.out :: kA a.ar a.cr x.ready :: Q :: L) M := h.sub bM
  refine J3 (RL (a := a) (x := x)) h hs ?_
  clear h; intro v A' c' M h
  refine cy ?_
  have h9 : Hp R (ay (bj pa p gg dr) b { x with hl := qX x.hl ⟨IntKind.wrap .u64 (x.clock + IntKind.wrap .u64 (o5 x g i)), x.lQ, g⟩, lQ := IntKind.wrap .u64 (x.lQ + 1) } :: Q :: L) M := by
   have := J1 (l := x.hl) (x := ⟨IntKind.wrap .u64 (x.clock + IntKind.wrap .u64 (o5 x g i)), x.lQ, g⟩)
   rw [← this] at h
   exact jc (a := { a with ah := A', ch := c' }) (x := { x with hl := qX x.hl ⟨IntKind.wrap .u64 (x.clock + IntKind.wrap .u64 (o5 x g i)), x.lQ, g⟩, lQ := IntKind.wrap .u64 (x.lQ + 1) }) ⟨l1, l2, l3, l4⟩ (h.sub bM)
  clear h hl l1 l2 l3 l4
  have h := h9
  clear h9
  have h' := gk (x := { x with hl := qX x.hl ⟨IntKind.wrap .u64 (x.clock + IntKind.wrap .u64 (o5 x g i)), x.lQ, g⟩, lQ := IntKind.wrap .u64 (x.lQ + 1) }) h (b := b) h0 h1 ee
  clear h
  obtain ⟨a2, gb, hl, fx, h⟩ := h'
  have hl' := hl
  obtain ⟨l1, l2, l3, l4⟩ := hl'
  refine be h ⟨h0, by dsimp only at l1; omega, ?_⟩
  refine uy h fx fun q hq => ?_
  refine bp ?_
  refine aq h ?_
  clear h; intro M h
  replace h := cC h gb hl fx ee
  have kq := cR (y := { ae x g with st := 3 }) (g := g) hl
  replace h := aQ (a := a2) (p := p) (pa := pa) (dr := dr) (gg := gg) (x := { x.bh g { ae x g with st := 3 } with hl := qX x.hl ⟨IntKind.wrap .u64 (x.clock + IntKind.wrap .u64 (o5 x g i)), x.lQ, g⟩, lQ := IntKind.wrap .u64 (x.lQ + 1) }) kq h b
  exact k _ _ (h.sub bM)
 ·rw [if_neg (by omega)] at k
  exact k _ _ (hC.sub bM)
theorem Qi {l : List Int} : ∀ {x : Wd}, (l.foldl Wd.dV x).gs.length = x.gs.length := by
 induction l with
 | nil => intro x; rfl
 | cons a l ih => intro x; rw [List.foldl_cons, ih]; simp [Wd.dV, Wd.bh]
theorem Gx {l : List Int} : ∀ {x : Wd}, (l.foldl Wd.dV x).ready = x.ready ++ l := by
 induction l with
 | nil => intro x; simp
 | cons a l ih => intro x; rw [List.foldl_cons, ih]; simp [Wd.dV]
theorem Gy (h : Hp R L M) [o : HT b L pa p x L'] (hs : x.hl.length ≤ 1000000) (hw : ∀ y ∈ (dn x.hl.length x.hl (IntKind.wrap .u64 (x.clock + 1))).2, 0 ≤ y.id ∧ y.id < x.gs.length)
  (k : ∀ R' A c M', R.le R' → RS bI R' A c x.tick.ready → Hp R' (ay (bC pa p) b x.tick :: L') M' → K (.slice A x.tick.ready.length c) M') :
  aa Tryz.prog 120 #[.pointer (some ⟨b, 0, none⟩)] M K Kp := by
 refine qi ?_
 have h' := dP h (b := b)
 clear h
 obtain ⟨a, gg, dr, n, hl, h⟩ := h'
 have hl' := hl
 obtain ⟨l1, l2, l3, l4⟩ := hl'
 unfold Wd.tick at k
 dsimp only at k
 refine aG h ?_
 refine eu.2 ⟨fun he => ?_, fun he => ?_⟩
 ·rw [if_pos he] at k
  exact k R none 0 M (Mem.le_refl _) (RS.nil _ _) (kN (a := a) (gg := gg) (dr := dr) (n := n) (x := { x with ready := [] }) hl h)
 rw [if_neg (by simpa using he)] at k
 refine aG h ?_
 refine aq h ?_
 clear h; intro M h
 refine aq h ?_
 clear h; intro M h
 refine aG h ?_
 replace h : Hp R (pt b (CD pa p dr { a with ar := none, cr := 0 } { x with clock := IntKind.wrap .u64 (x.clock + 1) } 0 a.ah x.hl.length a.ch x.lQ) 161 :: fL a.ah a.ch x.hl :: aV fF a.gb (x.gs.zip gg) :: yq a.ag a.cg a.gb :: yu a.ac a.cc a.cb :: aV bz a.cb x.aC :: yw a.al a.cl a.lb :: aV fu a.lb x.aU :: xQ a.ao a.co x.out :: L') M := h.sub (by repeat (first | exact .refl | refine .cons (by repeat (first | exact .here | apply cG.there)) ?_ | apply Sub.drop))
 refine J4 (RL (a := { a with ar := none, cr := 0 }) (x := { x with clock := IntKind.wrap .u64 (x.clock + 1) })) h hs ?_
 clear h; intro A' c' M h
 have hlen : (dn x.hl.length x.hl (IntKind.wrap .u64 (x.clock + 1))).2.length ≤ x.hl.length := by
  have : ∀ (f : Nat) (l : List bq) (now : Int), (dn f l now).2.length ≤ f := by
   intro f
   induction f with
   | zero => intro l now; exact Nat.le_refl _
   | succ f ih =>
    intro l now; unfold dn; split
    ·have := ih (dK l 0) now; simp; exact this
    ·exact Nat.zero_le _
  exact this _ _ _
 generalize dn x.hl.length x.hl (IntKind.wrap .u64 (x.clock + 1)) = r at h k hw hlen
 refine bk ?_
 have h0 := h.cE bI 3
 have hW : Hp R (ay (bj pa p gg dr) b { x with clock := IntKind.wrap .u64 (x.clock + 1), hl := r.1, ready := [] } :: fL A' c' r.2 :: L') M :=
  jc (a := { a with ar := none, cr := 0 }) (x := { x with clock := IntKind.wrap .u64 (x.clock + 1), hl := r.1, ready := [] }) ⟨l1, l2, l3, l4⟩ (h0.sub (by repeat (first | exact .refl | refine .cons (by repeat (first | exact .here | apply cG.there)) ?_ | apply Sub.drop)))
 clear h h0
 generalize CA : ({ x with clock := IntKind.wrap .u64 (x.clock + 1), hl := r.1, ready := [] } : Wd) = x1 at hW k
 have RM : x1.gs.length = x.gs.length := by rw [← CA]
 have hrd : x1.ready = [] := by rw [← CA]
 refine ⟨fun d vs M => ∃ j : Nat, vs = [.int .i64 (j : Int)] ∧ d = r.2.length - j ∧ j ≤ r.2.length ∧ Hp R (ay (bj pa p gg dr) b (((r.2.take j).map (·.id)).foldl Wd.dV x1) :: fL A' c' r.2 :: L') M, ⟨_, 0, rfl, rfl, by omega, hW⟩, ?_⟩
 clear hW
 rintro d _ nn M ⟨j, si, hd, hj, h⟩
 simp only [List.cons.injEq, Value.int.injEq, and_true, true_and] at si
 subst si
 refine aJ.2 ⟨fun hlt => ?_, fun hge => ?_⟩
 ·obtain ⟨w, hww⟩ := aO (l := r.2) (i := j) (by omega)
  have hwm := hw w (List.mem_of_getElem? hww)
  obtain ⟨q, rfl⟩ := h.bA (A := A') (by omega) (by decide)
  have VC := h.src (A := some ⟨q, 0, none⟩)
  refine ⟨by omega, hlt, bp ?_⟩
  refine kO h VC hww (by simp) (by simp) (by simp) ?_
  clear VC
  refine aj h ?_
  clear h; intro kw M h
  refine aq h ?_
  clear h; intro M h
  refine aq h ?_
  clear h; intro M h
  refine aq h ?_
  clear h; intro M h
  refine aG h ?_
  refine gI (b := b) h hwm.1 (by rw [Qi, RM]; exact hwm.2) (by rw [Gx, hrd]; simp; omega) ?_
  clear h; intro M h
  refine ⟨rfl, r.2.length - (j + 1), by omega, j + 1, by rw [aS (by omega)], rfl, by omega, ?_⟩
  rw [cV hww, List.map_append, List.foldl_append]
  exact h.sub (by repeat (first | exact .refl | refine .cons (by repeat (first | exact .here | apply cG.there)) ?_ | apply Sub.drop))
 ·have RH : j = r.2.length := by omega
  subst RH
  rw [List.take_length] at h
  generalize hz : (r.2.map (·.id)).foldl Wd.dV x1 = z at h k
  have h' := bY h (b := b)
  clear h
  obtain ⟨a2, kq, h⟩ := h'
  refine be h ?_
  obtain ⟨R', hle, w9, h6⟩ := h.jD a2.ar
  exact k R' _ _ _ hle w9 (kN (a := a2) (n := z.ready.length) (gg := gg) (dr := dr) kq (h6.sub (by repeat (first | exact .refl | refine .cons (by repeat (first | exact .here | apply cG.there)) ?_ | apply Sub.drop))))
end
def tY (x : Wd) (g : Int) (i : dB) : Out (Wd × Bool) → Prop
 | .on (y, false) => aW y g ∧ (ae y g).fs.length = (ae x g).fs.length ∧ yx y i.a
 | .on (_, true) => True
 | .dx _ _ => True
 | .cz _ _ => True
instance (x : Wd) (g : Int) (i : dB) (r : Out (Wd × Bool)) : Decidable (tY x g i r) := match r with
 | .on (y, false) => by unfold tY; infer_instance
 | .on (_, true) => isTrue trivial
 | .dx _ _ => isTrue trivial
 | .cz _ _ => isTrue trivial
theorem J6 {p : cj} {x : Wd} {g : Int} {i : dB} (h : aW x g ∧ bx i.b ∧ ny p x i.a (aZ x g i.b) ∧ tY x g i (x.put p i.a (aZ x g i.b))) : Gc p x g i := by
 obtain ⟨h1, h2, h3, h4⟩ := h
 refine ⟨h1, h2, h3, ?_⟩
 generalize x.put p i.a (aZ x g i.b) = r at h4
 match r, h4 with
 | .on (y, false), h4 => exact h4
 | .on (y, true), _ => trivial
 | .dx _ _, _ => trivial
 | .cz _ _, _ => trivial
instance (x : Wd) (g : Int) (i : dB) : Decidable (vb x g i) := by unfold vb; infer_instance
instance (p : cj) (x : Wd) (i : dB) : Decidable (m7 p x i) := by unfold m7; infer_instance
def yL (p : cj) (x : Wd) (g : Int) (i : dB) (k : Int) : Prop :=
 let c := (aB p i).getD k.toNat ⟨0, 0, 0⟩
 let x1 := x.next g
 0 ≤ k ∧ k < (aB p i).length ∧ bx c.bQ ∧
  if c.way = 1 then ny p x1 c.ch (aZ x1 g c.bQ) ∧ (match x1.put p c.ch (aZ x1 g c.bQ) with
   | .on (y, _) => aW y g ∧ (ae y g).fs.length = (ae x g).fs.length
   | _ => True)
  else tP x1 c.ch ∧ aW (x1.get c.ch).1 g ∧ (ae (x1.get c.ch).1 g).fs.length = (ae x g).fs.length
instance (g : Int) (n : Nat) (r : Out (Wd × Bool)) : Decidable (match r with
   | .on (y, _) => aW y g ∧ (ae y g).fs.length = n
   | _ => True) := match r with
 | .on (y, _) => by dsimp only; infer_instance
 | .dx _ _ => isTrue trivial
 | .cz _ _ => isTrue trivial
instance (p : cj) (x : Wd) (g : Int) (i : dB) (k : Int) : Decidable (yL p x g i k) := by unfold yL; infer_instance
def lY (p : cj) (x : Wd) (g : Int) (i : dB) (d : jf) : Bool :=
 decide (aW x g ∧ tX p i ∧ bx i.c ∧ x.Sm ∧ (ae x g).top.pc < 1000000000 ∧ 0 ≤ (ae x g).top.pc ∧ (∀ c ∈ aB p i, c.Ok x.aC.length)) &&
 (match d with
  | .cz _ => true
  | .num v => (enabled (aB p i) x.aC).isEmpty || decide (0 ≤ v ∧ v < (enabled (aB p i) x.aC).length ∧ yL p x g i ((enabled (aB p i) x.aC).getD v.toNat 0)))
theorem Eu {p : cj} {x : Wd} {g : Int} {i : dB} {d : jf} (h : lY p x g i d = true) : Ep p x g i d := by
 unfold lY at h
 rw [Bool.and_eq_true] at h
 obtain ⟨h1, h2⟩ := h
 obtain ⟨a1, a2, a3, a4, a5, a6, a7⟩ := of_decide_eq_true h1
 refine ⟨a1, a2, a3, a4, a5, a6, a7, ?_⟩
 cases d with
 | cz l => split <;> trivial
 | num v =>
  dsimp only at h2
  cases he : enabled (aB p i) x.aC with
  | nil => trivial
  | cons q l =>
   rw [he] at h2
   rw [List.isEmpty_cons, Bool.false_or] at h2
   have h3 := of_decide_eq_true h2
   exact h3
def lq (p : cj) (x : Wd) (g : Int) (i : dB) : Option (Out Wd) :=
 if i.op = 10 then (if aW x g ∧ bx i.a ∧ bx (ae x g).top.qh then some (.on (x.back g i)) else none)
 else if i.op = 11 then (if aW x g ∧ bx i.b ∧ bx i.c ∧ x.Sm then some (x.spawn g i) else none)
 else if i.op = 13 then (if (aW x g ∧ bx i.b ∧ ny p x i.a (aZ x g i.b) ∧ tY x g i (x.put p i.a (aZ x g i.b))) ∧ x.Sm then some (x.send p g i) else none)
 else if i.op = 14 then (if vb x g i ∧ x.Sm then some (.on (x.recv g i)) else none)
 else if i.op = 15 then (if m7 p x i ∧ x.Sm then some (x.shut p i) else none)
 else if i.op = 20 then (if aW x g ∧ bx i.a ∧ x.Sm then some (x.emit g i) else none)
 else if i.op = 9 then (if aW x g ∧ bx i.b then some (x.call g i) else none)
 else if i.op = 12 then some (.on x)
 else if i.op = 17 then (if aW x g ∧ bx i.a ∧ x.hl.length < 1000000 then some (.on (x.sleep g i)) else none)
 else if i.op = 18 then (if aW x g ∧ CC x i.a ∧ x.Sm then some (.on (x.lock g i)) else none)
 else if i.op = 19 then (if lX x g i ∧ x.Sm then some (x.unlock g i) else none)
 else if i.op = 22 then some (.dx i.a x)
 else none
def Ew (p : cj) (x : Wd) (g : Int) : Option dB := match p.funcs[(ae x g).top.fn.toNat]? with
 | none => none
 | some code => code[(ae x g).top.pc.toNat]?
def vZ (x : Wd) (g : Int) : Prop := 0 ≤ g ∧ g < x.gs.length ∧ x.end_ = 0 ∧ (ae x g).st = 1
instance (x : Wd) (g : Int) : Decidable (vZ x g) := by unfold vZ; infer_instance
def asks (p : cj) (x : Wd) (g : Int) : Option (Int × Int) :=
 if vZ x g then match Ew p x g with
  | none => none
  | some i => if i.op = 21 then some (4, i.b) else if i.op = 16 then (if enabled (aB p i) x.aC = [] then none else some (3, (enabled (aB p i) x.aC).length)) else none
 else none
def o6 (p : cj) (x0 : Wd) (g : Int) (d : jf) : Option (Out Wd × Bool) :=
 let x := { x0 with ready := [] }
 if vZ x g then
  if aW x g ∧ 0 ≤ (ae x g).top.fn ∧ 0 ≤ (ae x g).top.pc ∧ (ae x g).top.pc < 1000000000 then
   match p.funcs[(ae x g).top.fn.toNat]? with
   | none => none
   | some code => match code[(ae x g).top.pc.toNat]? with
    | none => some (.dx (-7) x, false)
    | some i =>
     if 0 ≤ i.op ∧ i.op ≤ 8 then (if i.kZ then some (.on (x.bh g ((ae x g).bP ((ae x g).top.next.pure i))), false) else none)
     else if i.op = 16 then (if lY p x g i d = true then (if g < (x.choose p g i d).fin.gs.length then some (x.choose p g i d, false) else none) else none)
     else if i.op = 21 then (if bx i.a then (if g < (x.rand g i d).fin.gs.length then some (x.rand g i d, false) else none) else none)
     else match lq p (x.next g) g i with
      | none => none
      | some r => if g < r.fin.gs.length then some (r, Gr i.op r) else none
  else none
 else some (.on x, true)
section
variable {R : Mem} {L L' L2 : List HP} {M : Mem} {K : Value → Mem → Prop} {Kp : List PanicEntry → Mem → Prop} {pa : PA} {p : cj} {gg : List GA} {dr : Value} {b : Nat} {x : Wd} {g : Int}
theorem b9 {α : Type} {c : Prop} [Decidable c] {a b : α} (h : (if c then some a else none) = some b) : c ∧ b = a := by
 split at h
 ·rename_i hc; cases h; exact ⟨hc, rfl⟩
 ·cases h
theorem J7 {i : dB} {r : Out Wd} (hp : oY R pa p) (h : lq p x g i = some r) : ∃ fn, zT UG i.op = some (.func (.func fn) #[] #[]) ∧ (1 < fn ∧ fn < 255) ∧ i.op ≠ 16 ∧ i.op ≠ 21 ∧ 8 < i.op ∧ ∀ L, fI R pa p dr fn x g i r L L := by
 unfold lq at h
 by_cases e : i.op = 10
 ·rw [if_pos e] at h
  obtain ⟨hc, rfl⟩ := b9 h
  exact ⟨212, by rw [e]; rfl, by decide, by omega, by omega, by omega, fun L => Qa hc.1 hc.2.1 hc.2.2⟩
 rw [if_neg e] at h
 clear e
 by_cases e : i.op = 11
 ·rw [if_pos e] at h
  obtain ⟨hc, rfl⟩ := b9 h
  exact ⟨213, by rw [e]; rfl, by decide, by omega, by omega, by omega, fun L => Nc hc.1 hc.2.1 hc.2.2.1 hc.2.2.2⟩
 rw [if_neg e] at h
 clear e
 by_cases e : i.op = 13
 ·rw [if_pos e] at h
  obtain ⟨hc, rfl⟩ := b9 h
  exact ⟨215, by rw [e]; rfl, by decide, by omega, by omega, by omega, fun L => P6 hp (J6 hc.1) hc.2⟩
 rw [if_neg e] at h
 clear e
 by_cases e : i.op = 14
 ·rw [if_pos e] at h
  obtain ⟨hc, rfl⟩ := b9 h
  exact ⟨216, by rw [e]; rfl, by decide, by omega, by omega, by omega, fun L => P7 hc.1 hc.2⟩
 rw [if_neg e] at h
 clear e
 by_cases e : i.op = 15
 ·rw [if_pos e] at h
  obtain ⟨hc, rfl⟩ := b9 h
  exact ⟨217, by rw [e]; rfl, by decide, by omega, by omega, by omega, fun L => P9 hp hc.1 hc.2⟩
 rw [if_neg e] at h
 clear e
 by_cases e : i.op = 20
 ·rw [if_pos e] at h
  obtain ⟨hc, rfl⟩ := b9 h
  exact ⟨221, by rw [e]; rfl, by decide, by omega, by omega, by omega, fun L => P8 hc.1 hc.2.1 hc.2.2⟩
 rw [if_neg e] at h
 clear e
 by_cases e : i.op = 9
 ·rw [if_pos e] at h
  obtain ⟨hc, rfl⟩ := b9 h
  exact ⟨211, by rw [e]; rfl, by decide, by omega, by omega, by omega, fun L => Qe hc.1 hc.2⟩
 rw [if_neg e] at h
 clear e
 by_cases e : i.op = 12
 ·rw [if_pos e] at h
  cases h
  exact ⟨214, by rw [e]; rfl, by decide, by omega, by omega, by omega, fun L => Nj⟩
 rw [if_neg e] at h
 clear e
 by_cases e : i.op = 17
 ·rw [if_pos e] at h
  obtain ⟨hc, rfl⟩ := b9 h
  exact ⟨218, by rw [e]; rfl, by decide, by omega, by omega, by omega, fun L => Nk hc.1 hc.2.1 hc.2.2⟩
 rw [if_neg e] at h
 clear e
 by_cases e : i.op = 18
 ·rw [if_pos e] at h
  obtain ⟨hc, rfl⟩ := b9 h
  exact ⟨219, by rw [e]; rfl, by decide, by omega, by omega, by omega, fun L => Qf hc.1 hc.2.1 hc.2.2⟩
 rw [if_neg e] at h
 clear e
 by_cases e : i.op = 19
 ·rw [if_pos e] at h
  obtain ⟨hc, rfl⟩ := b9 h
  exact ⟨220, by rw [e]; rfl, by decide, by omega, by omega, by omega, fun L => J5 hc.1 hc.2⟩
 rw [if_neg e] at h
 clear e
 by_cases e : i.op = 22
 ·rw [if_pos e] at h
  cases h
  exact ⟨222, by rw [e]; rfl, by decide, by omega, by omega, by omega, fun L => Qg⟩
 rw [if_neg e] at h
 clear e
 cases h
theorem Gz {l : List Int} (h : Hp R (ay (bC pa p) b x :: L) M) : Hp R (ay (bC pa p) b { x with ready := l } :: L) M := by
 obtain ⟨a, gg, dr, n, hl, h⟩ := dP h (b := b)
 exact kN (a := a) (gg := gg) (dr := dr) (n := n) (x := { x with ready := l }) hl h
theorem iq.cons {kind n : Int} {d : jf} {Q : HP} (h : iq R dr kind n d L L2) : iq R dr kind n d (Q :: L) (Q :: L2) := by
 intro Q' M K Kp hM k
 refine h (sep [Q', Q]) M K Kp (Hp.aR.2 hM) ?_
 cases d with
 | num v => exact fun M' h' => k M' (Hp.aR.1 h')
 | cz l => exact fun M' h' => k M' (Hp.aR.1 h')
theorem Ka {d : jf} {r : Out Wd} {rest : Bool} (h : Hp R L M) [o : HT b L pa p x L'] (hp : oY R pa p) (yH : ∃ f c d, dr = .func f c d) (he : o6 p x g d = some (r, rest))
  (hd : match asks p { x with ready := [] } g with | none => L2 = L' | some (kd, n) => iq R dr kd n d L' L2) (k : pZ R pa p b g L2 K Kp r rest) :
  aa Tryz.prog 121 #[.pointer (some ⟨b, 0, none⟩), .int .i64 g, dr] M K Kp := by
 unfold o6 at he
 dsimp only at he
 split at he
 ·rename_i hg
  have zx := hg
  obtain ⟨h0, h1, Qj, tU⟩ := zx
  split at he
  ·rename_i zV
   obtain ⟨Kb, hf0, hp0, Vx⟩ := zV
   split at he
   ·cases he
   ·rename_i code iF
    have done : ∀ (r : Out Wd) (rest : Bool), pZ R pa p b g L2 K Kp r rest → (∀ Q, Step R pa p dr { x with ready := [] } g code r rest (Q :: L') (Q :: L2)) → g < r.fin.gs.length → aa Tryz.prog 121 #[.pointer (some ⟨b, 0, none⟩), .int .i64 g, dr] M K Kp := by
     intro r rest k hs hl
     exact Gs (x := x) h hp (show aW x g from Kb) Qj tU hf0 iF ⟨hp0, Vx⟩ yH hs hl k
    have jq : ∀ i, code[(ae x g).top.pc.toNat]? = some i → asks p { x with ready := [] } g = if i.op = 21 then some (4, i.b) else if i.op = 16 then (if enabled (aB p i) x.aC = [] then none else some (3, ((enabled (aB p i) x.aC).length : Int))) else none := by
     intro i hi
     unfold asks
     rw [if_pos hg]
     unfold Ew
     rw [show p.funcs[(ae { x with ready := [] } g).top.fn.toNat]? = some code from iF]
     dsimp only
     rw [show code[(ae { x with ready := [] } g).top.pc.toNat]? = some i from hi]
    split at he
    ·rename_i hnone
     cases he
     have e : asks p { x with ready := [] } g = none := by
      unfold asks
      rw [if_pos hg]
      unfold Ew
      rw [show p.funcs[(ae { x with ready := [] } g).top.fn.toNat]? = some code from iF]
      dsimp only
      rw [hnone]
     rw [e] at hd
     dsimp only at hd
     subst hd
     refine done (.dx (-7) { x with ready := [] }) false k (fun Q => .out ?_) h1
     have := List.getElem?_eq_none_iff.1 hnone
     omega
    ·rename_i i hi
     have e := jq i hi
     rw [e] at hd
     clear e jq
     split at he
     ·rename_i h8
      split at he
      ·rename_i hok
       cases he
       rw [if_neg (by omega), if_neg (by omega)] at hd
       dsimp only at hd
       subst hd
       exact done (.on _) false k (fun Q => .pure i hi h8.1 h8.2 hok) (by simpa [Out.fin, Wd.bh] using h1)
      ·cases he
     split at he
     ·rename_i HH
      split at he
      ·rename_i hok
       split at he
       ·rename_i hl
        cases he
        rw [if_neg (by omega), if_pos HH] at hd
        refine done _ false k (fun Q => .Cw i hi HH (JY hp (Eu hok) ?_)) hl
        split at hd
        ·rename_i hq
         split at hq
         ·rename_i kK
          rw [if_pos (by exact kK), hd]
         ·cases hq
        ·rename_i kd n hq
         split at hq
         ·cases hq
         ·rename_i kK
          cases hq
          rw [if_neg (by exact kK)]
          exact hd.cons
       ·cases he
      ·cases he
     split at he
     ·rename_i Vz
      split at he
      ·rename_i hok
       split at he
       ·rename_i hl
        cases he
        rw [if_pos Vz] at hd
        exact done _ false k (fun Q => .UH i hi Vz (Qh Kb hok ⟨hp0, Vx⟩ (iq.cons hd))) hl
       ·cases he
      ·cases he
     split at he
     ·cases he
     ·rename_i HH Vz _ r' iU
      split at he
      ·rename_i hl
       cases he
       rw [if_neg Vz, if_neg HH] at hd
       dsimp only at hd
       subst hd
       obtain ⟨fn, f1, f2, f3, f4, f5, f6⟩ := J7 (R := R) (pa := pa) (dr := dr) hp iU
       exact done _ _ k (fun Q => .dflt i fn hi f5 f3 f4 f1 f2 (f6 _)) hl
      ·cases he
  ·cases he
 ·rename_i hr
  cases he
  have e : asks p { x with ready := [] } g = none := by
   unfold asks
   rw [if_neg hr]
  rw [e] at hd
  dsimp only at hd
  subst hd
  refine jy ?_
  refine aj h ?_
  clear h
  intro kb M h
  have hC := h
  have h' := dP h (b := b)
  clear h
  obtain ⟨a, gg, dr0, n0, hl, h⟩ := h'
  have hl' := hl
  obtain ⟨l1, l2, l3, l4⟩ := hl'
  have fin : aI M ⟨kb, 0, none⟩ (.bool false) fun qS => aI qS ⟨kb, (0 + 1), none⟩ (.slice none 0 0) fun wH =>
    cK (Mem.ld wH ⟨kb, 0, none⟩) fun t36 => az (Mem.ld wH ⟨kb, (0 + 1), none⟩) fun Ps iE zN => K (.agg #[(.bool t36), (.slice Ps iE zN)]) wH := by
   have h := hC
   clear hC
   refine aq h ?_
   clear h; intro M h
   refine aq h ?_
   clear h; intro M h
   refine Hi h (be h ?_)
   have k2 := k R none 0 M (Mem.le_refl _) (RS.nil _ _) (Gz (h.drop.pick o.pick))
   exact k2
  refine aJ.2 ⟨fun hn => fin, fun h0 => ?_⟩
  refine be h ?_
  refine aJ.2 ⟨fun hn => fin, fun h1 => ?_⟩
  refine aG h ?_
  refine eu.2 ⟨fun hn => fin, fun he0 => ?_⟩
  refine be h ?_
  refine ⟨by omega, by omega, ?_⟩
  obtain ⟨gb, fx⟩ := aO (l := a.gb) (i := g.toNat) (by omega)
  refine uy h fx fun q hq => ?_
  obtain ⟨ga, UK⟩ := aO (l := gg) (i := g.toNat) (by omega)
  obtain ⟨z, hy⟩ := aO (l := x.gs) (i := g.toNat) (by omega)
  have ey : ae x g = z := by simp [ae, hy]
  refine bp ?_
  have HS : M.ld ⟨gb, 0, none⟩ = some (.int .i64 z.st) := by
   have h9 := lV (b := gb) (h.cQ fF fx (m6 hy UK))
   exact bH h9
  rw [HS]
  refine cy ?_
  refine eu.2 ⟨fun hn => fin, fun hn => ?_⟩
  exact absurd ⟨by omega, by show g < (x.gs.length : Int); omega, he0, by show (ae x g).st = 1; rw [ey]; exact hn⟩ hr
end
def GB (y : gT) : Bool := y.st == 1 || y.st == 3
def Wd.stuck (x : Wd) : Bool := x.end_ == 0 && !(x.gs.any GB)
section
variable {R : Mem} {L L' L2 : List HP} {M : Mem} {K : Value → Mem → Prop} {Kp : List PanicEntry → Mem → Prop} {pa : PA} {p : cj} {b : Nat} {x : Wd} {g : Int}
theorem Ey (h : Hp R L M) [o : HT b L pa p x L'] (hs : x.gs.length ≤ 1000000) (k : K (.bool x.stuck) M) : aa Tryz.prog 65 #[.pointer (some ⟨b, 0, none⟩)] M K Kp := by
 refine oL ?_
 unfold Wd.stuck at k
 have h' := dP h (b := b)
 clear h
 obtain ⟨a, gg, dr, n, hl, h⟩ := h'
 have hl' := hl
 obtain ⟨l1, l2, l3, l4⟩ := hl'
 refine aG h ?_
 refine eu.2 ⟨fun he => ?_, fun he => ?_⟩
 ·rw [show (x.end_ == 0) = false from by simpa using he, Bool.false_and] at k
  exact k
 rw [show (x.end_ == 0) = true from by simpa using he, Bool.true_and] at k
 refine be h ?_
 refine ⟨fun d vs M' => ∃ j : Nat, vs = [.int .i64 (j : Int)] ∧ d = x.gs.length - j ∧ j ≤ x.gs.length ∧ (x.gs.take j).any GB = false ∧ M' = M, ⟨_, 0, rfl, rfl, by omega, rfl, rfl⟩, ?_⟩
 rintro d _ nn M' ⟨j, si, hd, hj, ha, rfl⟩
 simp only [List.cons.injEq, Value.int.injEq, and_true, true_and] at si
 subst si
 refine aJ.2 ⟨fun hlt => ?_, fun hge => ?_⟩
 ·obtain ⟨gb, fx⟩ := aO (l := a.gb) (i := j) (by omega)
  obtain ⟨ga, UK⟩ := aO (l := gg) (i := j) (by omega)
  obtain ⟨y, hy⟩ := aO (l := x.gs) (i := j) (by omega)
  have HS : M'.ld ⟨gb, 0, none⟩ = some (.int .i64 y.st) := by
   have h9 := lV (b := gb) (h.cQ fF fx (m6 hy UK))
   exact bH h9
  refine ⟨by omega, by omega, ?_⟩
  refine uy h fx fun q hq => ?_
  refine bp ?_
  rw [HS]
  refine cy ?_
  have hym := List.mem_of_getElem? hy
  refine bN.2 ⟨fun e1 => ?_, fun e1 => ?_⟩
  ·have : x.gs.any GB = true := List.any_eq_true.2 ⟨y, hym, by simp [GB, e1]⟩
   rw [this] at k
   exact k
  refine bp ?_
  rw [HS]
  refine cy ?_
  refine bN.2 ⟨fun e3 => ?_, fun e3 => ?_⟩
  ·have : x.gs.any GB = true := List.any_eq_true.2 ⟨y, hym, by simp [GB, e3]⟩
   rw [this] at k
   exact k
  refine ⟨x.gs.length - (j + 1), by omega, j + 1, by rw [aS (by omega)], rfl, by omega, ?_, rfl⟩
  rw [cV hy, List.any_append, ha]
  simp [GB, e1, e3]
 ·have RH : j = x.gs.length := by omega
  subst RH
  rw [List.take_length] at ha
  rw [ha] at k
  exact k
end
def Ez : gW (Int × Int) := ⟨2, fun w => [.int .i64 w.1, .int .u64 w.2], fun _ => rfl, fun w v hv => by
 simp only [List.mem_cons, List.not_mem_nil, or_false] at hv; obtain rfl | rfl := hv <;> rfl⟩
inductive gm where
 | ir (l : List Int) (at_ : Nat)
 | tape (l : List (Int × Int)) (at_ : Nat)
structure iO where
 k : gm
 taken : List (Int × Int)
def Kc : List PanicEntry := [{ v := .iface 240 (.agg #[]), recovered := false }]
def VD (at_ kind n k v : Int) : List PanicEntry := [{ v := .iface 97 (.agg #[.int .i64 at_, .int .i64 kind, .int .i64 n, .int .i64 k, .int .u64 v]), recovered := false }]
def gn (n : Int) : Int := if 1 > n then 1 else n
def gm.next (k : gm) (kind m : Int) : gm × jf := match k with
 | .ir l i => match l[i]? with
  | none => (.ir l i, .cz Kc)
  | some v => (.ir l (i + 1), .num (Int.tmod v m))
 | .tape l i => match l[i]? with
  | none => (.tape l i, .cz Kc)
  | some (q, v) => if q ≠ kind then (.tape l i, .cz (VD i kind m q v)) else if v ≥ m then (.tape l i, .cz (VD i kind m q v)) else (.tape l (i + 1), .num v)
def iO.draw (x : iO) (kind n : Int) : iO × jf := match x.k.next kind (gn n) with
 | (k', .num v) => (⟨k', x.taken ++ [(kind, v)]⟩, .num v)
 | (k', .cz l) => (⟨k', x.taken⟩, .cz l)
def gm.Ok : gm → Prop
 | .ir l i => l.length ≤ 1000000000 ∧ i ≤ l.length ∧ ∀ v ∈ l, 0 ≤ v ∧ v < 18446744073709551616
 | .tape l i => l.length ≤ 1000000000 ∧ i ≤ l.length ∧ ∀ v ∈ l, 0 ≤ v.2 ∧ v.2 < 18446744073709551616
def iO.Ok (x : iO) : Prop := x.k.Ok ∧ x.taken.length ≤ 1000000000
abbrev lu (A : Option Addr) (c : Nat) (l : List (Int × Int)) : HP := cv Ez 95 A c l
abbrev XE (A : Option Addr) (c : Nat) (l : List Int) : HP := cv Dy 32 A c l
def kR : rq gm := ⟨fun b k => match k with
 | .ir l i => exs fun A : Option Addr => exs fun c : Nat => sep [pt b [.slice A l.length c, .int .i64 (i : Int)] 147, XE A c l]
 | .tape l i => exs fun A : Option Addr => exs fun c : Nat => sep [pt b [.slice A l.length c, .int .i64 (i : Int)] 354, lu A c l]⟩
def wc : gm → Nat → Value
 | .ir _ _, b => .func (.func 59) #[.pointer (some ⟨b, 0, none⟩)] #[]
 | .tape _ _, b => .func (.func 198) #[.pointer (some ⟨b, 0, none⟩)] #[]
def yM : gm → Nat → Value
 | .ir _ _, b => .func (.func 60) #[.pointer (some ⟨b, 0, none⟩)] #[]
 | .tape _ _, b => .func (.func 199) #[.pointer (some ⟨b, 0, none⟩)] #[]
def cw (Kd : Value) : rq iO := ⟨fun b x => exs fun A : Option Addr => exs fun c : Nat => exs fun kb : Nat =>
 sep [pt b [wc x.k kb, yM x.k kb, .slice A x.taken.length c, Kd] 152, lu A c x.taken, ay kR kb x.k]⟩
theorem Nl : bu Tryz.prog 149 95 2 16 [.int .i64 0, .int .u64 0] := bu.mk' (zv := .agg #[.int .i64 0, .int .u64 0]) (by kernel_rfl) (by kernel_rfl) rfl (by omega)
theorem Nm : bu Tryz.prog 31 32 1 8 [.int .u64 0] := bu.mk' (zv := .int .u64 0) (by kernel_rfl) (by kernel_rfl) rfl (by omega)
theorem pb {C : Ctx} {g : Nat} {first : Array Value} {args : List Value} {M : Mem} {K : Value → Mem → Prop} {Kp : List PanicEntry → Mem → Prop} (hg : 1 < g ∧ g < C.ok) (h : aa C.P g (first.toList ++ args).toArray M K Kp) : g6 C (.func (.func g) first #[]) args M K Kp := by
 unfold g6
 simp only
 rw [if_pos hg]
 simpa using h
theorem yN (n : Int) : 1 ≤ gn n := by unfold gn; split <;> omega
theorem yO {z : Int} (h0 : 0 ≤ z) (h : z < 18446744073709551616) : IntKind.wrap .u64 z = z := by
 obtain ⟨n, rfl⟩ := Int.eq_ofNat_of_zero_le h0
 rw [IntKind.wrap_u64]; omega
section
variable {R : Mem} {L L' L2 : List HP} {M : Mem} {K : Value → Mem → Prop} {Kp : List PanicEntry → Mem → Prop} {b : Nat} {x : iO} {Kd : Value}
theorem yP {k : gm} {kind m : Int} (hok : k.Ok) (hm : 1 ≤ m) {k' : gm} {v : Int} (h : k.next kind m = (k', .num v)) : 0 ≤ v ∧ v < m := by
 cases k with
 | ir l i =>
  unfold gm.next at h
  dsimp only at h
  split at h
  ·cases h
  ·rename_i w hw
   cases h
   have := hok.2.2 w (List.mem_of_getElem? hw)
   exact ⟨Int.tmod_nonneg _ this.1, Int.tmod_lt_of_pos _ (by omega)⟩
 | tape l i =>
  unfold gm.next at h
  dsimp only at h
  split at h
  ·cases h
  ·rename_i q w hw
   have := hok.2.2 _ (List.mem_of_getElem? hw)
   split at h
   ·cases h
   ·split at h
    ·cases h
    ·cases h
     exact ⟨this.1, by omega⟩
theorem Qk {k : gm} {kind m : Int} (hok : k.Ok) : (k.next kind m).1.Ok := by
 cases k with
 | ir l i =>
  unfold gm.next
  dsimp only
  split
  ·exact hok
  ·rename_i w hw
   have := (List.getElem?_eq_some_iff.1 hw).1
   exact ⟨hok.1, by omega, hok.2.2⟩
 | tape l i =>
  unfold gm.next
  dsimp only
  split
  ·exact hok
  ·rename_i q w hw
   have := (List.getElem?_eq_some_iff.1 hw).1
   split
   ·exact hok
   ·split
    ·exact hok
    ·exact ⟨hok.1, by omega, hok.2.2⟩
theorem GC {k : gm} {kind m : Int} {kb : Nat} : wc (k.next kind m).1 kb = wc k kb ∧ yM (k.next kind m).1 kb = yM k kb := by
 cases k with
 | ir l i => unfold gm.next; dsimp only; split <;> exact ⟨rfl, rfl⟩
 | tape l i =>
  unfold gm.next; dsimp only; split
  ·exact ⟨rfl, rfl⟩
  ·split
   ·exact ⟨rfl, rfl⟩
   ·split <;> exact ⟨rfl, rfl⟩
theorem UM {k : gm} {kb : Nat} {kind m : Int} (h : Hp R (ay kR kb k :: L) M) (hok : k.Ok) (hm : 1 ≤ m) (Ql : m < 9223372036854775808)
  (g : match (k.next kind m).2 with
   | .num v => ∀ M', Hp R (ay kR kb (k.next kind m).1 :: L) M' → K (.int .u64 v) M'
   | .cz l => ∀ M', Hp R (ay kR kb (k.next kind m).1 :: L) M' → Kp l M') :
  g6 Cx (wc k kb) [.int .i64 kind, .int .i64 m] M K Kp := by
 cases k with
 | ir l i =>
  refine pb ⟨by decide, by show _ < 255; decide⟩ ?_
  refine nQ ?_
  obtain ⟨o1, o2, o3⟩ := hok
  unfold gm.next at g
  dsimp only at g
  have h2 := h.obj kR kb
  simp only [kR, Hp.c5, Hp.aR, List.cons_append, List.nil_append] at h2
  obtain ⟨A, c, h2⟩ := h2
  clear h
  have h := h2
  clear h2
  have mk : ∀ {M : Mem} {i : Nat}, Hp R (pt kb [.slice A l.length c, .int .i64 (i : Int)] 147 :: XE A c l :: L) M → Hp R (ay kR kb (.ir l i) :: L) M := by
   intro M i h
   refine Hp.uO ?_
   simp only [kR, Hp.c5, Hp.aR, List.cons_append, List.nil_append]
   exact ⟨_, _, h⟩
  refine aG h (be h ?_)
  refine aJ.2 ⟨fun hge => ?_, fun hlt => ?_⟩
  ·have e : l[i]? = none := List.getElem?_eq_none_iff.2 (by omega)
   rw [e] at g
   exact g _ (mk h)
  ·obtain ⟨w, hw⟩ := aO (l := l) (i := i) (by omega)
   rw [hw] at g
   have hwb := o3 w (List.mem_of_getElem? hw)
   refine aG h ?_
   rw [aS (by omega)]
   refine aq h ?_
   clear h; intro M h
   refine be h (aG h ?_)
   have e : IntKind.wrap .i64 (((i + 1 : Nat) : Int) - 1) = (i : Int) := by rw [cY (by omega) (by omega)]; omega
   rw [e]
   obtain ⟨q, rfl⟩ := h.bA (A := A) (by omega) (by decide)
   refine ⟨by omega, by omega, bp ?_⟩
   refine bn (Src.at (h.src (A := some ⟨q, 0, none⟩)) h (i := i) (j := 0) hw rfl (by simp [Dy])) ?_
   rw [yO (by omega) (by omega)]
   exact ⟨by omega, g _ (mk h)⟩
 | tape l i =>
  refine pb ⟨by decide, by show _ < 255; decide⟩ ?_
  refine qC ?_
  obtain ⟨o1, o2, o3⟩ := hok
  unfold gm.next at g
  dsimp only at g
  have h2 := h.obj kR kb
  simp only [kR, Hp.c5, Hp.aR, List.cons_append, List.nil_append] at h2
  obtain ⟨A, c, h2⟩ := h2
  clear h
  have h := h2
  clear h2
  have mk : ∀ {M : Mem} {i : Nat}, Hp R (pt kb [.slice A l.length c, .int .i64 (i : Int)] 354 :: lu A c l :: L) M → Hp R (ay kR kb (.tape l i) :: L) M := by
   intro M i h
   refine Hp.uO ?_
   simp only [kR, Hp.c5, Hp.aR, List.cons_append, List.nil_append]
   exact ⟨_, _, h⟩
  refine aG h (be h ?_)
  refine aJ.2 ⟨fun hge => ?_, fun hlt => ?_⟩
  ·have e : l[i]? = none := List.getElem?_eq_none_iff.2 (by omega)
   rw [e] at g
   exact g _ (mk h)
  ·obtain ⟨⟨q, w⟩, hw⟩ := aO (l := l) (i := i) (by omega)
   rw [hw] at g
   dsimp only at g
   have hwb := o3 _ (List.mem_of_getElem? hw)
   dsimp only at hwb
   refine be h (aG h ?_)
   obtain ⟨q0, rfl⟩ := h.bA (A := A) (by omega) (by decide)
   refine ⟨by omega, by omega, bp ?_⟩
   refine bn (Src.at (h.src (A := some ⟨q0, 0, none⟩)) h (i := i) (j := 0) hw rfl (by simp [Ez])) ?_
   refine bn (Src.at (h.src (A := some ⟨q0, 0, none⟩)) h (i := i) (j := 1) hw rfl (by simp [Ez])) ?_
   refine aj h ?_
   clear h; intro kk M h
   refine aq h ?_
   clear h; intro M h
   refine aq h ?_
   clear h; intro M h
   refine aG h ?_
   refine eu.2 ⟨fun hne => ?_, fun heq => ?_⟩
   ·rw [if_pos hne] at g
    refine aG h (aG h (aG h ?_))
    exact g _ (mk (h.sub bM))
   ·rw [if_neg (by simpa using heq)] at g
    refine aG h ?_
    rw [yO (by omega) (by omega)]
    refine aJ.2 ⟨fun hge => ?_, fun XF => ?_⟩
    ·rw [if_pos hge] at g
     refine aG h (aG h (aG h ?_))
     exact g _ (mk (h.sub bM))
    ·rw [if_neg XF] at g
     refine aG h ?_
     rw [aS (by omega)]
     refine aq h ?_
     clear h; intro M h
     refine aG h ?_
     exact g _ (mk (h.sub bM))
theorem EA (h : Hp R L M) [o : bV (cw Kd) b L x L'] : ∃ A c kb, Hp R (pt b [wc x.k kb, yM x.k kb, .slice A x.taken.length c, Kd] 152 :: lu A c x.taken :: ay kR kb x.k :: L') M := by
 have := h.obj (cw Kd) b
 simpa only [cw, Hp.c5, Hp.aR, List.cons_append, List.nil_append] using this
theorem CE {A : Option Addr} {c kb : Nat} (h : Hp R (pt b [wc x.k kb, yM x.k kb, .slice A x.taken.length c, Kd] 152 :: lu A c x.taken :: ay kR kb x.k :: L) M) : Hp R (ay (cw Kd) b x :: L) M := by
 refine Hp.uO ?_
 simp only [cw, Hp.c5, Hp.aR, List.cons_append, List.nil_append]
 exact ⟨_, _, _, h⟩
theorem pe {kind n : Int} (h : Hp R L M) [o : bV (cw .nilFunc) b L x L'] (hok : x.Ok) (hn : n < 9223372036854775808) (ht : x.taken.length < 100000000)
  (g : match (x.draw kind n).2 with
   | .num v => ∀ M', Hp R (ay (cw .nilFunc) b (x.draw kind n).1 :: L') M' → K (.int .i64 v) M'
   | .cz l => ∀ M', Hp R (ay (cw .nilFunc) b (x.draw kind n).1 :: L') M' → Kp l M') :
  aa Tryz.prog 107 #[.pointer (some ⟨b, 0, none⟩), .int .i64 kind, .int .i64 n] M K Kp := by
 refine nR ?_
 have h' := EA (Kd := .nilFunc) h (b := b)
 clear h
 obtain ⟨A, c, kb, h⟩ := h'
 refine xJ h ?_
 have em : (if (1 : Int) > n then 1 else n) = gn n := rfl
 rw [em]
 have RN := yN n
 have Ql : gn n < 9223372036854775808 := by unfold gn; split <;> omega
 have hnv := GC (k := x.k) (kind := kind) (m := gn n) (kb := kb)
 obtain ⟨PT, wq⟩ := hnv
 have CF := fun k' v => yP (k := x.k) (kind := kind) hok.1 RN (k' := k') (v := v)
 unfold iO.draw at g
 replace h : Hp R (ay kR kb x.k :: pt b [wc x.k kb, yM x.k kb, .slice A x.taken.length c, .nilFunc] 152 :: lu A c x.taken :: L') M := h.sub bM
 refine UM (kind := kind) h hok.1 RN Ql ?_
 clear h
 generalize hr : x.k.next kind (gn n) = r at g PT wq CF
 obtain ⟨k', d⟩ := r
 dsimp only at PT wq ⊢
 rw [← PT, ← wq]
 cases d with
 | cz l =>
  dsimp only at g ⊢
  intro M h
  exact g _ (CE (x := ⟨k', x.taken⟩) (h.sub bM))
 | num v =>
  dsimp only at g ⊢
  obtain ⟨v0, v1⟩ := CF k' v rfl
  intro M h
  refine cy ?_
  refine aj h ?_
  clear h; intro k5 M h
  refine aq h ?_
  clear h; intro M h
  refine aq h ?_
  clear h; intro M h
  refine be h (aG h (aG h ?_))
  refine aj h ?_
  clear h; intro jE M h
  refine h.bD (A := A) Nl [(kind, v)] rfl rfl (by simp only [List.length_singleton]; omega) ?_
  clear h; intro A' c' M h
  refine bk ?_
  refine aq h ?_
  clear h; intro M h
  refine xJ h ?_
  unfold G4
  dsimp only
  refine ai (aG h ?_)
  rw [cY (by omega) (by omega)]
  exact g _ (CE (x := ⟨k', x.taken ++ [(kind, v)]⟩) (h.sub bM))
theorem CG (h : Hp R L M) [o : bV (cw Kd) b L x L'] (ht : x.taken.length ≤ 100000000) (g : ∀ A c M', Hp R (lu A c x.taken :: ay (cw Kd) b x :: L') M' → K (.slice A x.taken.length c) M') :
  aa Tryz.prog 76 #[.pointer (some ⟨b, 0, none⟩)] M K Kp := by
 refine mW ?_
 have h' := EA (Kd := Kd) h (b := b)
 clear h
 obtain ⟨A, c, kb, h⟩ := h'
 refine aj h ?_
 clear h; intro k1 M h
 refine be h ?_
 refine h.kF Ez Nl x.taken (h.src (A := A)) rfl (by omega) ?_
 clear h; intro A' c' M h
 refine bk ?_
 exact g _ _ _ ((CE (x := x) (A := A) (c := c) (kb := kb) (h.sub bM)).swap)
theorem zW {B : Option Addr} {m cb : Nat} {l : List Int} (h : Hp R L M) (hB : Src R L B (Dy.cells l)) (hm : m = l.length) (hl : l.length ≤ 1000000000)
  (g : ∀ b M', Hp R (ay (cw .nilFunc) b ⟨.ir l 0, []⟩ :: L) M' → K (.pointer (some ⟨b, 0, none⟩)) M') :
  aa Tryz.prog 16 #[.slice B m cb] M K Kp := by
 refine uX ?_
 refine aj h ?_
 clear h; intro k1 M h
 refine h.kF Dy Nm l hB.cons hm (by omega) ?_
 clear h; intro A' c' M h
 refine bk ?_
 refine aj h ?_
 clear h; intro k8 M h
 refine aj h ?_
 clear h; intro fm M h
 have h2 := h.cE Ez 95
 refine g fm _ (CE (x := ⟨.ir l 0, []⟩) (A := none) (c := 0) (kb := k8) ?_)
 have h3 : Hp R (ay kR k8 (.ir l 0) :: lu none 0 [] :: pt fm [wc (.ir l 0) k8, yM (.ir l 0) k8, .slice none 0 0, .nilFunc] 152 :: L) M := by
  refine Hp.uO ?_
  simp only [kR, Hp.c5, Hp.aR, List.cons_append, List.nil_append]
  exact ⟨A', c', h2.sub bM⟩
 exact h3.sub bM
theorem Ke {kind n : Int} (hok : x.Ok) (hn : n < 9223372036854775808) (ht : x.taken.length < 100000000) :
  iq R (.func (.func 107) #[.pointer (some ⟨b, 0, none⟩)] #[]) kind n (x.draw kind n).2 (ay (cw .nilFunc) b x :: L) (ay (cw .nilFunc) b (x.draw kind n).1 :: L) := by
 intro Q M K Kp h k
 refine pb ⟨by decide, by show _ < 255; decide⟩ ?_
 refine pe h hok hn ht ?_
 cases hd : (x.draw kind n).2 with
 | num v => rw [hd] at k; exact fun M' h' => k M' h'.swap
 | cz l => rw [hd] at k; exact fun M' h' => k M' h'.swap
end
structure c9 where
 q : Loc
 turns : Int
 eD : Int
structure tZ where
 p : Int
 g : Int
 left : Int
 deriving DecidableEq
structure Kf where
 P : Int
 M : Int
 R : Int
 S : Int
structure Sc where
 w : Wd
 c : Kf
 ps : List c9
 ms : List tZ
 gl : List Int
 d : iO
 steps : Int
structure Ev where
 kind : Int
 m : Int
 g : Int
 ready : List Int
def pg : gW (Nat × Int × Int) := ⟨3, fun w => [.pointer (some ⟨w.1, 0, none⟩), .int .i64 w.2.1, .int .i64 w.2.2], fun _ => rfl, fun w v hv => by
 simp only [List.mem_cons, List.not_mem_nil, or_false] at hv; obtain rfl | rfl | rfl := hv <;> rfl⟩
def kP : gW tZ := ⟨3, fun w => [.int .i64 w.p, .int .i64 w.g, .int .i64 w.left], fun _ => rfl, fun w v hv => by
 simp only [List.mem_cons, List.not_mem_nil, or_false] at hv; obtain rfl | rfl | rfl := hv <;> rfl⟩
def bL (bs : List Nat) (ps : List c9) : List (Nat × Int × Int) := List.zipWith (fun b (p : c9) => (b, p.turns, p.eD)) bs ps
def av (x : Sc) (m : Int) : tZ := x.ms.getD m.toNat ⟨-1, -1, 0⟩
def ax (x : Sc) (i : Int) : c9 := x.ps.getD i.toNat ⟨⟨-1, 0, []⟩, 0, -1⟩
def Sc.gB (x : Sc) (m : Int) (y : tZ) : Sc := { x with ms := x.ms.set m.toNat y }
def Sc.bO (x : Sc) (i : Int) (y : c9) : Sc := { x with ps := x.ps.set i.toNat y }
structure SA where
 ap : Option Addr
 cp : Nat
 lb : List Nat
 am : Option Addr
 cm : Nat
abbrev bW (A : Option Addr) (c : Nat) (l : List (Nat × Int × Int)) : HP := cv pg 141 A c l
abbrev bZ (A : Option Addr) (c : Nat) (l : List tZ) : HP := cv kP 143 A c l
abbrev dL (wb db : Nat) (a : SA) (x : Sc) (A : Option Addr) (n c : Nat) : List Value :=
 [.pointer (some ⟨wb, 0, none⟩), .int .i64 x.c.P, .int .i64 x.c.M, .int .i64 x.c.R, .int .i64 x.c.S, .slice a.ap x.ps.length a.cp, .slice a.am x.ms.length a.cm, .slice A n c, .pointer (some ⟨db, 0, none⟩), .int .i64 x.steps]
abbrev dF (b wb db : Nat) (a : SA) (x : Sc) : Option Addr → Nat → Nat → HP := fun A n c => pt b (dL wb db a x A n c) 137
theorem yQ {b wb db : Nat} {a : SA} {x : Sc} : Ry b (0 + 7) (dF b wb db a x) :=
 ⟨fun R L M A n c h => bH h, fun R L M A A' n c n' c' G h k => aq h k⟩
abbrev iu (a : SA) (x : Sc) (L : List HP) : List HP := bW a.ap a.cp (bL a.lb x.ps) :: aV bE a.lb (x.ps.map c9.q) :: bZ a.am a.cm x.ms :: L
def eH (pa : PA) (p : cj) (wb db : Nat) : rq Sc := ⟨fun b x => exs fun a : SA =>
 sep (gq (dF b wb db a x) x.gl :: ay (bC pa p) wb x.w :: ay (cw .nilFunc) db x.d :: fact (a.lb.length = x.ps.length) :: iu a x [])⟩
class pn (b : Nat) (L : List HP) (pa : outParam PA) (p : outParam cj) (wb db : outParam Nat) (x : outParam Sc) (L' : outParam (List HP)) : Prop where
 pick : cG L (ay (eH pa p wb db) b x) L'
instance pn.here {pa : PA} {p : cj} {wb db b : Nat} {x : Sc} {L : List HP} : pn b (ay (eH pa p wb db) b x :: L) pa p wb db x L := ⟨.here⟩
instance (priority := low) pn.there {pa : PA} {p : cj} {wb db b : Nat} {x : Sc} {Q : HP} {L L' : List HP} [h : pn b L pa p wb db x L'] : pn b (Q :: L) pa p wb db x (Q :: L') := ⟨.there h.pick⟩
section
variable {R : Mem} {L L' L2 : List HP} {M : Mem} {K : Value → Mem → Prop} {Kp : List PanicEntry → Mem → Prop} {pa : PA} {p : cj} {b wb db : Nat} {x : Sc} {m i : Int}
theorem eR (h : Hp R L M) [o : pn b L pa p wb db x L'] : ∃ a : SA, a.lb.length = x.ps.length ∧ Hp R (gq (dF b wb db a x) x.gl :: ay (bC pa p) wb x.w :: ay (cw .nilFunc) db x.d :: iu a x L') M := by
 have := h.pick o.pick
 unfold ay at this
 simp only [eH, iu, Hp.c5, Hp.aR, List.cons_append, List.nil_append] at this
 obtain ⟨a, h⟩ := this
 refine ⟨a, ?_⟩
 have h2 := h.pick (P := fact (a.lb.length = x.ps.length)) (.there (.there (.there .here)))
 obtain ⟨e, h3⟩ := Hp.fk.1 h2
 exact ⟨e, h3⟩
theorem gK {a : SA} (hl : a.lb.length = x.ps.length) (h : Hp R (gq (dF b wb db a x) x.gl :: ay (bC pa p) wb x.w :: ay (cw .nilFunc) db x.d :: iu a x L) M) : Hp R (ay (eH pa p wb db) b x :: L) M := by
 refine Hp.uO ?_
 simp only [eH, iu, Hp.c5, Hp.aR, List.cons_append, List.nil_append]
 refine ⟨a, ?_⟩
 have h2 : Hp R (fact (a.lb.length = x.ps.length) :: gq (dF b wb db a x) x.gl :: ay (bC pa p) wb x.w :: ay (cw .nilFunc) db x.d :: iu a x L) M := Hp.fk.2 ⟨hl, h⟩
 exact h2.mG (.there (.there (.there .here)))
theorem nf {a : SA} (h : Hp R (gq (dF b wb db a x) x.gl :: L) M) : ∃ A c, Hp R (pt b (dL wb db a x A x.gl.length c) 137 :: kA A c x.gl :: L) M := iT (P := dF b wb db a x) h
theorem xd {a : SA} {A : Option Addr} {c n : Nat} {l : List Int} (h : Hp R (pt b (dL wb db a x A n c) 137 :: kA A c l :: L) M) (e : n = l.length := by first | rfl | simp) : Hp R (gq (dF b wb db a x) l :: L) M := HK (P := dF b wb db a x) h e
theorem Qm {bs : List Nat} {ps : List c9} {i lb : Nat} {pr : c9} (h1 : bs[i]? = some lb) (h2 : ps[i]? = some pr) : (bL bs ps)[i]? = some (lb, pr.turns, pr.eD) := FK h1 h2
theorem yR {bs : List Nat} {ps : List c9} {i lb : Nat} {pr : c9} (h1 : bs[i]? = some lb) : (bL bs ps).set i (lb, pr.turns, pr.eD) = bL bs (ps.set i pr) := mR (f := fun b (p : c9) => (b, p.turns, p.eD)) h1
theorem j7 {bs : List Nat} {ps : List c9} (h : bs.length = ps.length) : (bL bs ps).length = ps.length := by simp [bL, h]
theorem po (h : Hp R L M) [o : pn b L pa p wb db x L'] (k : K (.pointer (some ⟨wb, 0, none⟩)) M) : aa Tryz.prog 18 #[.pointer (some ⟨b, 0, none⟩)] M K Kp := by
 refine oP ?_
 obtain ⟨a, hl, h⟩ := eR h (b := b)
 obtain ⟨A, c, h⟩ := nf h
 exact j2 h k
theorem pq (h : Hp R L M) [o : pn b L pa p wb db x L'] (k : K (.int .i64 x.steps) M) : aa Tryz.prog 35 #[.pointer (some ⟨b, 0, none⟩)] M K Kp := by
 refine oQ ?_
 obtain ⟨a, hl, h⟩ := eR h (b := b)
 obtain ⟨A, c, h⟩ := nf h
 exact aG h k
def Sc.status (x : Sc) : Int := if x.w.end_ = 1 then 1 else if x.w.end_ = 2 then 2 else if x.w.stuck then 3 else 0
theorem ua (h : Hp R L M) [o : pn b L pa p wb db x L'] (hs : x.w.gs.length ≤ 1000000) (k : K (.int .i64 x.status) M) : aa Tryz.prog 22 #[.pointer (some ⟨b, 0, none⟩)] M K Kp := by
 refine nS ?_
 have h' := eR h (b := b)
 clear h
 obtain ⟨a, hl, h⟩ := h'
 have h' := nf h
 clear h
 obtain ⟨A, c, h⟩ := h'
 unfold Sc.status at k
 refine j2 h ?_
 refine JV h ?_
 refine ⟨_, _, rfl, ?_⟩
 refine bN.2 ⟨fun e => ?_, fun e => ?_⟩
 ·rw [if_pos e] at k; exact k
 rw [if_neg e] at k
 refine bN.2 ⟨fun e => ?_, fun e => ?_⟩
 ·rw [if_pos e] at k; exact k
 rw [if_neg e] at k
 refine j2 h ?_
 refine Ey h hs ?_
 refine nw ?_
 cases hst : x.w.stuck with
 | true => rw [hst] at k; exact af k
 | false => rw [hst] at k; exact ai k
def Sc.tick (x : Sc) : Sc × Ev := ({ x with w := x.w.tick, gl := x.gl ++ x.w.tick.ready }, ⟨1, -1, -1, x.w.tick.ready⟩)
def Kg (e : Ev) (A : Option Addr) (c : Nat) : Value := .agg #[.int .i64 e.kind, .int .i64 e.m, .int .i64 e.g, .slice A e.ready.length c]
theorem pz {k1 T n : Nat} {v1 v2 v3 v4 : Value} {e1 e2 e3 : Int} {A : Option Addr} {c : Nat} {G : Mem → Prop} (h : Hp R L M) [q : j4 k1 L [v1, v2, v3, v4] T L']
  (k : ∀ M', Hp R (pt k1 [.int .i64 e1, .int .i64 e2, .int .i64 e3, .slice A n c] T :: L') M' → G M') :
  aI M ⟨k1, 0, none⟩ (.int .i64 e1) fun M1 => aI M1 ⟨k1, (0 + 1), none⟩ (.int .i64 e2) fun M2 => aI M2 ⟨k1, (0 + 2), none⟩ (.int .i64 e3) fun M3 => aI M3 ⟨k1, (0 + 3), none⟩ (.slice A n c) G := by
 have h := h.pick q.pick
 refine aq h ?_
 clear h; intro M h
 refine aq h ?_
 clear h; intro M h
 refine aq h ?_
 clear h; intro M h
 refine aq h ?_
 clear h; intro M h
 exact k _ h
theorem pA {k1 T n : Nat} {e1 e2 e3 : Int} {A : Option Addr} {c : Nat} {G : Int → Int → Int → Option Addr → Nat → Nat → Prop} (h : Hp R L M) [q : j4 k1 L [.int .i64 e1, .int .i64 e2, .int .i64 e3, .slice A n c] T L'] (g : G e1 e2 e3 A n c) :
  aH (Mem.ld M ⟨k1, 0, none⟩) .i64 fun n1 => aH (Mem.ld M ⟨k1, (0 + 1), none⟩) .i64 fun n2 => aH (Mem.ld M ⟨k1, (0 + 2), none⟩) .i64 fun n3 => az (Mem.ld M ⟨k1, (0 + 3), none⟩) fun A k l => G n1 n2 n3 A k l := by
 have h := h.pick q.pick
 exact aG h (aG h (aG h (be h g)))
def yS (x : Sc) : Prop := x.w.hl.length ≤ 1000000 ∧ (∀ y ∈ (dn x.w.hl.length x.w.hl (IntKind.wrap .u64 (x.w.clock + 1))).2, 0 ≤ y.id ∧ y.id < x.w.gs.length) ∧ x.gl.length + x.w.tick.ready.length ≤ 1000000
instance (x : Sc) : Decidable (yS x) := by unfold yS; infer_instance
theorem GD (h : Hp R L M) [o : pn b L pa p wb db x L'] (hk : yS x)
  (k : ∀ R' A c M', R.le R' → RS bI R' A c x.tick.2.ready → Hp R' (ay (eH pa p wb db) b x.tick.1 :: L') M' → K (Kg x.tick.2 A c) M') : aa Tryz.prog 108 #[.pointer (some ⟨b, 0, none⟩)] M K Kp := by
 refine qI ?_
 refine aj h ?_
 clear h
 intro k1 M h
 have h' := eR h (b := b)
 clear h
 obtain ⟨a, hl, h⟩ := h'
 have h' := nf h
 clear h
 obtain ⟨A, c, h⟩ := h'
 refine j2 h ?_
 refine Gy h hk.1 hk.2.1 ?_
 clear h; intro R2 Ar cr M hle w9 h
 refine bk ?_
 replace h : Hp R2 (pt b (dL wb db a x A x.gl.length c) 137 :: kA A c x.gl :: ay (bC pa p) wb x.w.tick :: ay (cw .nilFunc) db x.d :: bW a.ap a.cp (bL a.lb x.ps) :: aV bE a.lb (x.ps.map c9.q) :: bZ a.am a.cm x.ms :: pt k1 [.int .i64 0, .int .i64 0, .int .i64 0, .slice none 0 0] 43 :: L') M := h.sub bM
 replace h := xd h
 refine m8 (P := dF b wb db a x) yQ h (w9.src) rfl (by have := hk.2.2; omega) ?_
 clear h; intro M h
 refine ⟨rfl, ?_⟩
 refine pz h ?_
 clear h; intro M h
 refine pA h ?_
 exact k R2 Ar cr _ hle w9 (gK (a := a) (x := x.tick.1) hl (h.sub bM))
end
def ng (q : Loc) : Bool := q.next != -1 || !q.l.isEmpty
def fJ (q : Loc) (turns : Int) (gl : List Int) : Loc × List Int × Int × Bool :=
 let a := q.dy gl
 if Int.tmod turns 7 = 6 ∧ 0 < a.2.1.length then (a.1, a.2.1.drop 1, a.2.1.headD 0, true)
 else if ng a.1 then (a.1.get.1, a.2.1, a.1.get.2, true)
 else ((a.1.get.1.dN a.2.1 0).1, (a.1.get.1.dN a.2.1 0).2.1, (a.1.get.1.dN a.2.1 0).2.2, !a.2.1.isEmpty)
def fz (f : Loc) (v : Int) : Bool := v != -1 || !f.l.isEmpty
theorem Nn {q : Loc} {gl : List Int} : (q.dy gl).2.1.length ≤ gl.length + q.l.length + 1 := by
 unfold Loc.dy
 split
 ·simp; omega
 ·unfold Loc.put
  split
  ·simp; omega
  ·simp; omega
section
variable {R : Mem} {L L' L2 : List HP} {M : Mem} {K : Value → Mem → Prop} {Kp : List PanicEntry → Mem → Prop} {pa : PA} {p : cj} {b wb db : Nat} {x : Sc} {m i : Int}
def Sc.hold (x : Sc) (m : Int) : Sc × Ev := match x.ps.findIdx? (fun pr => pr.eD == -1) with
 | some i => (((x.bO (i : Int) { ax x (i : Int) with eD := m }).gB m { av x m with p := (i : Int) }), ⟨2, m, -1, []⟩)
 | none => (x, ⟨3, m, -1, []⟩)
theorem yT {a : SA} {y : c9} : dF b wb db a (x.bO i y) = dF b wb db a x := by
 unfold dF dL Sc.bO; simp
theorem yU {a : SA} {y : tZ} : dF b wb db a (x.gB i y) = dF b wb db a x := by
 unfold dF dL Sc.gB; simp
theorem pB {a : SA} (hl : a.lb.length = x.ps.length) (h0 : 0 ≤ i) (h1 : i < x.ps.length) : ∃ lb, a.lb[i.toNat]? = some lb ∧ x.ps[i.toNat]? = some (ax x i) ∧ (bL a.lb x.ps)[i.toNat]? = some (lb, (ax x i).turns, (ax x i).eD) := by
 obtain ⟨lb, hlb⟩ := aO (l := a.lb) (i := i.toNat) (by omega)
 obtain ⟨y, hy⟩ := aO (l := x.ps) (i := i.toNat) (by omega)
 have e : ax x i = y := by simp [ax, hy]
 rw [e]
 exact ⟨lb, hlb, hy, Qm hlb hy⟩
theorem pC (h0 : 0 ≤ m) (h1 : m < x.ms.length) : x.ms[m.toNat]? = some (av x m) := by
 obtain ⟨y, hy⟩ := aO (l := x.ms) (i := m.toNat) (by omega)
 have e : av x m = y := by simp [av, hy]
 rw [e]; exact hy
theorem vo {ps : List c9} {j : Nat} {pr y : c9} (h : ps[j]? = some pr) (e : y.q = pr.q) : (ps.set j y).map c9.q = ps.map c9.q := by
 obtain ⟨hj, rfl⟩ := List.getElem?_eq_some_iff.1 h
 rw [List.map_set, e]
 have h2 : (ps.map c9.q)[j]'(by simpa using hj) = ps[j].q := by simp
 rw [← h2]
 exact List.set_getElem_self _
theorem vp {a : SA} {A : Option Addr} {c : Nat} {cs : List Value} {l : List Int} {pw : List (Nat × Int × Int)} {qs : List Loc} {ms : List tZ} {L0 L1 L2 L3 L4 L5 L6 : List HP} (h : Hp R L M) (b : Nat)
  [p0 : j4 b L cs 137 L0] [p1 : ct A L0 Int bI 3 c l L1] [p2 : HT wb L1 pa p x.w L2] [p3 : bV (cw .nilFunc) db L2 x.d L3] [p4 : ct a.ap L3 (Nat × Int × Int) pg 141 a.cp pw L4]
  [p5 : e8 bE L4 a.lb qs L5] [p6 : ct a.am L5 tZ kP 143 a.cm ms L6] (hc : cs = dL wb db a x A x.gl.length c) (hg : l = x.gl) (hl : a.lb.length = x.ps.length) (hp : pw = bL a.lb x.ps) (hq : x.ps.map c9.q = qs) (hm : ms = x.ms) : Hp R (ay (eH pa p wb db) b x :: L6) M := by
 subst hc; subst hg; subst hp; subst hq; subst hm
 have h2 : Hp R (pt b (dL wb db a x A x.gl.length c) 137 :: kA A c x.gl :: ay (bC pa p) wb x.w :: ay (cw .nilFunc) db x.d :: iu a x L6) M :=
  h.sub (.cons p0.pick (.cons p1.pick (.cons p2.pick (.cons p3.pick (.cons p4.pick (.cons p5.pick (.cons p6.pick .refl)))))))
 exact gK (a := a) hl (xd h2)
theorem GF (h : Hp R L M) [o : pn b L pa p wb db x L'] (h0 : 0 ≤ m) (h1 : m < x.ms.length) (hs : x.ps.length ≤ 1000000)
  (k : ∀ M', Hp R (ay (eH pa p wb db) b (x.hold m).1 :: L') M' → K (Kg (x.hold m).2 none 0) M') : aa Tryz.prog 109 #[.pointer (some ⟨b, 0, none⟩), .int .i64 m] M K Kp := by
 refine qJ ?_
 refine aj h ?_
 clear h
 intro k1 M h
 have h' := eR h (b := b)
 clear h
 obtain ⟨a, hl, h⟩ := h'
 have h' := nf h
 clear h
 obtain ⟨A, c, h⟩ := h'
 refine be h ?_
 unfold Sc.hold at k
 have hprl := j7 hl
 refine ⟨fun d vs M => ∃ j : Nat, vs = [.int .i64 (j : Int)] ∧ d = x.ps.length - j ∧ j ≤ x.ps.length ∧ (∀ q pr, q < j → x.ps[q]? = some pr → pr.eD ≠ -1) ∧
   Hp R (pt b (dL wb db a x A x.gl.length c) 137 :: kA A c x.gl :: pt k1 [.int .i64 0, .int .i64 0, .int .i64 0, .slice none 0 0] 43 :: ay (bC pa p) wb x.w :: ay (cw .nilFunc) db x.d :: iu a x L') M,
  ⟨_, 0, rfl, rfl, by omega, fun q pr hq => by omega, h.sub bM⟩, ?_⟩
 clear h
 rintro d _ nn M ⟨j, he, hd, hj, hp, h⟩
 simp only [List.cons.injEq, Value.int.injEq, and_true, true_and] at he
 subst he
 refine aJ.2 ⟨fun hlt => ?_, fun hge => ?_⟩
 ·obtain ⟨lb, hlb, jh, hrow⟩ := pB (i := (j : Int)) hl (by omega) hlt
  simp only [Int.toNat_natCast] at hlb jh hrow
  obtain ⟨q, hq⟩ := h.bA (A := a.ap) (l := bL a.lb x.ps) (by omega) (by decide)
  have VC := h.src (A := a.ap)
  rw [hq] at VC
  refine be h ⟨by omega, hlt, ?_⟩
  rw [hq]
  refine bp ?_
  refine bn (Src.at VC h (i := j) (j := 2) hrow rfl (by show _ = 0 + (j * 3 + 2); simp)) ?_
  refine bN.2 ⟨fun e => ?_, fun e => ?_⟩
  ·have Wm : x.ps.findIdx? (fun pr => pr.eD == -1) = some j := by
    refine List.findIdx?_eq_some_iff_getElem.2 ⟨by omega, ?_, fun q hq => ?_⟩
    ·have := (List.getElem?_eq_some_iff.1 jh).2
     rw [this]; simpa using e
    ·have := hp q _ hq (List.getElem?_eq_getElem (by omega))
     simpa using this
   rw [Wm] at k
   dsimp only at k
   clear VC
   obtain ⟨q2, kK⟩ := h.bA (A := a.am) (l := x.ms) (by omega) (by decide)
   have ea := bH h (b := b) (o := 0 + 5) (v := .slice a.ap x.ps.length a.cp)
   rw [hq] at ea
   refine (show ∀ {G}, G (some ⟨q, 0, none⟩) x.ps.length a.cp → az (M.ld ⟨b, 0 + 5, none⟩) G from fun g => by rw [ea]; exact bk g) ?_
   refine be h ⟨by omega, hlt, bp ?_⟩
   have hap : a.ap = some ⟨q, 0, none⟩ := hq
   have HZ : a.am = some ⟨q2, 0, none⟩ := kK
   obtain ⟨ap, cp, uz, am, cm⟩ := a
   dsimp only at hap HZ hrow hlb hl hprl h
   subst hap; subst HZ
   refine gp (E := pg) (a' := (lb, (ax x (j : Int)).turns, m)) j 2 h hrow (by decide) rfl (by show _ = j * 3 + 2; simp) ?_
   clear h; intro M h
   refine ⟨h0, h1, bp ?_⟩
   refine gp (E := kP) (a' := { av x m with p := (j : Int) }) m.toNat 0 h (pC h0 h1) (by decide) rfl (by show _ = m.toNat * 3 + 0; simp) ?_
   clear h; intro M h
   refine pz h ?_
   clear h; intro M h
   refine pA h ?_
   rw [yR (pr := { ax x (j : Int) with eD := m }) hlb] at h
   have e3 := vo (y := { ax x (j : Int) with eD := m }) jh rfl
   exact k _ (Hp.bT (vp (A := A) (c := c) (a := ⟨some ⟨q, 0, none⟩, cp, uz, some ⟨q2, 0, none⟩, cm⟩) (x := (x.bO (j : Int) { ax x (j : Int) with eD := m }).gB m { av x m with p := (j : Int) }) h b (by simp [Sc.bO, Sc.gB, dL]) (by rfl) (by simpa [Sc.bO, Sc.gB] using hl) (by rfl) (by exact e3) (by rfl)))
  ·refine ⟨x.ps.length - (j + 1), by omega, j + 1, by rw [aS (by omega)], rfl, by omega, fun q' RO hq' UN => ?_, h⟩
   rcases Nat.lt_or_ge q' j with h8 | h8
   ·exact hp q' RO h8 UN
   ·have : q' = j := by omega
    subst this
    rw [jh] at UN; cases UN; exact e
 ·have Wm : x.ps.findIdx? (fun pr => pr.eD == -1) = none := by
   refine List.findIdx?_eq_none_iff.2 fun pr jh => ?_
   obtain ⟨q, hq, e⟩ := List.getElem_of_mem jh
   have := hp q pr (by omega) (by rw [← e]; exact List.getElem?_eq_getElem hq)
   simpa using this
  rw [Wm] at k
  dsimp only at k
  refine pz h ?_
  clear h; intro M h
  refine pA h ?_
  refine k _ (gK (a := a) hl ?_)
  have h2 := xd (h.sub (show Sub _ (pt b (dL wb db a x A x.gl.length c) 137 :: kA A c x.gl :: ay (bC pa p) wb x.w :: ay (cw .nilFunc) db x.d :: iu a x L') from bM))
  exact h2
theorem yV {bs : List Nat} {ps : List c9} {j : Nat} {pr y : c9} (h : ps[j]? = some pr) (e1 : y.turns = pr.turns) (e2 : y.eD = pr.eD) : bL bs (ps.set j y) = bL bs ps := by
 obtain ⟨hj, rfl⟩ := List.getElem?_eq_some_iff.1 h
 unfold bL
 refine List.ext_getElem (by simp) fun n h1 h2 => ?_
 simp only [List.getElem_zipWith, List.getElem_set]
 split
 ·rename_i he
  subst he
  rw [e1, e2]
 ·rfl
def Sc.own (x : Sc) (i : Int) : Sc × Int × Bool :=
 let r := fJ (ax x i).q (ax x i).turns x.gl
 ({ x.bO i { ax x i with q := r.1 } with gl := r.2.1 }, r.2.2.1, r.2.2.2)
theorem Kh {q : Nat} {a : SA} (h : Hp R L M) [o : sj (dF b wb db a x) L x.gl L'] [o2 : ct (some ⟨q, 0, none⟩) L' (Nat × Int × Int) pg 141 a.cp (bL a.lb x.ps) L2] {L3 : List HP} [o3 : e8 bE L2 a.lb (x.ps.map c9.q) L3]
  (hap : a.ap = some ⟨q, 0, none⟩) (hl : a.lb.length = x.ps.length) (h0 : 0 ≤ i) (h1 : i < x.ps.length) (hs : x.gl.length ≤ 1000000) (ht : 0 ≤ (ax x i).turns)
  (k : ∀ M', Hp R (gq (dF b wb db a x) (x.own i).1.gl :: bW (some ⟨q, 0, none⟩) a.cp (bL a.lb x.ps) :: aV bE a.lb ((x.own i).1.ps.map c9.q) :: L3) M' → K (.tuple #[.int .i64 (x.own i).2.1, .bool (x.own i).2.2]) M') :
  aa Tryz.prog 150 #[.pointer (some ⟨b, 0, none⟩), .pointer (some ⟨q, i.toNat * 3, none⟩)] M K Kp := by
 refine rZ ?_
 obtain ⟨lb, hlb, jh, hrow⟩ := pB (i := i) hl h0 h1
 have h2 : Hp R (gq (dF b wb db a x) x.gl :: bW (some ⟨q, 0, none⟩) a.cp (bL a.lb x.ps) :: aV bE a.lb (x.ps.map c9.q) :: L3) M := h.sub (.cons o.pick (.cons o2.pick (.cons o3.pick .refl)))
 clear h
 have h := h2
 clear h2
 have hq : (x.ps.map c9.q)[i.toNat]? = some (ax x i).q := by rw [List.getElem?_map, jh]; rfl
 unfold Sc.own at k
 dsimp only at k
 have yn : ∀ q', (x.bO i { ax x i with q := q' }).ps.map c9.q = (x.ps.map c9.q).set i.toNat q' := fun q' => by simp [Sc.bO, List.map_set]
 simp only [yn] at k
 unfold fJ at k
 dsimp only at k
 refine lK (Src.at (Src.row (A := some ⟨q, 0, none⟩) : Src R _ _ (pg.cells (bL a.lb x.ps))) h (i := i.toNat) (j := 0) hrow rfl (by show _ = 0 + (i.toNat * 3 + 0); simp)) ?_
 replace h := h.cQ bE hlb hq
 replace h : Hp R (ay bE lb (ax x i).q :: gq (dF b wb db a x) x.gl :: kI bE a.lb (x.ps.map c9.q) i.toNat :: bW (some ⟨q, 0, none⟩) a.cp (bL a.lb x.ps) :: L3) M := h.sub bM
 have hbd := vf h (b := lb)
 refine Gl (P := dF b wb db a x) yQ h (by omega) ?_
 clear h; intro M h
 have Vw := Nn (q := (ax x i).q) (gl := x.gl)
 refine cy ?_
 generalize htr : (ax x i).q.dy x.gl = r at h k Vw
 obtain ⟨q1, g1, n1⟩ := r
 dsimp only at h k Vw
 have JZ : g1.length ≤ 100000000 := by obtain ⟨a1, a2, a3⟩ := hbd; omega
 refine bn (Src.at (h.src (A := some ⟨q, 0, none⟩)) h (i := i.toNat) (j := 1) hrow rfl (by show _ = 0 + (i.toNat * 3 + 1); omega)) ?_
 refine ⟨by decide, ?_⟩
 have rest : ∀ {M : Mem}, (Hp R (ay bE lb q1 :: gq (dF b wb db a x) g1 :: kI bE a.lb (x.ps.map c9.q) i.toNat :: bW (some ⟨q, 0, none⟩) a.cp (bL a.lb x.ps) :: L3) M) → ¬ (Int.tmod (ax x i).turns 7 = 6 ∧ 0 < g1.length) →
   b8 (Mem.ld M ⟨q, i.toNat * 3, none⟩) fun mq =>
    aa Tryz.prog 149 #[(.pointer mq)] M (fun DH fh =>
    ∃ lA : Int, ∃ t18 : Bool, (DH = (.tuple #[(.int .i64 lA), (.bool t18)])) ∧
    aM t18
     (K (.tuple #[(.int .i64 lA), (.bool true)]) fh)
     (b8 (Mem.ld fh ⟨q, i.toNat * 3, none⟩) fun E0 =>
     aa Tryz.prog 180 #[(.pointer E0), (.pointer (some ⟨b, (0 + 7), none⟩)), (.int .i64 0)] fh (fun v20 wB =>
     ∃ qP : Int, ∃ t23 : Bool, (v20 = (.tuple #[(.int .i64 qP), (.bool t23)])) ∧
     K (.tuple #[(.int .i64 qP), (.bool t23)]) wB) Kp)) Kp := by
  intro M h hno
  rw [if_neg hno] at k
  refine lK (Src.at (h.src (A := some ⟨q, 0, none⟩)) h (i := i.toNat) (j := 0) hrow rfl (by show _ = 0 + (i.toNat * 3 + 0); simp)) ?_
  refine AX h (b := lb) ?_
  clear h; intro t M RP RQ h
  refine ⟨_, _, rfl, ?_⟩
  by_cases hh : ng q1 = true
  ·rw [if_pos hh] at k
   have : t = true := RQ (by unfold ng at hh; simpa using hh)
   subst this
   refine af ?_
   replace h := h.dw bE lb hlb (by rw [List.length_map]; omega)
   exact k _ (h.sub bM)
  ·rw [if_neg hh] at k
   have hn : q1.next = -1 ∧ q1.l = [] := by
    unfold ng at hh
    rw [Bool.or_eq_true] at hh
    constructor
    ·exact Decidable.byContradiction fun e => hh (.inl (by simpa using e))
    ·cases XG : q1.l with
     | nil => rfl
     | cons _ _ => exact absurd (.inr (by rw [XG]; rfl)) hh
   have hg : q1.get.2 = -1 := by unfold Loc.get; rw [if_neg (by simpa using hn.1), hn.2]
   have : t = false := RP hg hn.1 hn.2
   subst this
   refine ai ?_
   refine lK (Src.at (h.src (A := some ⟨q, 0, none⟩)) h (i := i.toNat) (j := 0) hrow rfl (by show _ = 0 + (i.toNat * 3 + 0); simp)) ?_
   replace h : Hp R (ay bE lb q1.get.1 :: gq (dF b wb db a x) g1 :: kI bE a.lb (x.ps.map c9.q) i.toNat :: bW (some ⟨q, 0, none⟩) a.cp (bL a.lb x.ps) :: L3) M := h.sub bM
   refine Ef (P := dF b wb db a x) yQ h JZ (by decide) ?_
   clear h; intro t2 M ht3 ht4 h
   refine ⟨_, _, rfl, ?_⟩
   have ht5 : t2 = !g1.isEmpty := by
    cases g1 with
    | nil => exact ht3 (by unfold Loc.dN; simp) rfl
    | cons _ _ => exact ht4 (by simp)
   subst ht5
   replace h := h.dw bE lb hlb (by rw [List.length_map]; omega)
   exact k _ (h.sub bM)
 refine bN.2 ⟨fun e6 => ?_, fun e6 => ?_⟩
 ·replace h : Hp R (gq (dF b wb db a x) g1 :: ay bE lb q1 :: kI bE a.lb (x.ps.map c9.q) i.toNat :: bW (some ⟨q, 0, none⟩) a.cp (bL a.lb x.ps) :: L3) M := h.sub bM
  refine oW (P := dF b wb db a x) (n := 1) yQ h (by omega) ?_
  clear h; intro A2 c2 M h
  refine bk ?_
  have e1 : (1 : Int).toNat = 1 := rfl
  rw [e1] at h ⊢
  by_cases hg : 0 < g1.length
  ·rw [if_pos ⟨e6, hg⟩] at k
   have hlen : (g1.take 1).length = 1 := by rw [List.length_take]; omega
   rw [hlen]
   refine af ⟨by omega, by omega, ?_⟩
   obtain ⟨q9, rfl⟩ := h.bA (A := A2) (by omega) (by decide)
   refine bp ?_
   obtain ⟨v, hv⟩ := aO (l := g1) (i := 0) hg
   have KC : (g1.take 1)[0]? = some v := by rw [List.getElem?_take, if_pos (by omega)]; exact hv
   refine bn (Src.at (h.src (A := some ⟨q9, 0, none⟩)) h (i := 0) (j := 0) KC rfl rfl) ?_
   have XH : g1.headD 0 = v := by
    cases g1 with
    | nil => simp at hg
    | cons w _ => simp at hv; simpa using hv
   rw [XH] at k
   replace h : Hp R (ay bE lb q1 :: kI bE a.lb (x.ps.map c9.q) i.toNat :: gq (dF b wb db a x) (g1.drop 1) :: bW (some ⟨q, 0, none⟩) a.cp (bL a.lb x.ps) :: L3) M := h.sub bM
   replace h := h.dw bE lb hlb (by rw [List.length_map]; omega)
   exact k _ (h.sub bM)
  ·have JN : g1 = [] := List.eq_nil_of_length_eq_zero (by omega)
   subst JN
   refine ai ?_
   exact rest (h.sub bM) (fun hc => by simp at hc)
 ·exact rest (h.sub bM) (fun hc => e6 hc.1)
end
inductive gC where
 | ev (e : Ev)
 | cz (l : List PanicEntry)
def Sc.aT (x : Sc) (m i kind g : Int) (ok : Bool) : Sc × Ev :=
 if ok then ((x.bO i { ax x i with turns := (ax x i).turns + 1 }).gB m ⟨(av x m).p, g, x.c.S⟩, ⟨kind, m, g, []⟩)
 else ((x.bO i { ax x i with eD := -1 }).gB m ⟨-1, -1, 0⟩, ⟨6, m, -1, []⟩)
def Sc.find (x : Sc) (m : Int) : Sc × gC :=
 let i := (av x m).p
 if 0 < (av x m).left ∧ (ax x i).q.next ≠ -1 then
  ((x.bO i { ax x i with q := (ax x i).q.get.1 }).gB m { av x m with g := (ax x i).q.get.2 }, .ev ⟨4, m, (ax x i).q.get.2, []⟩)
 else
  let y := (x.own i).1
  if (x.own i).2.2 = false ∧ 1 < x.c.P then match y.d.draw 2 x.c.P with
   | (d', .cz l) => ({ y with d := d' }, .cz l)
   | (d', .num v) =>
    let y := { y with d := d' }
    if v = i then ((y.aT m i 5 (-1) false).1, .ev (y.aT m i 5 (-1) false).2)
    else
     let s := (ax y i).q.cT (ax y v).q
     let z := (y.bO i { ax y i with q := s.1 }).bO v { ax y v with q := s.2.1 }
     ((z.aT m i 5 s.2.2 (fz (ax y v).q s.2.2)).1, .ev (z.aT m i 5 s.2.2 (fz (ax y v).q s.2.2)).2)
  else ((y.aT m i 4 (x.own i).2.1 (x.own i).2.2).1, .ev (y.aT m i 4 (x.own i).2.1 (x.own i).2.2).2)
section
variable {R : Mem} {L L' L2 : List HP} {M : Mem} {K : Value → Mem → Prop} {Kp : List PanicEntry → Mem → Prop} {pa : PA} {p : cj} {b wb db : Nat} {x : Sc} {m i : Int}
theorem vq {lb : Nat} (k : K (.tuple #[.int .i64 (-1), .bool false]) M) : aa Tryz.prog 151 #[.pointer (some ⟨lb, 0, none⟩), .pointer (some ⟨lb, 0, none⟩)] M K Kp := by
 refine jb ?_
 exact ⟨fun _ => af k, fun hne => absurd rfl hne⟩
theorem pD {y : c9} : (x.bO i y).ps.length = x.ps.length := by simp [Sc.bO]
theorem Ki {a : SA} {q q2 k1 : Nat} {kind g : Int} {t : Bool}
  (h : Hp R (gq (dF b wb db a x) x.gl :: ay (bC pa p) wb x.w :: ay (cw .nilFunc) db x.d :: bW (some ⟨q, 0, none⟩) a.cp (bL a.lb x.ps) :: aV bE a.lb (x.ps.map c9.q) :: bZ (some ⟨q2, 0, none⟩) a.cm x.ms :: pt k1 [.int .i64 0, .int .i64 0, .int .i64 0, .slice none 0 0] 43 :: L') M)
  (hap : a.ap = some ⟨q, 0, none⟩) (HZ : a.am = some ⟨q2, 0, none⟩) (hl : a.lb.length = x.ps.length) (m0 : 0 ≤ m) (m1 : m < x.ms.length) (i0 : 0 ≤ i) (i1 : i < x.ps.length) (ht : 0 ≤ (ax x i).turns ∧ (ax x i).turns < 1000000000)
  (k : ∀ M', Hp R (ay (eH pa p wb db) b (x.aT m i kind g t).1 :: L') M' → K (Kg (x.aT m i kind g t).2 none 0) M') :
  aM (!t)
   (az (Mem.ld M ⟨b, (0 + 6), none⟩) fun Pu Ow Yw =>
   aI M ⟨q, ((i.toNat * 3) + 2), none⟩ (.int .i64 (-1)) fun Tp =>
   ((0 : Int) ≤ m) ∧
   ((m : Int) < ((Ow : Nat) : Int)) ∧
   aF Pu fun JD HC =>
   aI Tp ⟨JD, (HC + ((Int.toNat m) * 3)), none⟩ (.int .i64 (-1)) fun PF =>
   aI PF ⟨JD, ((HC + ((Int.toNat m) * 3)) + 1), none⟩ (.int .i64 (-1)) fun W4 =>
   aI W4 ⟨JD, ((HC + ((Int.toNat m) * 3)) + 2), none⟩ (.int .i64 0) fun FQ =>
   aI FQ ⟨k1, 0, none⟩ (.int .i64 6) fun W5 =>
   aI W5 ⟨k1, (0 + 1), none⟩ (.int .i64 m) fun nE =>
   aI nE ⟨k1, (0 + 2), none⟩ (.int .i64 (-1)) fun W6 =>
   aI W6 ⟨k1, (0 + 3), none⟩ (.slice none 0 0) fun DX =>
   aH (Mem.ld DX ⟨k1, 0, none⟩) .i64 fun SU =>
   aH (Mem.ld DX ⟨k1, (0 + 1), none⟩) .i64 fun Pd =>
   aH (Mem.ld DX ⟨k1, (0 + 2), none⟩) .i64 fun SW =>
   az (Mem.ld DX ⟨k1, (0 + 3), none⟩) fun W7 W8 W9 =>
   K (.agg #[(.int .i64 SU), (.int .i64 Pd), (.int .i64 SW), (.slice W7 W8 W9)]) DX)
   (aH (Mem.ld M ⟨q, ((i.toNat * 3) + 1), none⟩) .i64 fun nF =>
   aI M ⟨q, ((i.toNat * 3) + 1), none⟩ (.int .i64 (IntKind.wrap .i64 (nF + 1))) fun qL =>
   az (Mem.ld qL ⟨b, (0 + 6), none⟩) fun Cg wJ JE =>
   az (Mem.ld qL ⟨b, (0 + 6), none⟩) fun Ch wG rX =>
   aH (Mem.ld qL ⟨b, ((0 + 1) + 3), none⟩) .i64 fun FW =>
   ((0 : Int) ≤ m) ∧
   ((m : Int) < ((wJ : Nat) : Int)) ∧
   aF Cg fun Mo Mp =>
   aI qL ⟨Mo, ((Mp + ((Int.toNat m) * 3)) + 1), none⟩ (.int .i64 g) fun oR =>
   ((0 : Int) ≤ m) ∧
   ((m : Int) < ((wG : Nat) : Int)) ∧
   aF Ch fun Mq Mr =>
   aI oR ⟨Mq, ((Mr + ((Int.toNat m) * 3)) + 2), none⟩ (.int .i64 FW) fun mY =>
   aI mY ⟨k1, 0, none⟩ (.int .i64 kind) fun Ms =>
   aI Ms ⟨k1, (0 + 1), none⟩ (.int .i64 m) fun FX =>
   aI FX ⟨k1, (0 + 2), none⟩ (.int .i64 g) fun FY =>
   aI FY ⟨k1, (0 + 3), none⟩ (.slice none 0 0) fun mX =>
   aH (Mem.ld mX ⟨k1, 0, none⟩) .i64 fun F0 =>
   aH (Mem.ld mX ⟨k1, (0 + 1), none⟩) .i64 fun Cd =>
   aH (Mem.ld mX ⟨k1, (0 + 2), none⟩) .i64 fun Ce =>
   az (Mem.ld mX ⟨k1, (0 + 3), none⟩) fun Mt Mu FZ =>
   K (.agg #[(.int .i64 F0), (.int .i64 Cd), (.int .i64 Ce), (.slice Mt Mu FZ)]) mX) := by
 obtain ⟨lb, hlb, jh, hrow⟩ := pB (i := i) hl i0 i1
 have ji := pC m0 m1
 have m2 : m.toNat < x.ms.length := by omega
 obtain ⟨ap, cp, uz, am, cm⟩ := a
 dsimp only at hap HZ hl hlb hrow h
 subst hap; subst HZ
 obtain ⟨A, c, h2⟩ := nf h
 clear h
 have h := h2
 clear h2
 unfold Sc.aT at k
 cases t with
 | false =>
  simp only [Bool.false_eq_true, if_false] at k
  refine af ?_
  refine be h ?_
  refine gp (E := pg) (a' := (lb, (ax x i).turns, -1)) i.toNat 2 h hrow (by decide) rfl rfl ?_
  clear h; intro M h
  refine ⟨m0, m1, bp ?_⟩
  refine gp (E := kP) (a' := ⟨-1, (av x m).g, (av x m).left⟩) m.toNat 0 h ji (by decide) rfl (by show _ = m.toNat * 3 + 0; omega) ?_
  clear h; intro M h
  refine gp (E := kP) (a := ⟨-1, (av x m).g, (av x m).left⟩) (a' := ⟨-1, -1, (av x m).left⟩) m.toNat 1 h (by simp [m2]) (by decide) rfl (by show _ = m.toNat * 3 + 1; omega) ?_
  clear h; intro M h
  refine gp (E := kP) (a := ⟨-1, -1, (av x m).left⟩) (a' := ⟨-1, -1, 0⟩) m.toNat 2 h (by simp [m2]) (by decide) rfl (by show _ = m.toNat * 3 + 2; omega) ?_
  clear h; intro M h
  rw [hU, hU, yR (pr := { ax x i with eD := -1 }) hlb] at h
  refine pz h ?_
  clear h; intro M h
  refine pA h ?_
  have e3 := vo (y := { ax x i with eD := -1 }) jh rfl
  exact k _ (Hp.bT (vp (A := A) (c := c) (a := ⟨some ⟨q, 0, none⟩, cp, uz, some ⟨q2, 0, none⟩, cm⟩) (x := (x.bO i { ax x i with eD := -1 }).gB m ⟨-1, -1, 0⟩) h b (by simp [Sc.bO, Sc.gB, dL]) (by rfl) (by simpa [Sc.bO, Sc.gB] using hl) (by rfl) (by exact e3) (by rfl)))
 | true =>
  simp only [if_true] at k
  refine ai ?_
  refine bn (Src.at (h.src (A := some ⟨q, 0, none⟩)) h (i := i.toNat) (j := 1) hrow rfl (by show _ = 0 + (i.toNat * 3 + 1); omega)) ?_
  rw [iM ht.1 (by omega)]
  refine gp (E := pg) (a' := (lb, (ax x i).turns + 1, (ax x i).eD)) i.toNat 1 h hrow (by decide) rfl rfl ?_
  clear h; intro M h
  refine be h (be h (aG h ⟨m0, m1, bp ?_⟩))
  refine gp (E := kP) (a' := ⟨(av x m).p, g, (av x m).left⟩) m.toNat 1 h ji (by decide) rfl (by show _ = m.toNat * 3 + 1; omega) ?_
  clear h; intro M h
  refine ⟨m0, m1, bp ?_⟩
  refine gp (E := kP) (a := ⟨(av x m).p, g, (av x m).left⟩) (a' := ⟨(av x m).p, g, x.c.S⟩) m.toNat 2 h (by simp [m2]) (by decide) rfl (by show _ = m.toNat * 3 + 2; omega) ?_
  clear h; intro M h
  rw [hU, yR (pr := { ax x i with turns := (ax x i).turns + 1 }) hlb] at h
  refine pz h ?_
  clear h; intro M h
  refine pA h ?_
  have e3 := vo (y := { ax x i with turns := (ax x i).turns + 1 }) jh rfl
  exact k _ (Hp.bT (vp (A := A) (c := c) (a := ⟨some ⟨q, 0, none⟩, cp, uz, some ⟨q2, 0, none⟩, cm⟩) (x := (x.bO i { ax x i with turns := (ax x i).turns + 1 }).gB m ⟨(av x m).p, g, x.c.S⟩) h b (by simp [Sc.bO, Sc.gB, dL]) (by rfl) (by simpa [Sc.bO, Sc.gB] using hl) (by rfl) (by exact e3) (by rfl)))
def vr (x : Sc) (m : Int) : Prop := 0 ≤ m ∧ m < x.ms.length ∧ 0 ≤ (av x m).p ∧ (av x m).p < x.ps.length ∧ x.gl.length ≤ 1000000 ∧ 0 ≤ (ax x (av x m).p).turns ∧ (ax x (av x m).p).turns < 1000000000 ∧ x.d.taken.length < 100000000 ∧ x.c.P ≤ x.ps.length ∧ x.c.P < 1000000
instance (x : Sc) (m : Int) : Decidable (vr x m) := by unfold vr; infer_instance
theorem Kj {j : Int} (h0 : 0 ≤ i) (hi : i < x.ps.length) (hj : 0 ≤ j) : (ax (x.own i).1 j).turns = (ax x j).turns := by
 unfold Sc.own Sc.bO ax
 dsimp only
 by_cases e : i.toNat = j.toNat
 ·rw [e]
  rw [List.getD_eq_getElem?_getD, List.getElem?_set_self (by omega)]; rfl
 ·rw [List.getD_eq_getElem?_getD, List.getElem?_set_ne e, ← List.getD_eq_getElem?_getD]
end
section
variable {R : Mem} {L L' L2 : List HP} {M : Mem} {K : Value → Mem → Prop} {Kp : List PanicEntry → Mem → Prop} {pa : PA} {p : cj} {b wb db : Nat} {x : Sc} {m i : Int} {a : SA} {g : List Int}
theorem No (h : Hp R (gq (dF b wb db a x) g :: L) M) : M.ld ⟨b, 0 + 5, none⟩ = some (.slice a.ap x.ps.length a.cp) := by
 obtain ⟨A, c, h9⟩ := iT (P := dF b wb db a x) h; exact bH h9
theorem yW (h : Hp R (gq (dF b wb db a x) g :: L) M) : M.ld ⟨b, 0 + 6, none⟩ = some (.slice a.am x.ms.length a.cm) := by
 obtain ⟨A, c, h9⟩ := iT (P := dF b wb db a x) h; exact bH h9
theorem sc_P (h : Hp R (gq (dF b wb db a x) g :: L) M) : M.ld ⟨b, 0 + 1, none⟩ = some (.int .i64 x.c.P) := by
 obtain ⟨A, c, h9⟩ := iT (P := dF b wb db a x) h; exact bH h9
theorem XI (h : Hp R (gq (dF b wb db a x) g :: L) M) : M.ld ⟨b, (0 + 1) + 1, none⟩ = some (.int .i64 x.c.M) := by
 obtain ⟨A, c, h9⟩ := iT (P := dF b wb db a x) h; exact bH h9
theorem UO (h : Hp R (gq (dF b wb db a x) g :: L) M) : M.ld ⟨b, 0 + 8, none⟩ = some (.pointer (some ⟨db, 0, none⟩)) := by
 obtain ⟨A, c, h9⟩ := iT (P := dF b wb db a x) h; exact bH h9
theorem XJ (h : Hp R (gq (dF b wb db a x) g :: L) M) : M.ld ⟨b, 0, none⟩ = some (.pointer (some ⟨wb, 0, none⟩)) := by
 obtain ⟨A, c, h9⟩ := iT (P := dF b wb db a x) h; exact bH h9
theorem Qn : dF b wb db a (x.own i).1 = dF b wb db a x := by
 unfold Sc.own dF dL Sc.bO; simp
def YG (R : Mem) (pa : PA) (p : cj) (b wb db : Nat) (a : SA) (L' : List HP) (K : Value → Mem → Prop) (m i : Int) (q q2 k1 : Nat) (z : Sc) (kind g : Int) (t : Bool) (M : Mem) : Prop :=
 Hp R (gq (dF b wb db a z) z.gl :: ay (bC pa p) wb z.w :: ay (cw .nilFunc) db z.d :: bW (some ⟨q, 0, none⟩) a.cp (bL a.lb z.ps) :: aV bE a.lb (z.ps.map c9.q) :: bZ (some ⟨q2, 0, none⟩) a.cm z.ms :: pt k1 [.int .i64 0, .int .i64 0, .int .i64 0, .slice none 0 0] 43 :: L') M ∧
 a.lb.length = z.ps.length ∧ m < z.ms.length ∧ i < z.ps.length ∧ (0 ≤ (ax z i).turns ∧ (ax z i).turns < 1000000000) ∧
 (∀ M', Hp R (ay (eH pa p wb db) b (z.aT m i kind g t).1 :: L') M' → K (Kg (z.aT m i kind g t).2 none 0) M')
theorem EB {y : c9} {j : Int} (hi : 0 ≤ i) (h1 : i < x.ps.length) (hj : 0 ≤ j) : ax (x.bO i y) j = if i = j then y else ax x j := by
 unfold ax Sc.bO
 dsimp only
 by_cases e : i = j
 ·subst e
  rw [if_pos rfl, List.getD_eq_getElem?_getD, List.getElem?_set_self (by omega)]; rfl
 ·rw [if_neg e, List.getD_eq_getElem?_getD, List.getElem?_set_ne (by omega), ← List.getD_eq_getElem?_getD]
theorem Bf {q q2 k1 : Nat}
  (h : Hp R (gq (dF b wb db a x) x.gl :: ay (bC pa p) wb x.w :: ay (cw .nilFunc) db x.d :: bW (some ⟨q, 0, none⟩) a.cp (bL a.lb x.ps) :: aV bE a.lb (x.ps.map c9.q) :: bZ (some ⟨q2, 0, none⟩) a.cm x.ms :: pt k1 [.int .i64 0, .int .i64 0, .int .i64 0, .slice none 0 0] 43 :: L') M)
  (hap : a.ap = some ⟨q, 0, none⟩) (HZ : a.am = some ⟨q2, 0, none⟩) (hl : a.lb.length = x.ps.length) (hk : vr x m) (hi : i = (av x m).p) (hd : x.d.Ok)
  (k : let y := (x.own i).1
   if (x.own i).2.2 = false ∧ 1 < x.c.P then match y.d.draw 2 x.c.P with
    | (d', .cz l) => ∀ M', Hp R (ay (eH pa p wb db) b { y with d := d' } :: L') M' → Kp l M'
    | (d', .num v) =>
     let y := { y with d := d' }
     let s := (ax y i).q.cT (ax y v).q
     let z := if v = i then y else (y.bO i { ax y i with q := s.1 }).bO v { ax y v with q := s.2.1 }
     let r := if v = i then (-1, false) else (s.2.2, fz (ax y v).q s.2.2)
     ∀ M', Hp R (ay (eH pa p wb db) b (z.aT m i 5 r.1 r.2).1 :: L') M' → K (Kg (z.aT m i 5 r.1 r.2).2 none 0) M'
   else ∀ M', Hp R (ay (eH pa p wb db) b (y.aT m i 4 (x.own i).2.1 (x.own i).2.2).1 :: L') M' → K (Kg (y.aT m i 4 (x.own i).2.1 (x.own i).2.2).2 none 0) M') :
  aa Tryz.prog 150 #[(.pointer (some ⟨b, 0, none⟩)), (.pointer (some ⟨q, (i.toNat * 3), none⟩))] M (fun PD zu =>
 ∃ PE : Int, ∃ t57 : Bool, (PD = (.tuple #[(.int .i64 PE), (.bool t57)])) ∧
 aM (!t57)
  (aH (Mem.ld zu ⟨b, (0 + 1), none⟩) .i64 fun Hs =>
  ∃ Tu : List Value → Mem → Prop, (aM (decide ((Hs : Int) > 1))
   (b8 (Mem.ld zu ⟨b, (0 + 8), none⟩) fun A60 =>
    aH (Mem.ld zu ⟨b, (0 + 1), none⟩) .i64 fun LU =>
    aa Tryz.prog 107 #[(.pointer A60), (.int .i64 2), (.int .i64 LU)] zu (fun S6 BT =>
    aH (some S6) .i64 fun n64 =>
    b8 (Mem.ld BT ⟨q, (i.toNat * 3), none⟩) fun Vt =>
    az (Mem.ld BT ⟨b, (0 + 5), none⟩) fun Mn ux KG =>
    ((0 : Int) ≤ n64) ∧
    ((n64 : Int) < ((ux : Nat) : Int)) ∧
    aF Mn fun k69 Jx =>
    b8 (Mem.ld BT ⟨k69, (Jx + ((Int.toNat n64) * 3)), none⟩) fun WW =>
    aa Tryz.prog 151 #[(.pointer Vt), (.pointer WW)] BT (fun v72 FV =>
    ∃ Tr : Int, ∃ t75 : Bool, (v72 = (.tuple #[(.int .i64 Tr), (.bool t75)])) ∧
    Tu [(.int .i64 5), (.int .i64 Tr), (.bool t75)] FV) Kp) Kp)
   (Tu [(.int .i64 4), (.int .i64 PE), (.bool t57)] zu)) ∧
  ∀ Tv : Nat → Value, ∀ FE : Int, ∀ CZ : Int, ∀ t79 : Bool, ∀ uW : Mem, (Tu [(.int .i64 FE), (.int .i64 CZ), (.bool t79)] uW) → aM (!t79)
   (az (Mem.ld uW ⟨b, (0 + 6), none⟩) fun Pu Ow Yw =>
   aI uW ⟨q, ((i.toNat * 3) + 2), none⟩ (.int .i64 (-1)) fun Tp =>
   ((0 : Int) ≤ m) ∧
   ((m : Int) < ((Ow : Nat) : Int)) ∧
   aF Pu fun JD HC =>
   aI Tp ⟨JD, (HC + ((Int.toNat m) * 3)), none⟩ (.int .i64 (-1)) fun PF =>
   aI PF ⟨JD, ((HC + ((Int.toNat m) * 3)) + 1), none⟩ (.int .i64 (-1)) fun W4 =>
   aI W4 ⟨JD, ((HC + ((Int.toNat m) * 3)) + 2), none⟩ (.int .i64 0) fun FQ =>
   aI FQ ⟨k1, 0, none⟩ (.int .i64 6) fun W5 =>
   aI W5 ⟨k1, (0 + 1), none⟩ (.int .i64 m) fun nE =>
   aI nE ⟨k1, (0 + 2), none⟩ (.int .i64 (-1)) fun W6 =>
   aI W6 ⟨k1, (0 + 3), none⟩ (.slice none 0 0) fun DX =>
   aH (Mem.ld DX ⟨k1, 0, none⟩) .i64 fun SU =>
   aH (Mem.ld DX ⟨k1, (0 + 1), none⟩) .i64 fun Pd =>
   aH (Mem.ld DX ⟨k1, (0 + 2), none⟩) .i64 fun SW =>
   az (Mem.ld DX ⟨k1, (0 + 3), none⟩) fun W7 W8 W9 =>
   K (.agg #[(.int .i64 SU), (.int .i64 Pd), (.int .i64 SW), (.slice W7 W8 W9)]) DX)
   (aH (Mem.ld uW ⟨q, ((i.toNat * 3) + 1), none⟩) .i64 fun nF =>
   aI uW ⟨q, ((i.toNat * 3) + 1), none⟩ (.int .i64 (IntKind.wrap .i64 (nF + 1))) fun qL =>
   az (Mem.ld qL ⟨b, (0 + 6), none⟩) fun Cg wJ JE =>
   az (Mem.ld qL ⟨b, (0 + 6), none⟩) fun Ch wG rX =>
   aH (Mem.ld qL ⟨b, ((0 + 1) + 3), none⟩) .i64 fun FW =>
   ((0 : Int) ≤ m) ∧
   ((m : Int) < ((wJ : Nat) : Int)) ∧
   aF Cg fun Mo Mp =>
   aI qL ⟨Mo, ((Mp + ((Int.toNat m) * 3)) + 1), none⟩ (.int .i64 CZ) fun oR =>
   ((0 : Int) ≤ m) ∧
   ((m : Int) < ((wG : Nat) : Int)) ∧
   aF Ch fun Mq Mr =>
   aI oR ⟨Mq, ((Mr + ((Int.toNat m) * 3)) + 2), none⟩ (.int .i64 FW) fun mY =>
   aI mY ⟨k1, 0, none⟩ (.int .i64 FE) fun Ms =>
   aI Ms ⟨k1, (0 + 1), none⟩ (.int .i64 m) fun FX =>
   aI FX ⟨k1, (0 + 2), none⟩ (.int .i64 CZ) fun FY =>
   aI FY ⟨k1, (0 + 3), none⟩ (.slice none 0 0) fun mX =>
   aH (Mem.ld mX ⟨k1, 0, none⟩) .i64 fun F0 =>
   aH (Mem.ld mX ⟨k1, (0 + 1), none⟩) .i64 fun Cd =>
   aH (Mem.ld mX ⟨k1, (0 + 2), none⟩) .i64 fun Ce =>
   az (Mem.ld mX ⟨k1, (0 + 3), none⟩) fun Mt Mu FZ =>
   K (.agg #[(.int .i64 F0), (.int .i64 Cd), (.int .i64 Ce), (.slice Mt Mu FZ)]) mX))
  (∃ Mv : List Value → Mem → Prop, (Mv [(.int .i64 4), (.int .i64 PE), (.bool t57)] zu) ∧
  ∀ PG : Nat → Value, ∀ ya : Int, ∀ zP : Int, ∀ t129 : Bool, ∀ yb : Mem, (Mv [(.int .i64 ya), (.int .i64 zP), (.bool t129)] yb) → aM (!t129)
   (az (Mem.ld yb ⟨b, (0 + 6), none⟩) fun JA JB PC =>
   aI yb ⟨q, ((i.toNat * 3) + 2), none⟩ (.int .i64 (-1)) fun Mj =>
   ((0 : Int) ≤ m) ∧
   ((m : Int) < ((JB : Nat) : Int)) ∧
   aF JA fun F1 F2 =>
   aI Mj ⟨F1, (F2 + ((Int.toNat m) * 3)), none⟩ (.int .i64 (-1)) fun JC =>
   aI JC ⟨F1, ((F2 + ((Int.toNat m) * 3)) + 1), none⟩ (.int .i64 (-1)) fun Tw =>
   aI Tw ⟨F1, ((F2 + ((Int.toNat m) * 3)) + 2), none⟩ (.int .i64 0) fun Cf =>
   aI Cf ⟨k1, 0, none⟩ (.int .i64 6) fun Tx =>
   aI Tx ⟨k1, (0 + 1), none⟩ (.int .i64 m) fun Ty =>
   aI Ty ⟨k1, (0 + 2), none⟩ (.int .i64 (-1)) fun Tz =>
   aI Tz ⟨k1, (0 + 3), none⟩ (.slice none 0 0) fun yd =>
   aH (Mem.ld yd ⟨k1, 0, none⟩) .i64 fun TA =>
   aH (Mem.ld yd ⟨k1, (0 + 1), none⟩) .i64 fun TB =>
   aH (Mem.ld yd ⟨k1, (0 + 2), none⟩) .i64 fun TC =>
   az (Mem.ld yd ⟨k1, (0 + 3), none⟩) fun TD TE TF =>
   K (.agg #[(.int .i64 TA), (.int .i64 TB), (.int .i64 TC), (.slice TD TE TF)]) yd)
   (aH (Mem.ld yb ⟨q, ((i.toNat * 3) + 1), none⟩) .i64 fun Ml =>
   aI yb ⟨q, ((i.toNat * 3) + 1), none⟩ (.int .i64 (IntKind.wrap .i64 (Ml + 1))) fun Ci =>
   az (Mem.ld Ci ⟨b, (0 + 6), none⟩) fun TG TH Tt =>
   az (Mem.ld Ci ⟨b, (0 + 6), none⟩) fun TI TJ k157 =>
   aH (Mem.ld Ci ⟨b, ((0 + 1) + 3), none⟩) .i64 fun TK =>
   ((0 : Int) ≤ m) ∧
   ((m : Int) < ((TH : Nat) : Int)) ∧
   aF TG fun TL TM =>
   aI Ci ⟨TL, ((TM + ((Int.toNat m) * 3)) + 1), none⟩ (.int .i64 zP) fun TN =>
   ((0 : Int) ≤ m) ∧
   ((m : Int) < ((TJ : Nat) : Int)) ∧
   aF TI fun TO TP =>
   aI TN ⟨TO, ((TP + ((Int.toNat m) * 3)) + 2), none⟩ (.int .i64 TK) fun TQ =>
   aI TQ ⟨k1, 0, none⟩ (.int .i64 ya) fun TR =>
   aI TR ⟨k1, (0 + 1), none⟩ (.int .i64 m) fun TS =>
   aI TS ⟨k1, (0 + 2), none⟩ (.int .i64 zP) fun TT =>
   aI TT ⟨k1, (0 + 3), none⟩ (.slice none 0 0) fun ye =>
   aH (Mem.ld ye ⟨k1, 0, none⟩) .i64 fun TU =>
   aH (Mem.ld ye ⟨k1, (0 + 1), none⟩) .i64 fun TV =>
   aH (Mem.ld ye ⟨k1, (0 + 2), none⟩) .i64 fun TW =>
   az (Mem.ld ye ⟨k1, (0 + 3), none⟩) fun TX TY TZ =>
   K (.agg #[(.int .i64 TU), (.int .i64 TV), (.int .i64 TW), (.slice TX TY TZ)]) ye))) Kp := by
 obtain ⟨m0, m1, i0, i1, VE, ht0, RP, OB, hP, hP2⟩ := hk
 rw [← hi] at i0 i1 ht0 RP
 have go : ∀ (z : Sc) (kind g : Int) (t : Bool) (M : Mem), YG R pa p b wb db a L' K m i q q2 k1 z kind g t M → _ := fun z kind g t M ⟨h, a1, a2, a3, a4, a5⟩ => Ki h hap HZ a1 m0 a2 i0 a3 a4 a5
 refine Kh (i := i) (q := q) (a := a) (x := x) (b := b) (wb := wb) (db := db) h hap hl i0 i1 VE ht0 ?_
 clear h; intro M h
 refine ⟨_, _, rfl, ?_⟩
 dsimp only at k
 have ey : dF b wb db a (x.own i).1 = dF b wb db a x := Qn
 have ep : bL a.lb (x.own i).1.ps = bL a.lb x.ps := by
  obtain ⟨lb, hlb, jh, hrow⟩ := pB (i := i) hl i0 i1
  exact yV jh rfl rfl
 have el : (x.own i).1.ps.length = x.ps.length := by simp [Sc.own, Sc.bO]
 have et : ∀ j, 0 ≤ j → (ax (x.own i).1 j).turns = (ax x j).turns := fun j hj => Kj i0 i1 hj
 have em : (x.own i).1.ms = x.ms := rfl
 have ew : (x.own i).1.w = x.w := rfl
 have ed : (x.own i).1.d = x.d := rfl
 rw [← ey, ← ep] at h
 have hR : Hp R (gq (dF b wb db a (x.own i).1) (x.own i).1.gl :: ay (bC pa p) wb (x.own i).1.w :: ay (cw .nilFunc) db (x.own i).1.d :: bW (some ⟨q, 0, none⟩) a.cp (bL a.lb (x.own i).1.ps) :: aV bE a.lb ((x.own i).1.ps.map c9.q) :: bZ (some ⟨q2, 0, none⟩) a.cm (x.own i).1.ms :: pt k1 [.int .i64 0, .int .i64 0, .int .i64 0, .slice none 0 0] 43 :: L') M := h.sub bM
 clear h
 have h := hR
 clear hR
 have ec : (x.own i).1.c = x.c := rfl
 generalize hy : x.own i = r at h k ey ep el et em ew ed ec
 obtain ⟨y, v1, t1⟩ := r
 dsimp only at h k ey ep el et em ew ed ec ⊢
 have OA := et i i0
 have RR : ∀ M, Hp R (gq (dF b wb db a y) y.gl :: ay (bC pa p) wb y.w :: ay (cw .nilFunc) db y.d :: bW (some ⟨q, 0, none⟩) a.cp (bL a.lb y.ps) :: aV bE a.lb (y.ps.map c9.q) :: bZ (some ⟨q2, 0, none⟩) a.cm y.ms :: pt k1 [.int .i64 0, .int .i64 0, .int .i64 0, .slice none 0 0] 43 :: L') M → ¬ (t1 = false ∧ 1 < x.c.P) → YG R pa p b wb db a L' K m i q q2 k1 y 4 v1 t1 M := by
  intro M h hno
  rw [if_neg hno] at k
  exact ⟨h, by omega, by rw [em]; exact m1, by omega, by omega, k⟩
 cases t1 with
 | true =>
  refine ai ?_
  refine ⟨fun vs M => ∃ (z : Sc) (kind g : Int) (t : Bool), vs = [.int .i64 kind, .int .i64 g, .bool t] ∧ YG R pa p b wb db a L' K m i q q2 k1 z kind g t M, ⟨y, 4, v1, true, rfl, RR M h (fun hc => by cases hc.1)⟩, ?_⟩
  clear h
  rintro _ n1 n2 t3 M ⟨z, kind, g, t, he, hz⟩
  simp only [List.cons.injEq, Value.int.injEq, Value.bool.injEq, and_true, true_and] at he
  obtain ⟨rfl, rfl, rfl⟩ := he
  exact go z n1 n2 t3 M hz
 | false =>
  refine af ?_
  rw [sc_P h]
  refine cy ?_
  refine ⟨fun vs M => ∃ (z : Sc) (kind g : Int) (t : Bool), vs = [.int .i64 kind, .int .i64 g, .bool t] ∧ YG R pa p b wb db a L' K m i q q2 k1 z kind g t M, ?_, ?_⟩
  ·rw [ec]
   refine aJ.2 ⟨fun hgt => ?_, fun hle => ?_⟩
   ·rw [if_pos ⟨rfl, hgt⟩] at k
    rw [UO h]
    refine iY ?_
    refine cy ?_
    rw [ed] at k h
    replace h : Hp R (ay (cw .nilFunc) db x.d :: gq (dF b wb db a y) y.gl :: ay (bC pa p) wb y.w :: bW (some ⟨q, 0, none⟩) a.cp (bL a.lb y.ps) :: aV bE a.lb (y.ps.map c9.q) :: bZ (some ⟨q2, 0, none⟩) a.cm y.ms :: pt k1 [.int .i64 0, .int .i64 0, .int .i64 0, .slice none 0 0] 43 :: L') M := h.sub bM
    refine pe h hd (by omega) OB ?_
    clear h
    have CF := fun k' v => yP (k := x.d.k) (kind := 2) hd.1 (yN x.c.P) (k' := k') (v := v)
    have yH : ∀ v, (x.d.draw 2 x.c.P).2 = .num v → 0 ≤ v ∧ v < x.c.P := by
     intro v hv
     unfold iO.draw at hv
     split at hv
     ·rename_i k' v' hn
      cases hv
      have := CF k' _ hn
      have e : gn x.c.P = x.c.P := by unfold gn; rw [if_neg (by omega)]
      rw [e] at this
      exact this
     ·cases hv
    generalize iU : x.d.draw 2 x.c.P = dd at k yH
    obtain ⟨d', o⟩ := dd
    cases o with
    | cz l =>
     dsimp only at k yH ⊢
     intro M h
     have hsc : dF b wb db a y = dF b wb db a { y with d := d' } := rfl
     rw [hsc] at h
     have h9 : Hp R (gq (dF b wb db a { y with d := d' }) y.gl :: ay (bC pa p) wb y.w :: ay (cw .nilFunc) db d' :: bW a.ap a.cp (bL a.lb y.ps) :: aV bE a.lb (y.ps.map c9.q) :: bZ a.am a.cm y.ms :: pt k1 [.int .i64 0, .int .i64 0, .int .i64 0, .slice none 0 0] 43 :: L') M := by
      rw [show bW a.ap a.cp (bL a.lb y.ps) = bW (some ⟨q, 0, none⟩) a.cp (bL a.lb y.ps) from by rw [hap], show bZ a.am a.cm y.ms = bZ (some ⟨q2, 0, none⟩) a.cm y.ms from by rw [HZ]]
      exact h.sub bM
     exact k M (Hp.bT (gK (a := a) (x := { y with d := d' }) (by rw [el]; exact hl) h9))
    | num v =>
     dsimp only at k yH ⊢
     obtain ⟨v0, v1'⟩ := yH v rfl
     intro M h
     refine cy ?_
     have hsc : dF b wb db a y = dF b wb db a { y with d := d' } := rfl
     rw [hsc] at h
     generalize hyz : ({ y with d := d' } : Sc) = y2 at h k
     have p1 : y2.ps = y.ps := by rw [← hyz]
     have p2 : y2.ms = y.ms := by rw [← hyz]
     have p3 : y2.gl = y.gl := by rw [← hyz]
     have p4 : y2.w = y.w := by rw [← hyz]
     have p5 : y2.d = d' := by rw [← hyz]
     rw [← p1, ← p2, ← p3, ← p4, ← p5] at h
     replace h : Hp R (gq (dF b wb db a y2) y2.gl :: ay (bC pa p) wb y2.w :: ay (cw .nilFunc) db y2.d :: bW (some ⟨q, 0, none⟩) a.cp (bL a.lb y2.ps) :: aV bE a.lb (y2.ps.map c9.q) :: bZ (some ⟨q2, 0, none⟩) a.cm y2.ms :: pt k1 [.int .i64 0, .int .i64 0, .int .i64 0, .slice none 0 0] 43 :: L') M := h.sub bM
     have kq : a.lb.length = y2.ps.length := by rw [p1, el]; exact hl
     have JG : i < y2.ps.length := by rw [p1, el]; exact i1
     have KC : v < y2.ps.length := by rw [p1, el]; omega
     have Ql : m < y2.ms.length := by rw [p2, em]; exact m1
     have RQ : ∀ j, ax y2 j = ax y j := fun j => by unfold ax; rw [p1]
     obtain ⟨lbi, XK, XL, XM⟩ := pB (i := i) kq i0 JG
     obtain ⟨lbv, UP, GH, XN⟩ := pB (i := v) kq v0 KC
     refine lK (Src.at (Src.row (A := some ⟨q, 0, none⟩) : Src R _ _ (pg.cells (bL a.lb y2.ps))) h (i := i.toNat) (j := 0) XM rfl (by show _ = 0 + (i.toNat * 3 + 0); simp)) ?_
     rw [No h]
     refine bk ⟨v0, KC, ?_⟩
     rw [hap]
     refine bp ?_
     rw [Nat.zero_add]
     refine lK (Src.at (Src.row (A := some ⟨q, 0, none⟩) : Src R _ _ (pg.cells (bL a.lb y2.ps))) h (i := v.toNat) (j := 0) XN rfl (by show _ = 0 + (v.toNat * 3 + 0); simp)) ?_
     by_cases XO : v = i
     ·subst XO
      rw [XK] at UP
      cases UP
      refine vq ?_
      refine ⟨_, _, rfl, ?_⟩
      simp only [if_true] at k
      exact ⟨y2, 5, -1, false, rfl, h, kq, Ql, JG, by rw [RQ]; omega, k⟩
     ·simp only [if_neg XO] at k
      have RT : (y2.ps.map c9.q)[i.toNat]? = some (ax y2 i).q := by rw [List.getElem?_map, XL]; rfl
      have hqv : (y2.ps.map c9.q)[v.toNat]? = some (ax y2 v).q := by rw [List.getElem?_map, GH]; rfl
      obtain ⟨X, hX, Bg⟩ := h.MF bE (i := i.toNat) (j := v.toNat) (by omega) XK RT UP hqv
      clear h
      refine Eg hX ?_
      clear hX; intro t M g1 g2 h
      refine ⟨_, _, rfl, ?_⟩
      have hte : t = fz (ax y2 v).q ((ax y2 i).q.cT (ax y2 v).q).2.2 := by
       unfold fz
       by_cases hc : ((ax y2 i).q.cT (ax y2 v).q).2.2 ≠ -1 ∨ (ax y2 v).q.l ≠ []
       ·rw [g2 hc]
        rcases hc with hc | hc
        ·simp [hc]
        ·cases hq : (ax y2 v).q.l with
         | nil => exact absurd hq hc
         | cons _ _ => simp
       ·have hc1 : ((ax y2 i).q.cT (ax y2 v).q).2.2 = -1 := Decidable.byContradiction fun e => hc (.inl e)
        have Rp : (ax y2 v).q.l = [] := by
         cases hq : (ax y2 v).q.l with
         | nil => rfl
         | cons _ _ => exact absurd (.inr (by rw [hq]; simp)) hc
        rw [g1 hc1 Rp, hc1, Rp]; rfl
      subst hte
      replace h := Bg (L2 := _) h
      generalize hs : (ax y2 i).q.cT (ax y2 v).q = s at h k ⊢
      obtain ⟨s1, s2, s3⟩ := s
      dsimp only at h k ⊢
      have e1 : bL a.lb ((y2.bO i { ax y2 i with q := s1 }).bO v { ax y2 v with q := s2 }).ps = bL a.lb y2.ps := by
       show bL a.lb ((y2.ps.set i.toNat _).set v.toNat _) = _
       rw [yV (ps := y2.ps.set i.toNat { ax y2 i with q := s1 }) (j := v.toNat) (pr := ax y2 v) (y := { ax y2 v with q := s2 }) (by rw [List.getElem?_set_ne (by omega)]; exact GH) rfl rfl]
       exact yV XL rfl rfl
      have e2 : ((y2.bO i { ax y2 i with q := s1 }).bO v { ax y2 v with q := s2 }).ps.map c9.q = ((y2.ps.map c9.q).set i.toNat s1).set v.toNat s2 := by
       simp [Sc.bO, List.map_set]
      have e3 : dF b wb db a ((y2.bO i { ax y2 i with q := s1 }).bO v { ax y2 v with q := s2 }) = dF b wb db a y2 := by rw [yT, yT]
      rw [← e1, ← e2, ← e3] at h
      have e4 : (ax ((y2.bO i { ax y2 i with q := s1 }).bO v { ax y2 v with q := s2 }) i).turns = (ax y2 i).turns := by
       rw [EB v0 (by rw [pD]; exact KC) i0, if_neg XO, EB i0 JG i0, if_pos rfl]
      refine ⟨(y2.bO i { ax y2 i with q := s1 }).bO v { ax y2 v with q := s2 }, 5, s3, _, rfl, h.sub bM, ?_, Ql, ?_, ?_, k⟩
      ·rw [pD, pD]; exact kq
      ·rw [pD, pD]; exact JG
      ·rw [e4, RQ]; omega
   ·exact ⟨y, 4, v1, false, rfl, RR M h (fun hc => hle hc.2)⟩
  ·clear h
   rintro _ n1 n2 t3 M ⟨z, kind, g, t, he, hz⟩
   simp only [List.cons.injEq, Value.int.injEq, Value.bool.injEq, and_true, true_and] at he
   obtain ⟨rfl, rfl, rfl⟩ := he
   exact go z n1 n2 t3 M hz
end
def wP (l : List PanicEntry) : List PanicEntry := l ++ l.map fun e => { e with recovered := true }
theorem Bh : Bc Kc (wP Kc) := fun b v M K Kp h => JI h
theorem EC {a k n q v : Int} : Bc (VD a k n q v) (wP (VD a k n q v)) := fun b w M K Kp h => Ck h
theorem Np {k k' : gm} {kind m : Int} {l : List PanicEntry} (h : k.next kind m = (k', .cz l)) : k' = k ∧ Bc l (wP l) := by
 cases k with
 | ir l i =>
  unfold gm.next at h
  dsimp only at h
  split at h
  ·cases h; exact ⟨rfl, Bh⟩
  ·cases h
 | tape l i =>
  unfold gm.next at h
  dsimp only at h
  split at h
  ·cases h; exact ⟨rfl, Bh⟩
  ·split at h
   ·cases h; exact ⟨rfl, EC⟩
   ·split at h
    ·cases h; exact ⟨rfl, EC⟩
    ·cases h
theorem pE {x x' : iO} {kind n : Int} {l : List PanicEntry} (h : x.draw kind n = (x', .cz l)) : x' = x ∧ Bc l (wP l) := by
 unfold iO.draw at h
 split at h
 ·cases h
 ·rename_i k' l' hn
  cases h
  obtain ⟨e, h2⟩ := Np hn
  subst e
  exact ⟨rfl, h2⟩
theorem kQ {x : iO} {kind n : Int} (h : x.k.Ok) : (x.draw kind n).1.k.Ok := by
 unfold iO.draw
 have := Qk (kind := kind) (m := gn n) h
 split
 ·rename_i k' v hn; rw [hn] at this; exact this
 ·rename_i k' v hn; rw [hn] at this; exact this
theorem ei {x x' : iO} {kind n v : Int} (hok : x.k.Ok) (h : x.draw kind n = (x', .num v)) : 0 ≤ v ∧ v < gn n ∧ x'.taken = x.taken ++ [(kind, v)] := by
 unfold iO.draw at h
 split at h
 ·rename_i k' v' hn
  cases h
  have := yP hok (yN n) hn
  exact ⟨this.1, this.2, rfl⟩
 ·cases h
def aD (m : Int) (x : Sc) (r : Int) : Sc :=
 let i := (av x m).p
 { x.bO i { ax x i with q := ((ax x i).q.ready r x.gl).1 } with gl := ((ax x i).q.ready r x.gl).2.1 }
def Sc.fW (x : Sc) (m g : Int) (keep : Bool) (ready : List Int) : Sc × Ev :=
 if keep = true ∧ (av x m).left - 1 ≠ 0 then (x.gB m { av x m with left := (av x m).left - 1 }, ⟨7, m, g, ready⟩)
 else ({ x.gB m { av x m with left := (av x m).left - 1, g := -1 } with gl := if (ae x.w g).st = 1 then x.gl ++ [g] else x.gl }, ⟨7, m, g, ready⟩)
def vt (p : cj) (x : Sc) (m : Int) : Prop := 0 ≤ m ∧ m < x.ms.length ∧ 0 ≤ (av x m).p ∧ (av x m).p < x.ps.length ∧ x.gl.length ≤ 1000000 ∧ x.d.taken.length < 100000000 ∧ 1 ≤ (av x m).left ∧ (av x m).left < 1000000000 ∧ 0 ≤ (av x m).g
instance (p : cj) (x : Sc) (m : Int) : Decidable (vt p x m) := by unfold vt; infer_instance
def RU : Option (Int × Int) → Bool
 | none => true
 | some (_, n) => decide (n < 9223372036854775808)
def en (x : Sc) (m g : Int) (d : iO) (y : Wd) (rest : Bool) : Option (Sc × gC) :=
 if y.ready.length ≤ 10000 ∧ g < y.gs.length then
  some (((y.ready.foldl (aD m) { x with w := y, d := d }).fW m g (gJ y g rest) y.ready).1, .ev ((y.ready.foldl (aD m) { x with w := y, d := d }).fW m g (gJ y g rest) y.ready).2)
 else none
def cZ (d : iO) : Option (Int × Int) → iO × jf
 | none => (d, .num 0)
 | some (k, n) => d.draw k n
def Sc.run (p : cj) (x : Sc) (m : Int) : Option (Sc × gC) :=
 if vt p x m then
  if RU (asks p { x.w with ready := [] } (av x m).g) then
   match o6 p x.w (av x m).g (cZ x.d (asks p { x.w with ready := [] } (av x m).g)).2 with
   | none => none
   | some (.cz l y, _) => some ({ x with w := y, d := (cZ x.d (asks p { x.w with ready := [] } (av x m).g)).1 }, .cz (wP l))
   | some (.on y, rest) => en x m (av x m).g (cZ x.d (asks p { x.w with ready := [] } (av x m).g)).1 y rest
   | some (.dx n y, rest) => en x m (av x m).g (cZ x.d (asks p { x.w with ready := [] } (av x m).g)).1 { y with end_ := 2, code := n } rest
  else none
 else none
def gL : Sc × gC → Sc × gC
 | (x, .ev e) => ({ x with steps := x.steps + 1 }, .ev e)
 | (x, .cz l) => (x, .cz l)
def uc (x : Sc) : Prop := x.w.gs.length ≤ 1000000 ∧ x.c.M = x.ms.length ∧ x.ps.length ≤ 1000000 ∧ x.ms.length ≤ 1000000 ∧ x.d.taken.length < 10000000 ∧ 0 ≤ x.steps ∧ x.steps < 1000000000
instance (x : Sc) : Decidable (uc x) := by unfold uc; infer_instance
def Sc.act (p : cj) (x : Sc) (m : Int) : Option (Sc × gC) :=
 if m = x.c.M then (if yS x then some (x.tick.1, .ev x.tick.2) else none)
 else if (av x m).p = -1 then some ((x.hold m).1, .ev (x.hold m).2)
 else if (av x m).g = -1 then (if vr x m then some (x.find m) else none)
 else x.run p m
def Sc.step (p : cj) (x : Sc) : Option (Sc × gC) :=
 if uc x then
  if x.status ≠ 0 then some (x, .ev ⟨0, 0, 0, []⟩)
  else match x.d.draw 1 (x.c.M + 1) with
   | (d', .cz l) => some ({ x with d := d' }, .cz l)
   | (d', .num m) => (Sc.act p { x with d := d' } m).map gL
 else none
section
variable {R : Mem} {L L' L2 : List HP} {M : Mem} {K : Value → Mem → Prop} {Kp : List PanicEntry → Mem → Prop} {pa : PA} {p : cj} {b wb db : Nat} {x : Sc} {m i : Int}
theorem GI (h : Hp R L M) [o : pn b L pa p wb db x L'] (hk : vr x m) (hd : x.d.k.Ok)
  (k : match (x.find m).2 with
   | .ev e => ∀ M', Hp R (ay (eH pa p wb db) b (x.find m).1 :: L') M' → K (Kg e none 0) M'
   | .cz l => ∀ M', Hp R (ay (eH pa p wb db) b (x.find m).1 :: L') M' → Kp l M') : aa Tryz.prog 110 #[.pointer (some ⟨b, 0, none⟩), .int .i64 m] M K Kp := by
 refine qK ?_
 have hk' := hk
 obtain ⟨m0, m1, i0, i1, VE, ht0, RP, OB, hP, hP2⟩ := hk'
 have yX : x.d.Ok := ⟨hd, by omega⟩
 refine aj h ?_
 clear h
 intro k1 M h
 have h' := eR h (b := b)
 clear h
 obtain ⟨a, hl, h⟩ := h'
 obtain ⟨lb, hlb, jh, hrow⟩ := pB (i := (av x m).p) hl i0 i1
 have ji := pC m0 m1
 have m2 : m.toNat < x.ms.length := by omega
 obtain ⟨q, hq⟩ := h.bA (A := a.ap) (l := bL a.lb x.ps) (by rw [j7 hl]; omega) (by decide)
 obtain ⟨q2, kK⟩ := h.bA (A := a.am) (l := x.ms) (by omega) (by decide)
 replace h : Hp R (gq (dF b wb db a x) x.gl :: ay (bC pa p) wb x.w :: ay (cw .nilFunc) db x.d :: bW (some ⟨q, 0, none⟩) a.cp (bL a.lb x.ps) :: aV bE a.lb (x.ps.map c9.q) :: bZ (some ⟨q2, 0, none⟩) a.cm x.ms :: pt k1 [.int .i64 0, .int .i64 0, .int .i64 0, .slice none 0 0] 43 :: L') M := by
  unfold iu at h
  rw [show bW a.ap a.cp (bL a.lb x.ps) = bW (some ⟨q, 0, none⟩) a.cp (bL a.lb x.ps) from by rw [hq], show bZ a.am a.cm x.ms = bZ (some ⟨q2, 0, none⟩) a.cm x.ms from by rw [kK]] at h
  exact h.sub (by repeat (first | exact .refl | refine .cons (by repeat (first | exact .here | apply cG.there)) ?_ | apply Sub.drop))
 rw [No h]
 refine bk ?_
 rw [yW h]
 refine bk ⟨m0, m1, ?_⟩
 rw [kK]
 refine bp ?_
 refine bn (Src.at (h.src (A := some ⟨q2, 0, none⟩)) h (i := m.toNat) (j := 0) ji rfl (by show _ = 0 + (m.toNat * 3 + 0); simp)) ?_
 refine ⟨i0, i1, ?_⟩
 rw [hq]
 refine bp ?_
 refine bk ⟨m0, m1, bp ?_⟩
 refine bn (Src.at (h.src (A := some ⟨q2, 0, none⟩)) h (i := m.toNat) (j := 2) ji rfl (by show _ = 0 + (m.toNat * 3 + 2); omega)) ?_
 simp only [Nat.zero_add]
 have hno : ¬ (0 < (av x m).left ∧ (ax x (av x m).p).q.next ≠ -1) → (let y := (x.own (av x m).p).1
   if (x.own (av x m).p).2.2 = false ∧ 1 < x.c.P then match y.d.draw 2 x.c.P with
    | (d', .cz l) => ∀ M', Hp R (ay (eH pa p wb db) b { y with d := d' } :: L') M' → Kp l M'
    | (d', .num v) =>
     let y := { y with d := d' }
     let s := (ax y (av x m).p).q.cT (ax y v).q
     let z := if v = (av x m).p then y else (y.bO (av x m).p { ax y (av x m).p with q := s.1 }).bO v { ax y v with q := s.2.1 }
     let r := if v = (av x m).p then (-1, false) else (s.2.2, fz (ax y v).q s.2.2)
     ∀ M', Hp R (ay (eH pa p wb db) b (z.aT m (av x m).p 5 r.1 r.2).1 :: L') M' → K (Kg (z.aT m (av x m).p 5 r.1 r.2).2 none 0) M'
   else ∀ M', Hp R (ay (eH pa p wb db) b (y.aT m (av x m).p 4 (x.own (av x m).p).2.1 (x.own (av x m).p).2.2).1 :: L') M' → K (Kg (y.aT m (av x m).p 4 (x.own (av x m).p).2.1 (x.own (av x m).p).2.2).2 none 0) M') := by
  intro hn
  unfold Sc.find at k
  dsimp only at k ⊢
  rw [if_neg hn] at k
  split
  ·rename_i hc
   rw [if_pos hc] at k
   split
   ·rename_i d' l iU
    rw [iU] at k
    exact k
   ·rename_i d' v iU
    rw [iU] at k
    dsimp only at k ⊢
    by_cases hv : v = (av x m).p
    ·simp only [if_pos hv] at k ⊢
     exact k
    ·simp only [if_neg hv] at k ⊢
     exact k
  ·rename_i hc
   rw [if_neg hc] at k
   exact k
 refine aJ.2 ⟨fun hgt => ?_, fun hle => ?_⟩
 ·refine lK (Src.at (h.src (A := some ⟨q, 0, none⟩)) h (i := (av x m).p.toNat) (j := 0) hrow rfl (by show _ = 0 + ((av x m).p.toNat * 3 + 0); simp)) ?_
  have RT : (x.ps.map c9.q)[(av x m).p.toNat]? = some (ax x (av x m).p).q := by rw [List.getElem?_map, jh]; rfl
  have h3 := h.cQ bE hlb RT
  refine Gj h3 ?_
  refine cy ?_
  refine ⟨fun vs M => vs = [] ∧ (ax x (av x m).p).q.next = -1 ∧ Hp R (gq (dF b wb db a x) x.gl :: ay (bC pa p) wb x.w :: ay (cw .nilFunc) db x.d :: bW (some ⟨q, 0, none⟩) a.cp (bL a.lb x.ps) :: aV bE a.lb (x.ps.map c9.q) :: bZ (some ⟨q2, 0, none⟩) a.cm x.ms :: pt k1 [.int .i64 0, .int .i64 0, .int .i64 0, .slice none 0 0] 43 :: L') M, ?_, ?_⟩
  ·refine eu.2 ⟨fun hne => ?_, fun heq => ⟨rfl, by simpa using heq, h⟩⟩
   clear h3
   unfold Sc.find at k
   dsimp only at k
   rw [if_pos ⟨by omega, hne⟩] at k
   dsimp only at k
   refine lK (Src.at (h.src (A := some ⟨q, 0, none⟩)) h (i := (av x m).p.toNat) (j := 0) hrow rfl (by show _ = 0 + ((av x m).p.toNat * 3 + 0); simp)) ?_
   rw [show M.ld ⟨b, 6, none⟩ = some (.slice a.am x.ms.length a.cm) from yW h]
   refine bk ?_
   replace h := h.cQ bE hlb RT
   refine AX h (b := lb) ?_
   clear h; intro t M _ _ h
   refine ⟨_, _, rfl, ?_⟩
   replace h := h.dw bE lb hlb (by rw [List.length_map]; omega)
   replace h : Hp R (gq (dF b wb db a x) x.gl :: ay (bC pa p) wb x.w :: ay (cw .nilFunc) db x.d :: bW (some ⟨q, 0, none⟩) a.cp (bL a.lb x.ps) :: aV bE a.lb ((x.ps.map c9.q).set (av x m).p.toNat (ax x (av x m).p).q.get.1) :: bZ (some ⟨q2, 0, none⟩) a.cm x.ms :: pt k1 [.int .i64 0, .int .i64 0, .int .i64 0, .slice none 0 0] 43 :: L') M := h.sub (by repeat (first | exact .refl | refine .cons (by repeat (first | exact .here | apply cG.there)) ?_ | apply Sub.drop))
   refine ⟨yW h, m0, m1, ?_⟩
   rw [kK]
   refine bp ?_
   refine gp (E := kP) (a' := ⟨(av x m).p, (ax x (av x m).p).q.get.2, (av x m).left⟩) m.toNat 1 h ji (by decide) rfl (by show _ = m.toNat * 3 + 1; omega) ?_
   clear h; intro M h
   replace h : Hp R (gq (dF b wb db a x) x.gl :: ay (bC pa p) wb x.w :: ay (cw .nilFunc) db x.d :: bW (some ⟨q, 0, none⟩) a.cp (bL a.lb x.ps) :: aV bE a.lb ((x.ps.map c9.q).set (av x m).p.toNat (ax x (av x m).p).q.get.1) :: bZ (some ⟨q2, 0, none⟩) a.cm (x.ms.set m.toNat ⟨(av x m).p, (ax x (av x m).p).q.get.2, (av x m).left⟩) :: pt k1 [.int .i64 0, .int .i64 0, .int .i64 0, .slice none 0 0] 43 :: L') M := h.sub (by repeat (first | exact .refl | refine .cons (by repeat (first | exact .here | apply cG.there)) ?_ | apply Sub.drop))
   refine ⟨by have := yW h; rw [kK] at this; exact this, ?_⟩
   rw [show M.ld ⟨b, 6, none⟩ = some (.slice a.am x.ms.length a.cm) from yW h, kK]
   refine bk ⟨m0, m1, bp ?_⟩
   refine bn (Src.at (h.src (A := some ⟨q2, 0, none⟩)) h (i := m.toNat) (j := 1) (a := ⟨(av x m).p, (ax x (av x m).p).q.get.2, (av x m).left⟩) (by simp [m2]) rfl (by show _ = 0 + (m.toNat * 3 + 1); omega)) ?_
   dsimp only
   refine pz h ?_
   clear h; intro M h
   refine pA h ?_
   have e1 : bL a.lb (x.bO (av x m).p { ax x (av x m).p with q := (ax x (av x m).p).q.get.1 }).ps = bL a.lb x.ps := yV jh rfl rfl
   have e2 : ((x.bO (av x m).p { ax x (av x m).p with q := (ax x (av x m).p).q.get.1 }).ps).map c9.q = (x.ps.map c9.q).set (av x m).p.toNat (ax x (av x m).p).q.get.1 := by simp [Sc.bO, List.map_set]
   have h9 : Hp R (gq (dF b wb db a ((x.bO (av x m).p { ax x (av x m).p with q := (ax x (av x m).p).q.get.1 }).gB m { av x m with g := (ax x (av x m).p).q.get.2 })) x.gl :: ay (bC pa p) wb x.w :: ay (cw .nilFunc) db x.d :: bW a.ap a.cp (bL a.lb ((x.bO (av x m).p { ax x (av x m).p with q := (ax x (av x m).p).q.get.1 }).gB m { av x m with g := (ax x (av x m).p).q.get.2 }).ps) :: aV bE a.lb (((x.bO (av x m).p { ax x (av x m).p with q := (ax x (av x m).p).q.get.1 }).gB m { av x m with g := (ax x (av x m).p).q.get.2 }).ps.map c9.q) :: bZ a.am a.cm (x.ms.set m.toNat ⟨(av x m).p, (ax x (av x m).p).q.get.2, (av x m).left⟩) :: L') M := by
    rw [yU, yT]
    show Hp R (_ :: _ :: _ :: bW a.ap a.cp (bL a.lb (x.bO (av x m).p { ax x (av x m).p with q := (ax x (av x m).p).q.get.1 }).ps) :: aV bE a.lb ((x.bO (av x m).p { ax x (av x m).p with q := (ax x (av x m).p).q.get.1 }).ps.map c9.q) :: _) M
    rw [e1, e2, hq, kK]
    exact h.sub (by repeat (first | exact .refl | refine .cons (by repeat (first | exact .here | apply cG.there)) ?_ | apply Sub.drop))
   exact k _ (gK (a := a) (x := (x.bO (av x m).p { ax x (av x m).p with q := (ax x (av x m).p).q.get.1 }).gB m { av x m with g := (ax x (av x m).p).q.get.2 }) (by simpa [Sc.bO, Sc.gB] using hl) h9)
  ·clear h h3
   rintro _ M ⟨_, OC, h⟩
   exact Bf h hq kK hl hk rfl yX (hno (fun hc => hc.2 OC))
 ·refine ⟨fun vs M => vs = [] ∧ Hp R (gq (dF b wb db a x) x.gl :: ay (bC pa p) wb x.w :: ay (cw .nilFunc) db x.d :: bW (some ⟨q, 0, none⟩) a.cp (bL a.lb x.ps) :: aV bE a.lb (x.ps.map c9.q) :: bZ (some ⟨q2, 0, none⟩) a.cm x.ms :: pt k1 [.int .i64 0, .int .i64 0, .int .i64 0, .slice none 0 0] 43 :: L') M, ⟨rfl, h⟩, ?_⟩
  clear h
  rintro _ M ⟨_, h⟩
  exact Bf h hq kK hl hk rfl yX (hno (fun hc => hle (by omega)))
end
theorem Bi {p : cj} {x : Wd} {k v : Int} {l : List PanicEntry} {y : Wd} : x.put p k v ≠ .cz l y := by
 unfold Wd.put; dsimp only; split <;> simp
theorem GJ {p : cj} {x : Wd} {g : Int} {i : dB} {l : List PanicEntry} {y : Wd} (h : lq p x g i = some (.cz l y)) : False := by
 unfold lq at h
 by_cases e : i.op = 10
 ·rw [if_pos e] at h; obtain ⟨_, h⟩ := b9 h; cases h
 rw [if_neg e] at h; clear e
 by_cases e : i.op = 11
 ·rw [if_pos e] at h; obtain ⟨_, h⟩ := b9 h; unfold Wd.spawn at h; split at h <;> cases h
 rw [if_neg e] at h; clear e
 by_cases e : i.op = 13
 ·rw [if_pos e] at h; obtain ⟨_, h⟩ := b9 h
  unfold Wd.send at h
  split at h
  ·cases h
  ·rename_i hp; exact Bi hp
  ·cases h
  ·cases h
 rw [if_neg e] at h; clear e
 by_cases e : i.op = 14
 ·rw [if_pos e] at h; obtain ⟨_, h⟩ := b9 h; cases h
 rw [if_neg e] at h; clear e
 by_cases e : i.op = 15
 ·rw [if_pos e] at h; obtain ⟨_, h⟩ := b9 h; unfold Wd.shut at h; dsimp only at h; split at h
  ·cases h
  ·split at h <;> cases h
 rw [if_neg e] at h; clear e
 by_cases e : i.op = 20
 ·rw [if_pos e] at h; obtain ⟨_, h⟩ := b9 h; unfold Wd.emit at h; split at h <;> cases h
 rw [if_neg e] at h; clear e
 by_cases e : i.op = 9
 ·rw [if_pos e] at h; obtain ⟨_, h⟩ := b9 h; unfold Wd.call at h; split at h <;> cases h
 rw [if_neg e] at h; clear e
 by_cases e : i.op = 12
 ·rw [if_pos e] at h; cases h
 rw [if_neg e] at h; clear e
 by_cases e : i.op = 17
 ·rw [if_pos e] at h; obtain ⟨_, h⟩ := b9 h; cases h
 rw [if_neg e] at h; clear e
 by_cases e : i.op = 18
 ·rw [if_pos e] at h; obtain ⟨_, h⟩ := b9 h; cases h
 rw [if_neg e] at h; clear e
 by_cases e : i.op = 19
 ·rw [if_pos e] at h; obtain ⟨_, h⟩ := b9 h; unfold Wd.unlock at h; split at h
  ·cases h
  ·split at h <;> cases h
 rw [if_neg e] at h; clear e
 by_cases e : i.op = 22
 ·rw [if_pos e] at h; cases h
 rw [if_neg e] at h; cases h
theorem Bj {p : cj} {x : Wd} {g : Int} {d : jf} {l : List PanicEntry} {y : Wd} {rest : Bool} (h : o6 p x g d = some (.cz l y, rest)) : d = .cz l ∧ y = { x with ready := [] } := by
 unfold o6 at h
 dsimp only at h
 split at h
 ·split at h
  ·split at h
   ·cases h
   ·split at h
    ·cases h
    ·split at h
     ·split at h <;> cases h
     ·split at h
      ·split at h
       ·split at h
        ·rename_i hc
         simp only [Option.some.injEq, Prod.mk.injEq] at h
         obtain ⟨h, _⟩ := h
         unfold Wd.choose at h
         split at h
         ·cases h
         ·cases d with
          | cz l' => cases h; exact ⟨rfl, rfl⟩
          | num v =>
           dsimp only at h
           unfold Wd.oZ at h
           dsimp only at h
           split at h
           ·split at h
            ·cases h
            ·rename_i hp; exact absurd hp Bi
            ·cases h
           ·cases h
        ·cases h
       ·cases h
      ·split at h
       ·split at h
        ·split at h
         ·simp only [Option.some.injEq, Prod.mk.injEq] at h
          obtain ⟨h, _⟩ := h
          cases d with
          | cz l' => cases h; exact ⟨rfl, rfl⟩
          | num v => cases h
         ·cases h
        ·cases h
       ·split at h
        ·cases h
        ·rename_i r hd
         split at h
         ·simp only [Option.some.injEq, Prod.mk.injEq] at h
          obtain ⟨h, _⟩ := h
          subst h
          exact (GJ hd).elim
         ·cases h
  ·cases h
 ·cases h
theorem Kk {q : Loc} {r : Int} {gl : List Int} : (q.ready r gl).2.1.length ≤ gl.length + q.l.length + 1 := by
 unfold Loc.ready
 split
 ·dsimp only; omega
 ·unfold Loc.put
  dsimp only
  split
  ·dsimp only; omega
  ·dsimp only; simp; omega
section
variable {R : Mem} {L L' L2 : List HP} {M : Mem} {K : Value → Mem → Prop} {Kp : List PanicEntry → Mem → Prop} {pa : PA} {p : cj} {b wb db : Nat} {x : Sc} {m i : Int} {a : SA}
abbrev yY (eK : Nat) (kp : Bool) (A : Option Addr) (n c : Nat) : HP := pt eK [.bool kp, .slice A n c] 250
theorem ED {q2 k1 eK c : Nat} {g : Int} {kp : Bool} {A : Option Addr} {rd : List Int}
  (h : Hp R (gq (dF b wb db a x) x.gl :: ay (bC pa p) wb x.w :: ay (cw .nilFunc) db x.d :: bW a.ap a.cp (bL a.lb x.ps) :: aV bE a.lb (x.ps.map c9.q) :: bZ (some ⟨q2, 0, none⟩) a.cm (x.ms.set m.toNat { av x m with left := (av x m).left - 1 }) :: yY eK kp A rd.length c :: pt k1 [.int .i64 0, .int .i64 0, .int .i64 0, .slice none 0 0] 43 :: L') M)
  (HZ : a.am = some ⟨q2, 0, none⟩) (hl : a.lb.length = x.ps.length) (m0 : 0 ≤ m) (m1 : m < x.ms.length) (g0 : 0 ≤ g) (g1 : g < x.w.gs.length) (VE : x.gl.length ≤ 100000000)
  (k : ∀ M', Hp R (ay (eH pa p wb db) b { x.gB m { av x m with left := (av x m).left - 1, g := -1 } with gl := if (ae x.w g).st = 1 then x.gl ++ [g] else x.gl } :: L') M' → K (Kg ⟨7, m, g, rd⟩ A c) M') :
  aI M ⟨q2, ((m.toNat * 3) + 1), none⟩ (.int .i64 (-1)) fun wE =>
  b8 (Mem.ld wE ⟨b, 0, none⟩) fun Jz =>
  aa Tryz.prog 119 #[(.pointer Jz), (.int .i64 g)] wE (fun Jp wX =>
  aH (some Jp) .i64 fun Me =>
  aM (Me == 1)
   (aX wX (.cells #[(.int .i64 g)] 3 (0, 0)) fun tf Jv =>
   aa Tryz.prog 58 #[(.pointer (some ⟨b, (0 + 7), none⟩)), (.slice (some ⟨tf, 0, none⟩) 1 1)] Jv (fun PD zu =>
   (PD = (.tuple #[])) ∧
   az (Mem.ld zu ⟨eK, (0 + 1), none⟩) fun Ud xZ Jr =>
   aI zu ⟨k1, 0, none⟩ (.int .i64 7) fun AM =>
   aI AM ⟨k1, (0 + 1), none⟩ (.int .i64 m) fun nD =>
   aI nD ⟨k1, (0 + 2), none⟩ (.int .i64 g) fun FB =>
   aI FB ⟨k1, (0 + 3), none⟩ (.slice Ud xZ Jr) fun sF =>
   aH (Mem.ld sF ⟨k1, 0, none⟩) .i64 fun FC =>
   aH (Mem.ld sF ⟨k1, (0 + 1), none⟩) .i64 fun n64 =>
   aH (Mem.ld sF ⟨k1, (0 + 2), none⟩) .i64 fun BU =>
   az (Mem.ld sF ⟨k1, (0 + 3), none⟩) fun Mn ux KG =>
   K (.agg #[(.int .i64 FC), (.int .i64 n64), (.int .i64 BU), (.slice Mn ux KG)]) sF) Kp)
   (az (Mem.ld wX ⟨eK, (0 + 1), none⟩) fun Ue Jx Jy =>
   aI wX ⟨k1, 0, none⟩ (.int .i64 7) fun Rj =>
   aI Rj ⟨k1, (0 + 1), none⟩ (.int .i64 m) fun FV =>
   aI FV ⟨k1, (0 + 2), none⟩ (.int .i64 g) fun DL =>
   aI DL ⟨k1, (0 + 3), none⟩ (.slice Ue Jx Jy) fun Cc =>
   aH (Mem.ld Cc ⟨k1, 0, none⟩) .i64 fun Hu =>
   aH (Mem.ld Cc ⟨k1, (0 + 1), none⟩) .i64 fun FE =>
   aH (Mem.ld Cc ⟨k1, (0 + 2), none⟩) .i64 fun CZ =>
   az (Mem.ld Cc ⟨k1, (0 + 3), none⟩) fun Tl Pz Tm =>
   K (.agg #[(.int .i64 Hu), (.int .i64 FE), (.int .i64 CZ), (.slice Tl Pz Tm)]) Cc)) Kp := by
 have ji := pC m0 m1
 have m2 : m.toNat < x.ms.length := by omega
 refine gp (E := kP) (a := { av x m with left := (av x m).left - 1 }) (a' := ⟨(av x m).p, -1, (av x m).left - 1⟩) m.toNat 1 h (by simp [m2]) (by decide) rfl (by show _ = m.toNat * 3 + 1; omega) ?_
 clear h; intro M h
 rw [hU] at h
 replace h : Hp R (gq (dF b wb db a x) x.gl :: ay (bC pa p) wb x.w :: ay (cw .nilFunc) db x.d :: bW a.ap a.cp (bL a.lb x.ps) :: aV bE a.lb (x.ps.map c9.q) :: bZ (some ⟨q2, 0, none⟩) a.cm (x.ms.set m.toNat ⟨(av x m).p, -1, (av x m).left - 1⟩) :: yY eK kp A rd.length c :: pt k1 [.int .i64 0, .int .i64 0, .int .i64 0, .slice none 0 0] 43 :: L') M := h.sub bM
 rw [XJ h]
 refine iY ?_
 refine tV h g0 g1 ?_
 refine cy ?_
 have fin : ∀ (CH : List Int) (M : Mem), CH = (if (ae x.w g).st = 1 then x.gl ++ [g] else x.gl) → Hp R (gq (dF b wb db a x) CH :: ay (bC pa p) wb x.w :: ay (cw .nilFunc) db x.d :: bW a.ap a.cp (bL a.lb x.ps) :: aV bE a.lb (x.ps.map c9.q) :: bZ (some ⟨q2, 0, none⟩) a.cm (x.ms.set m.toNat ⟨(av x m).p, -1, (av x m).left - 1⟩) :: yY eK kp A rd.length c :: pt k1 [.int .i64 0, .int .i64 0, .int .i64 0, .slice none 0 0] 43 :: L') M →
   az (Mem.ld M ⟨eK, (0 + 1), none⟩) fun Ud xZ Jr => aI M ⟨k1, 0, none⟩ (.int .i64 7) fun AM => aI AM ⟨k1, (0 + 1), none⟩ (.int .i64 m) fun nD => aI nD ⟨k1, (0 + 2), none⟩ (.int .i64 g) fun FB => aI FB ⟨k1, (0 + 3), none⟩ (.slice Ud xZ Jr) fun sF =>
   aH (Mem.ld sF ⟨k1, 0, none⟩) .i64 fun FC => aH (Mem.ld sF ⟨k1, (0 + 1), none⟩) .i64 fun n64 => aH (Mem.ld sF ⟨k1, (0 + 2), none⟩) .i64 fun BU => az (Mem.ld sF ⟨k1, (0 + 3), none⟩) fun Mn ux KG =>
   K (.agg #[(.int .i64 FC), (.int .i64 n64), (.int .i64 BU), (.slice Mn ux KG)]) sF := by
  intro CH M hgl' h
  refine be h ?_
  refine pz h ?_
  clear h; intro M h
  refine pA h ?_
  refine k _ (gK (a := a) (x := { x.gB m { av x m with left := (av x m).left - 1, g := -1 } with gl := if (ae x.w g).st = 1 then x.gl ++ [g] else x.gl }) hl ?_)
  rw [← hgl']
  have e1 : dF b wb db a { x.gB m { av x m with left := (av x m).left - 1, g := -1 } with gl := CH } = dF b wb db a x := yU (x := x)
  rw [e1]
  show Hp R (_ :: _ :: _ :: _ :: _ :: bZ a.am a.cm (x.ms.set m.toNat ⟨(av x m).p, -1, (av x m).left - 1⟩) :: _) M
  rw [HZ]
  exact h.sub bM
 refine bN.2 ⟨fun e1 => ?_, fun e1 => ?_⟩
 ·refine aj h ?_
  clear h; intro tf M h
  replace h := (h.pt tf).hH (E := bI) (l := [g]) rfl
  replace h : Hp R (gq (dF b wb db a x) x.gl :: kA (some ⟨tf, 0, none⟩) 1 [g] :: ay (bC pa p) wb x.w :: ay (cw .nilFunc) db x.d :: bW a.ap a.cp (bL a.lb x.ps) :: aV bE a.lb (x.ps.map c9.q) :: bZ (some ⟨q2, 0, none⟩) a.cm (x.ms.set m.toNat ⟨(av x m).p, -1, (av x m).left - 1⟩) :: yY eK kp A rd.length c :: pt k1 [.int .i64 0, .int .i64 0, .int .i64 0, .slice none 0 0] 43 :: L') M := h.sub bM
  refine m8 (P := dF b wb db a x) yQ h (Src.row (A := some ⟨tf, 0, none⟩)) rfl (by simp; omega) ?_
  clear h; intro M h
  refine ⟨rfl, ?_⟩
  exact fin _ M (by rw [if_pos e1]) (h.sub bM)
 ·exact fin _ M (by rw [if_neg e1]) h
theorem eA {m : Int} : ∀ (l : List Int) (z : Sc), 0 ≤ (av z m).p → (av z m).p < z.ps.length → (l.foldl (aD m) z).ms = z.ms ∧ (l.foldl (aD m) z).ps.length = z.ps.length ∧ (l.foldl (aD m) z).w = z.w ∧ (l.foldl (aD m) z).d = z.d ∧ (l.foldl (aD m) z).c = z.c ∧ (l.foldl (aD m) z).steps = z.steps ∧ ∀ bs, bL bs (l.foldl (aD m) z).ps = bL bs z.ps
 | [], z, _, _ => ⟨rfl, rfl, rfl, rfl, rfl, rfl, fun _ => rfl⟩
 | r :: l, z, h0, h1 => by
  have hp : z.ps[(av z m).p.toNat]? = some (ax z (av z m).p) := by
   obtain ⟨y, hy⟩ := aO (l := z.ps) (i := (av z m).p.toNat) (by omega)
   have e : ax z (av z m).p = y := by simp [ax, hy]
   rw [e]; exact hy
  have H6 : (aD m z r).ms = z.ms := rfl
  have hps : (aD m z r).ps.length = z.ps.length := by simp [aD, Sc.bO]
  have ji : av (aD m z r) m = av z m := rfl
  obtain ⟨a1, a2, a3, a4, a5, a6, a7⟩ := eA l (aD m z r) (by rw [ji]; exact h0) (by rw [ji, hps]; exact h1)
  refine ⟨a1, by rw [List.foldl_cons, a2, hps], a3, a4, a5, a6, fun bs => ?_⟩
  rw [List.foldl_cons, a7]
  exact yV hp rfl rfl
end
end Go.Proofs
