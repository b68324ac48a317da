/- A part of proofs about one program. -/
import Derived.Test.YtnnlgknlialpmaaGreatZTraceSeen2
import Derived.Test.YtnnlgknlialpmaaGreatZTraceSeen3
set_option linter.unusedVariables false
namespace Go.Proofs
open Go.AF
set_option maxRecDepth 100000
set_option maxHeartbeats 1000000
attribute [local irreducible] aI c7 fm cy aB eN aE aM aX bk bJ aP
def xQ : hU (Option Addr × Nat × Nat) := ⟨1, fun t => [.slice t.1 t.2.1 t.2.2], fun _ => rfl, fun w v hv => by simp only [List.mem_singleton] at hv; subst hv; rfl⟩
structure kJ (R : Mem) (pa : PA) (p : bZ) : Prop where
 funcs : ∃ ts : List (Option Addr × Nat × Nat), RS xQ R pa.f pa.fc ts ∧ ts.length = p.funcs.length ∧ ∀ (i : Nat) t f, ts[i]? = some t → p.funcs[i]? = some f → RS jm R t.1 t.2.2 f ∧ t.2.1 = f.length
 cases : RS ij R pa.k pa.kc p.cases
theorem kJ.le {R R' : Mem} {pa : PA} {p : bZ} (h : kJ R pa p) (hle : R.le R') : kJ R' pa p := by
 obtain ⟨⟨ts, h1, h2, h3⟩, h4⟩ := h
 exact ⟨⟨ts, h1.le hle, h2, fun i t f a b => ⟨(h3 i t f a b).1.le hle, (h3 i t f a b).2⟩⟩, h4.le hle⟩
def Wd.next (x : Wd) (g : Int) : Wd := x.bF g ((aq x g).cO (aq x g).top.next)
def SS (n : Int) : List PanicEntry := [{ v := .iface 340 (.int .i64 n), recovered := false }]
def gm (R : Mem) (pa : PA) (p : bZ) (dr : Value) (fnum : Nat) (x : Wd) (g : Int) (i : cI) (r : Out Wd) (L L2 : List HP) : Prop :=
 ∀ (gg : List GA) (b bs c : Nat) (M : Mem) (K : Value → Mem → Prop) (Kp : List PanicEntry → Mem → Prop) (Q : HP), Hp R (ay (bz pa p gg dr) b x :: Q :: L) M → gg[g.toNat]? = some (some ⟨bs, 0, none⟩, c) →
  Out.Ok r (fun y => ∀ mj M', Hp R (ay (bz pa p mj dr) b y :: Q :: L2) M' → K (.tuple #[]) M') (fun n y => ∀ mj M', Hp R (ay (bz pa p mj dr) b y :: Q :: L2) M' → Kp (SS n) M') (fun l y => ∀ mj M', Hp R (ay (bz pa p mj dr) b y :: Q :: L2) M' → Kp l M') →
  aa Tryz.prog fnum #[.pointer (some ⟨b, 0, none⟩), .int .i64 g, .pointer (some ⟨bs, ((aq x g).fs.length - 1) * 11, none⟩), .agg #[.int .i64 i.op, .int .i64 i.a, .int .i64 i.b, .int .i64 i.c]] M K Kp
theorem Out.Ok.mono {α : Type} {r : Out α} {k1 k1' : α → Prop} {k2 k2' : Int → Wd → Prop} {k3 : List PanicEntry → Wd → Prop} (h : r.Ok k1 k2 k3) (h1 : ∀ y, k1 y → k1' y) (h2 : ∀ n y, k2 n y → k2' n y) : r.Ok k1' k2' := by
 cases r with
 | on y => exact h1 y h
 | fk n y => exact h2 n y h
 | dh l y => trivial
section
variable {R : Mem} {L L' L2 : List HP} {M : Mem} {K : Value → Mem → Prop} {Kp : List PanicEntry → Mem → Prop} {pa : PA} {p : bZ} {gg : List GA} {dr : Value} {b : Nat} {x : Wd} {g : Int} {i : cI}
theorem Rd (hp : kJ R pa p) (hk : Hv p x g i) (hs : x.Sm) : gm R pa p dr 215 x g i (x.send p g i) L L := fun gg b bs c M K Kp Q h eZ k =>
 Hw h hp.cases eZ hk hs (k.mono (fun y hy M' h' => hy gg M' h') (fun n y hy M' h' => hy gg M' h'))
theorem Re (hk : wV x g i) (hs : x.Sm) : gm R pa p dr 216 x g i (.on (x.recv g i)) L L := fun gg b bs c M K Kp Q h eZ k =>
 Hx h eZ hk hs fun M' h' => k gg M' h'
theorem Rf (hg : bp x g) (ha : aZ i.a) (hs : x.Sm) : gm R pa p dr 221 x g i (x.emit g i) L L := fun gg b bs c M K Kp Q h eZ k =>
 Hy h eZ hg ha hs (k.mono (fun y hy M' h' => hy gg M' h') (fun n y hy M' h' => hy gg M' h'))
theorem Oq (hg : bp x g) (hb : aZ i.b) (hc : aZ i.c) (hs : x.Sm) : gm R pa p dr 213 x g i (x.spawn g i) L L := fun gg b bs c M K Kp Q h eZ k =>
 Fj h eZ hg hb hc hs (k.mono (fun y hy => hy) (fun n y hy M' h' => hy gg M' h'))
theorem Rh (hp : kJ R pa p) (hk : oa p x i) (hs : x.Sm) : gm R pa p dr 217 x g i (x.shut p i) L L := fun gg b bs c M K Kp Q h eZ k =>
 HA (f := .nilFunc) h hp.cases hk hs (k.mono (fun y hy M' h' => hy gg M' h') (fun n y hy M' h' => hy gg M' h'))
def V0 : AL := [(9, .func (.func 211) #[] #[]), (10, .func (.func 212) #[] #[]), (11, .func (.func 213) #[] #[]), (12, .func (.func 214) #[] #[]), (13, .func (.func 215) #[] #[]), (14, .func (.func 216) #[] #[]), (15, .func (.func 217) #[] #[]), (17, .func (.func 218) #[] #[]), (18, .func (.func 219) #[] #[]), (19, .func (.func 220) #[] #[]), (20, .func (.func 221) #[] #[]), (22, .func (.func 222) #[] #[])]
theorem Fq (h : Hp R L M) (k : ∀ m M', Hp R (ob m (lT V0) :: L) M' → K (.map (some m)) M') : aa Tryz.prog 193 #[] M K Kp := by
 refine zy ?_
 refine Sr h ?_
 clear h
 intro m M h
 replace h : Hp R (ob m (lT []) :: L) M := h
 have hu : Tryz.prog.underlying 345 = some (.map 25 344) := by kernel_rfl
 have hk : Tryz.prog.underlying 25 = some (.int .i64) := by kernel_rfl
 iterate 12
  refine xN h hu hk ?_
  clear h
  intro M h
 exact k _ _ h
end
theorem zS {α β : Type} : ∀ {l : List α} {m : List β} {i : Nat} {u : α} {v : β}, (l.zip m).set i (u, v) = (l.set i u).zip (m.set i v)
 | [], _, _, _, _ => by simp
 | a :: l, [], i, u, v => by simp
 | a :: l, w :: m, 0, u, v => rfl
 | a :: l, w :: m, i + 1, u, v => by
  have := zS (l := l) (m := m) (i := i) (u := u) (v := v)
  simp [this]
theorem sx {x : Wd} {g : Int} (h0 : 0 ≤ g) (h1 : g < x.gs.length) : x.bF g (aq x g) = x := by
 obtain ⟨y, hy⟩ := aU (l := x.gs) (i := g.toNat) (by omega)
 have e : aq x g = y := by simp [aq, hy]
 rw [e]
 obtain ⟨hi, rfl⟩ := List.getElem?_eq_some_iff.1 hy
 simp [Wd.bF]
section
variable {R : Mem} {L L' L2 : List HP} {M : Mem} {K : Value → Mem → Prop} {Kp : List PanicEntry → Mem → Prop} {pa : PA} {p : bZ} {gg : List GA} {dr : Value} {b : Nat} {x : Wd} {g : Int} {i : cI}
theorem Ri (hg : bp x g) (ha : aZ i.a) (hin : aZ (aq x g).top.rE) : gm R pa p dr 212 x g i (.on (x.back g i)) L L := by
 intro gg b bs c M K Kp Q h eZ k
 refine rM ?_
 replace k : ∀ mj M', Hp R (ay (bz pa p mj dr) b (x.back g i) :: Q :: L) M' → K (.tuple #[]) M' := k
 have Dr := hg
 obtain ⟨h0, h1, h2, h3⟩ := Dr
 unfold Wd.back at k
 refine aj h ?_
 clear h
 intro kb M h
 have h' := gQ h (b := b) h0 h1 eZ
 clear h
 obtain ⟨a, gb, hl, gf, h⟩ := h'
 have hl' := hl
 obtain ⟨l1, l2, l3, l4⟩ := hl'
 repeat (first|(refine aj h ?_;clear h;intro kb M h)|(refine au h ?_;clear h;intro M h)|refine St.to h ?_|(apply Exists.intro;(repeat apply Exists.intro);refine And.intro rfl ?_)|refine av ?_|refine ai ?_|refine ae ?_)
 refine vL h gf fun q hq => ?_
 repeat (first|(refine aj h ?_;clear h;intro kb M h)|(refine au h ?_;clear h;intro M h)|refine St.to h ?_|(apply Exists.intro;(repeat apply Exists.intro);refine And.intro rfl ?_)|refine av ?_|refine ai ?_|refine ae ?_)
 refine ⟨ha.1, ha.2, vb h (eJ h2) ha rfl ?_⟩
 refine Dq h h2 (by omega) (eJ h2) hin ?_ ?_
 ·intro hlt
  rw [if_neg (by omega)] at k
  refine ⟨_, _, _, _, rfl, ae ?_⟩
  repeat (first|(refine aj h ?_;clear h;intro kb M h)|(refine au h ?_;clear h;intro M h)|refine St.to h ?_|(apply Exists.intro;(repeat apply Exists.intro);refine And.intro rfl ?_)|refine av ?_|refine ai ?_|refine ae ?_)
  refine vL h gf fun q2 oX => ?_
  repeat (first|(refine aj h ?_;clear h;intro kb M h)|(refine au h ?_;clear h;intro M h)|refine St.to h ?_|(apply Exists.intro;(repeat apply Exists.intro);refine And.intro rfl ?_)|refine av ?_|refine ai ?_|refine ae ?_)
  refine aY.2 ⟨fun e0 => ?_, fun e0 => ?_⟩
  ·rw [if_pos e0] at k
   repeat (first|(refine aj h ?_;clear h;intro kb M h)|(refine au h ?_;clear h;intro M h)|refine St.to h ?_|(apply Exists.intro;(repeat apply Exists.intro);refine And.intro rfl ?_)|refine av ?_|refine ai ?_|refine ae ?_)
   replace h := cT h gb hl gf eZ
   have lD := di (y := { aq x g with st := 4 }) (g := g) hl
   replace h := bh (a := a) (p := p) (pa := pa) (dr := dr) (gg := gg) (x := { x.bF g { aq x g with st := 4 } with end_ := 1 }) lD h b
   exact k _ _ h.b7
  ·rw [if_neg e0] at k
   replace h := cT h gb hl gf eZ
   have lD := di (y := { aq x g with st := 4 }) (g := g) hl
   replace h := bh (a := a) (p := p) (pa := pa) (dr := dr) (gg := gg) (x := x.bF g { aq x g with st := 4 }) lD h b
   exact k _ _ h.b7
 ·intro hge b' c' M' fr hfr h'
  clear h
  have h := h'
  clear h'
  rw [if_pos hge] at k
  refine ⟨_, _, _, _, rfl, ai ?_⟩
  repeat (first|(refine aj h ?_;clear h;intro kb M h)|(refine au h ?_;clear h;intro M h)|refine St.to h ?_|(apply Exists.intro;(repeat apply Exists.intro);refine And.intro rfl ?_)|refine av ?_|refine ai ?_|refine ae ?_)
  refine vL h gf fun q2 oX => ?_
  repeat (first|(refine aj h ?_;clear h;intro kb M h)|(refine au h ?_;clear h;intro M h)|refine St.to h ?_|(apply Exists.intro;(repeat apply Exists.intro);refine And.intro rfl ?_)|refine av ?_|refine ai ?_|refine ae ?_)
  have hlen : (aq x g).fs.length - 1 = (((aq x g).fs.take ((aq x g).fs.length - 1)).set ((aq x g).fs.length - 2) (fr.set (aq x g).top.rE (bD x g i.a))).length := by simp
  have hfr2 : (aq x g).fs.getD ((aq x g).fs.length - 2) ⟨0, 0, [], 0⟩ = fr := by rw [List.getD_eq_getElem?_getD, hfr]; rfl
  have h5 := ng (A := some ⟨b', 0, none⟩) (fs := ((aq x g).fs.take ((aq x g).fs.length - 1)).set ((aq x g).fs.length - 2) (fr.set (aq x g).top.rE (bD x g i.a))) h gb hlen
  have hi := (List.getElem?_eq_some_iff.1 gf).1
  have h6 := h5.dW gk gb gf (by rw [List.length_zip]; omega)
  rw [zS] at h6
  have lD : fq (gg.set g.toNat (some ⟨b', 0, none⟩, c')) a (x.bF g ((aq x g).back (bD x g i.a))) := ⟨by simpa [Wd.bF] using l1, by simpa [Wd.bF] using l2, l3, l4⟩
  have e : (aq x g).back (bD x g i.a) = ⟨(aq x g).st, ((aq x g).fs.take ((aq x g).fs.length - 1)).set ((aq x g).fs.length - 2) (fr.set (aq x g).top.rE (bD x g i.a)), (aq x g).wt⟩ := by
   unfold jr.back; rw [hfr2]
  rw [e] at lD k
  have h7 := bh (a := a) (p := p) (pa := pa) (dr := dr) (gg := gg.set g.toNat (some ⟨b', 0, none⟩, c')) (x := x.bF g ⟨(aq x g).st, ((aq x g).fs.take ((aq x g).fs.length - 1)).set ((aq x g).fs.length - 2) (fr.set (aq x g).top.rE (bD x g i.a)), (aq x g).wt⟩) lD h6 b
  exact k _ _ (h7.sub br)
end
def Out.fin : Out Wd → Wd
 | .on y => y
 | .fk n y => { y with end_ := 2, code := n }
 | .dh _ y => y
def HH (op : Int) : Out Wd → Bool
 | .on _ => op == 12 || op == 17
 | .fk _ _ => false
 | .dh _ _ => false
inductive Step (R : Mem) (pa : PA) (p : bZ) (dr : Value) (x : Wd) (g : Int) (code : List cI) : Out Wd → Bool → List HP → List HP → Prop where
 | out {L : List HP} (h : (code.length : Int) ≤ (aq x g).top.pc) : Step R pa p dr x g code (.fk (-7) x) false L L
 | pure {L : List HP} (i : cI) (h : code[(aq x g).top.pc.toNat]? = some i) (h0 : 0 ≤ i.op) (h8 : i.op ≤ 8) (hk : i.cB) : Step R pa p dr x g code (.on (x.bF g ((aq x g).cO ((aq x g).top.next.pure i)))) false L L
 | Du {L L2 : List HP} {r : Out Wd} (i : cI) (h : code[(aq x g).top.pc.toNat]? = some i) (ve : i.op = 16) (hs : gm R pa p dr 191 x g i r L L2) : Step R pa p dr x g code r false L L2
 | V1 {L L2 : List HP} {r : Out Wd} (i : cI) (h : code[(aq x g).top.pc.toNat]? = some i) (ZO : i.op = 21) (hs : gm R pa p dr 192 x g i r L L2) : Step R pa p dr x g code r false L L2
 | dflt {L L2 : List HP} {r : Out Wd} (i : cI) (fn : Nat) (h : code[(aq x g).top.pc.toNat]? = some i) (h8 : 8 < i.op) (ve : i.op ≠ 16) (ZO : i.op ≠ 21) (hf : Bj V0 i.op = some (.func (.func fn) #[] #[])) (hn : 1 < fn ∧ fn < 255)
   (hs : gm R pa p dr fn (x.next g) g i r L L2) : Step R pa p dr x g code r (HH i.op r) L L2
section
variable {R : Mem} {L L' L2 : List HP} {M : Mem} {K : Value → Mem → Prop} {Kp : List PanicEntry → Mem → Prop} {pa : PA} {p : bZ} {gg : List GA} {dr : Value} {b : Nat} {x : Wd} {g : Int} {i : cI}
theorem V2 {c bs j : Nat} {l : List gM} {f : gM} {G : Int → Prop} (h : Hp R L M) [q : cK (some ⟨bs, 0, none⟩) L gM jB 275 c l L'] (hi : l[j]? = some f) (g : G f.fn) : aI (M.ld ⟨bs, j * 11, none⟩) .i64 G := by
 refine be (Src.at (h.src (A := some ⟨bs, 0, none⟩)) h (i := j) (j := 0) hi rfl ?_) g
 show _ = 0 + (j * 11 + 0); omega
theorem Dv {n : Int} {v : Value} {Q : HP} (h : Hp R (ay (bz pa p gg dr) b x :: Q :: L) M) (k : ∀ M', Hp R (ay (bz pa p gg dr) b { x with end_ := 2, code := n } :: L) M' → K v M') :
  cD Tryz.prog 188 (.pointer (some ⟨b, 0, none⟩)) K Kp v (.panicking (SS n)) M := by
 refine Hj ?_
 have h' := cv h (b := b)
 clear h
 obtain ⟨a, hl, h⟩ := h'
 repeat (first|(refine aj h ?_;clear h;intro kb M h)|(refine au h ?_;clear h;intro M h)|refine St.to h ?_|(apply Exists.intro;(repeat apply Exists.intro);refine And.intro rfl ?_)|refine av ?_|refine ai ?_|refine ae ?_)
 exact k _ (jO (a := a) (x := { x with end_ := 2, code := n }) hl (h.sub br))
theorem yO {k : Nat} {bw : Nat} (h : Hp R L M) [o : jY k L [.int .i64 i.op, .int .i64 i.a, .int .i64 i.b, .int .i64 i.c] 27 L'] (g : K (.bool (i.op == 12 || i.op == 17)) M) :
  aI (M.ld ⟨k, 0, none⟩) .i64 fun n => aP (n == 12) (cD Tryz.prog 188 (.pointer (some ⟨bw, 0, none⟩)) K Kp (.bool true) .returning M)
   (aI (M.ld ⟨k, 0, none⟩) .i64 fun n => cD Tryz.prog 188 (.pointer (some ⟨bw, 0, none⟩)) K Kp (.bool (n == 17)) .returning M) := by
 have hp := h.pick o.pick
 refine aG hp ?_
 refine aY.2 ⟨fun e => ?_, fun e => ?_⟩
 ·rw [e] at g; exact E6 g
 ·refine aG hp ?_
  have : (i.op == 12) = false := by simpa using e
  rw [this, Bool.false_or] at g
  exact E6 g
def Ot (R : Mem) (pa : PA) (p : bZ) (dr : Value) (b : Nat) (L2 : List HP) (K : Value → Mem → Prop) (Kp : List PanicEntry → Mem → Prop) (r : Out Wd) (rest : Bool) : Prop := match r with
 | .dh l y => ∀ mj M', Hp R (ay (bz pa p mj dr) b y :: L2) M' → cD Tryz.prog 188 (.pointer (some ⟨b, 0, none⟩)) K Kp (.bool false) (.panicking l) M'
 | .on y => ∀ mj M', Hp R (ay (bz pa p mj dr) b y :: L2) M' → K (.bool rest) M'
 | .fk n y => ∀ mj M', Hp R (ay (bz pa p mj dr) b { y with end_ := 2, code := n } :: L2) M' → K (.bool rest) M'
theorem Fs {code : List cI} {r : Out Wd} {rest : Bool} (h : Hp R L M) [o : wT b L pa p gg dr x L'] (hp : kJ R pa p) (hg : bp x g) (hfn : 0 ≤ (aq x g).top.fn) (nh : p.funcs[(aq x g).top.fn.toNat]? = some code)
  (Bk : 0 ≤ (aq x g).top.pc ∧ (aq x g).top.pc < 1000000000) (hs : Step R pa p dr x g code r rest L' L2)
  (k : Ot R pa p dr b L2 K Kp r rest) : aa Tryz.prog 159 #[.pointer (some ⟨b, 0, none⟩), .int .i64 g] M K Kp := by
 refine u6 ?_
 have Dr := hg
 obtain ⟨h0, h1, h2, h3⟩ := Dr
 have h' := jP h (b := b) h0 h1
 clear h
 obtain ⟨a, gb, A, c, hl, gf, eZ, h⟩ := h'
 have hl' := hl
 obtain ⟨l1, l2, l3, l4⟩ := hl'
 obtain ⟨bs, rfl⟩ := h.bM (A := A) h2 (by decide)
 have SU : ∀ {M : Mem}, Hp R (pt gb (qn (aq x g) (some ⟨bs, 0, none⟩) c) 229 :: va (some ⟨bs, 0, none⟩) c (aq x g).fs :: pt b (mG pa p dr a x) 161 :: mb gk a.gb (x.gs.zip gg) g.toNat :: sX a x L') M → Hp R (ay (bz pa p gg dr) b x :: L') M := by
  intro M h
  replace h := cT h gb hl gf eZ
  have lD := di (y := aq x g) (g := g) hl
  replace h := bh (a := a) (p := p) (pa := pa) (dr := dr) (gg := gg) (x := x.bF g (aq x g)) lD h b
  rwa [sx h0 h1] at h
 repeat (first|(refine aj h ?_;clear h;intro kb M h)|(refine au h ?_;clear h;intro M h)|refine St.to h ?_|(apply Exists.intro;(repeat apply Exists.intro);refine And.intro rfl ?_)|refine av ?_|refine ai ?_|refine ae ?_)
 refine vL h gf fun q hq => ?_
 repeat (first|(refine aj h ?_;clear h;intro kb M h)|(refine au h ?_;clear h;intro M h)|refine St.to h ?_|(apply Exists.intro;(repeat apply Exists.intro);refine And.intro rfl ?_)|refine av ?_|refine ai ?_|refine ae ?_)
 refine m8 h2 (by omega) ?_
 repeat (first|(refine aj h ?_;clear h;intro kb M h)|(refine au h ?_;clear h;intro M h)|refine St.to h ?_|(apply Exists.intro;(repeat apply Exists.intro);refine And.intro rfl ?_)|refine av ?_|refine ai ?_|refine ae ?_)
 refine V2 h (eJ h2) ?_
 obtain ⟨ts, hts, htl, hrow⟩ := hp.funcs
 have hfl := (List.getElem?_eq_some_iff.1 nh).1
 obtain ⟨t, ht⟩ := aU (l := ts) (i := (aq x g).top.fn.toNat) (by omega)
 obtain ⟨zT, SW⟩ := hrow _ t code ht nh
 obtain ⟨tA, tn, tc⟩ := t
 dsimp only at zT SW
 subst SW
 refine ⟨hfn, by omega, ?_⟩
 obtain ⟨fb, fo, hfb⟩ := hts.some (by omega) (by decide)
 rw [hfb] at hts ⊢
 refine bg ?_
 refine GB (Src.at (hts.src (L := _)) h (i := (aq x g).top.fn.toNat) (j := 0) ht rfl (by simp [xQ])) ?_
 dsimp only
 refine bg ?_
 refine zM h (eJ h2) rfl ?_
 refine aN.2 ⟨fun hge => ?_, fun hlt => ?_⟩
 ·cases hs with
  | out _ =>
   have h5 : Hp R (ay (bz pa p gg dr) b x :: fact True :: L') M := (Hp.fZ.2 ⟨trivial, SU h⟩).swap
   exact Dv h5 fun M' h' => k gg M' h'
  | pure i hi => have := (List.getElem?_eq_some_iff.1 hi).1; omega
  | Du i hi => have := (List.getElem?_eq_some_iff.1 hi).1; omega
  | V1 i hi => have := (List.getElem?_eq_some_iff.1 hi).1; omega
  | dflt i fn hi => have := (List.getElem?_eq_some_iff.1 hi).1; omega
 refine bg ?_
 refine zM h (eJ h2) rfl ?_
 refine ⟨Bk.1, by omega, ?_⟩
 obtain ⟨i, hi⟩ := aU (l := code) (i := (aq x g).top.pc.toNat) (by omega)
 obtain ⟨ib, io, rfl⟩ := zT.some (by omega) (by decide)
 refine bg ?_
 refine be (Src.at (zT.src (L := _)) h (i := (aq x g).top.pc.toNat) (j := 0) hi rfl (by simp [jm])) ?_
 refine be (Src.at (zT.src (L := _)) h (i := (aq x g).top.pc.toNat) (j := 1) hi rfl (by show _ = io + (_ * 4 + 1); omega)) ?_
 refine be (Src.at (zT.src (L := _)) h (i := (aq x g).top.pc.toNat) (j := 2) hi rfl (by show _ = io + (_ * 4 + 2); omega)) ?_
 refine be (Src.at (zT.src (L := _)) h (i := (aq x g).top.pc.toNat) (j := 3) hi rfl (by show _ = io + (_ * 4 + 3); omega)) ?_
 have hpure : i.cB ∧ 0 ≤ i.op ∨ 8 < i.op := by
  cases hs with
  | out h => omega
  | pure j hj a1 a2 a3 => rw [hi] at hj; cases hj; exact .inl ⟨a3, a1⟩
  | Du j hj a1 => rw [hi] at hj; cases hj; exact .inr (by omega)
  | V1 j hj a1 => rw [hi] at hj; cases hj; exact .inr (by omega)
  | dflt j fn hj a1 => rw [hi] at hj; cases hj; exact .inr a1
 have hok : i.cB ∧ 0 ≤ i.op := by
  rcases hpure with h | h
  ·exact h
  ·exact ⟨⟨fun h => by simp at h; omega, fun h => by omega, fun h => by simp at h; omega⟩, by omega⟩
 refine aj h ?_
 clear h; intro ki M h
 refine au h ?_
 clear h; intro M h
 refine au h ?_
 clear h; intro M h
 refine au h ?_
 clear h; intro M h
 refine au h ?_
 clear h; intro M h
 refine aG h (aG h (aG h (aG h ?_)))
 refine Ho h (eJ h2) hok.1 hok.2 Bk ?_ ?_
 ·intro h8 M' h'
  clear h
  have h := h'
  clear h'
  refine ov (ai ?_)
  cases hs with
  | out h => omega
  | Du j hj a1 => rw [hi] at hj; cases hj; omega
  | V1 j hj a1 => rw [hi] at hj; cases hj; omega
  | dflt j fn hj a1 => rw [hi] at hj; cases hj; omega
  | pure j hj a1 a2 a3 =>
   rw [hi] at hj; cases hj
   replace h := cT h gb hl gf eZ (by simp)
   have lD := di (y := (aq x g).cO ((aq x g).top.next.pure i)) (g := g) hl
   have h5 := bh (a := a) (p := p) (pa := pa) (dr := dr) (gg := gg) (x := x.bF g ((aq x g).cO ((aq x g).top.next.pure i))) lD h b
   refine yO h5 ?_
   have e1 : (i.op == 12) = false := by simp; omega
   have e2 : (i.op == 17) = false := by simp; omega
   rw [e1, e2]
   exact k gg _ h5.b7
 ·intro h8 M' h'
  clear h
  have h := h'
  clear h'
  refine ov (ae ?_)
  refine aG h ?_
  refine aY.2 ⟨fun IY => ?_, fun IY => ?_⟩
  ·refine aG h (aG h (aG h (aG h ?_)))
   cases hs with
   | out h => omega
   | pure j hj a1 a2 a3 => rw [hi] at hj; cases hj; omega
   | dflt j fn hj a1 a2 => rw [hi] at hj; cases hj; omega
   | V1 j hj a1 => rw [hi] at hj; cases hj; omega
   | Du j hj a1 hop =>
    rw [hi] at hj; cases hj
    replace h := cT h gb hl gf eZ
    have lD := di (y := aq x g) (g := g) hl
    replace h := bh (a := a) (p := p) (pa := pa) (dr := dr) (gg := gg) (x := x.bF g (aq x g)) lD h b
    rw [sx h0 h1] at h
    refine hop gg b bs c M' _ _ _ h eZ ?_
    cases r with
    | on y =>
     intro mj M2 h
     refine ⟨rfl, yO h ?_⟩
     have e1 : (i.op == 12) = false := by simp; omega
     have e2 : (i.op == 17) = false := by simp; omega
     rw [e1, e2]
     exact k mj _ h.b7
    | fk n y =>
     intro mj M2 h
     exact Dv h fun M3 h3 => k mj M3 h3
    | dh l y =>
     intro mj M2 h
     exact k mj M2 h.b7
  ·refine aG h ?_
   refine aY.2 ⟨fun Xb => ?_, fun Xb => ?_⟩
   ·refine aG h (aG h (aG h (aG h ?_)))
    cases hs with
    | out h => omega
    | pure j hj a1 a2 a3 => rw [hi] at hj; cases hj; omega
    | Du j hj a1 => rw [hi] at hj; cases hj; omega
    | dflt j fn hj a1 a2 a3 => rw [hi] at hj; cases hj; omega
    | V1 j hj a1 hop =>
     rw [hi] at hj; cases hj
     replace h := cT h gb hl gf eZ
     have lD := di (y := aq x g) (g := g) hl
     replace h := bh (a := a) (p := p) (pa := pa) (dr := dr) (gg := gg) (x := x.bF g (aq x g)) lD h b
     rw [sx h0 h1] at h
     refine hop gg b bs c M' _ _ _ h eZ ?_
     cases r with
     | on y =>
      intro mj M2 h
      refine ⟨rfl, yO h ?_⟩
      have e1 : (i.op == 12) = false := by simp; omega
      have e2 : (i.op == 17) = false := by simp; omega
      rw [e1, e2]
      exact k mj _ h.b7
     | fk n y =>
      intro mj M2 h
      exact Dv h fun M3 h3 => k mj M3 h3
     | dh l y =>
      intro mj M2 h
      exact k mj M2 h.b7
   cases hs with
   | out h => omega
   | pure j hj a1 a2 a3 => rw [hi] at hj; cases hj; omega
   | Du j hj a1 => rw [hi] at hj; cases hj; omega
   | V1 j hj a1 => rw [hi] at hj; cases hj; omega
   | dflt j fn hj a1 a2 a3 hf hn hop =>
    rw [hi] at hj; cases hj
    refine bg ?_
    refine zM h (eJ h2) rfl ?_
    refine bg ?_
    rw [jC Bk.1 (by omega)]
    refine zN h (eJ h2) rfl ?_
    clear h; intro M h
    refine aG h (aG h (aG h (aG h (aG h ?_))))
    refine Fq h ?_
    clear h; intro mp M h
    refine ⟨jM (bO h) (jM (bO h) (jM (bO h) (jM (bO h) uw))), bO h, ?_⟩
    have hu : Tryz.prog.underlying 345 = some (.map 25 344) := by kernel_rfl
    have hkk : Tryz.prog.underlying 25 = some (.int .i64) := by kernel_rfl
    obtain ⟨ti, hti, htz⟩ : ∃ ti, Tryz.prog.info? 344 = some ti ∧ ti.zero = some .nilFunc := ⟨_, rfl, rfl⟩
    refine N9 h hu hkk hti htz ?_
    rw [hf]
    refine ⟨jM (bO h) (jM (bO h) (jM (bO h) (jM (bO h) uw))), bO h, ?_⟩
    refine Fc hn ?_
    replace h := cT h gb hl gf eZ (by simp)
    have lD := di (y := (aq x g).cO (aq x g).top.next) (g := g) hl
    have h5 := bh (a := a) (p := p) (pa := pa) (dr := dr) (gg := gg) (x := x.next g) lD h b
    have h6 : Hp R (ay (bz pa p gg dr) b (x.next g) :: pt ki [.int .i64 i.op, .int .i64 i.a, .int .i64 i.b, .int .i64 i.c] 27 :: L') M := h5.sub br
    clear h h5
    have hfl : (aq (x.next g) g).fs.length = (aq x g).fs.length := by
     unfold Wd.next; rw [gN h0 h1]; simp [jr.cO]
    have hc := hop gg b bs c M (fun Nh mK => (Nh = (.tuple #[])) ∧ ((Mem.fK mK ⟨ki, 0, none⟩ 0 4) = some [(.int .i64 i.op), (.int .i64 i.a), (.int .i64 i.b), (.int .i64 i.c)]) ∧ ((Mem.ld mK ⟨ki, 0, none⟩) = (some (.int .i64 i.op))) ∧
     aI (mK.ld ⟨ki, 0, none⟩) .i64 fun n => aP (n == 12) (cD Tryz.prog 188 (.pointer (some ⟨b, 0, none⟩)) K Kp (.bool true) .returning mK)
      (aI (mK.ld ⟨ki, 0, none⟩) .i64 fun n => cD Tryz.prog 188 (.pointer (some ⟨b, 0, none⟩)) K Kp (.bool (n == 17)) .returning mK))
     (fun l M => cD Tryz.prog 188 (.pointer (some ⟨b, 0, none⟩)) K Kp (.bool false) (.panicking l) M) _ h6 eZ ?_
    ·rw [hfl] at hc
     exact hc
    cases r with
    | on y =>
     intro mj M2 h
     exact ⟨rfl, jM (bO h) (jM (bO h) (jM (bO h) (jM (bO h) uw))), bO h, yO h (k mj _ h.b7)⟩
    | fk n y =>
     intro mj M2 h
     exact Dv h fun M3 h3 => k mj M3 h3
    | dh l y =>
     intro mj M2 h
     exact k mj M2 h.b7
end
abbrev qW (pa : PA) (p : bZ) (dr : Value) (a : WA) (x : Wd) (n : Nat) : List Value :=
 [.slice pa.f p.funcs.length pa.fc, .slice pa.c p.dx.length pa.cc, .int .i64 p.aK, .slice pa.k p.cases.length pa.kc, .slice a.ag a.gb.length a.cg, .int .u64 x.clock,
  .slice a.ac a.cb.length a.cc, .slice a.al a.lb.length a.cl, .slice a.ah x.hl.length a.ch, .int .u64 x.lG, .slice a.ao x.out.length a.co, .int .i64 x.end_, .int .i64 x.code, .slice a.ar n a.cr, dr]
abbrev wY (a : WA) (x : Wd) (L : List HP) : List HP :=
 zO a.ag a.cg a.gb :: zP a.ac a.cc a.cb :: bn bK a.cb x.aC :: zQ a.al a.cl a.lb :: bn gd a.lb x.aK :: gp a.ah a.ch x.hl :: zp a.ao a.co x.out :: L
def bu (pa : PA) (p : bZ) : tj Wd := ⟨fun b x => exs fun q : WA × List GA × Value × Nat =>
 sep (pt b (qW pa p q.2.2.1 q.1 x q.2.2.2) 161 :: bn gk q.1.gb (x.gs.zip q.2.1) :: fact (fq q.2.1 q.1 x) :: wY q.1 x [])⟩
section
variable {R : Mem} {L L' L2 : List HP} {M : Mem} {K : Value → Mem → Prop} {Kp : List PanicEntry → Mem → Prop} {pa : PA} {p : bZ} {gg : List GA} {dr : Value} {b : Nat} {x : Wd} {g : Int}
class KL (b : Nat) (L : List HP) (pa : outParam PA) (p : outParam bZ) (x : outParam Wd) (L' : outParam (List HP)) : Prop where
 pick : dc L (ay (bu pa p) b x) L'
instance KL.here : KL b (ay (bu pa p) b x :: L) pa p x L := ⟨.here⟩
instance (priority := low) KL.there {Q : HP} [h : KL b L pa p x L'] : KL b (Q :: L) pa p x (Q :: L') := ⟨.there h.pick⟩
theorem fI (h : Hp R L M) [o : KL b L pa p x L'] : ∃ (a : WA) (gg : List GA) (dr : Value) (n : Nat), fq gg a x ∧ Hp R (pt b (qW pa p dr a x n) 161 :: bn gk a.gb (x.gs.zip gg) :: wY a x L') M := by
 have := h.pick o.pick
 unfold ay at this
 simp only [bu, wY, Hp.de, Hp.aS, List.cons_append, List.nil_append] at this
 obtain ⟨⟨a, gg, dr, n⟩, h⟩ := this
 have h2 := h.pick (P := fact (fq gg a x)) (.there (.there .here))
 exact ⟨a, gg, dr, n, (Hp.fZ.1 h2).1, (Hp.fZ.1 h2).2⟩
theorem mo {a : WA} {n : Nat} (hl : fq gg a x) (h : Hp R (pt b (qW pa p dr a x n) 161 :: bn gk a.gb (x.gs.zip gg) :: wY a x L) M) : Hp R (ay (bu pa p) b x :: L) M := by
 refine Hp.wg ?_
 simp only [bu, wY, Hp.de, Hp.aS, List.cons_append, List.nil_append]
 refine ⟨(a, gg, dr, n), ?_⟩
 have h2 : Hp R (fact (fq gg a x) :: pt b (qW pa p dr a x n) 161 :: bn gk a.gb (x.gs.zip gg) :: wY a x L) M := Hp.fZ.2 ⟨hl, h⟩
 exact h2.nH (.there (.there .here))
def ir (x : Wd) (g : Int) (rest : Bool) : Bool := !rest && x.end_ == 0 && (aq x g).st == 1
def Ci (l l' : List PanicEntry) : Prop := ∀ (b : Nat) (v : Value) (M : Mem) (K : Value → Mem → Prop) (Kp : List PanicEntry → Mem → Prop), Kp l' M → cD Tryz.prog 188 (.pointer (some ⟨b, 0, none⟩)) K Kp v (.panicking l) M
def qX (R : Mem) (pa : PA) (p : bZ) (b : Nat) (g : Int) (L2 : List HP) (K : Value → Mem → Prop) (Kp : List PanicEntry → Mem → Prop) (r : Out Wd) (rest : Bool) : Prop := match r with
 | .dh l y => ∃ l', Ci l l' ∧ ∀ M', Hp R (ay (bu pa p) b y :: L2) M' → Kp l' M'
 | .on y => ∀ R' A c M', R.le R' → RS bl R' A c y.ready → Hp R' (ay (bu pa p) b y :: L2) M' → K (.agg #[.bool (ir y g rest), .slice A y.ready.length c]) M'
 | .fk n y => ∀ R' A c M', R.le R' → RS bl R' A c y.ready → Hp R' (ay (bu pa p) b { y with end_ := 2, code := n } :: L2) M' → K (.agg #[.bool (ir { y with end_ := 2, code := n } g rest), .slice A y.ready.length c]) M'
theorem Ot.of {r : Out Wd} {rest : Bool} (hd : ¬ ∃ l y, r = .dh l y) (k : ∀ mj M', Hp R (ay (bz pa p mj dr) b r.fin :: L2) M' → K (.bool rest) M') : Ot R pa p dr b L2 K Kp r rest := by
 cases r with
 | on y => exact k
 | fk n y => exact k
 | dh l y => exact absurd ⟨l, y, rfl⟩ hd
theorem qX.get {r : Out Wd} {rest : Bool} (hd : ¬ ∃ l y, r = .dh l y) (k : qX R pa p b g L2 K Kp r rest) :
  ∀ R' A c M', R.le R' → RS bl R' A c r.fin.ready → Hp R' (ay (bu pa p) b r.fin :: L2) M' → K (.agg #[.bool (ir r.fin g rest), .slice A r.fin.ready.length c]) M' := by
 cases r with
 | on y => exact k
 | fk n y => exact k
 | dh l y => exact absurd ⟨l, y, rfl⟩ hd
theorem HI {code : List cI} {r : Out Wd} {rest : Bool} (h : Hp R L M) [o : KL b L pa p x L'] (hp : kJ R pa p) (hg : bp x g) (he : x.end_ = 0) (hst : (aq x g).st = 1)
  (hfn : 0 ≤ (aq x g).top.fn) (nh : p.funcs[(aq x g).top.fn.toNat]? = some code)
  (Bk : 0 ≤ (aq x g).top.pc ∧ (aq x g).top.pc < 1000000000) (Bl : ∃ f c d, dr = .func f c d) (hs : ∀ Q, Step R pa p dr { x with ready := [] } g code r rest (Q :: L') (Q :: L2)) (hlen : g < r.fin.gs.length)
  (k : qX R pa p b g L2 K Kp r rest) :
  aa Tryz.prog 121 #[.pointer (some ⟨b, 0, none⟩), .int .i64 g, dr] M K Kp := by
 refine kq ?_
 have Dr := hg
 obtain ⟨h0, h1, h2, h3⟩ := Dr
 refine aj h ?_
 clear h
 intro kb M h
 have h' := fI h (b := b)
 clear h
 obtain ⟨a, gg, dr0, n0, hl, h⟩ := h'
 have hl' := hl
 obtain ⟨l1, l2, l3, l4⟩ := hl'
 refine aN.2 ⟨fun hn => by omega, fun _ => ?_⟩
 refine aF h ?_
 refine aN.2 ⟨fun hn => by omega, fun _ => ?_⟩
 refine aG h ?_
 refine dJ.2 ⟨fun hn => absurd he hn, fun _ => ?_⟩
 refine aF h ?_
 refine ⟨h0, by omega, ?_⟩
 obtain ⟨gb, gf⟩ := aU (l := a.gb) (i := g.toNat) (by omega)
 refine vL h gf fun q hq => ?_
 obtain ⟨ga, V3⟩ := aU (l := gg) (i := g.toNat) (by omega)
 obtain ⟨y, hy⟩ := aU (l := x.gs) (i := g.toNat) (by omega)
 have ey : aq x g = y := by simp [aq, hy]
 rw [ey] at hst
 refine bg ?_
 have Ou : M.ld ⟨gb, 0, none⟩ = some (.int .i64 y.st) := by
  have h9 := m9 (b := gb) (h.dg gk gf (nZ hy V3))
  exact bO h9
 rw [Ou]
 refine c6 ?_
 refine dJ.2 ⟨fun hn => absurd hst hn, fun _ => ?_⟩
 refine au h ?_
 clear h Ou; intro M h
 have hpc2 : ∀ X : Prop, X → yU dr X := by
  obtain ⟨f, c, d, rfl⟩ := Bl
  intro X hX; exact hX
 refine hpc2 _ ?_
 refine au h ?_
 clear h; intro M h
 have h4 := h.bY bl 3
 have h5 : Hp R (ay (bz pa p gg dr) b { x with ready := [] } :: pt kb [.bool false, .slice none 0 0] 250 :: L') M := jO (a := { a with ar := none, cr := 0 }) (x := { x with ready := [] }) hl (h4.sub br)
 clear h h4
 by_cases HJ : ∃ l y, r = .dh l y
 ·obtain ⟨l, y, rfl⟩ := HJ
  refine Fs (b := b) (x := { x with ready := [] }) h5 hp hg hfn nh Bk (hs _) ?_
  clear h5
  intro mj M h
  obtain ⟨l', hdr2, k⟩ := k
  refine hdr2 _ _ _ _ _ (k _ ?_)
  have h' := cv h (b := b)
  clear h
  obtain ⟨a2, lD, h⟩ := h'
  exact mo (a := a2) (n := y.ready.length) (gg := mj) (dr := dr) lD (h.sub br)
 refine Fs (b := b) (x := { x with ready := [] }) h5 hp hg hfn nh Bk (hs _) (.of HJ ?_)
 clear h5
 intro mj M h
 replace k := qX.get HJ k
 generalize r.fin = z at h k hlen
 have h' := cv h (b := b)
 clear h
 obtain ⟨a2, lD, h⟩ := h'
 have VW := lD
 obtain ⟨m1, m2, m3, m4⟩ := VW
 have fin : ∀ t : Bool, t = ir z g rest → aM M ⟨kb, 0, none⟩ (.bool t) fun SH =>
    aM SH ⟨kb, (0 + 1), none⟩ (.slice a2.ar z.ready.length a2.cr) fun AH =>
    c7 (Mem.ld AH ⟨kb, 0, none⟩) fun t60 =>
    aB (Mem.ld AH ⟨kb, (0 + 1), none⟩) fun Ye EO GY =>
    K (.agg #[(.bool t60), (.slice Ye EO GY)]) AH := by
  intro t ht
  refine au h ?_
  clear h; intro M h
  refine au h ?_
  clear h; intro M h
  refine BK h (aF h ?_)
  obtain ⟨R', hle, qY, h6⟩ := h.cW a2.ar
  subst ht
  exact k R' _ _ _ hle qY (mo (a := a2) (n := z.ready.length) (gg := mj) (dr := dr) lD (h6.sub br))
 refine ov ?_
 cases rest with
 | true =>
  refine ae ?_
  refine aF h ?_
  exact fin false (by simp [ir])
 | false =>
  refine ai ?_
  refine aG h ?_
  refine aY.2 ⟨fun e0 => ?_, fun e0 => ?_⟩
  ·refine aF h ?_
   refine ⟨h0, by omega, ?_⟩
   obtain ⟨gb2, ZP⟩ := aU (l := a2.gb) (i := g.toNat) (by omega)
   refine vL h ZP fun q2 oX => ?_
   obtain ⟨ga2, hga2⟩ := aU (l := mj) (i := g.toNat) (by omega)
   obtain ⟨y2, hy2⟩ := aU (l := z.gs) (i := g.toNat) (by omega)
   have ey2 : aq z g = y2 := by simp [aq, hy2]
   refine bg ?_
   have Ou : M.ld ⟨gb2, 0, none⟩ = some (.int .i64 y2.st) := by
    have h9 := m9 (b := gb2) (h.dg gk ZP (nZ hy2 hga2))
    exact bO h9
   rw [Ou]
   refine c6 ?_
   refine aF h ?_
   exact fin (y2.st == 1) (by simp [ir, e0, ey2])
  ·refine aF h ?_
   have : (z.end_ == 0) = false := by simpa using e0
   exact fin false (by simp [ir, this])
end
section
variable {R : Mem} {L L' L2 : List HP} {M : Mem} {K : Value → Mem → Prop} {Kp : List PanicEntry → Mem → Prop} {pa : PA} {p : bZ} {gg : List GA} {dr : Value} {b : Nat} {x : Wd} {g : Int}
theorem wZ (h : Hp R L M) [o : KL b L pa p x L'] (k : K (.tuple #[.int .i64 x.end_, .int .i64 x.code]) M) : aa Tryz.prog 28 #[.pointer (some ⟨b, 0, none⟩)] M K Kp := by
 refine tB ?_
 have h' := fI h (b := b)
 clear h
 obtain ⟨a, gg, dr, n, hl, h⟩ := h'
 refine aG h (aG h ?_)
 exact k
theorem vo (h : Hp R L M) [o : KL b L pa p x L'] (h0 : 0 ≤ g) (h1 : g < x.gs.length) (k : K (.int .i64 (aq x g).st) M) : aa Tryz.prog 119 #[.pointer (some ⟨b, 0, none⟩), .int .i64 g] M K Kp := by
 refine oK ?_
 have h' := fI h (b := b)
 clear h
 obtain ⟨a, gg, dr, n, hl, h⟩ := h'
 have hl' := hl
 obtain ⟨l1, l2, l3, l4⟩ := hl'
 refine aN.2 ⟨fun hn => by omega, fun _ => ?_⟩
 refine aF h ?_
 refine aN.2 ⟨fun hn => by omega, fun _ => ?_⟩
 refine aF h ?_
 refine ⟨h0, by omega, ?_⟩
 obtain ⟨gb, gf⟩ := aU (l := a.gb) (i := g.toNat) (by omega)
 refine vL h gf fun q hq => ?_
 obtain ⟨ga, V3⟩ := aU (l := gg) (i := g.toNat) (by omega)
 obtain ⟨y, hy⟩ := aU (l := x.gs) (i := g.toNat) (by omega)
 have ey : aq x g = y := by simp [aq, hy]
 rw [ey] at k
 refine bg ?_
 have Ou : M.ld ⟨gb, 0, none⟩ = some (.int .i64 y.st) := by
  have h9 := m9 (b := gb) (h.dg gk gf (nZ hy V3))
  exact bO h9
 rw [Ou]
 exact c6 k
end
def Wd.new (p : bZ) : Wd := ⟨[⟨1, [gM.begin 0 0], .zero⟩], 0, p.dx.map aV.new, List.replicate p.aK.toNat ⟨-1, []⟩, [], 0, [], 0, 0, []⟩
theorem SX : bj Tryz.prog 156 230 1 8 [.pointer none] := bj.mk' (zv := .pointer none) (by kernel_rfl) (by kernel_rfl) rfl (by omega)
theorem SY : bj Tryz.prog 157 232 1 8 [.pointer none] := bj.mk' (zv := .pointer none) (by kernel_rfl) (by kernel_rfl) rfl (by omega)
section
variable {R : Mem} {L L' L2 : List HP} {M : Mem} {K : Value → Mem → Prop} {Kp : List PanicEntry → Mem → Prop} {pa : PA} {p : bZ} {gg : List GA} {dr : Value} {b : Nat} {x : Wd} {g : Int}
theorem Ov {j : Nat} {q A' : Nat} {c' : Nat} {v : Int} {a : WA} {n k : Nat} {Ac : Option Addr} {Q : List HP} (hl : fq gg a x)
  (h : Hp R (pt b (qW pa p dr { a with ac := Ac, cc := c', cb := a.cb ++ [k] } x n) 161 :: zP Ac c' (a.cb ++ [k]) :: ay bK k (aV.new v) :: bn bK a.cb x.aC :: bn gk a.gb (x.gs.zip gg) :: zO a.ag a.cg a.gb :: zQ a.al a.cl a.lb :: bn gd a.lb x.aK :: gp a.ah a.ch x.hl :: zp a.ao a.co x.out :: Q) M) :
  Hp R (ay (bu pa p) b { x with aC := x.aC ++ [aV.new v] } :: Q) M := by
 obtain ⟨l1, l2, l3, l4⟩ := hl
 have h2 := h.kT bK k l3
 exact mo (a := { a with ac := Ac, cc := c', cb := a.cb ++ [k] }) (gg := gg) (dr := dr) (n := n) (x := { x with aC := x.aC ++ [aV.new v] }) ⟨l1, l2, by simp [l3], l4⟩ (h2.sub br)
theorem Ow {c' : Nat} {a : WA} {n k : Nat} {Ac : Option Addr} {Q : List HP} (hl : fq gg a x)
  (h : Hp R (pt b (qW pa p dr { a with al := Ac, cl := c', lb := a.lb ++ [k] } x n) 161 :: zQ Ac c' (a.lb ++ [k]) :: ay gd k ⟨-1, []⟩ :: bn gd a.lb x.aK :: bn gk a.gb (x.gs.zip gg) :: zO a.ag a.cg a.gb :: zP a.ac a.cc a.cb :: bn bK a.cb x.aC :: gp a.ah a.ch x.hl :: zp a.ao a.co x.out :: Q) M) :
  Hp R (ay (bu pa p) b { x with aK := x.aK ++ [⟨-1, []⟩] } :: Q) M := by
 obtain ⟨l1, l2, l3, l4⟩ := hl
 have h2 := h.kT gd k l4
 exact mo (a := { a with al := Ac, cl := c', lb := a.lb ++ [k] }) (gg := gg) (dr := dr) (n := n) (x := { x with aK := x.aK ++ [⟨-1, []⟩] }) ⟨l1, l2, l3, by simp [l4]⟩ (h2.sub br)
theorem Cj (h : Hp R L M) (xO : RS bl R pa.c pa.cc p.dx) (hc : p.dx.length ≤ 1000000) (hk : 0 ≤ p.aK ∧ p.aK ≤ 1000000)
  (k : ∀ b M', Hp R (ay (bu pa p) b (Wd.new p) :: L) M' → K (.pointer (some ⟨b, 0, none⟩)) M') :
  aa Tryz.prog 56 #[.agg #[.slice pa.f p.funcs.length pa.fc, .slice pa.c p.dx.length pa.cc, .int .i64 p.aK, .slice pa.k p.cases.length pa.kc]] M K Kp := by
 refine C8 ?_
 repeat (first|(refine aj h ?_;clear h;intro kb M h)|(refine au h ?_;clear h;intro M h)|refine St.to h ?_|(apply Exists.intro;(repeat apply Exists.intro);refine And.intro rfl ?_)|refine av ?_|refine ai ?_|refine ae ?_)
 refine qm h ?_
 clear h
 intro bs M h
 repeat (first|(refine aj h ?_;clear h;intro kb M h)|(refine au h ?_;clear h;intro M h)|refine St.to h ?_|(apply Exists.intro;(repeat apply Exists.intro);refine And.intro rfl ?_)|refine av ?_|refine ai ?_|refine ae ?_)
 rename_i kp _ _ kr _ kw _
 replace h := ng h kr
 replace h := (h.uI gk).kT gk kr rfl
 replace h := (h.pt kw).gW (E := mB) (l := [kr]) rfl
 replace h := (h.bY mB 230).uI bK
 replace h := (h.bY mB 232).uI gd
 replace h := (h.bY sU 203).bY bl 2
 have base : Hp R (ay (bu pa p) kb { Wd.new p with aC := (p.dx.take 0).map aV.new, aK := [] } :: pt kp [.slice pa.f p.funcs.length pa.fc, .slice pa.c p.dx.length pa.cc, .int .i64 p.aK, .slice pa.k p.cases.length pa.kc] 39 :: L) _ :=
  mo (a := ⟨some ⟨kw, 0, none⟩, 1, [kr], none, 0, [], none, 0, [], none, 0, none, 0, none, 0⟩) (gg := [(some ⟨bs, 0, none⟩, 1)]) (dr := .nilFunc) (n := 0) (x := { Wd.new p with aC := [], aK := [] }) ⟨rfl, rfl, rfl, rfl⟩ (h.sub br)
 clear h
 refine ⟨fun d vs M => ∃ j : Nat, vs = [.int .i64 (j : Int)] ∧ d = p.dx.length - j ∧ j ≤ p.dx.length ∧ Hp R (ay (bu pa p) kb { Wd.new p with aC := (p.dx.take j).map aV.new, aK := [] } :: pt kp [.slice pa.f p.funcs.length pa.fc, .slice pa.c p.dx.length pa.cc, .int .i64 p.aK, .slice pa.k p.cases.length pa.kc] 39 :: L) M,
  ⟨_, 0, rfl, rfl, by omega, base⟩, ?_⟩
 clear base
 rintro d _ nn M ⟨j, he, hd, hj, h⟩
 simp only [List.cons.injEq, Value.int.injEq, and_true, true_and] at he
 subst he
 refine aN.2 ⟨fun hlt => ?_, fun hge => ?_⟩
 ·obtain ⟨v, hv⟩ := aU (l := p.dx) (i := j) (by omega)
  have Q7 : (p.dx.take (j + 1)).map aV.new = (p.dx.take j).map aV.new ++ [aV.new v] := by rw [eo hv, List.map_append]; rfl
  have F1 : ((p.dx.take j).map aV.new).length ≤ 1000000 := by simp; omega
  rw [aW (by omega)]
  refine ⟨by omega, hlt, ?_⟩
  obtain ⟨cb, co, hcb⟩ := xO.some (by omega) (by decide)
  have ZQ := xO
  rw [hcb] at ZQ ⊢
  refine bg ?_
  simp only [Int.toNat_natCast]
  refine be (Src.at (ZQ.src (L := _)) h (i := j) (j := 0) hv rfl (by simp [bl])) ?_
  refine ⟨fun _ M => Hp R (ay (bu pa p) kb { Wd.new p with aC := (p.dx.take j).map aV.new ++ [aV.new v], aK := [] } :: pt kp [.slice pa.f p.funcs.length pa.fc, .slice pa.c p.dx.length pa.cc, .int .i64 p.aK, .slice pa.k p.cases.length pa.kc] 39 :: L) M, ⟨?_, ?_, trivial⟩, ?_⟩
  ·have h' := fI h (b := kb)
   clear h
   obtain ⟨a, gg, dr, n, hl, h⟩ := h'
   have Rj : a.cb.length = ((p.dx.take j).map aV.new).length := hl.2.2.1
   refine aF h ?_
   refine BU h ?_
   clear h
   intro kc M h
   repeat (first|(refine aj h ?_;clear h;intro kb M h)|(refine au h ?_;clear h;intro M h)|refine St.to h ?_|(apply Exists.intro;(repeat apply Exists.intro);refine And.intro rfl ?_)|refine av ?_|refine ai ?_|refine ae ?_)
   refine h.aT SX [kc] rfl rfl (by simp only [List.length_singleton]; omega) ?_
   clear h
   intro A' c' M h
   repeat (first|(refine aj h ?_;clear h;intro kb M h)|(refine au h ?_;clear h;intro M h)|refine St.to h ?_|(apply Exists.intro;(repeat apply Exists.intro);refine And.intro rfl ?_)|refine av ?_|refine ai ?_|refine ae ?_)
   exact Ov (j := j) (q := j) (A' := j) (a := a) (x := { Wd.new p with aC := (p.dx.take j).map aV.new, aK := [] }) hl (h.sub br)
  ·have h' := fI h (b := kb)
   clear h
   obtain ⟨a, gg, dr, n, hl, h⟩ := h'
   have Rj : a.cb.length = ((p.dx.take j).map aV.new).length := hl.2.2.1
   refine BU h ?_
   clear h
   intro kc M h
   repeat (first|(refine aj h ?_;clear h;intro kb M h)|(refine au h ?_;clear h;intro M h)|refine St.to h ?_|(apply Exists.intro;(repeat apply Exists.intro);refine And.intro rfl ?_)|refine av ?_|refine ai ?_|refine ae ?_)
   refine h.aT SX [kc] rfl rfl (by simp only [List.length_singleton]; omega) ?_
   clear h
   intro A' c' M h
   repeat (first|(refine aj h ?_;clear h;intro kb M h)|(refine au h ?_;clear h;intro M h)|refine St.to h ?_|(apply Exists.intro;(repeat apply Exists.intro);refine And.intro rfl ?_)|refine av ?_|refine ai ?_|refine ae ?_)
   exact Ov (j := j) (q := j) (A' := j) (a := a) (x := { Wd.new p with aC := (p.dx.take j).map aV.new, aK := [] }) hl (h.sub br)
  ·clear h
   intro _ M h
   refine ⟨p.dx.length - (j + 1), by omega, j + 1, rfl, rfl, by omega, ?_⟩
   rw [Q7, ← hcb]; exact h
 ·obtain rfl : j = p.dx.length := by omega
  rw [List.take_length] at h
  refine aG h ?_
  obtain ⟨nl, hnl⟩ := Int.eq_ofNat_of_zero_le hk.1
  refine ⟨fun d vs M => ∃ j : Nat, vs = [.int .i64 (j : Int)] ∧ d = nl - j ∧ j ≤ nl ∧ Hp R (ay (bu pa p) kb { Wd.new p with aK := List.replicate j ⟨-1, []⟩ } :: pt kp [.slice pa.f p.funcs.length pa.fc, .slice pa.c p.dx.length pa.cc, .int .i64 p.aK, .slice pa.k p.cases.length pa.kc] 39 :: L) M,
   ⟨_, 0, rfl, rfl, by omega, h⟩, ?_⟩
  clear h
  rintro d _ nn M ⟨j, he, hd, hj, h⟩
  simp only [List.cons.injEq, Value.int.injEq, and_true, true_and] at he
  subst he
  refine aN.2 ⟨fun hlt => ?_, fun hge => ?_⟩
  ·have Q7 : List.replicate (j + 1) (⟨-1, []⟩ : Lk) = List.replicate j ⟨-1, []⟩ ++ [⟨-1, []⟩] := List.replicate_succ'
   rw [aW (by omega)]
   refine ⟨fun _ M => Hp R (ay (bu pa p) kb { Wd.new p with aK := List.replicate j ⟨-1, []⟩ ++ [⟨-1, []⟩] } :: pt kp [.slice pa.f p.funcs.length pa.fc, .slice pa.c p.dx.length pa.cc, .int .i64 p.aK, .slice pa.k p.cases.length pa.kc] 39 :: L) M, ⟨?_, ?_, trivial⟩, ?_⟩
   ·have h' := fI h (b := kb)
    clear h
    obtain ⟨a, gg, dr, n, hl, h⟩ := h'
    have Rj : a.lb.length = (List.replicate j (⟨-1, []⟩ : Lk)).length := hl.2.2.2
    rw [List.length_replicate] at Rj
    refine aF h ?_
    refine B7 h ?_
    clear h
    intro kc M h
    repeat (first|(refine aj h ?_;clear h;intro kb M h)|(refine au h ?_;clear h;intro M h)|refine St.to h ?_|(apply Exists.intro;(repeat apply Exists.intro);refine And.intro rfl ?_)|refine av ?_|refine ai ?_|refine ae ?_)
    refine h.aT SY [kc] rfl rfl (by simp only [List.length_singleton]; omega) ?_
    clear h
    intro A' c' M h
    repeat (first|(refine aj h ?_;clear h;intro kb M h)|(refine au h ?_;clear h;intro M h)|refine St.to h ?_|(apply Exists.intro;(repeat apply Exists.intro);refine And.intro rfl ?_)|refine av ?_|refine ai ?_|refine ae ?_)
    exact Ow (a := a) (x := { Wd.new p with aK := List.replicate j ⟨-1, []⟩ }) hl (h.sub br)
   ·have h' := fI h (b := kb)
    clear h
    obtain ⟨a, gg, dr, n, hl, h⟩ := h'
    have Rj : a.lb.length = (List.replicate j (⟨-1, []⟩ : Lk)).length := hl.2.2.2
    rw [List.length_replicate] at Rj
    refine B7 h ?_
    clear h
    intro kc M h
    repeat (first|(refine aj h ?_;clear h;intro kb M h)|(refine au h ?_;clear h;intro M h)|refine St.to h ?_|(apply Exists.intro;(repeat apply Exists.intro);refine And.intro rfl ?_)|refine av ?_|refine ai ?_|refine ae ?_)
    refine h.aT SY [kc] rfl rfl (by simp only [List.length_singleton]; omega) ?_
    clear h
    intro A' c' M h
    repeat (first|(refine aj h ?_;clear h;intro kb M h)|(refine au h ?_;clear h;intro M h)|refine St.to h ?_|(apply Exists.intro;(repeat apply Exists.intro);refine And.intro rfl ?_)|refine av ?_|refine ai ?_|refine ae ?_)
    exact Ow (a := a) (x := { Wd.new p with aK := List.replicate j ⟨-1, []⟩ }) hl (h.sub br)
   ·clear h
    intro _ M h
    refine ⟨nl - (j + 1), by omega, j + 1, rfl, rfl, by omega, ?_⟩
    rw [Q7]; exact h
  ·obtain rfl : j = nl := by omega
   have e : Wd.new p = { Wd.new p with aK := List.replicate j ⟨-1, []⟩ } := by unfold Wd.new; rw [hnl]; rfl
   rw [← e] at h
   exact k _ _ h.b7
end
def aD (p : bZ) (i : cI) : List oy := (p.cases.drop i.a.toNat).take i.b.toNat
def vp (f : gM) : List Int := [f.r.getD 0 0, f.r.getD 1 0, f.r.getD 2 0, f.r.getD 3 0, f.r.getD 4 0, f.r.getD 5 0, f.r.getD 6 0, f.r.getD 7 0]
inductive jQ where
 | num (d : Int)
 | dh (l : List PanicEntry)
def ji (R : Mem) (dr : Value) (kind n : Int) (d : jQ) (L L2 : List HP) : Prop := ∀ (Q : HP) (M : Mem) (K : Value → Mem → Prop) (Kp : List PanicEntry → Mem → Prop), Hp R (Q :: L) M →
 (match d with
  | .num v => ∀ M', Hp R (Q :: L2) M' → K (.int .i64 v) M'
  | .dh l => ∀ M', Hp R (Q :: L2) M' → Kp l M') → gZ Cx dr [.int .i64 kind, .int .i64 n] M K Kp
def Wd.qt (p : bZ) (x : Wd) (g : Int) (i : cI) (k : Int) : Out Wd :=
 let c := (aD p i).getD k.toNat ⟨0, 0, 0⟩
 let x1 := x.next g
 if c.way = 1 then match x1.put p c.ch (bD x1 g c.bS) with
  | .fk n y => .fk n y
  | .dh l y => .dh l y
  | .on (y, _) => .on (y.bx g i.c k)
 else .on (((x1.get c.ch).1.bx g c.bS (x1.get c.ch).2.1).bx g i.c k)
def Wd.tV (p : bZ) (x : Wd) (g : Int) (i : cI) : Wd :=
 let x1 := x.next g
 match els (aD p i) with
  | some k => x1.bx g i.c (k : Int)
  | none => Wd.block { x1 with aC := eE g (vp (aq x1 g).top) (aD p i) x1.aC (aD p i).length } g i
def Wd.choose (p : bZ) (x : Wd) (g : Int) (i : cI) (d : jQ) : Out Wd :=
 if enabled (aD p i) x.aC = [] then .on (x.tV p g i)
 else match d with
  | .num v => x.qt p g i ((enabled (aD p i) x.aC).getD v.toNat 0)
  | .dh l => .dh l x
section
variable {R : Mem} {L L' L2 : List HP} {M : Mem} {K : Value → Mem → Prop} {Kp : List PanicEntry → Mem → Prop} {pa : PA} {p : bZ} {gg : List GA} {dr : Value} {b : Nat} {x : Wd} {g : Int} {i : cI}
def vq (p : bZ) (i : cI) : Prop := 0 ≤ i.a ∧ 0 ≤ i.b ∧ i.a + i.b ≤ p.cases.length ∧ p.cases.length ≤ 1000
instance (p : bZ) (i : cI) : Decidable (vq p i) := by unfold vq; infer_instance
theorem Ft (h : Hp R L M) [o : wT b L pa p gg dr x L'] (hp : kJ R pa p) (hk : vq p i)
  (k : ∀ A c M', RS ij R A c (aD p i) → Hp R (ay (bz pa p gg dr) b x :: L') M' → K (.slice A (aD p i).length c) M') :
  aa Tryz.prog 204 #[.pointer (some ⟨b, 0, none⟩), .agg #[.int .i64 i.op, .int .i64 i.a, .int .i64 i.b, .int .i64 i.c]] M K Kp := by
 refine pU ?_
 obtain ⟨a0, b0, hab, hl⟩ := hk
 have hcap := hp.cases.2
 refine aj h ?_
 clear h; intro kb M h
 have hC := h.drop.pick o.pick
 have h' := cv h (b := b)
 clear h
 obtain ⟨a, lD, h⟩ := h'
 refine aF h (aG h (aG h (aG h ?_)))
 rw [cC (by omega) (by omega)]
 refine ⟨by omega, by omega, by omega, by omega, by omega, by omega, ?_⟩
 have e : (aD p i).length = (i.a + i.b).toNat - i.a.toNat := by
  unfold aD
  rw [List.length_take, List.length_drop]; omega
 rw [← e]
 simp only [Int.toNat_natCast]
 exact k _ _ _ ((hp.cases.drop i.a.toNat (by omega)).take i.b.toNat) hC
theorem Ox {bs j : Nat} {l : List gM} {f : gM} (hs : Src R L (some ⟨bs, 0, none⟩) (jB.cells l)) (hi : l[j]? = some f) : Src R L (lO (some ⟨bs, j * 11 + 2, none⟩) 0 8 1) (bl.cells (vp f)) := by
 intro M h
 have e : lO (some ⟨bs, j * 11 + 2, none⟩) 0 8 1 = some ⟨bs, j * 11 + 2, none⟩ := by
  unfold lO; rw [if_neg (by omega)]; rfl
 rw [e]
 intro q hq
 have hq8 : q < 8 := by simpa [bl, hU.cells, vp] using hq
 have e2 : j * 11 + 2 + q = 0 + (j * jB.z + (2 + q)) := by show _ = 0 + (j * 11 + (2 + q)); omega
 obtain rfl | rfl | rfl | rfl | rfl | rfl | rfl | rfl : q = 0 ∨ q = 1 ∨ q = 2 ∨ q = 3 ∨ q = 4 ∨ q = 5 ∨ q = 6 ∨ q = 7 := by omega
 all_goals exact Src.at hs h (i := j) hi rfl e2
theorem HK {bs c oo : Nat} {v : Int} {G : Mem → Prop} (h : Hp R L M) [o : wT b L pa p gg dr x L'] (hg : bp x g) (eZ : gg[g.toNat]? = some (some ⟨bs, 0, none⟩, c)) (e : oo = ((aq x g).fs.length - 1) * 11 + 1) (hv : v = (aq x g).top.pc + 1)
  (k : ∀ M', Hp R (ay (bz pa p gg dr) b (x.next g) :: L') M' → G M') : aM M ⟨bs, oo, none⟩ (.int .i64 v) G := by
 subst hv
 obtain ⟨h0, h1, h2, h3⟩ := hg
 obtain ⟨a, gb, hl, gf, h4⟩ := gQ h (b := b) h0 h1 eZ
 refine zN h4 (eJ h2) e fun M' h5 => ?_
 replace h5 := cT h5 gb hl gf eZ (by simp)
 exact k M' (bh (a := a) (p := p) (pa := pa) (dr := dr) (gg := gg) (x := x.next g) (di hl) h5 b)
theorem HL {bs c oo : Nat} {G : Int → Prop} (h : Hp R L M) [o : wT b L pa p gg dr x L'] (hg : bp x g) (eZ : gg[g.toNat]? = some (some ⟨bs, 0, none⟩, c)) (e : oo = ((aq x g).fs.length - 1) * 11 + 1)
  (k : G (aq x g).top.pc) : aI (M.ld ⟨bs, oo, none⟩) .i64 G := by
 obtain ⟨h0, h1, h2, h3⟩ := hg
 obtain ⟨a, gb, hl, gf, h4⟩ := gQ h (b := b) h0 h1 eZ
 exact zM h4 (eJ h2) e k
theorem zU (hg : bp x g) : aq (x.next g) g = (aq x g).cO (aq x g).top.next := gN hg.1 hg.2.1
theorem tW (hg : bp x g) : bp (x.next g) g := by
 have e := zU hg
 obtain ⟨h0, h1, h2, h3⟩ := hg
 refine ⟨h0, by simpa [Wd.next, Wd.bF] using h1, ?_, ?_⟩ <;> rw [e] <;> simpa [jr.cO]
theorem Dw (hg : bp x g) : (aq (x.next g) g).fs.length = (aq x g).fs.length := by rw [zU hg]; simp [jr.cO]
theorem KM {q v : Int} (hg : bp x g) : (aq (x.bx g q v) g).fs.length = (aq x g).fs.length := by rw [je hg]; simp [jr.cO]
theorem Rk (hs : x.Sm) : (x.next g).Sm := IX hs
def Fu (p : bZ) (x : Wd) (g : Int) (i : cI) (d : jQ) : Prop := bp x g ∧ vq p i ∧ aZ i.c ∧ x.Sm ∧ (aq x g).top.pc < 1000000000 ∧ 0 ≤ (aq x g).top.pc ∧ (∀ c ∈ aD p i, c.Ok x.aC.length) ∧
 match enabled (aD p i) x.aC, d with
 | [], _ => True
 | _, .dh _ => True
 | can, .num v => 0 ≤ v ∧ v < can.length ∧
  let k := can.getD v.toNat 0
  let c := (aD p i).getD k.toNat ⟨0, 0, 0⟩
  let x1 := x.next g
  0 ≤ k ∧ k < (aD p i).length ∧ aZ c.bS ∧
  if c.way = 1 then oz p x1 c.ch (bD x1 g c.bS) ∧ (match x1.put p c.ch (bD x1 g c.bS) with
   | .on (y, _) => bp y g ∧ (aq y g).fs.length = (aq x g).fs.length
   | _ => True)
  else vk x1 c.ch ∧ bp (x1.get c.ch).1 g ∧ (aq (x1.get c.ch).1 g).fs.length = (aq x g).fs.length
theorem KN {d : jQ} (hp : kJ R pa p) (hk : Fu p x g i d) (hd : if enabled (aD p i) x.aC = [] then L2 = L else ji R dr 3 ((enabled (aD p i) x.aC).length : Int) d L L2) :
  gm R pa p dr 191 x g i (x.choose p g i d) L L2 := by
 intro gg b bs c M K Kp Q h eZ k
 obtain ⟨hg, hcs, Rl, hs, Bk, Rn, hok, hk⟩ := hk
 have Dr := hg
 obtain ⟨h0, h1, h2, h3⟩ := Dr
 have hs' := hs
 obtain ⟨s1, s2, s3, s4, s5, s6, s7, s8⟩ := hs'
 have SU : (aD p i).length ≤ 1000 := by
  obtain ⟨_, _, _, hl⟩ := hcs
  unfold aD
  rw [List.length_take, List.length_drop]; omega
 refine oL ?_
 refine aj h ?_
 clear h; intro k1 M h
 refine aG h (aG h (aG h (aG h ?_)))
 refine Ft (b := b) h hp hcs ?_
 clear h; intro A ca M hA h
 refine aQ ?_
 unfold Wd.choose at k
 have hen : ∀ {X : HP} {M : Mem} {L3 : List HP}, Hp R (ay (bz pa p gg dr) b x :: L3) M → ∀ (K1 : Value → Mem → Prop), (∀ A' c' M', Hp R (lU A' c' (enabled (aD p i) x.aC) :: ay (bz pa p gg dr) b x :: L3) M' → K1 (.slice A' (enabled (aD p i) x.aC).length c') M') →
   aB (M.ld ⟨b, 0 + 6, none⟩) fun rz cX gT => aa Tryz.prog 205 #[.slice A (aD p i).length ca, .slice rz cX gT] M K1 Kp := by
  intro X M L3 h K1 k1
  have h' := cv h (b := b)
  clear h
  obtain ⟨a, hl, h⟩ := h'
  have hl' := hl
  obtain ⟨l1, l2, l3, l4⟩ := hl'
  refine aF h ?_
  refine AZ h (hA.src) (Src.row (A := a.ac)) rfl rfl (by omega) l3 hok ?_
  clear h; intro A' c' M h
  exact k1 _ _ _ ((bh (a := a) (p := p) (pa := pa) (dr := dr) (gg := gg) (x := x) hl h b).swap)
 refine hen (X := Q) h _ ?_
 clear h hen; intro A2 c2 M h
 refine aQ ?_
 by_cases hcan : enabled (aD p i) x.aC = []
 ·rw [if_pos hcan] at k hd
  subst hd
  rw [hcan] at h ⊢
  refine ai ?_
  unfold Wd.tV at k
  dsimp only at k
  refine HL (b := b) h hg eZ rfl ?_
  rw [jC Rn (by omega)]
  refine HK (b := b) h hg eZ rfl rfl ?_
  clear h; intro M h
  have KO := tW hg
  have JN := Dw hg
  refine GP h hA.src rfl (by omega) ?_
  clear h; intro M h
  refine ⟨_, _, rfl, ?_⟩
  cases he : els (aD p i) with
  | some q =>
   rw [he] at k
   dsimp only at k ⊢
   refine ai ?_
   refine aG h ?_
   refine ⟨Rl.1, Rl.2, ?_⟩
   refine mh (b := b) h KO eZ Rl (by rw [JN]) ?_
   clear h; intro M h
   exact k _ _ (h.sub br)
  | none =>
   rw [he] at k
   dsimp only at k ⊢
   refine ae ⟨by decide, by decide, by decide, by decide, by decide, by decide, ?_⟩
   have za := KO
   obtain ⟨g0, g1, g2, g3⟩ := za
   have h' := gQ h (b := b) g0 g1 eZ
   clear h
   obtain ⟨a, gb, hl, gf, h⟩ := h'
   have hl' := hl
   obtain ⟨l1, l2, l3, l4⟩ := hl'
   refine aF h ?_
   refine GR (fT := vp (aq (x.next g) g).top) h hA.src (Src.row (A := a.ac)) ?_ rfl rfl rfl rfl (by omega) l3 hok (fun c hc => s1 c hc) ?_
   ·have e9 : ∀ {L9 : List HP}, Src R L9 (some ⟨bs, 0, none⟩) (jB.cells (aq (x.next g) g).fs) → Src R L9 (lO (some ⟨bs, ((aq x g).fs.length - 1) * 11 + 2, none⟩) 0 8 1) (bl.cells (vp (aq (x.next g) g).top)) := fun hs => by
     have := Ox hs (eJ g2)
     rwa [JN] at this
    exact e9 Src.row
   clear h; intro M h
   refine ⟨rfl, ?_⟩
   refine aG h (aG h (aG h (aG h ?_)))
   replace h := cT h gb hl gf eZ
   have lD := di (y := aq (x.next g) g) (g := g) hl
   have hcl2 : ∀ x' : Wd, x' = { (x.next g).bF g (aq (x.next g) g) with aC := eE g (vp (aq (x.next g) g).top) (aD p i) x.aC (aD p i).length } → fq gg a x' := by
    rintro _ rfl
    obtain ⟨m1, m2, m3, m4⟩ := lD
    exact ⟨m1, m2, by show _ = List.length _; rw [lF]; exact l3, m4⟩
   replace h := bh (a := a) (p := p) (pa := pa) (dr := dr) (gg := gg) (x := { (x.next g).bF g (aq (x.next g) g) with aC := eE g (vp (aq (x.next g) g).top) (aD p i) x.aC (aD p i).length }) (hcl2 _ rfl) h b
   rw [sx g0 g1] at h
   refine me (b := b) (i := i) (x := { x.next g with aC := eE g (vp (aq (x.next g) g).top) (aD p i) x.aC (aD p i).length }) h g0 g1 ?_
   clear h; intro M h
   exact ⟨rfl, k _ _ (h.sub br)⟩
 rw [if_neg hcan] at k hd
 have ZR : 0 < (enabled (aD p i) x.aC).length := by
  cases hh : enabled (aD p i) x.aC with
  | nil => exact absurd hh hcan
  | cons _ _ => simp
 refine lu (by simp; omega) ?_
 have Bl : M.ld ⟨b, 0 + 14, none⟩ = some dr := by
  obtain ⟨a, hl, h9⟩ := cv h (b := b)
  exact bO h9
 rw [Bl]
 refine Mq ?_
 have h5 : Hp R (sep [lU A2 c2 (enabled (aD p i) x.aC), ay (bz pa p gg dr) b x, pt k1 [.int .i64 i.op, .int .i64 i.a, .int .i64 i.b, .int .i64 i.c] 27, Q] :: L) M := Hp.aS.2 (h.sub br)
 refine hd _ _ _ _ h5 ?_
 clear h h5 Bl
 cases d with
 | dh l =>
  dsimp only at k ⊢
  intro M h5
  have h : Hp R (lU A2 c2 (enabled (aD p i) x.aC) :: ay (bz pa p gg dr) b x :: pt k1 [.int .i64 i.op, .int .i64 i.a, .int .i64 i.b, .int .i64 i.c] 27 :: Q :: L2) M := Hp.aS.1 h5
  exact k _ _ (h.sub br)
 | num v =>
  dsimp only at k ⊢
  intro M h5
  have h : Hp R (lU A2 c2 (enabled (aD p i) x.aC) :: ay (bz pa p gg dr) b x :: pt k1 [.int .i64 i.op, .int .i64 i.a, .int .i64 i.b, .int .i64 i.c] 27 :: Q :: L2) M := Hp.aS.1 h5
  clear h5
  have hk2 : 0 ≤ v ∧ v < (enabled (aD p i) x.aC).length ∧
    0 ≤ (enabled (aD p i) x.aC).getD v.toNat 0 ∧ (enabled (aD p i) x.aC).getD v.toNat 0 < (aD p i).length ∧ aZ ((aD p i).getD ((enabled (aD p i) x.aC).getD v.toNat 0).toNat ⟨0, 0, 0⟩).bS ∧
    if ((aD p i).getD ((enabled (aD p i) x.aC).getD v.toNat 0).toNat ⟨0, 0, 0⟩).way = 1 then oz p (x.next g) ((aD p i).getD ((enabled (aD p i) x.aC).getD v.toNat 0).toNat ⟨0, 0, 0⟩).ch (bD (x.next g) g ((aD p i).getD ((enabled (aD p i) x.aC).getD v.toNat 0).toNat ⟨0, 0, 0⟩).bS) ∧
     (match (x.next g).put p ((aD p i).getD ((enabled (aD p i) x.aC).getD v.toNat 0).toNat ⟨0, 0, 0⟩).ch (bD (x.next g) g ((aD p i).getD ((enabled (aD p i) x.aC).getD v.toNat 0).toNat ⟨0, 0, 0⟩).bS) with
      | .on (y, _) => bp y g ∧ (aq y g).fs.length = (aq x g).fs.length
      | _ => True)
    else vk (x.next g) ((aD p i).getD ((enabled (aD p i) x.aC).getD v.toNat 0).toNat ⟨0, 0, 0⟩).ch ∧ bp ((x.next g).get ((aD p i).getD ((enabled (aD p i) x.aC).getD v.toNat 0).toNat ⟨0, 0, 0⟩).ch).1 g ∧ (aq ((x.next g).get ((aD p i).getD ((enabled (aD p i) x.aC).getD v.toNat 0).toNat ⟨0, 0, 0⟩).ch).1 g).fs.length = (aq x g).fs.length := by
   revert hk
   cases hh : enabled (aD p i) x.aC with
   | nil => exact absurd hh hcan
   | cons a l => exact fun hk => hk
  clear hk hcan hd
  generalize hcane : enabled (aD p i) x.aC = can at h k hk2 ZR ⊢
  obtain ⟨v0, v1, q0, q1, SZ, V4⟩ := hk2
  refine c6 ⟨v0, v1, ?_⟩
  obtain ⟨ab, rfl⟩ := h.bM (A := A2) ZR (by decide)
  refine bg ?_
  obtain ⟨q, hq⟩ := aU (l := can) (i := v.toNat) (by omega)
  have hqe : can.getD v.toNat 0 = q := by simp [hq]
  rw [hqe] at k q0 q1 SZ V4
  refine be (Src.at (h.src (A := some ⟨ab, 0, none⟩)) h (i := v.toNat) (j := 0) hq rfl (by simp [bl])) ?_
  unfold Wd.qt at k
  dsimp only at k
  obtain ⟨cc, Xc⟩ := aU (l := aD p i) (i := q.toNat) (by omega)
  have hce : (aD p i).getD q.toNat ⟨0, 0, 0⟩ = cc := by simp [Xc]
  rw [hce] at k SZ V4
  refine HL (b := b) h hg eZ rfl ?_
  rw [jC Rn (by omega)]
  refine HK (b := b) h hg eZ rfl rfl ?_
  clear h; intro M h
  have KO := tW hg
  have JN := Dw hg
  have vD : (x.next g).Sm := Rk hs
  generalize Dx : x.next g = x1 at h k V4 KO JN vD
  refine ⟨q0, q1, ?_⟩
  obtain ⟨cb, co, rfl⟩ := hA.some (by omega) (by decide)
  refine bg ?_
  refine be (Src.at (hA.src (L := _)) h (i := q.toNat) (j := 0) Xc rfl (by simp [ij])) ?_
  refine be (Src.at (hA.src (L := _)) h (i := q.toNat) (j := 1) Xc rfl (by show _ = co + (_ * 3 + 1); omega)) ?_
  refine be (Src.at (hA.src (L := _)) h (i := q.toNat) (j := 2) Xc rfl (by show _ = co + (_ * 3 + 2); omega)) ?_
  refine aj h ?_
  clear h; intro kc M h
  refine au h ?_
  clear h; intro M h
  refine au h ?_
  clear h; intro M h
  refine au h ?_
  clear h; intro M h
  refine aG h ?_
  refine aY.2 ⟨fun e1 => ?_, fun e1 => ?_⟩
  ·rw [if_pos e1] at k V4
   obtain ⟨hput, hy⟩ := V4
   refine aG h (aG h ⟨SZ.1, SZ.2, ?_⟩)
   refine Fh (b := b) h KO eZ SZ (by rw [JN]) ?_
   refine B8 (b := b) h hp.cases hput vD ?_ ?_
   ·clear h
    intro y ok M e h
    rw [e] at k hy
    dsimp only at k hy
    refine ov ?_
    refine aG h ⟨Rl.1, Rl.2, ?_⟩
    refine mh (b := b) h hy.1 eZ Rl (by rw [hy.2]) ?_
    clear h; intro M h
    exact k _ _ (h.sub br)
   ·clear h
    intro y n M e h
    rw [e] at k
    exact k _ _ (h.sub br)
  ·rw [if_neg e1] at k V4
   obtain ⟨VV, Fi, hfl⟩ := V4
   refine aG h (aG h ?_)
   refine B9 (b := b) h VV vD ?_
   clear h; intro M h
   generalize x1.get cc.ch = r at h k Fi hfl
   obtain ⟨y, w, sm, ok⟩ := r
   dsimp only at h k Fi hfl ⊢
   refine ⟨_, _, _, rfl, bO h, SZ.1, SZ.2, ?_⟩
   refine mh (b := b) h Fi eZ SZ (by rw [hfl]) ?_
   clear h; intro M h
   refine ⟨bO h, aG h ⟨Rl.1, Rl.2, ?_⟩⟩
   refine mh (b := b) h (jf Fi) eZ Rl (by rw [KM Fi, hfl]) ?_
   clear h; intro M h
   exact k _ _ (h.sub br)
end
def bH.before (a b : bH) : Bool := decide (a.t < b.t) || (a.t == b.t && decide (a.seq < b.seq))
def od (l : List bH) (i : Nat) : bH := l.getD i ⟨0, 0, 0⟩
def fh (l : List bH) (i j : Nat) : List bH := (l.set i (od l j)).set j (od l i)
def KP : Nat → Nat → List bH → List bH
 | 0, _, l => l
 | f + 1, i, l => if 0 < i ∧ (od l i).before (od l ((i - 1) / 4)) = true then KP f ((i - 1) / 4) (fh l i ((i - 1) / 4)) else l
def gB (l : List bH) : Nat → Nat → Nat → Nat
 | 0, _, out => out
 | n + 1, k, out => if k < l.length then gB l n (k + 1) (if (od l k).before (od l out) then k else out) else out
def gY (l : List bH) (i : Nat) : Nat := gB l 4 (4 * i + 1) i
def oD : Nat → Nat → List bH → List bH
 | 0, _, l => l
 | f + 1, i, l => if gY l i = i then l else oD f (gY l i) (fh l i (gY l i))
def sY (l : List bH) (x : bH) : List bH := KP l.length l.length (l ++ [x])
def eK (l : List bH) (i : Nat) : List bH :=
 if i < l.length - 1 then KP i i (oD l.length i ((fh l i (l.length - 1)).take (l.length - 1))) else (fh l i (l.length - 1)).take (l.length - 1)
def dS : Nat → List bH → Int → List bH × List bH
 | 0, l, _ => (l, [])
 | f + 1, l, now => if 0 < l.length ∧ (od l 0).t ≤ now then ((dS f (eK l 0) now).1, od l 0 :: (dS f (eK l 0) now).2) else (l, [])
theorem Fv {f i : Nat} {l : List bH} : KP (f + 1) i l = if 0 < i ∧ (od l i).before (od l ((i - 1) / 4)) = true then KP f ((i - 1) / 4) (fh l i ((i - 1) / 4)) else l := rfl
theorem yx {l : List bH} {n k out : Nat} : gB l (n + 1) k out = if k < l.length then gB l n (k + 1) (if (od l k).before (od l out) then k else out) else out := rfl
theorem HM {f i : Nat} {l : List bH} : oD (f + 1) i l = if gY l i = i then l else oD f (gY l i) (fh l i (gY l i)) := rfl
theorem zV {f : Nat} {l : List bH} {now : Int} : dS (f + 1) l now = if 0 < l.length ∧ (od l 0).t ≤ now then ((dS f (eK l 0) now).1, od l 0 :: (dS f (eK l 0) now).2) else (l, []) := rfl
theorem fJ {l : List bH} {i j : Nat} : (fh l i j).length = l.length := by simp [fh]
theorem Dy : ∀ {f i : Nat} {l : List bH}, (KP f i l).length = l.length
 | 0, _, _ => rfl
 | f + 1, i, l => by unfold KP; split; rw [Dy, fJ]; rfl
theorem jD : ∀ {f i : Nat} {l : List bH}, (oD f i l).length = l.length
 | 0, _, _ => rfl
 | f + 1, i, l => by unfold oD; split; rfl; rw [jD, fJ]
theorem Fw {l : List bH} {i : Nat} : (eK l i).length = l.length - 1 := by
 unfold eK; split
 ·rw [Dy, jD, List.length_take, fJ]; omega
 ·rw [List.length_take, fJ]; omega
theorem KQ {l : List bH} {x : bH} : (sY l x).length = l.length + 1 := by unfold sY; rw [Dy]; simp
theorem mH {l : List bH} {i : Nat} (h : i < l.length) : l[i]? = some (od l i) := by
 unfold od; rw [List.getD_eq_getElem?_getD, List.getElem?_eq_getElem h]; rfl
theorem mI {l : List bH} : ∀ (n k out : Nat), out < l.length → out < k → gB l n k out < l.length ∧ (out ≤ gB l n k out)
 | 0, _, _, h, _ => ⟨h, Nat.le_refl _⟩
 | n + 1, k, out, h, hk => by
  unfold gB; split
  ·rename_i hl
   split
   ·have := mI n (k + 1) k hl (by omega); omega
   ·exact mI n (k + 1) out h (by omega)
  ·exact ⟨h, Nat.le_refl _⟩
theorem Ck {l : List bH} {i : Nat} (h : i < l.length) : gY l i < l.length ∧ i ≤ gY l i := mI 4 _ i h (by omega)
structure S0 (b o : Nat) (P : Option Addr → Nat → Nat → Int → HP) : Prop where
 HB : ∀ (R : Mem) (L : List HP) (M : Mem) (A : Option Addr) (n c : Nat) (s : Int), Hp R (P A n c s :: L) M → M.ld ⟨b, o, none⟩ = some (.slice A n c)
 ldI : ∀ (R : Mem) (L : List HP) (M : Mem) (A : Option Addr) (n c : Nat) (s : Int), Hp R (P A n c s :: L) M → M.ld ⟨b, o + 1, none⟩ = some (.int .u64 s)
 ZM : ∀ (R : Mem) (L : List HP) (M : Mem) (A A' : Option Addr) (n c n' c' : Nat) (s : Int) (G : Mem → Prop), Hp R (P A n c s :: L) M → (∀ M', Hp R (P A' n' c' s :: L) M' → G M') → aM M ⟨b, o, none⟩ (.slice A' n' c') G
 stI : ∀ (R : Mem) (L : List HP) (M : Mem) (A : Option Addr) (n c : Nat) (s s' : Int) (G : Mem → Prop), Hp R (P A n c s :: L) M → (∀ M', Hp R (P A n c s' :: L) M' → G M') → aM M ⟨b, o + 1, none⟩ (.int .u64 s') G
theorem Jb : bj Tryz.prog 46 203 3 24 [.int .u64 0, .int .u64 0, .int .i64 0] := bj.mk' (zv := .agg #[.int .u64 0, .int .u64 0, .int .i64 0]) (by kernel_rfl) (by kernel_rfl) rfl (by omega)
section
variable {R : Mem} {L L' : List HP} {M : Mem} {K : Value → Mem → Prop} {Kp : List PanicEntry → Mem → Prop} {b o : Nat} {P : Option Addr → Nat → Nat → Int → HP} {A : Option Addr} {c : Nat} {s : Int} {l : List bH} {i j : Nat}
theorem mq {q o0 o1 o2 o3 : Nat} {x : bH} {G : Int → Int → Int → Prop} (h : Hp R L M) (hs : Src R L (some ⟨q, o0, none⟩) (sU.cells l)) (hi : l[i]? = some x) (e1 : o1 = o0 + i * 3) (e2 : o2 = o0 + i * 3 + 1) (e3 : o3 = o0 + i * 3 + 2) (g : G x.t x.seq x.id) :
  aI (M.ld ⟨q, o1, none⟩) .u64 fun a => aI (M.ld ⟨q, o2, none⟩) .u64 fun b => aI (M.ld ⟨q, o3, none⟩) .i64 fun d => G a b d := by
 refine be (Src.at hs h (i := i) (j := 0) hi rfl (by rw [e1]; rfl)) ?_
 refine be (Src.at hs h (i := i) (j := 1) hi rfl (by rw [e2]; show _ = o0 + (i * 3 + 1); omega)) ?_
 exact be (Src.at hs h (i := i) (j := 2) hi rfl (by rw [e3]; show _ = o0 + (i * 3 + 2); omega)) g
theorem Jc {q o1 o2 o3 : Nat} {x y : bH} {G : Mem → Prop} (h : Hp R L M) [r : cK (some ⟨q, 0, none⟩) L bH sU 203 c l L'] (hi : l[i]? = some x) (e1 : o1 = i * 3) (e2 : o2 = i * 3 + 1) (e3 : o3 = i * 3 + 2)
  (k : ∀ M', Hp R (gp (some ⟨q, 0, none⟩) c (l.set i y) :: L') M' → G M') :
  aM M ⟨q, o1, none⟩ (.int .u64 y.t) fun M1 => aM M1 ⟨q, o2, none⟩ (.int .u64 y.seq) fun M2 => aM M2 ⟨q, o3, none⟩ (.int .i64 y.id) G := by
 have hl := (List.getElem?_eq_some_iff.1 hi).1
 refine iR (E := sU) (a := x) (a' := ⟨y.t, x.seq, x.id⟩) i 0 h hi (by decide) rfl e1 ?_
 clear h; intro M h
 refine iR (E := sU) (a := ⟨y.t, x.seq, x.id⟩) (a' := ⟨y.t, y.seq, x.id⟩) i 1 h (by simp [hl]) (by decide) rfl e2 ?_
 clear h; intro M h
 refine iR (E := sU) (a := ⟨y.t, y.seq, x.id⟩) (a' := y) i 2 h (by simp [hl]) (by decide) rfl e3 ?_
 clear h; intro M h
 rw [jd, jd] at h
 exact k _ h
theorem xR {x y : bH} (h : Hp R L M) (k : ∀ M', Hp R L M' → K (.bool (x.before y)) M') : aa Tryz.prog 187 #[.agg #[.int .u64 x.t, .int .u64 x.seq, .int .i64 x.id], .agg #[.int .u64 y.t, .int .u64 y.seq, .int .i64 y.id]] M K Kp := by
 refine zA ?_
 repeat (first|(refine aj h ?_;clear h;intro kb M h)|(refine au h ?_;clear h;intro M h)|refine St.to h ?_|(apply Exists.intro;(repeat apply Exists.intro);refine And.intro rfl ?_)|refine av ?_|refine ai ?_|refine ae ?_)
 unfold bH.before at k
 refine aN.2 ⟨fun h1 => ?_, fun h1 => ?_⟩
 ·have := k _ h.wh
  rwa [decide_eq_true h1, Bool.true_or] at this
 ·repeat (first|(refine aj h ?_;clear h;intro kb M h)|(refine au h ?_;clear h;intro M h)|refine St.to h ?_|(apply Exists.intro;(repeat apply Exists.intro);refine And.intro rfl ?_)|refine av ?_|refine ai ?_|refine ae ?_)
  refine aY.2 ⟨fun h2 => ?_, fun h2 => ?_⟩
  ·repeat (first|(refine aj h ?_;clear h;intro kb M h)|(refine au h ?_;clear h;intro M h)|refine St.to h ?_|(apply Exists.intro;(repeat apply Exists.intro);refine And.intro rfl ?_)|refine av ?_|refine ai ?_|refine ae ?_)
   have := k _ h.wh
   rwa [decide_eq_false h1, Bool.false_or, beq_iff_eq.2 h2, Bool.true_and] at this
  ·have := k _ h.wh
   rwa [decide_eq_false h1, Bool.false_or, show (x.t == y.t) = false from by simpa using h2, Bool.false_and] at this
theorem w4 (D : S0 b o P) (h : Hp R (P A l.length c s :: gp A c l :: L) M) (hi : i < l.length) (hj : j < l.length)
  (k : ∀ M', Hp R (P A l.length c s :: gp A c (fh l i j) :: L) M' → K (.tuple #[]) M') : aa Tryz.prog 154 #[.pointer (some ⟨b, o, none⟩), .int .i64 (i : Int), .int .i64 (j : Int)] M K Kp := by
 refine uN ?_
 obtain ⟨q, rfl⟩ := h.bM (A := A) (by omega) (by decide)
 have hs := h.src (A := some ⟨q, 0, none⟩)
 rw [D.HB _ _ _ _ _ _ _ h]
 refine aQ (aQ (aQ ⟨by omega, by omega, bg ?_⟩))
 refine mq h hs (mH hj) (by simp) (by simp) (by simp) ?_
 refine aQ ⟨by omega, by omega, bg ?_⟩
 refine mq h hs (mH hi) (by simp) (by simp) (by simp) ?_
 clear hs
 refine ⟨by omega, by omega, bg ?_⟩
 refine Jc (y := od l j) h (mH hi) (by simp) (by simp) (by simp) ?_
 clear h; intro M h
 refine ⟨by omega, by omega, bg ?_⟩
 have Lr : (l.set i (od l j))[j]? = some (od l j) := by
  rw [List.getElem?_set]
  split
  ·rfl
  ·exact mH hj
 refine Jc (y := od l i) h Lr (by simp) (by simp) (by simp) ?_
 clear h; intro M h
 exact k _ (h.sub br)
theorem zW (D : S0 b o P) (h : Hp R (P A l.length c s :: gp A c l :: L) M) (hi : i < l.length) (hl : l.length ≤ 1000000)
  (k : ∀ M', Hp R (P A l.length c s :: gp A c l :: L) M' → K (.int .i64 (gY l i : Int)) M') : aa Tryz.prog 186 #[.pointer (some ⟨b, o, none⟩), .int .i64 (i : Int)] M K Kp := by
 refine tL ?_
 have e1 : IntKind.wrap .i64 (IntKind.wrap .i64 (4 * (i : Int)) + 1) = ((4 * i + 1 : Nat) : Int) := by
  rw [cC (z := 4 * (i : Int)) (by omega) (by omega), cC (by omega) (by omega)]; omega
 have e4 : IntKind.wrap .i64 (IntKind.wrap .i64 (4 * (i : Int)) + 4) = ((4 * i + 4 : Nat) : Int) := by
  rw [cC (z := 4 * (i : Int)) (by omega) (by omega), cC (by omega) (by omega)]; omega
 rw [e1, e4]
 refine ⟨fun d vs M => ∃ kk out : Nat, vs = [.int .i64 (out : Int), .int .i64 (kk : Int)] ∧ d = 4 * i + 5 - kk ∧ kk ≤ 4 * i + 5 ∧ out < l.length ∧ out < kk ∧ gB l (4 * i + 5 - kk) kk out = gY l i ∧ Hp R (P A l.length c s :: gp A c l :: L) M,
  ⟨_, 4 * i + 1, i, rfl, rfl, by omega, hi, by omega, by rw [show 4 * i + 5 - (4 * i + 1) = 4 from by omega]; rfl, h⟩, ?_⟩
 clear h
 rintro d _ n5 n6 M ⟨kk, out, he, hd, hkk, ho, hok, hf, h⟩
 simp only [List.cons.injEq, Value.int.injEq, and_true, true_and] at he
 obtain ⟨rfl, rfl⟩ := he
 refine aN.2 ⟨fun hle => ?_, fun hgt => ?_⟩
 ·rw [D.HB _ _ _ _ _ _ _ h]
  obtain ⟨n, hn⟩ : ∃ n, 4 * i + 5 - kk = n + 1 := ⟨4 * i + 4 - kk, by omega⟩
  rw [hn] at hf
  rw [yx] at hf
  refine aQ ?_
  refine aN.2 ⟨fun hlt => ?_, fun hge => ?_⟩
  ·rw [if_pos (by omega)] at hf
   obtain ⟨q, rfl⟩ := h.bM (A := A) (by omega) (by decide)
   have hs := h.src (A := some ⟨q, 0, none⟩)
   refine aQ ⟨by omega, by omega, bg ?_⟩
   refine mq h hs (mH (i := kk) (by omega)) (by simp) (by simp) (by simp) ?_
   refine aQ ⟨by omega, by omega, bg ?_⟩
   refine mq h hs (mH (i := out) (by omega)) (by simp) (by simp) (by simp) ?_
   refine xR h ?_
   clear h hs; intro M h
   refine ov ?_
   have e : IntKind.wrap .i64 ((kk : Int) + 1) = ((kk + 1 : Nat) : Int) := by rw [cC (by omega) (by omega)]; omega
   rw [e]
   cases hb : (od l kk).before (od l out) with
   | true =>
    rw [hb] at hf
    exact ai ⟨n, by omega, kk + 1, kk, rfl, by omega, by omega, by omega, by omega, by rw [show 4 * i + 5 - (kk + 1) = n from by omega]; exact hf, h⟩
   | false =>
    rw [hb] at hf
    exact ae ⟨n, by omega, kk + 1, out, rfl, by omega, by omega, by omega, by omega, by rw [show 4 * i + 5 - (kk + 1) = n from by omega]; exact hf, h⟩
  ·rw [if_neg (by omega)] at hf
   subst hf
   exact k _ h
 ·have : 4 * i + 5 - kk = 0 := by omega
  rw [this] at hf
  have Ek : out = gY l i := hf
  subst Ek
  exact k _ h
theorem KR (D : S0 b o P) {f : Nat} (h : Hp R (P A l.length c s :: gp A c l :: L) M) (hi : i < l.length) (hl : l.length ≤ 1000000) (hf : l.length ≤ f + i)
  (k : ∀ M', Hp R (P A l.length c s :: gp A c (oD f i l) :: L) M' → K (.tuple #[]) M') : aa Tryz.prog 155 #[.pointer (some ⟨b, o, none⟩), .int .i64 (i : Int)] M K Kp := by
 refine uO ?_
 refine zW D h hi hl ?_
 clear h; intro M h
 refine c6 ?_
 refine ⟨fun d vs M => ∃ (f' i' : Nat) (l' : List bH), vs = [.int .i64 (i' : Int), .int .i64 (gY l' i' : Int)] ∧ d = l.length - i' ∧ i' < l.length ∧ l'.length = l.length ∧ l.length ≤ f' + i' ∧ oD f' i' l' = oD f i l ∧ Hp R (P A l.length c s :: gp A c l' :: L) M,
  ⟨_, f, i, l, rfl, rfl, hi, rfl, hf, rfl, h⟩, ?_⟩
 clear h
 rintro d _ n5 n6 M ⟨f', i', l', he, hd, hi', hl', Gh, Cl, h⟩
 simp only [List.cons.injEq, Value.int.injEq, and_true, true_and] at he
 obtain ⟨rfl, rfl⟩ := he
 obtain ⟨g, rfl⟩ : ∃ g, f' = g + 1 := ⟨f' - 1, by omega⟩
 rw [HM] at Cl
 obtain ⟨m1, m2⟩ := Ck (l := l') (i := i') (by omega)
 rw [← hl'] at h
 refine dJ.2 ⟨fun hne => ?_, fun heq => ?_⟩
 ·rw [if_neg (by intro e; apply hne; rw [e])] at Cl
  refine w4 D h (i := i') (j := gY l' i') (by omega) (by omega) ?_
  clear h; intro M h
  refine ⟨rfl, ?_⟩
  have S1 : (fh l' i' (gY l' i')).length = l'.length := fJ
  rw [← S1] at h
  refine zW D h (by omega) (by omega) ?_
  clear h; intro M h
  rw [S1] at h
  refine c6 ?_
  exact ⟨l.length - gY l' i', by omega, g, gY l' i', _, rfl, rfl, by omega, by omega, by omega, Cl, by rw [← hl']; exact h⟩
 ·rw [if_pos (by omega)] at Cl
  subst Cl
  rw [hl'] at h
  exact k _ h
theorem Jd (D : S0 b o P) {f : Nat} (h : Hp R (P A l.length c s :: gp A c l :: L) M) (hi : i < l.length) (hl : l.length ≤ 1000000) (hf : i ≤ f)
  (k : ∀ M', Hp R (P A l.length c s :: gp A c (KP f i l) :: L) M' → K (.tuple #[]) M') : aa Tryz.prog 156 #[.pointer (some ⟨b, o, none⟩), .int .i64 (i : Int)] M K Kp := by
 refine yj ?_
 refine ⟨fun d vs M => ∃ (f' i' : Nat) (l' : List bH), vs = [.int .i64 (i' : Int)] ∧ d = i' ∧ i' < l.length ∧ l'.length = l.length ∧ i' ≤ f' ∧ KP f' i' l' = KP f i l ∧ Hp R (P A l.length c s :: gp A c l' :: L) M,
  ⟨_, f, i, l, rfl, rfl, hi, rfl, hf, rfl, h⟩, ?_⟩
 clear h
 rintro d _ n5 M ⟨f', i', l', he, hd, hi', hl', Gh, Cl, h⟩
 simp only [List.cons.injEq, Value.int.injEq, and_true, true_and] at he
 subst he
 refine aN.2 ⟨fun hgt => ?_, fun hle => ?_⟩
 ·obtain ⟨g, rfl⟩ : ∃ g, f' = g + 1 := ⟨f' - 1, by omega⟩
  rw [Fv] at Cl
  have ep : IntKind.wrap .i64 (Int.tdiv (IntKind.wrap .i64 ((i' : Int) - 1)) 4) = (((i' - 1) / 4 : Nat) : Int) := by
   rw [cC (z := (i' : Int) - 1) (by omega) (by omega), show ((i' : Int) - 1) = ((i' - 1 : Nat) : Int) from by omega, show (4 : Int) = ((4 : Nat) : Int) from rfl, ← Int.ofNat_tdiv, cC (by omega) (by omega)]
  have hp : (i' - 1) / 4 < i' := by omega
  generalize hpe : (i' - 1) / 4 = p at ep Cl hp
  rw [ep, D.HB _ _ _ _ _ _ _ h]
  obtain ⟨q, rfl⟩ := h.bM (A := A) (by omega) (by decide)
  have hs := h.src (A := some ⟨q, 0, none⟩)
  refine ⟨by omega, aQ ⟨by omega, by omega, bg ?_⟩⟩
  refine mq h hs (mH (i := i') (by omega)) (by simp) (by simp) (by simp) ?_
  refine aQ ⟨by omega, by omega, bg ?_⟩
  refine mq h hs (mH (i := p) (by omega)) (by simp) (by simp) (by simp) ?_
  refine xR h ?_
  clear h hs; intro M h
  refine ov ?_
  cases hb : (od l' i').before (od l' p) with
  | true =>
   rw [if_pos ⟨by omega, hb⟩] at Cl
   refine ai ⟨by omega, ?_⟩
   rw [← hl'] at h
   refine w4 D h (i := i') (j := p) (by omega) (by omega) ?_
   clear h; intro M h
   rw [hl'] at h
   exact ⟨rfl, by omega, p, by omega, g, p, _, rfl, rfl, by omega, by rw [fJ]; exact hl', by omega, Cl, h⟩
  | false =>
   rw [if_neg (by rintro ⟨_, h2⟩; rw [hb] at h2; cases h2)] at Cl
   refine ae ?_
   subst Cl
   exact k _ h
 ·have : KP f' i' l' = l' := by
   have h0 : i' = 0 := by omega
   subst h0
   cases f' with
   | zero => rfl
   | succ g => rw [Fv]; rw [if_neg (by omega)]
  rw [this] at Cl
  subst Cl
  exact k _ h
theorem KS (D : S0 b o P) {t id : Int} (h : Hp R (P A l.length c s :: gp A c l :: L) M) (hl : l.length < 1000000)
  (k : ∀ v A' c' M', Hp R (P A' (l.length + 1) c' (IntKind.wrap .u64 (s + 1)) :: gp A' c' (sY l ⟨t, s, id⟩) :: L) M' → K (.int .u64 v) M') : aa Tryz.prog 244 #[.pointer (some ⟨b, o, none⟩), .int .u64 t, .int .i64 id] M K Kp := by
 refine uP ?_
 rw [D.HB _ _ _ _ _ _ _ h, D.ldI _ _ _ _ _ _ _ h]
 refine aQ (c6 ?_)
 refine aj h ?_
 clear h; intro kb M h
 replace h : Hp R (P A l.length c s :: gp A c l :: pt kb [.int .u64 t, .int .u64 s, .int .i64 id] 203 :: L) M := h.sub br
 refine h.aT (A := A) Jb [(⟨t, s, id⟩ : bH)] rfl rfl (by simp only [List.length_singleton]; omega) ?_
 clear h; intro A' c' M h
 refine aQ ?_
 have hlen : (l ++ [(⟨t, s, id⟩ : bH)]).length = l.length + 1 := by simp
 refine D.ZM _ _ _ _ _ _ _ _ _ _ _ h.swap ?_
 clear h; intro M h
 rw [D.ldI _ _ _ _ _ _ _ h]
 refine c6 ?_
 refine D.stI _ _ _ _ _ _ _ _ _ h ?_
 clear h; intro M h
 rw [D.HB _ _ _ _ _ _ _ h]
 refine aQ ?_
 have e : IntKind.wrap .i64 (((l ++ [(⟨t, s, id⟩ : bH)]).length : Int) - 1) = ((l.length : Nat) : Int) := by
  rw [cC (by omega) (by omega)]; omega
 rw [e]
 refine Jd D (f := l.length) h (by omega) (by omega) (Nat.le_refl _) ?_
 clear h; intro M h
 refine ⟨rfl, ?_⟩
 rw [D.ldI _ _ _ _ _ _ _ h]
 refine c6 ?_
 rw [hlen] at h
 exact k _ _ _ _ h
theorem Fx (D : S0 b o P) (h : Hp R (P A l.length c s :: gp A c l :: L) M) (hi : i < l.length) (hl : l.length ≤ 1000000)
  (k : ∀ M', Hp R (P A (l.length - 1) c s :: gp A c (eK l i) :: L) M' → K (.agg #[.int .u64 (od l i).t, .int .u64 (od l i).seq, .int .i64 (od l i).id]) M') : aa Tryz.prog 117 #[.pointer (some ⟨b, o, none⟩), .int .i64 (i : Int)] M K Kp := by
 refine rK ?_
 have hcap := h.jZ A
 obtain ⟨q, rfl⟩ := h.bM (A := A) (by omega) (by decide)
 refine aj h ?_
 clear h; intro k1 M h
 have hs := h.src (A := some ⟨q, 0, none⟩)
 replace h : Hp R (P (some ⟨q, 0, none⟩) l.length c s :: gp (some ⟨q, 0, none⟩) c l :: pt k1 [.int .u64 0, .int .u64 0, .int .i64 0] 203 :: L) M := h.sub br
 replace hs := h.src (A := some ⟨q, 0, none⟩)
 rw [D.HB _ _ _ _ _ _ _ h]
 refine aQ ⟨by omega, by omega, bg ?_⟩
 refine mq h hs (mH hi) (by simp) (by simp) (by simp) ?_
 clear hs
 generalize hx : od l i = x at k
 refine aj h ?_
 clear h; intro k2 M h
 refine au h ?_
 clear h; intro M h
 refine au h ?_
 clear h; intro M h
 refine au h ?_
 clear h; intro M h
 replace h : Hp R (P (some ⟨q, 0, none⟩) l.length c s :: gp (some ⟨q, 0, none⟩) c l :: pt k2 [.int .u64 x.t, .int .u64 x.seq, .int .i64 x.id] 203 :: pt k1 [.int .u64 0, .int .u64 0, .int .i64 0] 203 :: L) M := h.sub br
 rw [D.HB _ _ _ _ _ _ _ h]
 have e : IntKind.wrap .i64 ((l.length : Int) - 1) = ((l.length - 1 : Nat) : Int) := by
  rw [cC (by omega) (by omega)]; omega
 refine aQ ?_
 rw [e]
 refine w4 D h hi (j := l.length - 1) (by omega) ?_
 clear h; intro M h
 refine ⟨rfl, ?_⟩
 rw [D.HB _ _ _ _ _ _ _ h]
 refine aQ ⟨by omega, by omega, by omega, by omega, by omega, by omega, ?_⟩
 have e2 : lO (some ⟨q, 0, none⟩) 0 (Int.toNat (c : Int)) 3 = some ⟨q, 0, none⟩ := by
  unfold lO; rw [if_neg (by simp; omega)]; rfl
 rw [e2]
 simp only [Int.toNat_natCast, Nat.sub_zero]
 refine D.ZM _ _ _ _ _ _ _ _ _ _ _ h ?_
 clear h; intro M h
 have S1 : ((fh l i (l.length - 1)).take (l.length - 1)).length = l.length - 1 := by rw [List.length_take, fJ]; omega
 have fin : ∀ (M : Mem) (Q : List HP), Hp R (P (some ⟨q, 0, none⟩) (l.length - 1) c s :: gp (some ⟨q, 0, none⟩) c (eK l i) :: pt k2 [.int .u64 x.t, .int .u64 x.seq, .int .i64 x.id] 203 :: pt k1 [.int .u64 0, .int .u64 0, .int .i64 0] 203 :: L) M →
   aI (Mem.ld M ⟨k2, 0, none⟩) .u64 fun xI => aI (Mem.ld M ⟨k2, (0 + 1), none⟩) .u64 fun GS => aI (Mem.ld M ⟨k2, (0 + 2), none⟩) .i64 fun yL =>
   aM M ⟨k1, 0, none⟩ (.int .u64 xI) fun pN => aM pN ⟨k1, (0 + 1), none⟩ (.int .u64 GS) fun sS => aM sS ⟨k1, (0 + 2), none⟩ (.int .i64 yL) fun m5 =>
   aI (Mem.ld m5 ⟨k1, 0, none⟩) .u64 fun IK => aI (Mem.ld m5 ⟨k1, (0 + 1), none⟩) .u64 fun vI => aI (Mem.ld m5 ⟨k1, (0 + 2), none⟩) .i64 fun J4 =>
   K (.agg #[(.int .u64 IK), (.int .u64 vI), (.int .i64 J4)]) m5 := by
  intro M _ h
  refine aG h (aG h (aG h ?_))
  refine au h ?_
  clear h; intro M h
  refine au h ?_
  clear h; intro M h
  refine au h ?_
  clear h; intro M h
  refine aG h (aG h (aG h ?_))
  exact k _ (h.sub br)
 replace h : Hp R (P (some ⟨q, 0, none⟩) (l.length - 1) c s :: gp (some ⟨q, 0, none⟩) c ((fh l i (l.length - 1)).take (l.length - 1)) :: pt k2 [.int .u64 x.t, .int .u64 x.seq, .int .i64 x.id] 203 :: pt k1 [.int .u64 0, .int .u64 0, .int .i64 0] 203 :: L) M := (h.swap.Mt (l.length - 1)).swap
 unfold eK at fin
 refine aN.2 ⟨fun hlt => ?_, fun hge => ?_⟩
 ·rw [if_pos (by omega)] at fin
  have h' : Hp R (P (some ⟨q, 0, none⟩) ((fh l i (l.length - 1)).take (l.length - 1)).length c s :: gp (some ⟨q, 0, none⟩) c ((fh l i (l.length - 1)).take (l.length - 1)) :: pt k2 [.int .u64 x.t, .int .u64 x.seq, .int .i64 x.id] 203 :: pt k1 [.int .u64 0, .int .u64 0, .int .i64 0] 203 :: L) M := by rw [S1]; exact h
  clear h
  have h := h'
  clear h'
  refine KR D (f := l.length) h (by omega) (by omega) (by omega) ?_
  clear h; intro M h
  refine ⟨rfl, ?_⟩
  rw [show ((fh l i (l.length - 1)).take (l.length - 1)).length = (oD l.length i ((fh l i (l.length - 1)).take (l.length - 1))).length from jD.symm] at h
  refine Jd D (f := i) h (by rw [jD]; omega) (by rw [jD]; omega) (Nat.le_refl _) ?_
  clear h; intro M h
  refine ⟨rfl, ?_⟩
  rw [jD, S1] at h
  exact fin M [] h
 ·rw [if_neg (by omega)] at fin
  exact fin M [] h
theorem KT (D : S0 b o P) {now : Int} (h : Hp R (P A l.length c s :: gp A c l :: L) M) (hl : l.length ≤ 1000000)
  (k : ∀ A' c' M', Hp R (P A (dS l.length l now).1.length c s :: gp A c (dS l.length l now).1 :: gp A' c' (dS l.length l now).2 :: L) M' → K (.slice A' (dS l.length l now).2.length c') M') :
  aa Tryz.prog 157 #[.pointer (some ⟨b, o, none⟩), .int .u64 now] M K Kp := by
 refine uL ?_
 have h0 := h.bY sU 203
 refine ⟨fun d vs M => ∃ (A' : Option Addr) (c' : Nat) (out l' : List bH), vs = [.slice A' out.length c'] ∧ d = l'.length ∧ l'.length + out.length = l.length ∧ (dS l'.length l' now).1 = (dS l.length l now).1 ∧ out ++ (dS l'.length l' now).2 = (dS l.length l now).2 ∧
   Hp R (P A l'.length c s :: gp A c l' :: gp A' c' out :: L) M, ⟨_, none, 0, [], l, rfl, rfl, rfl, rfl, rfl, h0.sub br⟩, ?_⟩
 clear h h0
 rintro d _ A' n' c' M ⟨A2, c2, out, l', he, hd, S1, e1, e2, h⟩
 simp only [List.cons.injEq, Value.slice.injEq, and_true, true_and] at he
 obtain ⟨rfl, rfl, rfl⟩ := he
 rw [D.HB _ _ _ _ _ _ _ h]
 have stop : ¬ (0 < l'.length ∧ (od l' 0).t ≤ now) → K (.slice A' out.length c') M := by
  intro hn
  have e : dS l'.length l' now = (l', []) := by
   cases hl' : l'.length with
   | zero => rfl
   | succ m => rw [zV]; rw [if_neg hn]
  rw [e] at e1 e2
  dsimp only at e1 e2
  rw [List.append_nil] at e2
  subst e1; subst e2
  exact k _ _ _ h
 refine aQ ?_
 refine aN.2 ⟨fun hgt => ?_, fun hle => stop (by omega)⟩
 have hcap := h.jZ A
 obtain ⟨q, rfl⟩ := h.bM (A := A) (by omega) (by decide)
 have hs := h.src (A := some ⟨q, 0, none⟩)
 refine aQ ⟨by omega, by omega, bg ?_⟩
 refine be (Src.at hs h (i := 0) (j := 0) (mH (by omega)) rfl rfl) ?_
 clear hs
 refine aN.2 ⟨fun hle => ?_, fun hgt2 => stop (fun hn => hgt2 hn.2)⟩
 refine Fx D h (i := 0) (by omega) (by omega) ?_
 clear h stop; intro M h
 refine ⟨_, _, _, rfl, ?_⟩
 refine aj h ?_
 clear h; intro kb M h
 refine h.aT (A := A') Jb [od l' 0] rfl rfl (by simp only [List.length_singleton]; omega) ?_
 clear h; intro A3 c3 M h
 refine aQ ?_
 have lq : (eK l' 0).length = l'.length - 1 := Fw
 have hw : dS l'.length l' now = ((dS (eK l' 0).length (eK l' 0) now).1, od l' 0 :: (dS (eK l' 0).length (eK l' 0) now).2) := by
  obtain ⟨m, hm⟩ : ∃ m, l'.length = m + 1 := ⟨l'.length - 1, by omega⟩
  rw [lq, hm]
  show dS (m + 1) l' now = _
  rw [zV]
  rw [if_pos ⟨by omega, hle⟩]; rfl
 rw [hw] at e1 e2
 rw [← lq] at h
 exact ⟨_, by omega, A3, c3, out ++ [od l' 0], eK l' 0, rfl, rfl, by simp; omega, e1, by rw [List.append_assoc]; exact e2, h.sub br⟩
end
def oY (x : Wd) (k : Int) : Lk := x.aK.getD k.toNat ⟨-1, []⟩
def Wd.gC (x : Wd) (k : Int) (c : Lk) : Wd := { x with aK := x.aK.set k.toNat c }
def Wd.lock (x : Wd) (g : Int) (i : cI) : Wd := if ((oY x i.a).take g).2 then x.gC i.a ((oY x i.a).take g).1 else (x.gC i.a ((oY x i.a).take g).1).block g i
def Wd.unlock (x : Wd) (g : Int) (i : cI) : Out Wd :=
 if ((oY x i.a).sL g).2.2 ≠ 0 then .fk (-3) (x.gC i.a ((oY x i.a).sL g).1)
 else if ((oY x i.a).sL g).2.1 ≠ -1 then .on ((x.gC i.a ((oY x i.a).sL g).1).fA ((oY x i.a).sL g).2.1) else .on (x.gC i.a ((oY x i.a).sL g).1)
def Dz (x : Wd) (k : Int) : Prop := 0 ≤ k ∧ k < x.aK.length
instance (x : Wd) (k : Int) : Decidable (Dz x k) := by unfold Dz; infer_instance
def ni (x : Wd) (g : Int) (i : cI) : Prop := Dz x i.a ∧ (((oY x i.a).sL g).2.1 ≠ -1 → 0 ≤ ((oY x i.a).sL g).2.1 ∧ ((oY x i.a).sL g).2.1 < x.gs.length)
instance (x : Wd) (g : Int) (i : cI) : Decidable (ni x g i) := by unfold ni; infer_instance
def Wd.rand (x : Wd) (g : Int) (i : cI) : jQ → Out Wd
 | .num d => .on ((x.next g).bx g i.a d)
 | .dh l => .dh l x
def qu (x : Wd) (g : Int) (i : cI) : Int := if 1048576 < bD x g i.a then 1048576 else bD x g i.a
def Wd.sleep (x : Wd) (g : Int) (i : cI) : Wd :=
 if 0 < qu x g i then { x.bF g { aq x g with st := 3 } with hl := sY x.hl ⟨IntKind.wrap .u64 (x.clock + IntKind.wrap .u64 (qu x g i)), x.lG, g⟩, lG := IntKind.wrap .u64 (x.lG + 1) } else x
def Wd.tick (x : Wd) : Wd := if x.end_ ≠ 0 then { x with ready := [] } else
 let r := dS x.hl.length x.hl (IntKind.wrap .u64 (x.clock + 1))
 (r.2.map (·.id)).foldl Wd.fA { x with clock := IntKind.wrap .u64 (x.clock + 1), hl := r.1, ready := [] }
section
variable {R : Mem} {L L' L2 : List HP} {M : Mem} {K : Value → Mem → Prop} {Kp : List PanicEntry → Mem → Prop} {pa : PA} {p : bZ} {gg : List GA} {dr : Value} {b : Nat} {x : Wd} {g : Int} {i : cI}
theorem Ro (hg : bp x g) (hb : aZ i.b) : gm R pa p dr 211 x g i (x.call g i) L L := by
 intro gg b bs c M K Kp Q h eZ k
 refine rL ?_
 have Dr := hg
 obtain ⟨h0, h1, h2, h3⟩ := Dr
 unfold Wd.call at k
 refine aj h ?_
 clear h
 intro kb M h
 have hC := h
 have h' := gQ h (b := b) h0 h1 eZ
 clear h
 obtain ⟨a, gb, hl, gf, h⟩ := h'
 have hl' := hl
 obtain ⟨l1, l2, l3, l4⟩ := hl'
 repeat (first|(refine aj h ?_;clear h;intro kb M h)|(refine au h ?_;clear h;intro M h)|refine St.to h ?_|(apply Exists.intro;(repeat apply Exists.intro);refine And.intro rfl ?_)|refine av ?_|refine ai ?_|refine ae ?_)
 refine vL h gf fun q hq => ?_
 repeat (first|(refine aj h ?_;clear h;intro kb M h)|(refine au h ?_;clear h;intro M h)|refine St.to h ?_|(apply Exists.intro;(repeat apply Exists.intro);refine And.intro rfl ?_)|refine av ?_|refine ai ?_|refine ae ?_)
 refine ⟨hb.1, hb.2, vb h (eJ h2) hb rfl ?_⟩
 repeat (first|(refine aj h ?_;clear h;intro kb M h)|(refine au h ?_;clear h;intro M h)|refine St.to h ?_|(apply Exists.intro;(repeat apply Exists.intro);refine And.intro rfl ?_)|refine av ?_|refine ai ?_|refine ae ?_)
 refine Hq h h2 ?_ ?_
 ·intro ve
  rw [if_pos (by omega)] at k
  refine ⟨_, _, _, _, rfl, ai ?_⟩
  exact k _ _ (hC.sub br)
 ·intro hlt b' c' M' h'
  clear h hC
  have h := h'
  clear h'
  rw [if_neg (by omega)] at k
  refine ⟨_, _, _, _, rfl, ae ?_⟩
  repeat (first|(refine aj h ?_;clear h;intro kb M h)|(refine au h ?_;clear h;intro M h)|refine St.to h ?_|(apply Exists.intro;(repeat apply Exists.intro);refine And.intro rfl ?_)|refine av ?_|refine ai ?_|refine ae ?_)
  refine vL h gf fun q2 oX => ?_
  repeat (first|(refine aj h ?_;clear h;intro kb M h)|(refine au h ?_;clear h;intro M h)|refine St.to h ?_|(apply Exists.intro;(repeat apply Exists.intro);refine And.intro rfl ?_)|refine av ?_|refine ai ?_|refine ae ?_)
  have hlen : (aq x g).fs.length + 1 = ((aq x g).fs ++ [(⟨i.a, 0, [bD x g i.b, 0, 0, 0, 0, 0, 0, 0], i.c⟩ : gM)]).length := by simp
  have h5 := ng (A := some ⟨b', 0, none⟩) (fs := (aq x g).fs ++ [⟨i.a, 0, [bD x g i.b, 0, 0, 0, 0, 0, 0, 0], i.c⟩]) h gb hlen
  have hi := (List.getElem?_eq_some_iff.1 gf).1
  have h6 := h5.dW gk gb gf (by rw [List.length_zip]; omega)
  rw [zS] at h6
  have lD : fq (gg.set g.toNat (some ⟨b', 0, none⟩, c')) a (x.bF g ⟨(aq x g).st, (aq x g).fs ++ [⟨i.a, 0, [bD x g i.b, 0, 0, 0, 0, 0, 0, 0], i.c⟩], (aq x g).wt⟩) := ⟨by simpa [Wd.bF] using l1, by simpa [Wd.bF] using l2, l3, l4⟩
  have h7 := bh (a := a) (p := p) (pa := pa) (dr := dr) (gg := gg.set g.toNat (some ⟨b', 0, none⟩, c')) (x := x.bF g ⟨(aq x g).st, (aq x g).fs ++ [⟨i.a, 0, [bD x g i.b, 0, 0, 0, 0, 0, 0, 0], i.c⟩], (aq x g).wt⟩) lD h6 b
  exact k _ _ (h7.sub br)
theorem Je {a : WA} {k : Int} {c : Lk} (hl : fq gg a x) : fq gg a (x.gC k c) := by
 obtain ⟨l1, l2, l3, l4⟩ := hl
 exact ⟨l1, l2, l3, by simpa [Wd.gC] using l4⟩
theorem Rp (hg : bp x g) (hk : Dz x i.a) (hs : x.Sm) : gm R pa p dr 219 x g i (.on (x.lock g i)) L L := by
 intro gg b bs c M K Kp Q h eZ k
 refine rR ?_
 replace k : ∀ mj M', Hp R (ay (bz pa p mj dr) b (x.lock g i) :: Q :: L) M' → K (.tuple #[]) M' := k
 unfold Wd.lock at k
 obtain ⟨s1, s2, s3, s4, s5, s6, s7, s8⟩ := hs
 obtain ⟨k0, k1⟩ := hk
 refine aj h ?_
 clear h
 intro kb M h
 have h' := cv h (b := b)
 clear h
 obtain ⟨a, hl, h⟩ := h'
 have hl' := hl
 obtain ⟨l1, l2, l3, l4⟩ := hl'
 refine aF h (aG h ⟨k0, by omega, ?_⟩)
 obtain ⟨lb, hlb⟩ := aU (l := a.lb) (i := i.a.toNat) (by omega)
 refine vL h hlb fun q hq => ?_
 obtain ⟨y, hy⟩ := aU (l := x.aK) (i := i.a.toNat) (by omega)
 have e : oY x i.a = y := by simp [oY, hy]
 rw [e] at k
 replace h := h.dg gd hlb hy
 refine Hr h (Nat.le_trans (s6 y (List.mem_of_getElem? hy)) (by decide)) ?_
 clear h; intro M h
 replace h := h.dW gd lb hlb (by omega)
 replace h := bh (a := a) (p := p) (pa := pa) (dr := dr) (gg := gg) (x := x.gC i.a (y.take g).1) (Je hl) h b
 refine ov ?_
 cases ht : (y.take g).2 with
 | true =>
  rw [ht] at k
  simp only [if_true] at k
  refine ae ?_
  exact k _ _ (h.sub br)
 | false =>
  rw [ht] at k
  simp only [Bool.false_eq_true, if_false] at k
  refine ai ?_
  refine aG h (aG h (aG h (aG h ?_)))
  refine me (b := b) (i := i) h hg.1 (show g < (x.gC i.a (y.take g).1).gs.length from hg.2.1) ?_
  clear h; intro M h
  exact ⟨rfl, k _ _ (h.sub br)⟩
theorem KU (hk : ni x g i) (hs : x.Sm) : gm R pa p dr 220 x g i (x.unlock g i) L L := by
 intro gg b bs c M K Kp Q h eZ k
 refine oN ?_
 unfold Wd.unlock at k
 obtain ⟨s1, s2, s3, s4, s5, s6, s7, s8⟩ := hs
 obtain ⟨⟨k0, k1⟩, hw⟩ := hk
 refine aj h ?_
 clear h
 intro kb M h
 have h' := cv h (b := b)
 clear h
 obtain ⟨a, hl, h⟩ := h'
 have hl' := hl
 obtain ⟨l1, l2, l3, l4⟩ := hl'
 refine aF h (aG h ⟨k0, by omega, ?_⟩)
 obtain ⟨lb, hlb⟩ := aU (l := a.lb) (i := i.a.toNat) (by omega)
 refine vL h hlb fun q hq => ?_
 obtain ⟨y, hy⟩ := aU (l := x.aK) (i := i.a.toNat) (by omega)
 have e : oY x i.a = y := by simp [oY, hy]
 rw [e] at k hw
 replace h := h.dg gd hlb hy
 refine Hs h (Nat.le_trans (s6 y (List.mem_of_getElem? hy)) (by decide)) ?_
 clear h; intro M h
 replace h := h.dW gd lb hlb (by omega)
 replace h := bh (a := a) (p := p) (pa := pa) (dr := dr) (gg := gg) (x := x.gC i.a (y.sL g).1) (Je hl) h b
 refine ⟨_, _, rfl, ?_⟩
 refine dJ.2 ⟨fun hn => ?_, fun hn => ?_⟩
 ·rw [if_pos hn] at k
  exact k _ _ (h.sub br)
 rw [if_neg (by simpa using hn)] at k
 refine dJ.2 ⟨fun AO => ?_, fun AO => ?_⟩
 ·rw [if_pos AO] at k
  obtain ⟨w0, w1⟩ := hw AO
  refine iq (b := b) h w0 (show _ < ((x.gC i.a (y.sL g).1).gs.length : Int) from w1) (by show x.ready.length ≤ _; omega) ?_
  clear h; intro M h
  exact ⟨rfl, k _ _ (h.sub br)⟩
 ·rw [if_neg (by simpa using AO)] at k
  exact k _ _ (h.sub br)
theorem Rq : gm R pa p dr 222 x g i (.fk i.a x) L L := by
 intro gg b bs c M K Kp Q h eZ k
 refine rV ?_
 refine aj h ?_
 clear h
 intro kb M h
 refine aG h ?_
 exact k _ _ (h.sub br)
theorem Oy : gm R pa p dr 214 x g i (.on x) L L := by
 intro gg b bs c M K Kp Q h eZ k
 refine pX ?_
 refine aj h ?_
 clear h
 intro kb M h
 exact k _ _ (h.sub br)
theorem Rr {d : jQ} (hg : bp x g) (ha : aZ i.a) (Bk : 0 ≤ (aq x g).top.pc ∧ (aq x g).top.pc < 1000000000) (hd : ji R dr 4 i.b d L L2) : gm R pa p dr 192 x g i (x.rand g i d) L L2 := by
 intro gg b bs c M K Kp Q h eZ k
 refine rJ ?_
 refine aj h ?_
 clear h
 intro kb M h
 have Bl : M.ld ⟨b, 0 + 14, none⟩ = some dr := by
  obtain ⟨a, hl, h9⟩ := cv h (b := b)
  exact bO h9
 rw [Bl]
 refine Mq (aG h ?_)
 have h5 : Hp R (sep [ay (bz pa p gg dr) b x, pt kb [.int .i64 i.op, .int .i64 i.a, .int .i64 i.b, .int .i64 i.c] 27, Q] :: L) M := Hp.aS.2 (h.sub br)
 refine hd _ _ _ _ h5 ?_
 clear h h5 Bl
 cases d with
 | dh l =>
  dsimp only at k ⊢
  intro M h5
  have h : Hp R (ay (bz pa p gg dr) b x :: pt kb [.int .i64 i.op, .int .i64 i.a, .int .i64 i.b, .int .i64 i.c] 27 :: Q :: L2) M := Hp.aS.1 h5
  exact k _ _ (h.sub br)
 | num v =>
  dsimp only at k ⊢
  intro M h5
  have h : Hp R (ay (bz pa p gg dr) b x :: pt kb [.int .i64 i.op, .int .i64 i.a, .int .i64 i.b, .int .i64 i.c] 27 :: Q :: L2) M := Hp.aS.1 h5
  clear h5
  refine c6 ?_
  refine HL (b := b) h hg eZ rfl ?_
  rw [jC Bk.1 (by omega)]
  refine HK (b := b) h hg eZ rfl rfl ?_
  clear h; intro M h
  refine aG h ⟨ha.1, ha.2, ?_⟩
  refine mh (b := b) h (tW hg) eZ ha (by rw [Dw hg]) ?_
  clear h; intro M h
  exact k _ _ (h.sub br)
abbrev DA (pa : PA) (p : bZ) (dr : Value) (a : WA) (x : Wd) (nr : Nat) (A : Option Addr) (n c : Nat) (s : Int) : List Value :=
 [.slice pa.f p.funcs.length pa.fc, .slice pa.c p.dx.length pa.cc, .int .i64 p.aK, .slice pa.k p.cases.length pa.kc, .slice a.ag a.gb.length a.cg, .int .u64 x.clock,
  .slice a.ac a.cb.length a.cc, .slice a.al a.lb.length a.cl, .slice A n c, .int .u64 s, .slice a.ao x.out.length a.co, .int .i64 x.end_, .int .i64 x.code, .slice a.ar nr a.cr, dr]
theorem S2 {a : WA} {nr T : Nat} : S0 b (0 + 8) (fun A n c s => pt b (DA pa p dr a x nr A n c s) T) :=
 ⟨fun R L M A n c s h => bO h, fun R L M A n c s h => bO h, fun R L M A A' n c n' c' s G h k => au h k, fun R L M A n c s s' G h k => au h k⟩
theorem Oz (hg : bp x g) (ha : aZ i.a) (hs : x.hl.length < 1000000) : gm R pa p dr 218 x g i (.on (x.sleep g i)) L L := by
 intro gg b bs c M K Kp Q h eZ k
 refine pZ ?_
 replace k : ∀ mj M', Hp R (ay (bz pa p mj dr) b (x.sleep g i) :: Q :: L) M' → K (.tuple #[]) M' := k
 have Dr := hg
 obtain ⟨h0, h1, h2, h3⟩ := Dr
 unfold Wd.sleep at k
 refine aj h ?_
 clear h
 intro kb M h
 refine aG h ⟨ha.1, ha.2, ?_⟩
 refine Fh (b := b) h hg eZ ha rfl ?_
 have hC := h
 have h' := cv h (b := b)
 clear h
 obtain ⟨a, hl, h⟩ := h'
 have hl' := hl
 obtain ⟨l1, l2, l3, l4⟩ := hl'
 have e : (if (1048576 : Int) < bD x g i.a then 1048576 else bD x g i.a) = qu x g i := rfl
 rw [e]
 refine aN.2 ⟨fun hn => ?_, fun hn => ?_⟩
 ·rw [if_pos (by omega)] at k
  refine aG h ?_
  clear hC
  replace h : Hp R (pt b (DA pa p dr a x x.ready.length a.ah x.hl.length a.ch x.lG) 161 :: gp a.ah a.ch x.hl :: bn gk a.gb (x.gs.zip gg) :: zO a.ag a.cg a.gb :: zP a.ac a.cc a.cb :: bn bK a.cb x.aC :: zQ a.al a.cl a.lb :: bn gd a.lb x.aK :: zp a.ao a.co x.out :: lU a.ar a.cr x.ready :: Q :: L) M := h.sub br
  refine KS (S2 (a := a) (x := x)) h hs ?_
  clear h; intro v A' c' M h
  refine c6 ?_
  have h9 : Hp R (ay (bz pa p gg dr) b { x with hl := sY x.hl ⟨IntKind.wrap .u64 (x.clock + IntKind.wrap .u64 (qu x g i)), x.lG, g⟩, lG := IntKind.wrap .u64 (x.lG + 1) } :: Q :: L) M := by
   have := KQ (l := x.hl) (x := ⟨IntKind.wrap .u64 (x.clock + IntKind.wrap .u64 (qu x g i)), x.lG, g⟩)
   rw [← this] at h
   exact jO (a := { a with ah := A', ch := c' }) (x := { x with hl := sY x.hl ⟨IntKind.wrap .u64 (x.clock + IntKind.wrap .u64 (qu x g i)), x.lG, g⟩, lG := IntKind.wrap .u64 (x.lG + 1) }) ⟨l1, l2, l3, l4⟩ (h.sub br)
  clear h hl l1 l2 l3 l4
  have h := h9
  clear h9
  have h' := gQ (x := { x with hl := sY x.hl ⟨IntKind.wrap .u64 (x.clock + IntKind.wrap .u64 (qu x g i)), x.lG, g⟩, lG := IntKind.wrap .u64 (x.lG + 1) }) h (b := b) h0 h1 eZ
  clear h
  obtain ⟨a2, gb, hl, gf, h⟩ := h'
  have hl' := hl
  obtain ⟨l1, l2, l3, l4⟩ := hl'
  refine aF h ⟨h0, by dsimp only at l1; omega, ?_⟩
  refine vL h gf fun q hq => ?_
  refine bg ?_
  refine au h ?_
  clear h; intro M h
  replace h := cT h gb hl gf eZ
  have lD := di (y := { aq x g with st := 3 }) (g := g) hl
  replace h := bh (a := a2) (p := p) (pa := pa) (dr := dr) (gg := gg) (x := { x.bF g { aq x g with st := 3 } with hl := sY x.hl ⟨IntKind.wrap .u64 (x.clock + IntKind.wrap .u64 (qu x g i)), x.lG, g⟩, lG := IntKind.wrap .u64 (x.lG + 1) }) lD h b
  exact k _ _ (h.sub br)
 ·rw [if_neg (by omega)] at k
  exact k _ _ (hC.sub br)
theorem Rs {l : List Int} : ∀ {x : Wd}, (l.foldl Wd.fA x).gs.length = x.gs.length := by
 induction l with
 | nil => intro x; rfl
 | cons a l ih => intro x; rw [List.foldl_cons, ih]; simp [Wd.fA, Wd.bF]
theorem HN {l : List Int} : ∀ {x : Wd}, (l.foldl Wd.fA x).ready = x.ready ++ l := by
 induction l with
 | nil => intro x; simp
 | cons a l ih => intro x; rw [List.foldl_cons, ih]; simp [Wd.fA]
theorem HO (h : Hp R L M) [o : KL b L pa p x L'] (hs : x.hl.length ≤ 1000000) (hw : ∀ y ∈ (dS x.hl.length x.hl (IntKind.wrap .u64 (x.clock + 1))).2, 0 ≤ y.id ∧ y.id < x.gs.length)
  (k : ∀ R' A c M', R.le R' → RS bl R' A c x.tick.ready → Hp R' (ay (bu pa p) b x.tick :: L') M' → K (.slice A x.tick.ready.length c) M') :
  aa Tryz.prog 120 #[.pointer (some ⟨b, 0, none⟩)] M K Kp := by
 refine rF ?_
 have h' := fI h (b := b)
 clear h
 obtain ⟨a, gg, dr, n, hl, h⟩ := h'
 have hl' := hl
 obtain ⟨l1, l2, l3, l4⟩ := hl'
 unfold Wd.tick at k
 dsimp only at k
 refine aG h ?_
 refine dJ.2 ⟨fun he => ?_, fun he => ?_⟩
 ·rw [if_pos he] at k
  exact k R none 0 M (Mem.le_refl _) (RS.nil _ _) (mo (a := a) (gg := gg) (dr := dr) (n := n) (x := { x with ready := [] }) hl h)
 rw [if_neg (by simpa using he)] at k
 refine aG h ?_
 refine au h ?_
 clear h; intro M h
 refine au h ?_
 clear h; intro M h
 refine aG h ?_
 replace h : Hp R (pt b (DA pa p dr { a with ar := none, cr := 0 } { x with clock := IntKind.wrap .u64 (x.clock + 1) } 0 a.ah x.hl.length a.ch x.lG) 161 :: gp a.ah a.ch x.hl :: bn gk a.gb (x.gs.zip gg) :: zO a.ag a.cg a.gb :: zP a.ac a.cc a.cb :: bn bK a.cb x.aC :: zQ a.al a.cl a.lb :: bn gd a.lb x.aK :: zp a.ao a.co x.out :: L') M := h.sub (by repeat (first | exact .refl | refine .cons (by repeat (first | exact .here | apply dc.there)) ?_ | apply Sub.drop))
 refine KT (S2 (a := { a with ar := none, cr := 0 }) (x := { x with clock := IntKind.wrap .u64 (x.clock + 1) })) h hs ?_
 clear h; intro A' c' M h
 have hlen : (dS x.hl.length x.hl (IntKind.wrap .u64 (x.clock + 1))).2.length ≤ x.hl.length := by
  have : ∀ (f : Nat) (l : List bH) (now : Int), (dS f l now).2.length ≤ f := by
   intro f
   induction f with
   | zero => intro l now; exact Nat.le_refl _
   | succ f ih =>
    intro l now; unfold dS; split
    ·have := ih (eK l 0) now; simp; exact this
    ·exact Nat.zero_le _
  exact this _ _ _
 generalize dS x.hl.length x.hl (IntKind.wrap .u64 (x.clock + 1)) = r at h k hw hlen
 refine aQ ?_
 have h0 := h.bY bl 3
 have hW : Hp R (ay (bz pa p gg dr) b { x with clock := IntKind.wrap .u64 (x.clock + 1), hl := r.1, ready := [] } :: gp A' c' r.2 :: L') M :=
  jO (a := { a with ar := none, cr := 0 }) (x := { x with clock := IntKind.wrap .u64 (x.clock + 1), hl := r.1, ready := [] }) ⟨l1, l2, l3, l4⟩ (h0.sub (by repeat (first | exact .refl | refine .cons (by repeat (first | exact .here | apply dc.there)) ?_ | apply Sub.drop)))
 clear h h0
 generalize Dx : ({ x with clock := IntKind.wrap .u64 (x.clock + 1), hl := r.1, ready := [] } : Wd) = x1 at hW k
 have hgs : x1.gs.length = x.gs.length := by rw [← Dx]
 have hrd : x1.ready = [] := by rw [← Dx]
 refine ⟨fun d vs M => ∃ j : Nat, vs = [.int .i64 (j : Int)] ∧ d = r.2.length - j ∧ j ≤ r.2.length ∧ Hp R (ay (bz pa p gg dr) b (((r.2.take j).map (·.id)).foldl Wd.fA x1) :: gp A' c' r.2 :: L') M, ⟨_, 0, rfl, rfl, by omega, hW⟩, ?_⟩
 clear hW
 rintro d _ nn M ⟨j, xP, hd, hj, h⟩
 simp only [List.cons.injEq, Value.int.injEq, and_true, true_and] at xP
 subst xP
 refine aN.2 ⟨fun hlt => ?_, fun hge => ?_⟩
 ·obtain ⟨w, hww⟩ := aU (l := r.2) (i := j) (by omega)
  have hwm := hw w (List.mem_of_getElem? hww)
  obtain ⟨q, rfl⟩ := h.bM (A := A') (by omega) (by decide)
  have Xd := h.src (A := some ⟨q, 0, none⟩)
  refine ⟨by omega, hlt, bg ?_⟩
  refine mq h Xd hww (by simp) (by simp) (by simp) ?_
  clear Xd
  refine aj h ?_
  clear h; intro kw M h
  refine au h ?_
  clear h; intro M h
  refine au h ?_
  clear h; intro M h
  refine au h ?_
  clear h; intro M h
  refine aG h ?_
  refine iq (b := b) h hwm.1 (by rw [Rs, hgs]; exact hwm.2) (by rw [HN, hrd]; simp; omega) ?_
  clear h; intro M h
  refine ⟨rfl, r.2.length - (j + 1), by omega, j + 1, by rw [aW (by omega)], rfl, by omega, ?_⟩
  rw [eo hww, List.map_append, List.foldl_append]
  exact h.sub (by repeat (first | exact .refl | refine .cons (by repeat (first | exact .here | apply dc.there)) ?_ | apply Sub.drop))
 ·have F1 : j = r.2.length := by omega
  subst F1
  rw [List.take_length] at h
  generalize hz : (r.2.map (·.id)).foldl Wd.fA x1 = z at h k
  have h' := cv h (b := b)
  clear h
  obtain ⟨a2, lD, h⟩ := h'
  refine aF h ?_
  obtain ⟨R', hle, qY, h6⟩ := h.cW a2.ar
  exact k R' _ _ _ hle qY (mo (a := a2) (n := z.ready.length) (gg := gg) (dr := dr) lD (h6.sub (by repeat (first | exact .refl | refine .cons (by repeat (first | exact .here | apply dc.there)) ?_ | apply Sub.drop))))
end
def vr (x : Wd) (g : Int) (i : cI) : Out (Wd × Bool) → Prop
 | .on (y, false) => bp y g ∧ (aq y g).fs.length = (aq x g).fs.length ∧ zR y i.a
 | .on (_, true) => True
 | .fk _ _ => True
 | .dh _ _ => True
instance (x : Wd) (g : Int) (i : cI) (r : Out (Wd × Bool)) : Decidable (vr x g i r) := match r with
 | .on (y, false) => by unfold vr; infer_instance
 | .on (_, true) => isTrue trivial
 | .fk _ _ => isTrue trivial
 | .dh _ _ => isTrue trivial
theorem KV {p : bZ} {x : Wd} {g : Int} {i : cI} (h : bp x g ∧ aZ i.b ∧ oz p x i.a (bD x g i.b) ∧ vr x g i (x.put p i.a (bD x g i.b))) : Hv p x g i := by
 obtain ⟨h1, h2, h3, h4⟩ := h
 refine ⟨h1, h2, h3, ?_⟩
 generalize x.put p i.a (bD x g i.b) = r at h4
 match r, h4 with
 | .on (y, false), h4 => exact h4
 | .on (y, true), _ => trivial
 | .fk _ _, _ => trivial
 | .dh _ _, _ => trivial
instance (x : Wd) (g : Int) (i : cI) : Decidable (wV x g i) := by unfold wV; infer_instance
instance (p : bZ) (x : Wd) (i : cI) : Decidable (oa p x i) := by unfold oa; infer_instance
def zX (p : bZ) (x : Wd) (g : Int) (i : cI) (k : Int) : Prop :=
 let c := (aD p i).getD k.toNat ⟨0, 0, 0⟩
 let x1 := x.next g
 0 ≤ k ∧ k < (aD p i).length ∧ aZ c.bS ∧
  if c.way = 1 then oz p x1 c.ch (bD x1 g c.bS) ∧ (match x1.put p c.ch (bD x1 g c.bS) with
   | .on (y, _) => bp y g ∧ (aq y g).fs.length = (aq x g).fs.length
   | _ => True)
  else vk x1 c.ch ∧ bp (x1.get c.ch).1 g ∧ (aq (x1.get c.ch).1 g).fs.length = (aq x g).fs.length
instance (g : Int) (n : Nat) (r : Out (Wd × Bool)) : Decidable (match r with
   | .on (y, _) => bp y g ∧ (aq y g).fs.length = n
   | _ => True) := match r with
 | .on (y, _) => by dsimp only; infer_instance
 | .fk _ _ => isTrue trivial
 | .dh _ _ => isTrue trivial
instance (p : bZ) (x : Wd) (g : Int) (i : cI) (k : Int) : Decidable (zX p x g i k) := by unfold zX; infer_instance
def nj (p : bZ) (x : Wd) (g : Int) (i : cI) (d : jQ) : Bool :=
 decide (bp x g ∧ vq p i ∧ aZ i.c ∧ x.Sm ∧ (aq x g).top.pc < 1000000000 ∧ 0 ≤ (aq x g).top.pc ∧ (∀ c ∈ aD p i, c.Ok x.aC.length)) &&
 (match d with
  | .dh _ => true
  | .num v => (enabled (aD p i) x.aC).isEmpty || decide (0 ≤ v ∧ v < (enabled (aD p i) x.aC).length ∧ zX p x g i ((enabled (aD p i) x.aC).getD v.toNat 0)))
theorem Fy {p : bZ} {x : Wd} {g : Int} {i : cI} {d : jQ} (h : nj p x g i d = true) : Fu p x g i d := by
 unfold nj at h
 rw [Bool.and_eq_true] at h
 obtain ⟨h1, h2⟩ := h
 obtain ⟨a1, a2, a3, a4, a5, a6, a7⟩ := of_decide_eq_true h1
 refine ⟨a1, a2, a3, a4, a5, a6, a7, ?_⟩
 cases d with
 | dh l => split <;> trivial
 | num v =>
  dsimp only at h2
  cases he : enabled (aD p i) x.aC with
  | nil => trivial
  | cons q l =>
   rw [he] at h2
   rw [List.isEmpty_cons, Bool.false_or] at h2
   have h3 := of_decide_eq_true h2
   exact h3
def oe (p : bZ) (x : Wd) (g : Int) (i : cI) : Option (Out Wd) :=
 if i.op = 10 then (if bp x g ∧ aZ i.a ∧ aZ (aq x g).top.rE then some (.on (x.back g i)) else none)
 else if i.op = 11 then (if bp x g ∧ aZ i.b ∧ aZ i.c ∧ x.Sm then some (x.spawn g i) else none)
 else if i.op = 13 then (if (bp x g ∧ aZ i.b ∧ oz p x i.a (bD x g i.b) ∧ vr x g i (x.put p i.a (bD x g i.b))) ∧ x.Sm then some (x.send p g i) else none)
 else if i.op = 14 then (if wV x g i ∧ x.Sm then some (.on (x.recv g i)) else none)
 else if i.op = 15 then (if oa p x i ∧ x.Sm then some (x.shut p i) else none)
 else if i.op = 20 then (if bp x g ∧ aZ i.a ∧ x.Sm then some (x.emit g i) else none)
 else if i.op = 9 then (if bp x g ∧ aZ i.b then some (x.call g i) else none)
 else if i.op = 12 then some (.on x)
 else if i.op = 17 then (if bp x g ∧ aZ i.a ∧ x.hl.length < 1000000 then some (.on (x.sleep g i)) else none)
 else if i.op = 18 then (if bp x g ∧ Dz x i.a ∧ x.Sm then some (.on (x.lock g i)) else none)
 else if i.op = 19 then (if ni x g i ∧ x.Sm then some (x.unlock g i) else none)
 else if i.op = 22 then some (.fk i.a x)
 else none
def Fz (p : bZ) (x : Wd) (g : Int) : Option cI := match p.funcs[(aq x g).top.fn.toNat]? with
 | none => none
 | some code => code[(aq x g).top.pc.toNat]?
def xS (x : Wd) (g : Int) : Prop := 0 ≤ g ∧ g < x.gs.length ∧ x.end_ = 0 ∧ (aq x g).st = 1
instance (x : Wd) (g : Int) : Decidable (xS x g) := by unfold xS; infer_instance
def asks (p : bZ) (x : Wd) (g : Int) : Option (Int × Int) :=
 if xS x g then match Fz p x g with
  | none => none
  | some i => if i.op = 21 then some (4, i.b) else if i.op = 16 then (if enabled (aD p i) x.aC = [] then none else some (3, (enabled (aD p i) x.aC).length)) else none
 else none
def lH (p : bZ) (x0 : Wd) (g : Int) (d : jQ) : Option (Out Wd × Bool) :=
 let x := { x0 with ready := [] }
 if xS x g then
  if bp x g ∧ 0 ≤ (aq x g).top.fn ∧ 0 ≤ (aq x g).top.pc ∧ (aq x g).top.pc < 1000000000 then
   match p.funcs[(aq x g).top.fn.toNat]? with
   | none => none
   | some code => match code[(aq x g).top.pc.toNat]? with
    | none => some (.fk (-7) x, false)
    | some i =>
     if 0 ≤ i.op ∧ i.op ≤ 8 then (if i.cB then some (.on (x.bF g ((aq x g).cO ((aq x g).top.next.pure i))), false) else none)
     else if i.op = 16 then (if nj p x g i d = true then (if g < (x.choose p g i d).fin.gs.length then some (x.choose p g i d, false) else none) else none)
     else if i.op = 21 then (if aZ i.a then (if g < (x.rand g i d).fin.gs.length then some (x.rand g i d, false) else none) else none)
     else match oe p (x.next g) g i with
      | none => none
      | some r => if g < r.fin.gs.length then some (r, HH i.op r) else none
  else none
 else some (.on x, true)
section
variable {R : Mem} {L L' L2 : List HP} {M : Mem} {K : Value → Mem → Prop} {Kp : List PanicEntry → Mem → Prop} {pa : PA} {p : bZ} {gg : List GA} {dr : Value} {b : Nat} {x : Wd} {g : Int}
theorem cU {α : Type} {c : Prop} [Decidable c] {a b : α} (h : (if c then some a else none) = some b) : c ∧ b = a := by
 split at h
 ·rename_i hc; cases h; exact ⟨hc, rfl⟩
 ·cases h
theorem KW {i : cI} {r : Out Wd} (hp : kJ R pa p) (h : oe p x g i = some r) : ∃ fn, Bj V0 i.op = some (.func (.func fn) #[] #[]) ∧ (1 < fn ∧ fn < 255) ∧ i.op ≠ 16 ∧ i.op ≠ 21 ∧ 8 < i.op ∧ ∀ L, gm R pa p dr fn x g i r L L := by
 unfold oe at h
 by_cases e : i.op = 10
 ·rw [if_pos e] at h
  obtain ⟨hc, rfl⟩ := cU h
  exact ⟨212, by rw [e]; rfl, by decide, by omega, by omega, by omega, fun L => Ri hc.1 hc.2.1 hc.2.2⟩
 rw [if_neg e] at h
 clear e
 by_cases e : i.op = 11
 ·rw [if_pos e] at h
  obtain ⟨hc, rfl⟩ := cU h
  exact ⟨213, by rw [e]; rfl, by decide, by omega, by omega, by omega, fun L => Oq hc.1 hc.2.1 hc.2.2.1 hc.2.2.2⟩
 rw [if_neg e] at h
 clear e
 by_cases e : i.op = 13
 ·rw [if_pos e] at h
  obtain ⟨hc, rfl⟩ := cU h
  exact ⟨215, by rw [e]; rfl, by decide, by omega, by omega, by omega, fun L => Rd hp (KV hc.1) hc.2⟩
 rw [if_neg e] at h
 clear e
 by_cases e : i.op = 14
 ·rw [if_pos e] at h
  obtain ⟨hc, rfl⟩ := cU h
  exact ⟨216, by rw [e]; rfl, by decide, by omega, by omega, by omega, fun L => Re hc.1 hc.2⟩
 rw [if_neg e] at h
 clear e
 by_cases e : i.op = 15
 ·rw [if_pos e] at h
  obtain ⟨hc, rfl⟩ := cU h
  exact ⟨217, by rw [e]; rfl, by decide, by omega, by omega, by omega, fun L => Rh hp hc.1 hc.2⟩
 rw [if_neg e] at h
 clear e
 by_cases e : i.op = 20
 ·rw [if_pos e] at h
  obtain ⟨hc, rfl⟩ := cU h
  exact ⟨221, by rw [e]; rfl, by decide, by omega, by omega, by omega, fun L => Rf hc.1 hc.2.1 hc.2.2⟩
 rw [if_neg e] at h
 clear e
 by_cases e : i.op = 9
 ·rw [if_pos e] at h
  obtain ⟨hc, rfl⟩ := cU h
  exact ⟨211, by rw [e]; rfl, by decide, by omega, by omega, by omega, fun L => Ro hc.1 hc.2⟩
 rw [if_neg e] at h
 clear e
 by_cases e : i.op = 12
 ·rw [if_pos e] at h
  cases h
  exact ⟨214, by rw [e]; rfl, by decide, by omega, by omega, by omega, fun L => Oy⟩
 rw [if_neg e] at h
 clear e
 by_cases e : i.op = 17
 ·rw [if_pos e] at h
  obtain ⟨hc, rfl⟩ := cU h
  exact ⟨218, by rw [e]; rfl, by decide, by omega, by omega, by omega, fun L => Oz hc.1 hc.2.1 hc.2.2⟩
 rw [if_neg e] at h
 clear e
 by_cases e : i.op = 18
 ·rw [if_pos e] at h
  obtain ⟨hc, rfl⟩ := cU h
  exact ⟨219, by rw [e]; rfl, by decide, by omega, by omega, by omega, fun L => Rp hc.1 hc.2.1 hc.2.2⟩
 rw [if_neg e] at h
 clear e
 by_cases e : i.op = 19
 ·rw [if_pos e] at h
  obtain ⟨hc, rfl⟩ := cU h
  exact ⟨220, by rw [e]; rfl, by decide, by omega, by omega, by omega, fun L => KU hc.1 hc.2⟩
 rw [if_neg e] at h
 clear e
 by_cases e : i.op = 22
 ·rw [if_pos e] at h
  cases h
  exact ⟨222, by rw [e]; rfl, by decide, by omega, by omega, by omega, fun L => Rq⟩
 rw [if_neg e] at h
 clear e
 cases h
theorem HQ {l : List Int} (h : Hp R (ay (bu pa p) b x :: L) M) : Hp R (ay (bu pa p) b { x with ready := l } :: L) M := by
 obtain ⟨a, gg, dr, n, hl, h⟩ := fI h (b := b)
 exact mo (a := a) (gg := gg) (dr := dr) (n := n) (x := { x with ready := l }) hl h
theorem ji.cons {kind n : Int} {d : jQ} {Q : HP} (h : ji R dr kind n d L L2) : ji R dr kind n d (Q :: L) (Q :: L2) := by
 intro Q' M K Kp hM k
 refine h (sep [Q', Q]) M K Kp (Hp.aS.2 hM) ?_
 cases d with
 | num v => exact fun M' h' => k M' (Hp.aS.1 h')
 | dh l => exact fun M' h' => k M' (Hp.aS.1 h')
theorem Cm {d : jQ} {r : Out Wd} {rest : Bool} (h : Hp R L M) [o : KL b L pa p x L'] (hp : kJ R pa p) (Bl : ∃ f c d, dr = .func f c d) (he : lH p x g d = some (r, rest))
  (hd : match asks p { x with ready := [] } g with | none => L2 = L' | some (kd, n) => ji R dr kd n d L' L2) (k : qX R pa p b g L2 K Kp r rest) :
  aa Tryz.prog 121 #[.pointer (some ⟨b, 0, none⟩), .int .i64 g, dr] M K Kp := by
 unfold lH at he
 dsimp only at he
 split at he
 ·rename_i hg
  have Dr := hg
  obtain ⟨h0, h1, hr0, zT⟩ := Dr
  split at he
  ·rename_i Bk
   obtain ⟨OA, hf0, hp0, Og⟩ := Bk
   split at he
   ·cases he
   ·rename_i code nh
    have done : ∀ (r : Out Wd) (rest : Bool), qX R pa p b g L2 K Kp r rest → (∀ Q, Step R pa p dr { x with ready := [] } g code r rest (Q :: L') (Q :: L2)) → g < r.fin.gs.length → aa Tryz.prog 121 #[.pointer (some ⟨b, 0, none⟩), .int .i64 g, dr] M K Kp := by
     intro r rest k hs hl
     exact HI (x := x) h hp (show bp x g from OA) hr0 zT hf0 nh ⟨hp0, Og⟩ Bl hs hl k
    have j8 : ∀ i, code[(aq x g).top.pc.toNat]? = some i → asks p { x with ready := [] } g = if i.op = 21 then some (4, i.b) else if i.op = 16 then (if enabled (aD p i) x.aC = [] then none else some (3, ((enabled (aD p i) x.aC).length : Int))) else none := by
     intro i hi
     unfold asks
     rw [if_pos hg]
     unfold Fz
     rw [show p.funcs[(aq { x with ready := [] } g).top.fn.toNat]? = some code from nh]
     dsimp only
     rw [show code[(aq { x with ready := [] } g).top.pc.toNat]? = some i from hi]
    split at he
    ·rename_i hnone
     cases he
     have e : asks p { x with ready := [] } g = none := by
      unfold asks
      rw [if_pos hg]
      unfold Fz
      rw [show p.funcs[(aq { x with ready := [] } g).top.fn.toNat]? = some code from nh]
      dsimp only
      rw [hnone]
     rw [e] at hd
     dsimp only at hd
     subst hd
     refine done (.fk (-7) { x with ready := [] }) false k (fun Q => .out ?_) h1
     have := List.getElem?_eq_none_iff.1 hnone
     omega
    ·rename_i i hi
     have e := j8 i hi
     rw [e] at hd
     clear e j8
     split at he
     ·rename_i h8
      split at he
      ·rename_i hok
       cases he
       rw [if_neg (by omega), if_neg (by omega)] at hd
       dsimp only at hd
       subst hd
       exact done (.on _) false k (fun Q => .pure i hi h8.1 h8.2 hok) (by simpa [Out.fin, Wd.bF] using h1)
      ·cases he
     split at he
     ·rename_i IY
      split at he
      ·rename_i hok
       split at he
       ·rename_i hl
        cases he
        rw [if_neg (by omega), if_pos IY] at hd
        refine done _ false k (fun Q => .Du i hi IY (KN hp (Fy hok) ?_)) hl
        split at hd
        ·rename_i hq
         split at hq
         ·rename_i oX
          rw [if_pos (by exact oX), hd]
         ·cases hq
        ·rename_i kd n hq
         split at hq
         ·cases hq
         ·rename_i oX
          cases hq
          rw [if_neg (by exact oX)]
          exact hd.cons
       ·cases he
      ·cases he
     split at he
     ·rename_i Xb
      split at he
      ·rename_i hok
       split at he
       ·rename_i hl
        cases he
        rw [if_pos Xb] at hd
        exact done _ false k (fun Q => .V1 i hi Xb (Rr OA hok ⟨hp0, Og⟩ (ji.cons hd))) hl
       ·cases he
      ·cases he
     split at he
     ·cases he
     ·rename_i IY Xb _ r' lN
      split at he
      ·rename_i hl
       cases he
       rw [if_neg Xb, if_neg IY] at hd
       dsimp only at hd
       subst hd
       obtain ⟨fn, f1, f2, f3, f4, f5, f6⟩ := KW (R := R) (pa := pa) (dr := dr) hp lN
       exact done _ _ k (fun Q => .dflt i fn hi f5 f3 f4 f1 f2 (f6 _)) hl
      ·cases he
  ·cases he
 ·rename_i hr
  cases he
  have e : asks p { x with ready := [] } g = none := by
   unfold asks
   rw [if_neg hr]
  rw [e] at hd
  dsimp only at hd
  subst hd
  refine kq ?_
  refine aj h ?_
  clear h
  intro kb M h
  have hC := h
  have h' := fI h (b := b)
  clear h
  obtain ⟨a, gg, dr0, n0, hl, h⟩ := h'
  have hl' := hl
  obtain ⟨l1, l2, l3, l4⟩ := hl'
  have fin : aM M ⟨kb, 0, none⟩ (.bool false) fun m5 => aM m5 ⟨kb, (0 + 1), none⟩ (.slice none 0 0) fun vK =>
    c7 (Mem.ld vK ⟨kb, 0, none⟩) fun t36 => aB (Mem.ld vK ⟨kb, (0 + 1), none⟩) fun GX fW sV => K (.agg #[(.bool t36), (.slice GX fW sV)]) vK := by
   have h := hC
   clear hC
   refine au h ?_
   clear h; intro M h
   refine au h ?_
   clear h; intro M h
   refine BK h (aF h ?_)
   have k2 := k R none 0 M (Mem.le_refl _) (RS.nil _ _) (HQ (h.drop.pick o.pick))
   exact k2
  refine aN.2 ⟨fun hn => fin, fun h0 => ?_⟩
  refine aF h ?_
  refine aN.2 ⟨fun hn => fin, fun h1 => ?_⟩
  refine aG h ?_
  refine dJ.2 ⟨fun hn => fin, fun he0 => ?_⟩
  refine aF h ?_
  refine ⟨by omega, by omega, ?_⟩
  obtain ⟨gb, gf⟩ := aU (l := a.gb) (i := g.toNat) (by omega)
  refine vL h gf fun q hq => ?_
  obtain ⟨ga, V3⟩ := aU (l := gg) (i := g.toNat) (by omega)
  obtain ⟨z, hy⟩ := aU (l := x.gs) (i := g.toNat) (by omega)
  have ey : aq x g = z := by simp [aq, hy]
  refine bg ?_
  have Ou : M.ld ⟨gb, 0, none⟩ = some (.int .i64 z.st) := by
   have h9 := m9 (b := gb) (h.dg gk gf (nZ hy V3))
   exact bO h9
  rw [Ou]
  refine c6 ?_
  refine dJ.2 ⟨fun hn => fin, fun hn => ?_⟩
  exact absurd ⟨by omega, by show g < (x.gs.length : Int); omega, he0, by show (aq x g).st = 1; rw [ey]; exact hn⟩ hr
end
theorem qZ {b : Nat} : ∀ (n : Nat) (l : List Int), (∀ g ∈ l, 0 ≤ g ∧ g < (n : Int)) → (∀ g, l.count g ≤ b) → l.length ≤ b * n
 | 0, l, h, _ => by
  cases l with
  | nil => simp
  | cons a l => have := h a (by simp); omega
 | n + 1, l, h, hc => by
  have h1 : (l.filter (fun g => g != (n : Int))).length ≤ b * n := by
   refine qZ n _ (fun g hg => ?_) (fun g => ?_)
   ·obtain ⟨hm, hne⟩ := List.mem_filter.1 hg
    have := h g hm
    simp at hne
    omega
   ·exact Nat.le_trans (List.Sublist.count_le _ List.filter_sublist) (hc g)
  have h2 : l.length = l.count (n : Int) + (l.filter (fun g => g != (n : Int))).length := by
   have := List.length_eq_countP_add_countP (l := l) (fun g => g == (n : Int))
   rw [this, List.count, List.countP_eq_length_filter (p := fun a => decide ¬(a == (n : Int)) = true)]
   congr 2
   apply List.filter_congr
   intro a _
   cases h : (a == (n : Int)) <;> simp_all
  have := hc (n : Int)
  rw [h2, Nat.mul_succ]; omega
theorem mu {α : Type} (f : α → Nat) : ∀ (l : List α) (k : Nat) (c d : α), l[k]? = some d → ((l.set k c).map f).sum + f d = (l.map f).sum + f c
 | [], k, c, d, h => by simp at h
 | a :: l, 0, c, d, h => by simp at h; subst h; simp; omega
 | a :: l, k + 1, c, d, h => by
  have := mu f l k c d (by simpa using h)
  simp only [List.set_cons_succ, List.map_cons, List.sum_cons]; omega
theorem zY {α : Type} (f : α → Nat) : ∀ (l : List α), (l.map f).sum = 0 → ∀ a ∈ l, f a = 0
 | [], _, a, h => by cases h
 | b :: l, hs, a, h => by
  simp only [List.map_cons, List.sum_cons] at hs
  rcases List.mem_cons.1 h with rfl | h
  ·omega
  ·exact zY f l (by omega) a h
theorem zZ {α : Type} (f : α → Nat) : ∀ (l : List α) (a : α), a ∈ l → f a ≤ (l.map f).sum
 | b :: l, a, h => by
  simp only [List.map_cons, List.sum_cons]
  rcases List.mem_cons.1 h with rfl | h
  ·omega
  ·have := zZ f l a h; omega
theorem qv {α : Type} (f : α → Nat) : ∀ (l : List α), (∀ a ∈ l, f a = 0) → (l.map f).sum = 0
 | [], _ => rfl
 | b :: l, h => by
  simp only [List.map_cons, List.sum_cons]
  rw [h b (by simp), qv f l fun a ha => h a (by simp [ha])]
def cV (c : aV) : List Int := c.snd.map Wt.g ++ c.eH.map Wt.g
def b9 (cs : List aV) (g : Int) : Nat := (cs.map fun c => (cV c).count g).sum
def gU (ls : List Lk) (g : Int) : Nat := (ls.map fun l => l.waits.count g).sum
def DB (hl : List bH) (g : Int) : Nat := (hl.map bH.id).count g
def nk (x : Wd) (g : Int) : Prop := (∀ c ∈ x.aC, g ∉ cV c) ∧ (∀ l ∈ x.aK, g ∉ l.waits) ∧ ∀ y ∈ x.hl, y.id ≠ g
theorem vt {cs : List aV} {g : Int} : b9 cs g = 0 ↔ ∀ c ∈ cs, g ∉ cV c := by
 constructor
 ·intro h c hc
  exact List.count_eq_zero.1 (zY _ cs h c hc)
 ·intro h
  exact qv _ cs fun c hc => List.count_eq_zero.2 (h c hc)
theorem yP {ls : List Lk} {g : Int} : gU ls g = 0 ↔ ∀ l ∈ ls, g ∉ l.waits := by
 constructor
 ·intro h c hc
  exact List.count_eq_zero.1 (zY _ ls h c hc)
 ·intro h
  exact qv _ ls fun c hc => List.count_eq_zero.2 (h c hc)
def At (x : Wd) (g s : Int) : Prop := 0 ≤ g ∧ g < x.gs.length ∧ (aq x g).st = s
def jR (p : bZ) (f : List cI) (i : cI) : Prop := 0 ≤ i.op ∧ i.op < 23 ∧ i.cB ∧ (i.op = 7 → 0 ≤ i.a ∧ i.a < f.length) ∧ (i.op = 8 → 0 ≤ i.b ∧ i.b < f.length) ∧
 (i.op = 9 ∨ i.op = 11 → 0 ≤ i.a ∧ i.a < p.funcs.length ∧ aZ i.b ∧ aZ i.c) ∧ (i.op = 10 ∨ i.op = 17 ∨ i.op = 20 ∨ i.op = 21 → aZ i.a) ∧
 (i.op = 13 ∨ i.op = 14 ∨ i.op = 15 → 0 ≤ i.a ∧ i.a < p.dx.length) ∧ (i.op = 13 ∨ i.op = 14 → aZ i.b) ∧ (i.op = 14 ∨ i.op = 16 → aZ i.c) ∧
 (i.op = 16 → 0 ≤ i.a ∧ 1 ≤ i.b ∧ i.a + i.b ≤ p.cases.length) ∧ (i.op = 18 ∨ i.op = 19 → 0 ≤ i.a ∧ i.a < p.aK) ∧ (i.op = 21 → 1 ≤ i.b ∧ i.b < 1099511627776)
structure ej (p : bZ) : Prop where
 f1 : 0 < p.funcs.length
 ch : p.dx.length ≤ 8
 lk : 0 ≤ p.aK ∧ p.aK ≤ 8
 cs : p.cases.length ≤ 32
 cas : ∀ c ∈ p.cases, c.Ok p.dx.length ∧ aZ c.bS
 code : ∀ f ∈ p.funcs, 0 < f.length ∧ f.length ≤ 64 ∧ ∀ i ∈ f, jR p f i
def FA (p : bZ) (f : gM) : Prop := 0 ≤ f.fn ∧ f.fn < p.funcs.length ∧ 0 ≤ f.pc ∧ f.pc ≤ 64 ∧ aZ f.rE
structure oZ (p : bZ) (y : jr) : Prop where
 l1 : 0 < y.fs.length
 l2 : y.fs.length ≤ 16
 fr : ∀ f ∈ y.fs, FA p f
 wt : y.st = 2 → ∃ f ∈ p.funcs, jR p f y.wt
 st : 1 ≤ y.st ∧ y.st ≤ 4
structure WV (p : bZ) (x : Wd) : Prop where
 n1 : 0 < x.gs.length
 n2 : x.gs.length ≤ 100
 FB : ∀ y ∈ x.gs, oZ p y
 ch : x.aC.length = p.dx.length
 lk : (x.aK.length : Int) = p.aK
 buf : ∀ c ∈ x.aC, c.buf.length ≤ c.room ∧ c.room ≤ 16
 eH : ∀ c ∈ x.aC, ∀ v ∈ c.eH, At x v.g 2 ∧ ((aq x v.g).wt.op = 14 ∨ (aq x v.g).wt.op = 16 ∧ 0 ≤ v.cs ∧ v.cs < (aq x v.g).wt.b)
 snd : ∀ c ∈ x.aC, ∀ v ∈ c.snd, At x v.g 2 ∧ ((aq x v.g).wt.op = 13 ∨ (aq x v.g).wt.op = 16 ∧ 0 ≤ v.cs ∧ v.cs < (aq x v.g).wt.b)
 lw : ∀ l ∈ x.aK, ∀ g ∈ l.waits, At x g 2 ∧ (aq x g).wt.op = 18
 hl : ∀ y ∈ x.hl, At x y.id 3
 one : ∀ g, 0 ≤ g → (aq x g).wt.op ≠ 16 → b9 x.aC g + gU x.aK g ≤ 1
 Du : ∀ g, b9 x.aC g ≤ 32
 h1 : ∀ g, DB x.hl g ≤ 1
 out : x.out.length ≤ 1000
section
variable {p : bZ} {x : Wd} {g : Int}
theorem WV.Rt (h : WV p x) {c : aV} (hc : c ∈ x.aC) {q : Int} (hq : q ∈ cV c) : At x q 2 ∧ ((aq x q).wt.op = 13 ∨ (aq x q).wt.op = 14 ∨ (aq x q).wt.op = 16) := by
 unfold cV at hq
 rcases List.mem_append.1 hq with hq | hq
 ·obtain ⟨v, hv, rfl⟩ := List.mem_map.1 hq
  obtain ⟨a, b⟩ := h.snd c hc v hv
  exact ⟨a, by rcases b with b | b; exact .inl b; exact .inr (.inr b.1)⟩
 ·obtain ⟨v, hv, rfl⟩ := List.mem_map.1 hq
  obtain ⟨a, b⟩ := h.eH c hc v hv
  exact ⟨a, by rcases b with b | b; exact .inr (.inl b); exact .inr (.inr b.1)⟩
theorem WV.free (h : WV p x) (h2 : (aq x g).st ≠ 2) (h3 : (aq x g).st ≠ 3) : nk x g :=
 ⟨fun c hc hg => h2 (h.Rt hc hg).1.2.2, fun l hl hg => h2 (h.lw l hl g hg).1.2.2, fun y hy e => h3 (by have := (h.hl y hy).2.2; rwa [e] at this)⟩
theorem WV.Jf (h : WV p x) {c : aV} (hc : c ∈ x.aC) : (cV c).length ≤ 3200 := by
 have h1 := qZ (b := 32) x.gs.length (cV c) (fun q hq => ⟨(h.Rt hc hq).1.1, (h.Rt hc hq).1.2.1⟩) (fun q => Nat.le_trans (zZ (fun c => (cV c).count q) x.aC c hc) (h.Du q))
 have := h.n2
 omega
theorem WV.V5 (h : WV p x) {l : Lk} (hl : l ∈ x.aK) : l.waits.length ≤ 100 := by
 have h1 := qZ (b := 1) x.gs.length l.waits (fun q hq => ⟨(h.lw l hl q hq).1.1, (h.lw l hl q hq).1.2.1⟩) (fun q => by
  by_cases hq : q ∈ l.waits
  ·have := h.one q (h.lw l hl q hq).1.1 (by rw [(h.lw l hl q hq).2]; decide)
   have := zZ (fun l : Lk => l.waits.count q) x.aK l hl
   unfold gU at *
   omega
  ·rw [List.count_eq_zero.2 hq]; omega)
 have := h.n2
 omega
theorem WV.Jg (h : WV p x) : x.hl.length ≤ 100 := by
 have h1 := qZ (b := 1) x.gs.length (x.hl.map bH.id) (fun q hq => by
  obtain ⟨y, hy, rfl⟩ := List.mem_map.1 hq
  exact ⟨(h.hl y hy).1, (h.hl y hy).2.1⟩) h.h1
 rw [List.length_map] at h1
 have := h.n2
 omega
theorem WV.sm (h : WV p x) (hp : ej p) (hr : x.ready.length ≤ 1000000) : x.Sm := by
 refine ⟨fun c hc => ?_, by have := h.ch; have := hp.ch; omega, by have := h.n2; omega, hr, by have := h.out; omega, fun l hl => by have := h.V5 hl; omega, by have := h.lk; have := hp.lk; omega, by have := h.Jg; omega⟩
 have h1 := h.Jf hc
 unfold cV at h1
 rw [List.length_append, List.length_map, List.length_map] at h1
 have := h.buf c hc
 exact ⟨by omega, by omega, by omega⟩
end
section
variable {p : bZ} {x y : Wd} {g q k v : Int} {f : List cI} {i : cI}
theorem iu {z : jr} (hg : g < x.gs.length) (h0 : 0 ≤ g) : aq (x.bF g z) q = if q.toNat = g.toNat then z else aq x q := by
 unfold aq Wd.bF
 dsimp only
 by_cases e : q.toNat = g.toNat
 ·rw [if_pos e, e]
  simp [List.getD_eq_getElem?_getD, List.getElem?_set_self (show g.toNat < x.gs.length by omega)]
 ·rw [if_neg e, List.getD_eq_getElem?_getD, List.getD_eq_getElem?_getD, List.getElem?_set_ne (Ne.symm e)]
theorem w5 (h0 : 0 ≤ g) (hg : g < x.gs.length) : aq x g ∈ x.gs := by
 unfold aq
 rw [List.getD_eq_getElem?_getD, List.getElem?_eq_getElem (by omega), Option.getD_some]
 exact List.getElem_mem _
theorem WV.congr (h : WV p x) (hl : y.gs.length = x.gs.length) (hst : ∀ q, (aq y q).st = (aq x q).st ∧ (aq y q).wt = (aq x q).wt) (hg : ∀ z ∈ y.gs, oZ p z) (e1 : y.aC = x.aC) (e2 : y.aK = x.aK) (e3 : y.hl = x.hl) (e4 : y.out.length ≤ 1000) : WV p y := by
 have at_ : ∀ q s, At x q s → At y q s := fun q s ha => ⟨ha.1, by rw [hl]; exact ha.2.1, by rw [(hst q).1]; exact ha.2.2⟩
 refine ⟨by rw [hl]; exact h.n1, by rw [hl]; exact h.n2, hg, by rw [e1]; exact h.ch, by rw [e2]; exact h.lk, by rw [e1]; exact h.buf, ?_, ?_, ?_, ?_, ?_, by rw [e1]; exact h.Du, by rw [e3]; exact h.h1, e4⟩
 ·intro c hc v hv
  rw [e1] at hc
  rw [(hst v.g).2]
  exact ⟨at_ _ _ (h.eH c hc v hv).1, (h.eH c hc v hv).2⟩
 ·intro c hc v hv
  rw [e1] at hc
  rw [(hst v.g).2]
  exact ⟨at_ _ _ (h.snd c hc v hv).1, (h.snd c hc v hv).2⟩
 ·intro l hl q hq
  rw [e2] at hl
  rw [(hst q).2]
  exact ⟨at_ _ _ (h.lw l hl q hq).1, (h.lw l hl q hq).2⟩
 ·intro z hz
  rw [e3] at hz
  exact at_ _ _ (h.hl z hz)
 ·intro q h0 hq
  rw [(hst q).2] at hq
  rw [e1, e2]
  exact h.one q h0 hq
theorem z0 {l : List jr} {n : Nat} {z w : jr} (h : w ∈ l.set n z) : w ∈ l ∨ w = z := List.mem_or_eq_of_mem_set h
theorem WV.bF (h : WV p x) (h0 : 0 ≤ g) (hg : g < x.gs.length) {z : jr} (hz : oZ p z) (e1 : z.st = (aq x g).st) (e2 : z.wt = (aq x g).wt) : WV p (x.bF g z) := by
 refine h.congr (by simp [Wd.bF]) (fun q => ?_) (fun w hw => ?_) rfl rfl rfl h.out
 ·rw [iu hg h0]
  split
  ·rename_i e
   have : aq x q = aq x g := by unfold aq; rw [e]
   rw [this]; exact ⟨e1, e2⟩
  ·exact ⟨rfl, rfl⟩
 ·rcases z0 hw with hw | rfl
  ·exact h.FB w hw
  ·exact hz
theorem WV.ready (h : WV p x) {r : List Int} : WV p { x with ready := r } := h.congr rfl (fun _ => ⟨rfl, rfl⟩) h.FB rfl rfl rfl h.out
theorem WV.fin (h : WV p x) {e c : Int} : WV p { x with end_ := e, code := c } := h.congr rfl (fun _ => ⟨rfl, rfl⟩) h.FB rfl rfl rfl h.out
theorem WV.Jh (h : WV p x) (h0 : 0 ≤ g) (hg : g < x.gs.length) (hf : nk x g) {z : jr} (hz : oZ p z) : WV p (x.bF g z) := by
 have ne : ∀ q, 0 ≤ q → q ≠ g → aq (x.bF g z) q = aq x q := fun q q0 hq => by rw [iu hg h0, if_neg (by omega)]
 have at_ : ∀ q s, q ≠ g → At x q s → At (x.bF g z) q s := fun q s hq ha => ⟨ha.1, by simpa [Wd.bF] using ha.2.1, by rw [ne q ha.1 hq]; exact ha.2.2⟩
 refine ⟨by simpa [Wd.bF] using h.n1, by simpa [Wd.bF] using h.n2, fun w hw => ?_, h.ch, h.lk, h.buf, ?_, ?_, ?_, ?_, ?_, h.Du, h.h1, h.out⟩
 ·rcases z0 hw with hw | rfl
  ·exact h.FB w hw
  ·exact hz
 ·intro c hc v hv
  have hne : v.g ≠ g := fun e => hf.1 c hc (by rw [← e]; exact List.mem_append_right _ (List.mem_map.2 ⟨v, hv, rfl⟩))
  obtain ⟨a, b⟩ := h.eH c hc v hv
  rw [ne _ a.1 hne]
  exact ⟨at_ _ _ hne a, b⟩
 ·intro c hc v hv
  have hne : v.g ≠ g := fun e => hf.1 c hc (by rw [← e]; exact List.mem_append_left _ (List.mem_map.2 ⟨v, hv, rfl⟩))
  obtain ⟨a, b⟩ := h.snd c hc v hv
  rw [ne _ a.1 hne]
  exact ⟨at_ _ _ hne a, b⟩
 ·intro l hl q hq
  have hne : q ≠ g := fun e => hf.2.1 l hl (by rw [← e]; exact hq)
  obtain ⟨a, b⟩ := h.lw l hl q hq
  rw [ne _ a.1 hne]
  exact ⟨at_ _ _ hne a, b⟩
 ·intro w hw
  have hne : w.id ≠ g := hf.2.2 w hw
  exact at_ _ _ hne (h.hl w hw)
 ·intro q q0 hq
  by_cases e : q = g
  ·subst e
   have a := vt.2 hf.1
   have b := yP.2 hf.2.1
   show b9 x.aC q + gU x.aK q ≤ 1
   omega
  ·rw [ne q q0 e] at hq
   exact h.one q q0 hq
theorem oZ.OB {z : jr} (h : oZ p z) {s : Int} (h1 : s ≠ 2) (h2 : 1 ≤ s ∧ s ≤ 4) : oZ p { z with st := s } := ⟨h.l1, h.l2, h.fr, fun e => absurd e h1, h2⟩
theorem WV.fA (h : WV p x) (h0 : 0 ≤ g) (hg : g < x.gs.length) (hf : nk x g) : WV p (x.fA g) :=
 WV.ready (h.Jh h0 hg hf ((h.FB _ (w5 h0 hg)).OB (by decide) (by decide)))
theorem WV.block (h : WV p x) (ha : At x g 1) (hf : f ∈ p.funcs) (hi : jR p f i) : WV p (x.block g i) := by
 have hz := h.FB _ (w5 ha.1 ha.2.1)
 exact h.Jh ha.1 ha.2.1 (h.free (by rw [ha.2.2]; decide) (by rw [ha.2.2]; decide)) ⟨hz.l1, hz.l2, hz.fr, fun _ => ⟨f, hf, hi⟩, by show (1 : Int) ≤ 2 ∧ (2 : Int) ≤ 4; decide⟩
theorem jJ {α : Type} {l : List α} {n : Nat} {a b : α} (h : b ∈ l.set n a) : b ∈ l ∨ b = a := List.mem_or_eq_of_mem_set h
theorem WV.less (h : WV p x) {c c' : aV} (hc : x.aC[k.toNat]? = some c) (hb : c'.buf.length ≤ c'.room ∧ c'.room ≤ 16) (hr : ∀ v ∈ c'.eH, v ∈ c.eH) (hs : ∀ v ∈ c'.snd, v ∈ c.snd) (hn : ∀ q, (cV c').count q ≤ (cV c).count q) : WV p (x.cu k c') := by
 have hm : c ∈ x.aC := List.mem_of_getElem? hc
 have OC : ∀ q, b9 (x.aC.set k.toNat c') q ≤ b9 x.aC q := by
  intro q
  have := mu (fun c : aV => (cV c).count q) x.aC k.toNat c' c hc
  have := hn q
  unfold b9
  omega
 refine ⟨h.n1, h.n2, h.FB, by simpa [Wd.cu] using h.ch, h.lk, ?_, ?_, ?_, h.lw, h.hl, ?_, ?_, h.h1, h.out⟩
 ·intro d hd
  rcases jJ hd with hd | rfl
  ·exact h.buf d hd
  ·exact hb
 ·intro d hd v hv
  rcases jJ hd with hd | rfl
  ·exact h.eH d hd v hv
  ·exact h.eH c hm v (hr v hv)
 ·intro d hd v hv
  rcases jJ hd with hd | rfl
  ·exact h.snd d hd v hv
  ·exact h.snd c hm v (hs v hv)
 ·intro q q0 hq
  have := h.one q q0 hq
  have := OC q
  show b9 (x.aC.set k.toNat c') q + gU x.aK q ≤ 1
  omega
 ·intro q
  exact Nat.le_trans (OC q) (h.Du q)
theorem WV.more (h : WV p x) {c c' : aV} {w : Wt} (hc : x.aC[k.toNat]? = some c) (hb : c'.buf.length ≤ c'.room ∧ c'.room ≤ 16)
  (hr : ∀ v ∈ c'.eH, v ∈ c.eH ∨ v = w ∧ At x w.g 2 ∧ ((aq x w.g).wt.op = 14 ∨ (aq x w.g).wt.op = 16 ∧ 0 ≤ w.cs ∧ w.cs < (aq x w.g).wt.b))
  (hs : ∀ v ∈ c'.snd, v ∈ c.snd ∨ v = w ∧ At x w.g 2 ∧ ((aq x w.g).wt.op = 13 ∨ (aq x w.g).wt.op = 16 ∧ 0 ≤ w.cs ∧ w.cs < (aq x w.g).wt.b))
  (hn : ∀ q, (cV c').count q ≤ (cV c).count q + (if q = w.g then 1 else 0)) (hz : (aq x w.g).wt.op ≠ 16 → b9 x.aC w.g + gU x.aK w.g = 0) (h32 : b9 x.aC w.g < 32) : WV p (x.cu k c') := by
 have hm : c ∈ x.aC := List.mem_of_getElem? hc
 have OC : ∀ q, b9 (x.aC.set k.toNat c') q ≤ b9 x.aC q + (if q = w.g then 1 else 0) := by
  intro q
  have := mu (fun c : aV => (cV c).count q) x.aC k.toNat c' c hc
  have := hn q
  unfold b9
  omega
 refine ⟨h.n1, h.n2, h.FB, by simpa [Wd.cu] using h.ch, h.lk, ?_, ?_, ?_, h.lw, h.hl, ?_, ?_, h.h1, h.out⟩
 ·intro d hd
  rcases jJ hd with hd | rfl
  ·exact h.buf d hd
  ·exact hb
 ·intro d hd v hv
  rcases jJ hd with hd | rfl
  ·exact h.eH d hd v hv
  ·rcases hr v hv with hv | ⟨rfl, hv⟩
   ·exact h.eH c hm v hv
   ·exact hv
 ·intro d hd v hv
  rcases jJ hd with hd | rfl
  ·exact h.snd d hd v hv
  ·rcases hs v hv with hv | ⟨rfl, hv⟩
   ·exact h.snd c hm v hv
   ·exact hv
 ·intro q q0 hq
  have a := OC q
  show b9 (x.aC.set k.toNat c') q + gU x.aK q ≤ 1
  by_cases e : q = w.g
  ·subst e
   have := hz hq
   rw [if_pos rfl] at a
   omega
  ·have := h.one q q0 hq
   rw [if_neg e] at a
   omega
 ·intro q
  have a := OC q
  show b9 (x.aC.set k.toNat c') q ≤ 32
  by_cases e : q = w.g
  ·subst e
   rw [if_pos rfl] at a
   omega
  ·have := h.Du q
   rw [if_neg e] at a
   omega
end
section
variable {p : bZ} {x y : Wd} {g q k n : Int} {f : List cI} {i : cI} {v : Wt}
theorem OD {α : Type} (f g : α → Nat) : ∀ (l : List α), (∀ a ∈ l, f a ≤ g a) → (l.map f).sum ≤ (l.map g).sum
 | [], _ => Nat.le_refl _
 | b :: l, h => by
  simp only [List.map_cons, List.sum_cons]
  have := h b (by simp)
  have := OD f g l fun a ha => h a (by simp [ha])
  omega
theorem z8 (c : aV) : cV (c.drop g) = (cV c).filter (fun q => q != g) := by
 unfold cV aV.drop wo
 simp only [List.filter_append, List.filter_map]
 rfl
theorem FC (cs : List aV) (q : Int) : b9 (cs.map fun c => c.drop g) q ≤ b9 cs q := by
 unfold b9
 rw [List.map_map]
 refine OD _ _ cs fun c _ => ?_
 show (cV (c.drop g)).count q ≤ _
 rw [z8]
 exact List.Sublist.count_le _ List.filter_sublist
theorem WV.leave (h : WV p x) : WV p (x.leave g) := by
 refine ⟨h.n1, h.n2, h.FB, by simpa [Wd.leave] using h.ch, h.lk, ?_, ?_, ?_, h.lw, h.hl, ?_, ?_, h.h1, h.out⟩
 ·intro d hd
  obtain ⟨c, hc, rfl⟩ := List.mem_map.1 hd
  exact h.buf c hc
 ·intro d hd v hv
  obtain ⟨c, hc, rfl⟩ := List.mem_map.1 hd
  exact h.eH c hc v (List.mem_filter.1 hv).1
 ·intro d hd v hv
  obtain ⟨c, hc, rfl⟩ := List.mem_map.1 hd
  exact h.snd c hc v (List.mem_filter.1 hv).1
 ·intro q q0 hq
  have := FC (g := g) x.aC q
  have := h.one q q0 hq
  show b9 (x.aC.map fun c => c.drop g) q + gU x.aK q ≤ 1
  omega
 ·intro q
  exact Nat.le_trans (FC x.aC q) (h.Du q)
theorem HR (h : WV p x) (h3 : (aq x g).wt.op ≠ 18) (h2 : (aq x g).st = 2) : nk (x.leave g) g := by
 refine ⟨fun d hd hg => ?_, fun l hl hg => h3 (h.lw l hl g hg).2, fun w hw e => ?_⟩
 ·obtain ⟨c, hc, rfl⟩ := List.mem_map.1 hd
  rw [z8] at hg
  have := (List.mem_filter.1 hg).2
  simp at this
 ·have := (h.hl w hw).2.2
  rw [e, h2] at this
  cases this
theorem FA.set {r : gM} (h : FA p r) (q v : Int) : FA p (r.set q v) := h
theorem oZ.cO {z : jr} (h : oZ p z) {r : gM} (hr : FA p r) : oZ p (z.cO r) :=
 ⟨by simpa [jr.cO] using h.l1, by simpa [jr.cO] using h.l2, fun f hf => by
  rcases List.mem_or_eq_of_mem_set hf with hf | rfl
  ·exact h.fr f hf
  ·exact hr, h.wt, h.st⟩
theorem oZ.top {z : jr} (h : oZ p z) : FA p z.top := by
 unfold jr.top
 have := h.l1
 rw [List.getD_eq_getElem?_getD, List.getElem?_eq_getElem (by omega), Option.getD_some]
 exact h.fr _ (List.getElem_mem _)
theorem WV.j9 (h : WV p x) (h0 : 0 ≤ g) (hg : g < x.gs.length) : oZ p (aq x g) := h.FB _ (w5 h0 hg)
theorem WV.bx (h : WV p x) (h0 : 0 ≤ g) (hg : g < x.gs.length) : WV p (x.bx g q n) :=
 h.bF h0 hg ((h.j9 h0 hg).cO ((h.j9 h0 hg).top.set q n)) rfl rfl
theorem Cn (h0 : 0 ≤ g) (hg : g < x.gs.length) {m : Int} : (aq (x.bx g q n) m).st = (aq x m).st ∧ (aq (x.bx g q n) m).wt = (aq x m).wt ∧ (aq (x.bx g q n) m).fs.length = (aq x m).fs.length := by
 unfold Wd.bx
 rw [iu hg h0]
 split
 ·rename_i e
  have : aq x m = aq x g := by unfold aq; rw [e]
  rw [this]
  exact ⟨rfl, rfl, by simp [jr.cO]⟩
 ·exact ⟨rfl, rfl, rfl⟩
theorem nm (h0 : 0 ≤ g) (hg : g < x.gs.length) {m : Int} (h1 : 0 ≤ m) (hne : m ≠ g) : aq (x.bx g q n) m = aq x m := by
 unfold Wd.bx
 rw [iu hg h0, if_neg (by omega)]
theorem WV.bp (h : WV p x) (h0 : 0 ≤ g) (hg : g < x.gs.length) : bp x g := ⟨h0, hg, (h.j9 h0 hg).l1, by have := (h.j9 h0 hg).l2; omega⟩
theorem KX (hp : ej p) {a : Int} (h0 : 0 ≤ a) (h1 : a < p.cases.length) : pR p a ∈ p.cases := by
 unfold pR
 rw [List.getD_eq_getElem?_getD, List.getElem?_eq_getElem (by omega), Option.getD_some]
 exact List.getElem_mem _
theorem WV.pS (h : WV p x) (hp : ej p) (ha : At x v.g 2) (hw : (aq x v.g).wt.op = 14 ∨ (aq x v.g).wt.op = 16 ∧ 0 ≤ v.cs ∧ v.cs < (aq x v.g).wt.b) : pS p x v := by
 refine ⟨h.bp ha.1 ha.2.1, ?_⟩
 obtain ⟨f, hf, hi⟩ := (h.j9 ha.1 ha.2.1).wt ha.2.2
 obtain ⟨_, _, _, _, _, _, _, _, i13, i14, i16, _⟩ := hi
 split
 ·rename_i e
  rcases hw with hw | ⟨_, c0, c1⟩
  ·rw [e] at hw; cases hw
  ·obtain ⟨a0, a1, a2⟩ := i16 e
   refine ⟨by omega, by omega, by have := hp.cs; omega, (hp.cas _ (KX hp (by omega) (by omega))).2, i14 (.inr e)⟩
 ·rename_i e
  rcases hw with hw | ⟨hw, _⟩
  ·exact ⟨i13 (.inr hw), i14 (.inl hw)⟩
  ·exact absurd hw e
theorem WV.xJ (h : WV p x) (ha : At x v.g 2) : xJ x v := by
 refine ⟨h.bp ha.1 ha.2.1, fun e => ?_⟩
 obtain ⟨f, hf, hi⟩ := (h.j9 ha.1 ha.2.1).wt ha.2.2
 obtain ⟨_, _, _, _, _, _, _, _, _, i14, _⟩ := hi
 exact i14 (.inr e)
theorem nk.bS (h : nk x g) : nk (x.bx q k n) g := h
theorem bT {m : Int} : (x.bx g q m).gs.length = x.gs.length := by simp [Wd.bx, Wd.bF]
theorem nq : (x.fA g).gs.length = x.gs.length := by simp [Wd.fA, Wd.bF]
theorem rh (h0 : 0 ≤ g) (hg : g < x.gs.length) {m : Int} (h1 : 0 ≤ m) (hne : m ≠ g) : aq (x.fA g) m = aq x m := by
 show aq (x.bF g _) m = _
 rw [iu hg h0, if_neg (by omega)]
theorem vu (h0 : 0 ≤ g) (hg : g < x.gs.length) : (aq (x.fA g) g).st = 1 := by
 show (aq (x.bF g _) g).st = _
 rw [iu hg h0, if_pos rfl]
theorem WV.gA (h : WV p x) (ha : At x g 2) (S3 : (aq x g).wt.op ≠ 18) : WV p (x.gA g k) ∧ nk (x.gA g k) g := by
 obtain ⟨h0, hg, h2⟩ := ha
 unfold Wd.gA
 have r2 := h.bx (q := (aq x g).wt.c) (n := k) h0 hg
 have e2 := Cn (x := x) (q := (aq x g).wt.c) (n := k) h0 hg (m := g)
 exact ⟨r2.leave, HR r2 (by rw [e2.2.1]; exact S3) (by rw [e2.1]; exact h2)⟩
theorem gD : (x.gA g k).gs.length = x.gs.length := by simp [Wd.gA, Wd.leave, bT]
theorem Co (h0 : 0 ≤ g) (hg : g < x.gs.length) {m : Int} (h1 : 0 ≤ m) (hne : m ≠ g) : aq (x.gA g k) m = aq x m := by
 show aq (x.bx g _ _) m = _
 exact nm h0 hg h1 hne
theorem WV.received (h : WV p x) (ha : At x v.g 2) (S3 : (aq x v.g).wt.op ≠ 18) (hf : (aq x v.g).wt.op ≠ 16 → nk x v.g) {s : Int} : WV p (x.received p v s) := by
 have ha' := ha
 obtain ⟨h0, hg, h2⟩ := ha'
 unfold Wd.received
 dsimp only
 split
 ·have r1 := h.bx (q := (pR p ((aq x v.g).wt.a + v.cs)).bS) (n := v.v) h0 hg
  have e1 := Cn (x := x) (q := (pR p ((aq x v.g).wt.a + v.cs)).bS) (n := v.v) h0 hg (m := v.g)
  have l1 := bT (x := x) (g := v.g) (q := (pR p ((aq x v.g).wt.a + v.cs)).bS) (m := v.v)
  obtain ⟨r2, f2⟩ := r1.gA (k := v.cs) ⟨h0, by rw [l1]; exact hg, by rw [e1.1]; exact h2⟩ (by rw [e1.2.1]; exact S3)
  exact r2.fA h0 (by rw [gD, l1]; exact hg) f2
 ·rename_i e
  have r1 := h.bx (q := (aq x v.g).wt.b) (n := v.v) h0 hg
  have r2 := r1.bx (g := v.g) (q := (aq x v.g).wt.c) (n := s) h0 (by rw [bT]; exact hg)
  exact r2.fA h0 (by rw [bT, bT]; exact hg) (hf e)
theorem vv {s : Int} : (x.received p v s).gs.length = x.gs.length := by
 unfold Wd.received
 dsimp only
 split
 ·rw [nq, gD, bT]
 ·rw [nq, bT, bT]
theorem xT (h0 : 0 ≤ v.g) (hg : v.g < x.gs.length) {s m : Int} (h1 : 0 ≤ m) (hne : m ≠ v.g) : aq (x.received p v s) m = aq x m := by
 unfold Wd.received
 dsimp only
 split
 ·rw [rh h0 (by rw [gD, bT]; exact hg) h1 hne, Co h0 (by rw [bT]; exact hg) h1 hne, nm h0 hg h1 hne]
 ·rw [rh h0 (by rw [bT, bT]; exact hg) h1 hne, nm h0 (by rw [bT]; exact hg) h1 hne, nm h0 hg h1 hne]
theorem mw (h0 : 0 ≤ v.g) (hg : v.g < x.gs.length) {s : Int} : (aq (x.received p v s) v.g).st = 1 ∧ (x.received p v s).ready = x.ready ++ [v.g] := by
 unfold Wd.received
 dsimp only
 split
 ·exact ⟨vu h0 (by rw [gD, bT]; exact hg), rfl⟩
 ·exact ⟨vu h0 (by rw [bT, bT]; exact hg), rfl⟩
theorem WV.sent (h : WV p x) (ha : At x v.g 2) (S3 : (aq x v.g).wt.op ≠ 18) (hf : (aq x v.g).wt.op ≠ 16 → nk x v.g) : WV p (x.sent v) := by
 have ha' := ha
 obtain ⟨h0, hg, h2⟩ := ha'
 unfold Wd.sent
 split
 ·obtain ⟨r2, f2⟩ := h.gA (k := v.cs) ha S3
  exact r2.fA h0 (by rw [gD]; exact hg) f2
 ·rename_i e
  exact h.fA h0 hg (hf e)
theorem OE : (x.sent v).gs.length = x.gs.length := by
 unfold Wd.sent
 split
 ·rw [nq, gD]
 ·rw [nq]
theorem Ru (h0 : 0 ≤ v.g) (hg : v.g < x.gs.length) {m : Int} (h1 : 0 ≤ m) (hne : m ≠ v.g) : aq (x.sent v) m = aq x m := by
 unfold Wd.sent
 split
 ·rw [rh h0 (by rw [gD]; exact hg) h1 hne, Co h0 hg h1 hne]
 ·rw [rh h0 hg h1 hne]
theorem Ji (h0 : 0 ≤ v.g) (hg : v.g < x.gs.length) : (aq (x.sent v) v.g).st = 1 ∧ (x.sent v).ready = x.ready ++ [v.g] := by
 unfold Wd.sent
 split
 ·exact ⟨vu h0 (by rw [gD]; exact hg), rfl⟩
 ·exact ⟨vu h0 hg, rfl⟩
theorem FD (hk : vj x k) : ∃ c, x.aC[k.toNat]? = some c ∧ dO x.aC k = c := by
 obtain ⟨k0, k1⟩ := hk
 obtain ⟨c, hc⟩ := aU (l := x.aC) (i := k.toNat) (by omega)
 exact ⟨c, hc, by simp [dO, hc]⟩
theorem DC (h : WV p x) {c c' : aV} (hc : x.aC[k.toNat]? = some c) (h0 : 0 ≤ g) (h2 : (aq x g).st = 2) (ve : (aq x g).wt.op ≠ 16) (hn : (cV c').count g + 1 ≤ (cV c).count g) : nk (x.cu k c') g := by
 have a := h.one g h0 ve
 have b := mu (fun c : aV => (cV c).count g) x.aC k.toNat c' c hc
 have e1 : b9 (x.aC.set k.toNat c') g = 0 := by unfold b9 at *; omega
 have e2 : gU x.aK g = 0 := by
  have := zZ (fun c : aV => (cV c).count g) x.aC c (List.mem_of_getElem? hc)
  unfold b9 at a
  omega
 refine ⟨vt.1 e1, yP.1 e2, fun w hw e => ?_⟩
 have := (h.hl w hw).2.2
 rw [e, h2] at this
 cases this
end
def Wk (x y : Wd) : Prop := y.gs.length = x.gs.length ∧ ∃ l : List Int, y.ready = x.ready ++ l ∧ l.Nodup ∧ (∀ q ∈ l, 0 ≤ q ∧ q < x.gs.length ∧ (aq x q).st ≠ 1 ∧ (aq y q).st = 1) ∧ ∀ q, 0 ≤ q → q ∉ l → aq y q = aq x q
section
variable {p : bZ} {x y z : Wd} {g q k n : Int} {f : List cI} {i : cI} {v : Wt}
theorem Wk.refl (x : Wd) : Wk x x := ⟨rfl, [], by simp, List.nodup_nil, (fun q h => by cases h), fun q _ _ => rfl⟩
theorem Wk.same (h1 : y.gs = x.gs) (h2 : y.ready = x.ready) : Wk x y := ⟨by rw [h1], [], by simp [h2], List.nodup_nil, fun q h => by (cases h), fun q _ _ => by unfold aq; rw [h1]⟩
theorem Wk.trans (h : Wk x y) (h' : Wk y z) : Wk x z := by
 obtain ⟨a1, l, a2, a3, a4, a5⟩ := h
 obtain ⟨b1, m, b2, b3, b4, b5⟩ := h'
 refine ⟨by rw [b1, a1], l ++ m, by rw [b2, a2, List.append_assoc], ?_, ?_, ?_⟩
 ·refine List.nodup_append.2 ⟨a3, b3, fun q hq r hr e => ?_⟩
  subst e
  exact (b4 q hr).2.2.1 (a4 q hq).2.2.2
 ·intro q hq
  rcases List.mem_append.1 hq with hq | hq
  ·obtain ⟨c1, c2, c3, c4⟩ := a4 q hq
   refine ⟨c1, c2, c3, ?_⟩
   by_cases hm : q ∈ m
   ·exact (b4 q hm).2.2.2
   ·rw [b5 q c1 hm]; exact c4
  ·obtain ⟨c1, c2, c3, c4⟩ := b4 q hq
   by_cases hl : q ∈ l
   ·exact absurd (a4 q hl).2.2.2 c3
   ·exact ⟨c1, by rw [← a1]; exact c2, by rw [← a5 q c1 hl]; exact c3, c4⟩
 ·intro q q0 hq
  rw [List.mem_append] at hq
  rw [b5 q q0 (fun h => hq (.inr h)), a5 q q0 (fun h => hq (.inl h))]
theorem Wk.keep (h : Wk x y) (h0 : 0 ≤ q) (h1 : (aq x q).st = 1) : aq y q = aq x q := by
 obtain ⟨_, l, _, _, a4, a5⟩ := h
 exact a5 q h0 fun hq => (a4 q hq).2.2.1 h1
theorem Wk.received (h0 : 0 ≤ v.g) (hg : v.g < x.gs.length) (h1 : (aq x v.g).st ≠ 1) {s : Int} : Wk x (x.received p v s) :=
 ⟨vv, [v.g], (mw h0 hg).2, by simp, fun q hq => by
  simp only [List.mem_singleton] at hq; subst hq
  exact ⟨h0, hg, h1, (mw h0 hg).1⟩, fun q q0 hq => xT h0 hg q0 (by simpa using hq)⟩
theorem Wk.sent (h0 : 0 ≤ v.g) (hg : v.g < x.gs.length) (h1 : (aq x v.g).st ≠ 1) : Wk x (x.sent v) :=
 ⟨OE, [v.g], (Ji h0 hg).2, by simp, fun q hq => by
  simp only [List.mem_singleton] at hq; subst hq
  exact ⟨h0, hg, h1, (Ji h0 hg).1⟩, fun q q0 hq => Ru h0 hg q0 (by simpa using hq)⟩
theorem Wk.fA (h0 : 0 ≤ g) (hg : g < x.gs.length) (h1 : (aq x g).st ≠ 1) : Wk x (x.fA g) :=
 ⟨nq, [g], rfl, by simp, fun q hq => by
  simp only [List.mem_singleton] at hq; subst hq
  exact ⟨h0, hg, h1, vu h0 hg⟩, fun q q0 hq => rh h0 hg q0 (by simpa using hq)⟩
theorem Wk.cu {c : aV} : Wk x (x.cu k c) := Wk.same rfl rfl
theorem qw (h : WV p x) {c : aV} (hc : c ∈ x.aC) : c.buf.length ≤ 16 ∧ c.snd.length ≤ 3200 ∧ c.eH.length ≤ 3200 := by
 have h1 := h.Jf hc
 unfold cV at h1
 rw [List.length_append, List.length_map, List.length_map] at h1
 have := h.buf c hc
 omega
def V6 (p : bZ) (x : Wd) : Out (Wd × Bool) → Prop
 | .fk _ y => WV p y ∧ y.gs = x.gs ∧ y.ready = x.ready
 | .on (y, true) => WV p y ∧ Wk x y
 | .on (y, false) => y = x
 | .dh _ _ => False
theorem eV {α : Type} : ∀ (l : List α) (n : Nat) (a : α), l[n]? = some a → l.set n a = l
 | [], _, _, _ => rfl
 | b :: l, 0, a, h => by simp at h; subst h; rfl
 | b :: l, n + 1, a, h => by rw [List.set_cons_succ, eV l n a (by simpa using h)]
theorem oh {c : aV} (hc : x.aC[k.toNat]? = some c) : x.cu k c = x := by
 unfold Wd.cu
 rw [eV _ _ _ hc]
theorem WV.put (h : WV p x) (hp : ej p) (hk : vj x k) : oz p x k n ∧ V6 p x (x.put p k n) := by
 obtain ⟨c, hc, e⟩ := FD hk
 have hm := List.mem_of_getElem? hc
 obtain ⟨s1, s2, s3⟩ := qw h hm
 have hb := h.buf c hm
 have hr := h.eH c hm
 unfold oz Wd.put
 rw [e]
 refine ⟨⟨hk, ?_, ?_⟩, ?_⟩
 ·unfold aV.send
  split
  ·intro h; cases h
  ·split
   ·rename_i w r hw
    intro _
    obtain ⟨a, b⟩ := hr w (by rw [hw]; simp)
    exact h.pS (v := ⟨w.g, w.cs, n⟩) hp a b
   ·split <;> (intro h; cases h)
 ·have : c.Small 3200 := ⟨by omega, s2, s3⟩
  exact (this.send n).mono (by omega)
 ·unfold aV.send
  split
  ·dsimp only
   rw [if_pos rfl, oh hc]
   exact ⟨h, rfl, rfl⟩
  ·split
   ·rename_i w r hw
    dsimp only
    obtain ⟨a, b⟩ := hr w (by rw [hw]; simp)
    have hl : WV p (x.cu k { c with eH := r }) := h.less hc hb (fun v hv => by rw [hw]; exact List.mem_cons_of_mem _ hv) (fun v hv => hv) (fun q => by
     unfold cV; rw [hw]; simp only [List.map_cons, List.count_append, List.count_cons]; omega)
    have hne : (aq x w.g).wt.op ≠ 18 := by rcases b with b | b; rw [b]; decide; rw [b.1]; decide
    rw [if_neg (by decide), if_pos rfl]
    refine ⟨hl.received (v := ⟨w.g, w.cs, n⟩) a hne (fun ve => ?_), Wk.cu.trans (Wk.received (x := x.cu k { c with eH := r }) (v := ⟨w.g, w.cs, n⟩) a.1 a.2.1 (by show (aq x w.g).st ≠ 1; rw [a.2.2]; decide))⟩
    exact DC h hc a.1 a.2.2 ve (by unfold cV; rw [hw]; simp only [List.map_cons, List.count_append, List.count_cons, beq_self_eq_true, if_true]; omega)
   ·rename_i hw
    split
    ·dsimp only
     rw [if_neg (by decide), if_neg (by decide)]
     exact ⟨h.less hc ⟨by simp; omega, hb.2⟩ (fun v hv => hv) (fun v hv => hv) (fun q => Nat.le_refl _), Wk.cu⟩
    ·dsimp only
     rw [if_neg (by decide), if_neg (by decide), oh hc]
     exact rfl
theorem WV.get (h : WV p x) (hp : ej p) (hk : vj x k) : vk x k ∧ WV p (x.get k).1 ∧ Wk x (x.get k).1 ∧ ((x.get k).2.2.2 = false → (x.get k).1 = x) := by
 obtain ⟨c, hc, e⟩ := FD hk
 have hm := List.mem_of_getElem? hc
 obtain ⟨s1, s2, s3⟩ := qw h hm
 have hb := h.buf c hm
 have hs := h.snd c hm
 unfold vk Wd.get
 rw [e]
 obtain ⟨room, buf, snd, eH, closed⟩ := c
 cases snd with
 | cons w r =>
  obtain ⟨a, b⟩ := hs w (by simp)
  obtain ⟨v, l, hv⟩ : ∃ v l, buf ++ [w.v] = v :: l := by
   cases buf with
   | nil => exact ⟨_, _, rfl⟩
   | cons q t => exact ⟨q, t ++ [w.v], rfl⟩
  have hlen : l.length = buf.length := by
   have := congrArg List.length hv
   simp at this; omega
  have er : aV.recv ⟨room, buf, w :: r, eH, closed⟩ = (⟨room, l, r, eH, closed⟩, v, true, w, true, 0) := by
   unfold aV.recv aV.all
   dsimp only
   rw [hv]
   rfl
  rw [er]
  dsimp only
  have hl : WV p (x.cu k ⟨room, l, r, eH, closed⟩) := h.less hc (by rw [hlen]; exact hb) (fun v hv => hv) (fun v hv => List.mem_cons_of_mem _ hv) (fun q => by
   unfold cV; simp only [List.map_cons, List.cons_append, List.count_cons]; omega)
  have hne : (aq x w.g).wt.op ≠ 18 := by rcases b with b | b; rw [b]; decide; rw [b.1]; decide
  rw [if_pos rfl, if_pos rfl]
  refine ⟨⟨hk, fun _ => h.xJ a, ⟨by dsimp only at *; omega, by simp only [List.length_cons] at s2; dsimp only; omega, by dsimp only at *; omega⟩⟩, hl.sent a hne (fun ve => ?_), Wk.cu.trans (Wk.sent (x := x.cu k ⟨room, l, r, eH, closed⟩) a.1 a.2.1 (by show (aq x w.g).st ≠ 1; rw [a.2.2]; decide)), (fun h => by cases h)⟩
  exact DC h hc a.1 a.2.2 ve (by unfold cV; simp only [List.map_cons, List.cons_append, List.count_cons, beq_self_eq_true, if_true]; omega)
 | nil =>
  cases buf with
  | cons q t =>
   have er : aV.recv ⟨room, q :: t, [], eH, closed⟩ = (⟨room, t, [], eH, closed⟩, q, true, .zero, false, 0) := rfl
   rw [er]
   dsimp only
   simp only [Bool.false_eq_true, if_false, if_true]
   simp only [List.length_cons] at s1 hb
   exact ⟨⟨hk, (fun h => by cases h), ⟨by dsimp only; omega, by dsimp only at *; omega, by dsimp only at *; omega⟩⟩, h.less hc ⟨by dsimp only; omega, hb.2⟩ (fun v hv => hv) (fun v hv => hv) (fun q => Nat.le_refl _), Wk.cu, (fun h => by cases h)⟩
  | nil =>
   have er : aV.recv ⟨room, [], [], eH, closed⟩ = (⟨room, [], [], eH, closed⟩, 0, false, .zero, false, if closed then 0 else 5) := rfl
   rw [er]
   dsimp only
   simp only [Bool.false_eq_true, if_false, oh hc]
   exact ⟨⟨hk, (fun h => by cases h), ⟨by dsimp only at *; omega, by dsimp only at *; omega, by dsimp only at *; omega⟩⟩, h, Wk.refl _, fun _ => trivial⟩
end
section
variable {p : bZ} {x y z : Wd} {g q k n : Int} {f : List cI} {i : cI} {v : Wt}
def V7 (x : Wd) (v : Wt) : Prop := 0 ≤ v.g ∧ v.g < x.gs.length ∧ ((aq x v.g).st = 2 → (aq x v.g).wt.op = 14 ∧ nk x v.g ∨ (aq x v.g).wt.op = 16 ∧ 0 ≤ v.cs ∧ v.cs < (aq x v.g).wt.b)
def z9 (x y : Wd) : Prop := (∀ d ∈ y.aC, ∃ c ∈ x.aC, ∀ q ∈ cV d, q ∈ cV c) ∧ y.aK = x.aK ∧ y.hl = x.hl
theorem z9.refl (x : Wd) : z9 x x := ⟨fun d hd => ⟨d, hd, fun _ h => h⟩, rfl, rfl⟩
theorem z9.free (h : z9 x y) (hf : nk x g) : nk y g := by
 obtain ⟨a, b, c⟩ := h
 refine ⟨fun d hd hg => ?_, by rw [b]; exact hf.2.1, by rw [c]; exact hf.2.2⟩
 obtain ⟨e, he, hs⟩ := a d hd
 exact hf.1 e he (hs g hg)
theorem z9.leave : z9 x (x.leave g) := ⟨fun d hd => by
 obtain ⟨c, hc, rfl⟩ := List.mem_map.1 hd
 exact ⟨c, hc, fun q hq => by rw [z8] at hq; exact (List.mem_filter.1 hq).1⟩, rfl, rfl⟩
theorem z9.received {s : Int} : z9 x (x.received p v s) := by
 unfold Wd.received
 dsimp only
 split
 ·exact z9.leave (x := (x.bx v.g (pR p ((aq x v.g).wt.a + v.cs)).bS v.v).bx v.g _ _)
 ·exact z9.refl x
theorem w6 (hp : ej p) : ∀ (l : List Wt) (x : Wd), WV p x → x.ready.length + l.length ≤ 1000000 → (∀ v ∈ l, V7 x v) → wU p x l ∧ WV p (l.foldl (dP p) x) ∧ Wk x (l.foldl (dP p) x)
 | [], x, h, _, _ => ⟨trivial, h, Wk.refl x⟩
 | v :: l, x, h, hr, ha => by
  obtain ⟨h0, hg, h2⟩ := ha v (by simp)
  have lq : x.ready.length ≤ 1000000 := by simp only [List.length_cons] at hr; omega
  by_cases e : (aq x v.g).st = 2
  ·have S4 : At x v.g 2 := ⟨h0, hg, e⟩
   have hne : (aq x v.g).wt.op ≠ 18 := by rcases h2 e with b | b; rw [b.1]; decide; rw [b.1]; decide
   have hw := h.received (v := { v with v := 0 }) S4 hne (fun ve => by
    rcases h2 e with b | b
    ·exact b.2
    ·exact absurd b.1 ve) (s := 0)
   have hk : Wk x (x.received p { v with v := 0 } 0) := Wk.received (v := { v with v := 0 }) h0 hg (by rw [e]; decide)
   have es : dP p x v = x.received p { v with v := 0 } 0 := by unfold dP; rw [if_pos e]
   have hrd : (x.received p { v with v := 0 } 0).ready = x.ready ++ [v.g] := (mw (v := { v with v := 0 }) h0 hg).2
   obtain ⟨r1, r2, r3⟩ := w6 hp l (x.received p { v with v := 0 } 0) hw (by rw [hrd]; simp only [List.length_append, List.length_cons, List.length_nil] at *; omega) (fun w Tm => by
    obtain ⟨b0, b1, b2⟩ := ha w (List.mem_cons_of_mem _ Tm)
    refine ⟨b0, by rw [vv]; exact b1, fun Xe => ?_⟩
    by_cases ew : w.g = v.g
    ·rw [ew, (mw (v := { v with v := 0 }) h0 hg).1] at Xe; cases Xe
    ·rw [xT (v := { v with v := 0 }) h0 hg b0 ew] at Xe ⊢
     rcases b2 Xe with c | c
     ·exact .inl ⟨c.1, z9.received.free c.2⟩
     ·exact .inr c)
   refine ⟨⟨h.sm hp lq, h0, hg, fun _ => h.pS (v := { v with v := 0 }) hp S4 ?_, by rw [es]; exact r1⟩, by rw [List.foldl_cons, es]; exact r2, by rw [List.foldl_cons, es]; exact hk.trans r3⟩
   rcases h2 e with b | b
   ·exact .inl b.1
   ·exact .inr b
  ·have es : dP p x v = x := by unfold dP; rw [if_neg e]
   obtain ⟨r1, r2, r3⟩ := w6 hp l x h (by simp only [List.length_cons] at hr; omega) (fun w Tm => ha w (List.mem_cons_of_mem _ Tm))
   exact ⟨⟨h.sm hp lq, h0, hg, fun Xe => absurd Xe e, by rw [es]; exact r1⟩, by rw [List.foldl_cons, es]; exact r2, by rw [List.foldl_cons, es]; exact r3⟩
end
theorem Jj {l : List bH} {i : Nat} (h : i < l.length) : od l i = l[i] := by
 unfold od; rw [List.getD_eq_getElem?_getD, List.getElem?_eq_getElem h]; rfl
theorem tX {l : List bH} {i j : Nat} (hi : i < l.length) (hj : j < l.length) : (fh l i j).Perm l := by
 unfold fh
 rw [Jj hi, Jj hj]
 exact List.set_set_perm hi hj
theorem Aa : ∀ (f i : Nat) (l : List bH), i < l.length → (KP f i l).Perm l
 | 0, _, l, _ => List.Perm.refl l
 | f + 1, i, l, h => by
  unfold KP
  split
  ·exact (Aa f _ _ (by rw [fJ]; omega)).trans (tX h (by omega))
  ·exact List.Perm.refl l
theorem Ad : ∀ (f i : Nat) (l : List bH), i < l.length → (oD f i l).Perm l
 | 0, _, l, _ => List.Perm.refl l
 | f + 1, i, l, h => by
  unfold oD
  split
  ·exact List.Perm.refl l
  ·have := (Ck h).1
   exact (Ad f _ _ (by rw [fJ]; exact this)).trans (tX h this)
theorem Ae {l : List bH} {x : bH} : (sY l x).Perm (l ++ [x]) := Aa _ _ _ (by simp)
theorem DD {l : List bH} {i : Nat} (h : i < l.length) : l.Perm (od l i :: eK l i) := by
 have hn : l.length - 1 < l.length := by omega
 have h1 : (fh l i (l.length - 1)).Perm l := tX h hn
 have Oc : (fh l i (l.length - 1))[l.length - 1]? = some (od l i) := by
  unfold fh
  rw [List.getElem?_set_self (by rw [List.length_set]; exact hn)]
 have h2 : fh l i (l.length - 1) = (fh l i (l.length - 1)).take (l.length - 1) ++ [od l i] := by
  have e : fh l i (l.length - 1) = (fh l i (l.length - 1)).take (l.length - 1 + 1) := by
   rw [List.take_of_length_le (by rw [fJ]; omega)]
  conv => lhs; rw [e]
  rw [List.take_add_one, Oc]
  rfl
 have h3 : l.Perm (od l i :: (fh l i (l.length - 1)).take (l.length - 1)) := by
  refine h1.symm.trans ?_
  rw [h2]
  have : (List.take (l.length - 1) (fh l i (l.length - 1)) ++ [od l i]).take (l.length - 1) = (fh l i (l.length - 1)).take (l.length - 1) := by rw [← h2]
  rw [this]
  exact List.perm_append_comm
 unfold eK
 split
 ·rename_i hlt
  have hlen : ((fh l i (l.length - 1)).take (l.length - 1)).length = l.length - 1 := by rw [List.length_take, fJ]; omega
  refine h3.trans (List.Perm.cons _ ?_)
  exact ((Aa _ _ _ (by rw [jD, hlen]; exact hlt)).trans (Ad _ _ _ (by rw [hlen]; exact hlt))).symm
 ·exact h3
theorem Af : ∀ (f : Nat) (l : List bH) (now : Int), l.Perm ((dS f l now).2 ++ (dS f l now).1)
 | 0, l, _ => by simp [dS]
 | f + 1, l, now => by
  unfold dS
  split
  ·rename_i h
   refine (DD h.1).trans ?_
   dsimp only
   exact List.Perm.cons _ (Af f _ now)
  ·simp
def iI (g : Int) (x y : Wd) : Prop := y.ready.Nodup ∧ g ∉ y.ready ∧ (∀ q ∈ y.ready, 0 ≤ q ∧ q < y.gs.length ∧ ¬ At x q 1 ∧ (aq y q).st = 1) ∧
 (∀ q, 0 ≤ q → q ≠ g → q ∉ y.ready → aq y q = aq x q) ∧ x.gs.length ≤ y.gs.length ∧ ∀ q : Int, x.gs.length ≤ q → q < y.gs.length → q ∈ y.ready
section
variable {p : bZ} {x y z : Wd} {g q k n : Int} {f : List cI} {i : cI} {v : Wt}
theorem iI.refl (hr : x.ready = []) : iI g x x := by
 refine ⟨by rw [hr]; exact List.nodup_nil, by rw [hr]; simp, fun q hq => ?_, fun _ _ _ _ => rfl, Nat.le_refl _, fun q a b => by omega⟩
 rw [hr] at hq; cases hq
theorem iI.of (h : Wk x y) (hr : x.ready = []) (hg : At x g 1) : iI g x y := by
 obtain ⟨a1, l, a2, a3, a4, a5⟩ := h
 rw [hr, List.nil_append] at a2
 rw [iI, a2]
 refine ⟨a3, fun hm => (a4 g hm).2.2.1 hg.2.2, fun q hq => ?_, fun q q0 _ hn => a5 q q0 hn, by omega, fun q b c => by omega⟩
 obtain ⟨b1, b2, b3, b4⟩ := a4 q hq
 exact ⟨b1, by omega, fun ha => b3 ha.2.2, b4⟩
theorem iI.KY (h : iI g x y) (h1 : z.ready = y.ready) (h2 : z.gs.length = y.gs.length) (h3 : ∀ q, 0 ≤ q → q ≠ g → aq z q = aq y q) : iI g x z := by
 obtain ⟨a1, a2, a3, a4, a5, a6⟩ := h
 rw [iI, h1, h2]
 refine ⟨a1, a2, fun q hq => ?_, fun q q0 hne hn => by rw [h3 q q0 hne]; exact a4 q q0 hne hn, a5, a6⟩
 have hne : q ≠ g := fun e => a2 (e ▸ hq)
 obtain ⟨b1, b2, b3, b4⟩ := a3 q hq
 exact ⟨b1, b2, b3, by rw [h3 q b1 hne]; exact b4⟩
theorem iI.pre (h : iI g y z) (h2 : y.gs.length = x.gs.length) (h3 : ∀ q, 0 ≤ q → q ≠ g → aq y q = aq x q) : iI g x z := by
 obtain ⟨a1, a2, a3, a4, a5, a6⟩ := h
 refine ⟨a1, a2, fun q hq => ?_, fun q q0 hne hn => by rw [a4 q q0 hne hn, h3 q q0 hne], by omega, fun q a b => a6 q (by omega) b⟩
 have hne : q ≠ g := fun e => a2 (e ▸ hq)
 obtain ⟨b1, b2, b3, b4⟩ := a3 q hq
 exact ⟨b1, b2, fun ha => b3 ⟨ha.1, by rw [h2]; exact ha.2.1, by rw [h3 q b1 hne]; exact ha.2.2⟩, b4⟩
theorem iI.bS (h : iI g x y) (h0 : 0 ≤ g) (hg : g < y.gs.length) : iI g x (y.bx g q n) := h.KY rfl bT fun m m0 hne => nm h0 hg m0 hne
theorem ri {w : jr} (h0 : 0 ≤ g) (hg : g < x.gs.length) {m : Int} (m0 : 0 ≤ m) (hne : m ≠ g) : aq (x.bF g w) m = aq x m := by
 rw [iu hg h0, if_neg (by omega)]
theorem iI.bF {w : jr} (h : iI g x y) (h0 : 0 ≤ g) (hg : g < y.gs.length) : iI g x (y.bF g w) := h.KY rfl (by simp [Wd.bF]) fun m m0 hne => ri h0 hg m0 hne
def hJ (p : bZ) (g : Int) (x : Wd) : Out Wd → Prop
 | .fk _ y => WV p y ∧ iI g x y
 | .on y => WV p y ∧ iI g x y
 | .dh _ _ => False
theorem hJ.lt {r : Out Wd} (h : hJ p g x r) (hg : At x g 1) : g < r.fin.gs.length := by
 cases r with
 | on y => have := h.2.2.2.2.2.1; have := hg.2.1; show g < y.gs.length; omega
 | fk n y => have := h.2.2.2.2.2.1; have := hg.2.1; show g < y.gs.length; omega
 | dh l y => exact h.elim
theorem nk.yE (h : nk x g) : b9 x.aC g = 0 ∧ gU x.aK g = 0 ∧ DB x.hl g = 0 :=
 ⟨vt.2 h.1, yP.2 h.2.1, List.count_eq_zero.2 fun hm => by
  obtain ⟨y, hy, e⟩ := List.mem_map.1 hm
  exact h.2.2 y hy e⟩
theorem At.free (hg : At x g 1) (h : WV p x) : nk x g := h.free (by rw [hg.2.2]; decide) (by rw [hg.2.2]; decide)
theorem Rv (h : WV p x) (hg : At x g 1) (hi : jR p f i) (h9 : i.op = 9) (hr : x.ready = []) : (bp x g ∧ aZ i.b) ∧ hJ p g x (x.call g i) := by
 obtain ⟨_, _, _, _, _, i9, _⟩ := hi
 obtain ⟨a0, a1, b1, c1⟩ := i9 (.inl h9)
 have hz := h.j9 hg.1 hg.2.1
 refine ⟨⟨h.bp hg.1 hg.2.1, b1⟩, ?_⟩
 unfold Wd.call
 split
 ·exact ⟨h, iI.refl hr⟩
 ·rename_i hn
  refine ⟨h.bF hg.1 hg.2.1 ⟨by simp, by simp; omega, fun r hr => ?_, hz.wt, hz.st⟩ rfl rfl, (iI.refl hr).bF hg.1 hg.2.1⟩
  rcases List.mem_append.1 hr with hr | hr
  ·exact hz.fr r hr
  ·simp only [List.mem_singleton] at hr; subst hr
   exact ⟨a0, a1, Int.le_refl 0, (by show (0 : Int) ≤ 64; decide), c1⟩
theorem Rw (h : WV p x) (hp : ej p) (hg : At x g 1) (hi : jR p f i) (h20 : i.op = 20) (hr : x.ready = []) : (bp x g ∧ aZ i.a ∧ x.Sm) ∧ hJ p g x (x.emit g i) := by
 obtain ⟨_, _, _, _, _, _, i10, _⟩ := hi
 refine ⟨⟨h.bp hg.1 hg.2.1, i10 (.inr (.inr (.inl h20))), h.sm hp (by rw [hr]; decide)⟩, ?_⟩
 unfold Wd.emit
 split
 ·exact ⟨h, iI.refl hr⟩
 ·rename_i hn
  exact ⟨h.congr rfl (fun _ => ⟨rfl, rfl⟩) h.FB rfl rfl rfl (by simp; omega), (iI.refl hr).KY rfl rfl fun _ _ _ => rfl⟩
theorem Rx (h : WV p x) (hg : At x g 1) (hi : jR p f i) (h10 : i.op = 10) (hr : x.ready = []) : (bp x g ∧ aZ i.a ∧ aZ (aq x g).top.rE) ∧ hJ p g x (.on (x.back g i)) := by
 obtain ⟨_, _, _, _, _, _, i10, _⟩ := hi
 have hz := h.j9 hg.1 hg.2.1
 refine ⟨⟨h.bp hg.1 hg.2.1, i10 (.inl h10), hz.top.2.2.2.2⟩, ?_⟩
 have hf := hg.free h
 unfold Wd.back
 split
 ·rename_i h2
  refine ⟨h.bF hg.1 hg.2.1 ⟨by simp [jr.back]; omega, by have := hz.l2; simp [jr.back]; omega, fun r hr => ?_, hz.wt, hz.st⟩ rfl rfl, (iI.refl hr).bF hg.1 hg.2.1⟩
  rcases List.mem_or_eq_of_mem_set hr with hr | rfl
  ·exact hz.fr r (List.mem_of_mem_take hr)
  ·refine FA.set ?_ _ _
   rw [List.getD_eq_getElem?_getD, List.getElem?_eq_getElem (by omega), Option.getD_some]
   exact hz.fr _ (List.getElem_mem _)
 ·have hd : WV p (x.bF g { aq x g with st := 4 }) := h.Jh hg.1 hg.2.1 hf (hz.OB (by decide) (by decide))
  have S5 : iI g x (x.bF g { aq x g with st := 4 }) := (iI.refl hr).bF hg.1 hg.2.1
  split
  ·exact ⟨hd.congr rfl (fun _ => ⟨rfl, rfl⟩) hd.FB rfl rfl rfl hd.out, S5.KY rfl rfl fun _ _ _ => rfl⟩
  ·exact ⟨hd, S5⟩
theorem Ry (h : WV p x) (hp : ej p) (hg : At x g 1) (hf : f ∈ p.funcs) (hi : jR p f i) (V8 : i.op = 13) (hr : x.ready = []) :
  ((bp x g ∧ aZ i.b ∧ oz p x i.a (bD x g i.b) ∧ vr x g i (x.put p i.a (bD x g i.b))) ∧ x.Sm) ∧ hJ p g x (x.send p g i) := by
 have hi' := hi
 obtain ⟨_, _, _, _, _, _, _, i13, OF, _⟩ := hi'
 obtain ⟨a0, a1⟩ := i13 (.inl V8)
 have hk : vj x i.a := ⟨a0, by rw [h.ch]; exact a1⟩
 obtain ⟨p1, p2⟩ := h.put (n := bD x g i.b) hp hk
 have OA := h.bp hg.1 hg.2.1
 have hs := h.sm hp (by rw [hr]; decide)
 have hfr := hg.free h
 obtain ⟨c, hc, ec⟩ := FD hk
 have hm := List.mem_of_getElem? hc
 obtain ⟨s1, s2, s3⟩ := qw h hm
 unfold Wd.send
 generalize nt : x.put p i.a (bD x g i.b) = r at p2
 match r, p2 with
 | .fk n y, p2 =>
  exact ⟨⟨⟨OA, OF (.inl V8), p1, trivial⟩, hs⟩, p2.1, iI.of (Wk.same p2.2.1 p2.2.2) hr hg⟩
 | .on (y, true), p2 =>
  exact ⟨⟨⟨OA, OF (.inl V8), p1, trivial⟩, hs⟩, p2.1, iI.of p2.2 hr hg⟩
 | .on (y, false), p2 =>
  have p3 : y = x := p2
  subst p3
  refine ⟨⟨⟨OA, OF (.inl V8), p1, OA, rfl, hk, by rw [ec]; exact ⟨by omega, by omega, by omega⟩⟩, hs⟩, ?_, ?_⟩
  ·have hb := h.block hg hf hi
   have eg : aq (y.block g i) g = { aq y g with st := 2, wt := i } := gN hg.1 hg.2.1
   show WV p ((y.block g i).cu i.a { dO y.aC i.a with snd := (dO y.aC i.a).snd ++ [⟨g, 0, bD y g i.b⟩] })
   rw [ec]
   refine hb.more (c := c) (w := ⟨g, 0, bD y g i.b⟩) hc (h.buf c hm) (fun v hv => .inl hv) (fun v hv => ?_) (fun q => ?_) (fun _ => ?_) ?_
   ·rcases List.mem_append.1 hv with hv | hv
    ·exact .inl hv
    ·refine .inr ⟨by simpa using hv, ⟨hg.1, by simpa [Wd.block, Wd.bF] using hg.2.1, by rw [eg]⟩, .inl (by rw [eg]; exact V8)⟩
   ·unfold cV
    simp only [List.map_append, List.map_cons, List.map_nil, List.count_append, List.count_cons, List.count_nil]
    by_cases e : q = g
    ·subst e; simp; omega
    ·rw [if_neg e]
     have : (g == q) = false := by simp; exact fun h => e h.symm
     simp [this]
   ·have := hfr.yE
    show b9 y.aC g + gU y.aK g = 0
    omega
   ·have := hfr.yE
    show b9 y.aC g < 32
    omega
  ·exact (iI.refl hr).KY rfl (by simp [Wd.block, Wd.I0, Wd.bF, Wd.cu]) fun m m0 hne => by
    show aq (y.bF g _) m = _
    exact ri hg.1 hg.2.1 m0 hne
 | .dh l y, p2 => exact p2.elim
end
section
variable {p : bZ} {x y z : Wd} {g q k n : Int} {f : List cI} {i : cI} {v : Wt}
theorem lI (l : List Int) (q g : Int) : (l ++ [g]).count q ≤ l.count q + (if q = g then 1 else 0) := by
 rw [List.count_append, List.count_cons, List.count_nil]
 by_cases e : q = g
 ·subst e; simp
 ·rw [if_neg e]
  have : (g == q) = false := by simp; exact fun h => e h.symm
  simp [this]
theorem Rz (h : WV p x) (hp : ej p) (hg : At x g 1) (hf : f ∈ p.funcs) (hi : jR p f i) (Xf : i.op = 14) (hr : x.ready = []) :
  (wV x g i ∧ x.Sm) ∧ hJ p g x (.on (x.recv g i)) := by
 have hi' := hi
 obtain ⟨_, _, _, _, _, _, _, i13, OF, i14, _⟩ := hi'
 obtain ⟨a0, a1⟩ := i13 (.inr (.inl Xf))
 have hk : vj x i.a := ⟨a0, by rw [h.ch]; exact a1⟩
 obtain ⟨p1, p2, p3, p4⟩ := h.get hp hk
 have OA := h.bp hg.1 hg.2.1
 have hs := h.sm hp (by rw [hr]; decide)
 have hfr := hg.free h
 obtain ⟨c, hc, ec⟩ := FD hk
 have hm := List.mem_of_getElem? hc
 obtain ⟨s1, s2, s3⟩ := qw h hm
 have ek := p3.keep hg.1 hg.2.2
 have el := p3.1
 refine ⟨⟨⟨OA, OF (.inr Xf), i14 (.inl Xf), p1, p2.bp hg.1 (by rw [el]; exact hg.2.1), by rw [ek], fun e => ?_⟩, hs⟩, ?_⟩
 ·rw [p4 e]
  exact ⟨hk, by rw [ec]; exact ⟨by omega, by omega, by omega⟩⟩
 ·unfold Wd.recv
  have S5 : iI g x (x.get i.a).1 := iI.of p3 hr hg
  split
  ·have r1 := p2.bx (g := g) (q := i.b) (n := (x.get i.a).2.1) hg.1 (by rw [el]; exact hg.2.1)
   refine ⟨r1.bx hg.1 (by rw [bT, el]; exact hg.2.1), (S5.bS hg.1 (by rw [el]; exact hg.2.1)).bS hg.1 (by rw [bT, el]; exact hg.2.1)⟩
  ·rename_i e
   rw [p4 (by simpa using e)]
   have hb := h.block hg hf hi
   have eg : aq (x.block g i) g = { aq x g with st := 2, wt := i } := gN hg.1 hg.2.1
   refine ⟨?_, ?_⟩
   ·show WV p ((x.block g i).cu i.a { dO x.aC i.a with eH := (dO x.aC i.a).eH ++ [⟨g, 0, 0⟩] })
    rw [ec]
    refine hb.more (c := c) (w := ⟨g, 0, 0⟩) hc (h.buf c hm) (fun v hv => ?_) (fun v hv => .inl hv) (fun q => ?_) (fun _ => ?_) ?_
    ·rcases List.mem_append.1 hv with hv | hv
     ·exact .inl hv
     ·exact .inr ⟨by simpa using hv, ⟨hg.1, by simpa [Wd.block, Wd.bF] using hg.2.1, by rw [eg]⟩, .inl (by rw [eg]; exact Xf)⟩
    ·unfold cV
     rw [List.map_append, ← List.append_assoc]
     exact lI _ _ _
    ·have := hfr.yE
     show b9 x.aC g + gU x.aK g = 0
     omega
    ·have := hfr.yE
     show b9 x.aC g < 32
     omega
   ·exact (iI.refl hr).KY rfl (by simp [Wd.block, Wd.I2, Wd.bF, Wd.cu]) fun m m0 hne => by
     show aq (x.bF g _) m = _
     exact ri hg.1 hg.2.1 m0 hne
theorem RA (h : WV p x) (hp : ej p) (hg : At x g 1) (hi : jR p f i) (h15 : i.op = 15) (hr : x.ready = []) :
  (oa p x i ∧ x.Sm) ∧ hJ p g x (x.shut p i) := by
 have hi' := hi
 obtain ⟨_, _, _, _, _, _, _, i13, _⟩ := hi'
 obtain ⟨a0, a1⟩ := i13 (.inr (.inr h15))
 have hk : vj x i.a := ⟨a0, by rw [h.ch]; exact a1⟩
 have hs := h.sm hp (by rw [hr]; decide)
 obtain ⟨c, hc, ec⟩ := FD hk
 have hm := List.mem_of_getElem? hc
 obtain ⟨s1, s2, s3⟩ := qw h hm
 have hb := h.buf c hm
 have hrc := h.eH c hm
 unfold oa Wd.shut
 rw [ec]
 obtain ⟨room, buf, snd, eH, closed⟩ := c
 cases closed with
 | true =>
  refine ⟨⟨⟨hk, by dsimp only at *; omega, fun e => by simp [aV.close] at e⟩, hs⟩, ?_⟩
  simp only [aV.close, if_true]
  rw [oh hc]
  exact ⟨h, iI.refl hr⟩
 | false =>
  have SU : WV p (x.cu i.a ⟨room, buf, [], [], true⟩) := h.less hc hb (fun v hv => by cases hv) (fun v hv => by cases hv) (fun q => by simp [cV])
  have OG := w6 hp eH (x.cu i.a ⟨room, buf, [], [], true⟩) SU (by show x.ready.length + eH.length ≤ 1000000; rw [hr]; dsimp only [List.length_nil] at *; omega) (fun v hv => by
   obtain ⟨a, b⟩ := hrc v hv
   refine ⟨a.1, a.2.1, fun _ => ?_⟩
   rcases b with b | b
   ·refine .inl ⟨b, DC h hc a.1 a.2.2 (by rw [b]; decide) ?_⟩
    have : 0 < List.count v.g (cV ⟨room, buf, snd, eH, false⟩) := List.count_pos_iff.2 (List.mem_append_right _ (List.mem_map.2 ⟨v, hv, rfl⟩))
    show List.count v.g (cV ⟨room, buf, [], [], true⟩) + 1 ≤ _
    simp only [cV, List.map_nil, List.append_nil, List.count_nil] at *
    omega
   ·exact .inr b)
  refine ⟨⟨⟨hk, by dsimp only at *; omega, fun _ _ => ?_⟩, hs⟩, ?_⟩
  ·simp only [aV.close, Bool.false_eq_true, if_false]
   exact OG.1
  ·simp only [aV.close, Bool.false_eq_true, if_false]
   rw [if_neg (by decide)]
   split
   ·exact ⟨SU, (iI.refl hr).KY rfl rfl fun _ _ _ => rfl⟩
   ·exact ⟨OG.2.1, iI.of (Wk.cu.trans OG.2.2) hr hg⟩
theorem OH (h : WV p x) (hp : ej p) (hg : At x g 1) (hi : jR p f i) (h17 : i.op = 17) (hr : x.ready = []) :
  (bp x g ∧ aZ i.a ∧ x.hl.length < 1000000) ∧ hJ p g x (.on (x.sleep g i)) := by
 obtain ⟨_, _, _, _, _, _, i10, _⟩ := hi
 refine ⟨⟨h.bp hg.1 hg.2.1, i10 (.inr (.inl h17)), by have := h.Jg; omega⟩, ?_⟩
 unfold Wd.sleep
 split
 ·have hf := hg.free h
  have hz := h.j9 hg.1 hg.2.1
  have h1 := h.Jh hg.1 hg.2.1 hf (hz.OB (s := 3) (by decide) (by decide))
  have S5 : iI g x (x.bF g { aq x g with st := 3 }) := (iI.refl hr).bF hg.1 hg.2.1
  refine ⟨⟨h1.n1, h1.n2, h1.FB, h1.ch, h1.lk, h1.buf, h1.eH, h1.snd, h1.lw, fun w hw => ?_, h1.one, h1.Du, fun q => ?_, h1.out⟩, S5.KY rfl rfl fun _ _ _ => rfl⟩
  ·have GQ := Ae.mem_iff.1 hw
   rcases List.mem_append.1 GQ with GQ | GQ
   ·exact h1.hl w GQ
   ·simp only [List.mem_singleton] at GQ; subst GQ
    refine ⟨hg.1, by simpa [Wd.bF] using hg.2.1, ?_⟩
    show (aq (x.bF g { aq x g with st := 3 }) g).st = 3
    rw [gN hg.1 hg.2.1]
  ·show DB (sY x.hl _) q ≤ 1
   unfold DB
   rw [(Ae.map bH.id).count_eq, List.map_append, List.map_cons, List.map_nil]
   have a := lI (x.hl.map bH.id) q g
   have b := h.h1 q
   unfold DB at b
   by_cases e : q = g
   ·subst e
    have := hf.yE.2.2
    unfold DB at this
    rw [if_pos rfl] at a
    dsimp only at *
    omega
   ·rw [if_neg e] at a
    dsimp only at *
    omega
 ·exact ⟨h, iI.refl hr⟩
theorem S6 (hk : Dz x k) : ∃ c, x.aK[k.toNat]? = some c ∧ oY x k = c := by
 obtain ⟨k0, k1⟩ := hk
 obtain ⟨c, hc⟩ := aU (l := x.aK) (i := k.toNat) (by omega)
 exact ⟨c, hc, by simp [oY, hc]⟩
theorem WV.HS (h : WV p x) {c c' : Lk} (hc : x.aK[k.toNat]? = some c) (hr : ∀ v ∈ c'.waits, v ∈ c.waits) (hn : ∀ q, c'.waits.count q ≤ c.waits.count q) : WV p (x.gC k c') := by
 have hm : c ∈ x.aK := List.mem_of_getElem? hc
 refine ⟨h.n1, h.n2, h.FB, h.ch, by simpa [Wd.gC] using h.lk, h.buf, h.eH, h.snd, fun d hd v hv => ?_, h.hl, fun q q0 hq => ?_, h.Du, h.h1, h.out⟩
 ·rcases jJ hd with hd | rfl
  ·exact h.lw d hd v hv
  ·exact h.lw c hm v (hr v hv)
 ·have a := h.one q q0 hq
  have b := mu (fun l : Lk => l.waits.count q) x.aK k.toNat c' c hc
  have := hn q
  show b9 x.aC q + gU (x.aK.set k.toNat c') q ≤ 1
  unfold gU at *
  omega
theorem RB (h : WV p x) (hp : ej p) (hg : At x g 1) (hf : f ∈ p.funcs) (hi : jR p f i) (S3 : i.op = 18) (hr : x.ready = []) :
  (bp x g ∧ Dz x i.a ∧ x.Sm) ∧ hJ p g x (.on (x.lock g i)) := by
 have hi' := hi
 obtain ⟨_, _, _, _, _, _, _, _, _, _, _, i18, _⟩ := hi'
 obtain ⟨a0, a1⟩ := i18 (.inl S3)
 have hk : Dz x i.a := ⟨a0, by rw [h.lk]; exact a1⟩
 refine ⟨⟨h.bp hg.1 hg.2.1, hk, h.sm hp (by rw [hr]; decide)⟩, ?_⟩
 obtain ⟨c, hc, ec⟩ := S6 hk
 have hm := List.mem_of_getElem? hc
 have hfr := hg.free h
 unfold Wd.lock
 rw [ec]
 unfold Lk.take
 split
 ·dsimp only
  rw [if_pos rfl]
  exact ⟨h.HS hc (fun v hv => hv) (fun q => Nat.le_refl _), (iI.refl hr).KY rfl rfl fun _ _ _ => rfl⟩
 ·dsimp only
  rw [if_neg (by decide)]
  have hb := h.block hg hf hi
  have eg : aq (x.block g i) g = { aq x g with st := 2, wt := i } := gN hg.1 hg.2.1
  refine ⟨?_, ?_⟩
  ·show WV p ((x.block g i).gC i.a ⟨c.owner, c.waits ++ [g]⟩)
   refine ⟨hb.n1, hb.n2, hb.FB, hb.ch, by simpa [Wd.gC] using hb.lk, hb.buf, hb.eH, hb.snd, fun d hd v hv => ?_, hb.hl, fun q q0 hq => ?_, hb.Du, hb.h1, hb.out⟩
   ·rcases jJ hd with hd | rfl
    ·exact hb.lw d hd v hv
    ·rcases List.mem_append.1 hv with hv | hv
     ·exact hb.lw c hm v hv
     ·simp only [List.mem_singleton] at hv; subst hv
      exact ⟨⟨hg.1, by simpa [Wd.gC, Wd.block, Wd.bF] using hg.2.1, by show (aq (x.block v i) v).st = 2; rw [eg]⟩, by show (aq (x.block v i) v).wt.op = 18; rw [eg]; exact S3⟩
   ·have a := hb.one q q0 hq
    have b := mu (fun l : Lk => l.waits.count q) x.aK i.a.toNat ⟨c.owner, c.waits ++ [g]⟩ c hc
    have d := lI c.waits q g
    show b9 x.aC q + gU (x.aK.set i.a.toNat _) q ≤ 1
    have a' : b9 x.aC q + gU x.aK q ≤ 1 := a
    by_cases e : q = g
    ·subst e
     have := hfr.yE
     rw [if_pos rfl] at d
     unfold gU at *
     dsimp only at *
     omega
    ·rw [if_neg e] at d
     unfold gU at *
     dsimp only at *
     omega
  ·exact (iI.refl hr).KY rfl (by simp [Wd.block, Wd.gC, Wd.bF]) fun m m0 hne => by
    show aq (x.bF g _) m = _
    exact ri hg.1 hg.2.1 m0 hne
theorem KZ (h : WV p x) (hp : ej p) (hg : At x g 1) (hi : jR p f i) (h19 : i.op = 19) (hr : x.ready = []) :
  (ni x g i ∧ x.Sm) ∧ hJ p g x (x.unlock g i) := by
 have hi' := hi
 obtain ⟨_, _, _, _, _, _, _, _, _, _, _, i18, _⟩ := hi'
 obtain ⟨a0, a1⟩ := i18 (.inr h19)
 have hk : Dz x i.a := ⟨a0, by rw [h.lk]; exact a1⟩
 have hs := h.sm hp (by rw [hr]; decide)
 obtain ⟨c, hc, ec⟩ := S6 hk
 have hm := List.mem_of_getElem? hc
 have hw := h.lw c hm
 unfold ni Wd.unlock
 rw [ec]
 unfold Lk.sL
 split
 ·refine ⟨⟨⟨hk, fun e => absurd rfl e⟩, hs⟩, ?_⟩
  dsimp only
  rw [if_pos (by decide)]
  have e : x.gC i.a c = x := by unfold Wd.gC; rw [eV _ _ _ hc]
  rw [e]
  exact ⟨h, iI.refl hr⟩
 ·obtain ⟨o, ws⟩ := c
  cases ws with
  | nil =>
   refine ⟨⟨⟨hk, fun e => absurd rfl e⟩, hs⟩, ?_⟩
   split
   ·rename_i e; exact absurd rfl e
   ·split
    ·rename_i e; exact absurd rfl e
    ·exact ⟨h.HS (c' := ⟨-1, []⟩) hc (fun v hv => by cases hv) (fun q => by simp), (iI.refl hr).KY rfl rfl fun _ _ _ => rfl⟩
  | cons w ws =>
   obtain ⟨a, b⟩ := hw w (by simp)
   refine ⟨⟨⟨hk, fun _ => ⟨a.1, a.2.1⟩⟩, hs⟩, ?_⟩
   have hne : w ≠ -1 := by have := a.1; omega
   have hl : WV p (x.gC i.a ⟨w, ws⟩) := h.HS hc (fun v hv => List.mem_cons_of_mem _ hv) (fun q => by simp only [List.count_cons]; omega)
   have hfr : nk (x.gC i.a ⟨w, ws⟩) w := by
    have o1 := h.one w a.1 (by rw [b]; decide)
    have s := mu (fun l : Lk => l.waits.count w) x.aK i.a.toNat ⟨w, ws⟩ ⟨o, w :: ws⟩ hc
    simp only [List.count_cons, beq_self_eq_true, if_true] at s
    have e1 : gU (x.aK.set i.a.toNat ⟨w, ws⟩) w = 0 := by unfold gU at *; omega
    have e2 : b9 x.aC w = 0 := by
     have := zZ (fun l : Lk => l.waits.count w) x.aK ⟨o, w :: ws⟩ hm
     simp only [List.count_cons, beq_self_eq_true, if_true] at this
     unfold gU at *; omega
    refine ⟨vt.1 e2, yP.1 e1, fun y hy e => ?_⟩
    have := (h.hl y hy).2.2
    rw [e, a.2.2] at this
    cases this
   have hres : hJ p g x (.on ((x.gC i.a ⟨w, ws⟩).fA w)) := ⟨hl.fA a.1 a.2.1 hfr, iI.of (Wk.trans (Wk.same rfl rfl) (Wk.fA (x := x.gC i.a ⟨w, ws⟩) a.1 a.2.1 (by show (aq x w).st ≠ 1; rw [a.2.2]; decide))) hr hg⟩
   split
   ·rename_i e; exact absurd rfl e
   ·split
    ·exact hres
    ·rename_i e; exact absurd hne e
end
section
variable {p : bZ} {x y z : Wd} {g q k n : Int} {f : List cI} {i : cI} {v : Wt}
theorem kV {w : jr} (h0 : 0 ≤ q) (hq : q < x.gs.length) : aq { x with gs := x.gs ++ [w] } q = aq x q := by
 unfold aq
 dsimp only
 rw [List.getD_eq_getElem?_getD, List.getD_eq_getElem?_getD, List.getElem?_append_left (by omega)]
theorem Cp {w : jr} : aq { x with gs := x.gs ++ [w] } (x.gs.length : Int) = w := by
 unfold aq
 dsimp only
 rw [Int.toNat_natCast, List.getD_eq_getElem?_getD, List.getElem?_append_right (Nat.le_refl _)]
 simp
theorem WV.spawn (h : WV p x) (hn : x.gs.length < 100) {w : jr} (hw : oZ p w) : WV p { x with gs := x.gs ++ [w] } := by
 have at_ : ∀ q s, At x q s → At { x with gs := x.gs ++ [w] } q s := fun q s ha => ⟨ha.1, by have := ha.2.1; simp; omega, by rw [kV ha.1 ha.2.1]; exact ha.2.2⟩
 refine ⟨by simp, by simp; omega, fun z hz => ?_, h.ch, h.lk, h.buf, fun c hc v hv => ?_, fun c hc v hv => ?_, fun l hl q hq => ?_, fun z hz => at_ _ _ (h.hl z hz), fun q q0 hq => ?_, h.Du, h.h1, h.out⟩
 ·rcases List.mem_append.1 hz with hz | hz
  ·exact h.FB z hz
  ·simp only [List.mem_singleton] at hz; subst hz; exact hw
 ·obtain ⟨a, b⟩ := h.eH c hc v hv
  rw [kV a.1 a.2.1]
  exact ⟨at_ _ _ a, b⟩
 ·obtain ⟨a, b⟩ := h.snd c hc v hv
  rw [kV a.1 a.2.1]
  exact ⟨at_ _ _ a, b⟩
 ·obtain ⟨a, b⟩ := h.lw l hl q hq
  rw [kV a.1 a.2.1]
  exact ⟨at_ _ _ a, b⟩
 ·by_cases hlt : q < x.gs.length
  ·rw [kV q0 hlt] at hq
   exact h.one q q0 hq
  ·refine h.one q q0 ?_
   unfold aq
   rw [List.getD_eq_getElem?_getD, List.getElem?_eq_none (by omega)]
   decide
theorem OI {w : jr} : Wd.fA { x with gs := x.gs ++ [{ w with st := 0 }] } (x.gs.length : Int) = { x with gs := x.gs ++ [{ w with st := 1 }], ready := x.ready ++ [(x.gs.length : Int)] } := by
 unfold Wd.fA Wd.bF
 rw [Cp]
 simp [List.set_append_right]
theorem OJ (h : WV p x) (hp : ej p) (hg : At x g 1) (hi : jR p f i) (h11 : i.op = 11) (hr : x.ready = []) : (bp x g ∧ aZ i.b ∧ aZ i.c ∧ x.Sm) ∧ hJ p g x (x.spawn g i) := by
 obtain ⟨_, _, _, _, _, i9, _⟩ := hi
 obtain ⟨a0, a1, b1, c1⟩ := i9 (.inr h11)
 refine ⟨⟨h.bp hg.1 hg.2.1, b1, c1, h.sm hp (by rw [hr]; decide)⟩, ?_⟩
 unfold Wd.spawn
 split
 ·exact ⟨h, iI.refl hr⟩
 ·rename_i hn
  rw [OI (w := ⟨0, [gM.begin i.a (bD x g i.b)], .zero⟩)]
  have hw : oZ p ⟨1, [gM.begin i.a (bD x g i.b)], .zero⟩ := ⟨by simp, by simp, fun r hr => by
   simp only [List.mem_singleton] at hr; subst hr
   exact ⟨a0, a1, Int.le_refl 0, (by show (0 : Int) ≤ 64; decide), by show aZ 0; decide⟩, (fun e => by cases e), by show (1 : Int) ≤ 1 ∧ (1 : Int) ≤ 4; decide⟩
  have h1 := (h.spawn (by omega) hw).ready (r := x.ready ++ [(x.gs.length : Int)])
  have hlen : g < (x.gs ++ [(⟨1, [gM.begin i.a (bD x g i.b)], .zero⟩ : jr)]).length := by have := hg.2.1; simp; omega
  refine ⟨h1.bx hg.1 hlen, ?_⟩
  have S5 : iI g x { x with gs := x.gs ++ [⟨1, [gM.begin i.a (bD x g i.b)], .zero⟩], ready := x.ready ++ [(x.gs.length : Int)] } := by
   rw [iI, hr]
   simp only [List.nil_append, List.length_append, List.length_cons, List.length_nil]
   refine ⟨by simp, by have := hg.2.1; simp; omega, fun q hq => ?_, fun q q0 _ hn => ?_, by omega, fun q a b => by simp; omega⟩
   ·simp only [List.mem_singleton] at hq; subst hq
    exact ⟨by omega, by omega, fun ha => by have := ha.2.1; omega, by show (aq { x with gs := x.gs ++ [_] } _).st = 1; rw [Cp]⟩
   ·show aq { x with gs := x.gs ++ [_] } q = aq x q
    by_cases hlt : q < x.gs.length
    ·exact kV q0 hlt
    ·simp only [List.mem_singleton] at hn
     unfold aq
     dsimp only
     rw [List.getD_eq_getElem?_getD, List.getD_eq_getElem?_getD, List.getElem?_eq_none (by simp; omega), List.getElem?_eq_none (by omega)]
  exact S5.bS hg.1 hlen
theorem Jk (h : WV p x) (hg : At x g 2) (ve : (aq x g).wt.op = 16) (hf : nk x g) {fT : List Int} {cases : List oy} (hc : ∀ c ∈ cases, c.Ok x.aC.length) (hb : (cases.length : Int) ≤ (aq x g).wt.b) (h32 : cases.length ≤ 32) :
  ∀ j, j ≤ cases.length → WV p { x with aC := eE g fT cases x.aC j } ∧ b9 (eE g fT cases x.aC j) g ≤ j
 | 0, _ => ⟨h, by show b9 x.aC g ≤ 0; have := hf.yE; omega⟩
 | j + 1, hj => by
  obtain ⟨ih, ic⟩ := Jk h hg ve hf (fT := fT) hc hb h32 j (by omega)
  obtain ⟨c, DO⟩ := aU (l := cases) (i := j) (by omega)
  have ok := hc c (List.mem_of_getElem? DO)
  unfold eE
  rw [DO]
  dsimp only
  unfold kG
  generalize hcs : eE g fT cases x.aC j = cs at ih ic
  have hlen : cs.length = x.aC.length := by
   have a := ih.ch
   have b := h.ch
   dsimp only at a
   omega
  have key : ∀ d : aV, (c.way = 0 ∨ c.way = 1) → dO cs c.ch = d → ∀ d' : aV, d'.buf = d.buf → d'.room = d.room →
    ((∀ v ∈ d'.eH, v ∈ d.eH ∨ v = ⟨g, j, 0⟩) ∧ d'.snd = d.snd ∨ (∀ v ∈ d'.snd, v ∈ d.snd ∨ v = ⟨g, j, fT.getD c.bS.toNat 0⟩) ∧ d'.eH = d.eH) →
    (∀ q, (cV d').count q ≤ (cV d).count q + (if q = g then 1 else 0)) →
    WV p { x with aC := cs.set c.ch.toNat d' } ∧ b9 (cs.set c.ch.toNat d') g ≤ j + 1 := by
   intro d V9 hd d' e1 e2 e3 hn
   obtain ⟨k0, k1, _⟩ := ok.2.2 (by rcases V9 with e | e <;> rw [e] <;> decide)
   obtain ⟨d2, Py⟩ := aU (l := cs) (i := c.ch.toNat) (by omega)
   have : d2 = d := by rw [← hd]; simp [dO, Py]
   subst this
   have hm : d2 ∈ cs := List.mem_of_getElem? Py
   have ZS := ih.buf d2 hm
   refine ⟨?_, ?_⟩
   ·rcases e3 with ⟨e3, e4⟩ | ⟨e3, e4⟩
    ·exact ih.more (k := c.ch) (w := ⟨g, j, 0⟩) Py (by rw [e1, e2]; exact ZS) (fun v hv => by
      rcases e3 v hv with e | e
      ·exact .inl e
      ·exact .inr ⟨e, hg, .inr ⟨ve, by dsimp only; omega, by dsimp only; show (j : Int) < (aq x g).wt.b; omega⟩⟩) (fun v hv => .inl (by rw [← e4]; exact hv)) hn (fun e => absurd ve e) (by show b9 cs g < 32; omega)
    ·exact ih.more (k := c.ch) (w := ⟨g, j, fT.getD c.bS.toNat 0⟩) Py (by rw [e1, e2]; exact ZS) (fun v hv => .inl (by rw [← e4]; exact hv)) (fun v hv => by
      rcases e3 v hv with e | e
      ·exact .inl e
      ·exact .inr ⟨e, hg, .inr ⟨ve, by dsimp only; omega, by dsimp only; show (j : Int) < (aq x g).wt.b; omega⟩⟩) hn (fun e => absurd ve e) (by show b9 cs g < 32; omega)
   ·have a := mu (fun c : aV => (cV c).count g) cs c.ch.toNat d' d2 Py
    have b := hn g
    rw [if_pos rfl] at b
    unfold b9 at *
    omega
  split
  ·rename_i hw
   refine key _ (.inl hw) rfl _ rfl rfl (.inl ⟨fun v hv => ?_, rfl⟩) (fun q => ?_)
   ·rcases List.mem_append.1 hv with hv | hv
    ·exact .inl hv
    ·exact .inr (by simpa using hv)
   ·unfold cV
    rw [List.map_append, ← List.append_assoc]
    exact lI _ _ _
  ·split
   ·rename_i hw
    refine key _ (.inr hw) rfl _ rfl rfl (.inr ⟨fun v hv => ?_, rfl⟩) (fun q => ?_)
    ·rcases List.mem_append.1 hv with hv | hv
     ·exact .inl hv
     ·exact .inr (by simpa using hv)
    ·unfold cV
     have := lI ((dO cs c.ch).snd.map Wt.g) q g
     simp only [List.map_append, List.map_cons, List.map_nil, List.count_append] at *
     omega
   ·exact ⟨ih, by omega⟩
end
section
variable {p : bZ} {x y z : Wd} {g q k n : Int} {f : List cI} {i : cI} {v : Wt} {d : jQ}
theorem oZ.RD {w : jr} (h : oZ p w) (Bk : w.top.pc + 1 ≤ 64) : oZ p (w.cO w.top.next) :=
 h.cO ⟨h.top.1, h.top.2.1, by have := h.top.2.2.1; show 0 ≤ w.top.pc + 1; omega, Bk, h.top.2.2.2.2⟩
theorem WV.next (h : WV p x) (hg : At x g 1) (Bk : (aq x g).top.pc + 1 ≤ 64) : WV p (x.next g) ∧ At (x.next g) g 1 ∧ (x.next g).gs.length = x.gs.length ∧ (∀ q, 0 ≤ q → q ≠ g → aq (x.next g) q = aq x q) ∧ (aq (x.next g) g).fs.length = (aq x g).fs.length := by
 have hz := (h.j9 hg.1 hg.2.1).RD Bk
 have e : aq (x.next g) g = (aq x g).cO (aq x g).top.next := gN hg.1 hg.2.1
 refine ⟨h.bF hg.1 hg.2.1 hz rfl rfl, ⟨hg.1, by simpa [Wd.next, Wd.bF] using hg.2.1, by rw [e]; exact hg.2.2⟩, by simp [Wd.next, Wd.bF], fun q q0 hne => ri hg.1 hg.2.1 q0 hne, by rw [e]; simp [jr.cO]⟩
theorem Cq {c : oy} (h : c ∈ aD p i) : c ∈ p.cases := List.mem_of_mem_drop (List.mem_of_mem_take h)
theorem FE {cases : List oy} {cs : List aV} (h : k ∈ enabled cases cs) : ∃ (j : Nat) (c : oy), k = (j : Int) ∧ j < cases.length ∧ cases[j]? = some c ∧ can cs c = true := by
 unfold enabled C4 at h
 obtain ⟨j, hj, rfl⟩ := List.mem_map.1 h
 obtain ⟨h1, h2⟩ := List.mem_filter.1 hj
 rw [List.mem_range] at h1
 obtain ⟨c, hc⟩ := aU (l := cases) (i := j) (by omega)
 unfold MS at h2
 rw [hc] at h2
 exact ⟨j, c, rfl, h1, hc, h2⟩
theorem K0 (h : WV p x) (hp : ej p) (hg : At x g 1) (hf : f ∈ p.funcs) (hi : jR p f i) (ve : i.op = 16) (hr : x.ready = []) (Bk : (aq x g).top.pc + 1 ≤ 64)
  (hd : ∀ v, d = .num v → enabled (aD p i) x.aC ≠ [] → 0 ≤ v ∧ v < (enabled (aD p i) x.aC).length) :
  nj p x g i d = true ∧ (hJ p g x (x.choose p g i d) ∨ ∃ l, d = .dh l ∧ x.choose p g i d = .dh l x) := by
 have hi' := hi
 obtain ⟨_, _, _, _, _, _, _, _, _, i14, i16, _⟩ := hi'
 have hc := i14 (.inr ve)
 obtain ⟨a0, b1, ab⟩ := i16 ve
 have hcs := hp.cs
 have OA := h.bp hg.1 hg.2.1
 have hs := h.sm hp (by rw [hr]; decide)
 obtain ⟨n1, n2, n3, n4, n5⟩ := h.next hg Bk
 have Rn := (h.j9 hg.1 hg.2.1).top.2.2.1
 have SU : (aD p i).length = i.b.toNat := by
  unfold aD
  rw [List.length_take, List.length_drop]; omega
 have Wa : ∀ c ∈ aD p i, c.Ok x.aC.length := fun c hc => by rw [h.ch]; exact (hp.cas c (Cq hc)).1
 have hne1 : (x.next g).aC = x.aC := rfl
 have S7 : ∀ k, k ∈ enabled (aD p i) x.aC → zX p x g i k ∧ hJ p g x (x.qt p g i k) := by
  intro k hk
  obtain ⟨j, c, rfl, hj, DO, hcan⟩ := FE hk
  have hm : c ∈ aD p i := List.mem_of_getElem? DO
  have hrg := (hp.cas c (Cq hm)).2
  have hok := Wa c hm
  have ec : (aD p i).getD (j : Int).toNat ⟨0, 0, 0⟩ = c := by rw [Int.toNat_natCast, List.getD_eq_getElem?_getD, DO]; rfl
  have V9 : c.way = 0 ∨ c.way = 1 := by
   unfold can at hcan
   split at hcan
   ·rename_i e; exact .inl e
   ·split at hcan
    ·rename_i e; exact .inr e
    ·cases hcan
  obtain ⟨k0, k1, _⟩ := hok.2.2 (by rcases V9 with e | e <;> rw [e] <;> decide)
  have hk1 : vj (x.next g) c.ch := ⟨k0, k1⟩
  unfold zX Wd.qt
  rw [ec]
  dsimp only
  by_cases hw : c.way = 1
  ·rw [if_pos hw, if_pos hw]
   obtain ⟨p1, p2⟩ := n1.put (n := bD (x.next g) g c.bS) hp hk1
   generalize (x.next g).put p c.ch (bD (x.next g) g c.bS) = r at p2
   match r, p2 with
   | .fk n y, p2 => exact ⟨⟨by omega, by omega, hrg, p1, trivial⟩, p2.1, (iI.of (Wk.same p2.2.1 p2.2.2) hr n2).pre n3 n4⟩
   | .on (y, true), p2 =>
    have ek := p2.2.keep hg.1 n2.2.2
    have el : g < y.gs.length := by rw [p2.2.1, n3]; exact hg.2.1
    exact ⟨⟨by omega, by omega, hrg, p1, p2.1.bp hg.1 el, by rw [ek, n5]⟩, p2.1.bx hg.1 el, ((iI.of p2.2 hr n2).pre n3 n4).bS hg.1 el⟩
   | .on (y, false), p2 =>
    have p3 : y = x.next g := p2
    subst p3
    have el : g < (x.next g).gs.length := by rw [n3]; exact hg.2.1
    exact ⟨⟨by omega, by omega, hrg, p1, n1.bp hg.1 el, n5⟩, n1.bx hg.1 el, ((iI.refl (x := x.next g) hr).pre n3 n4).bS hg.1 el⟩
   | .dh l y, p2 => exact p2.elim
  ·rw [if_neg hw, if_neg hw]
   obtain ⟨p1, p2, p3, _⟩ := n1.get hp hk1
   have ek := p3.keep hg.1 n2.2.2
   have el : g < ((x.next g).get c.ch).1.gs.length := by rw [p3.1, n3]; exact hg.2.1
   have r1 := p2.bx (g := g) (q := c.bS) (n := ((x.next g).get c.ch).2.1) hg.1 el
   exact ⟨⟨by omega, by omega, hrg, p1, p2.bp hg.1 el, by rw [ek, n5]⟩, r1.bx hg.1 (by rw [bT]; exact el), (((iI.of p3 hr n2).pre n3 n4).bS hg.1 el).bS hg.1 (by rw [bT]; exact el)⟩
 refine ⟨?_, ?_⟩
 ·unfold nj
  rw [Bool.and_eq_true]
  refine ⟨decide_eq_true ⟨OA, ⟨a0, by omega, ab, by omega⟩, hc, hs, by omega, Rn, Wa⟩, ?_⟩
  cases d with
  | dh l => rfl
  | num v =>
   dsimp only
   cases he : enabled (aD p i) x.aC with
   | nil => rfl
   | cons q t =>
    rw [List.isEmpty_cons, Bool.false_or]
    obtain ⟨v0, v1⟩ := hd v rfl (by rw [he]; simp)
    rw [he] at v1
    refine decide_eq_true ⟨v0, v1, (S7 _ ?_).1⟩
    rw [he, List.getD_eq_getElem?_getD, List.getElem?_eq_getElem (by omega), Option.getD_some]
    exact List.getElem_mem _
 ·unfold Wd.choose
  split
  ·refine .inl ?_
   unfold Wd.tV
   dsimp only
   split
   ·exact ⟨n1.bx hg.1 (by rw [n3]; exact hg.2.1), ((iI.refl (x := x.next g) hr).pre n3 n4).bS hg.1 (by rw [n3]; exact hg.2.1)⟩
   ·have hb := n1.block n2 hf hi
    have eg : aq ((x.next g).block g i) g = { aq (x.next g) g with st := 2, wt := i } := gN hg.1 (by rw [n3]; exact hg.2.1)
    have hfr := n2.free n1
    have hw := (Jk (x := (x.next g).block g i) hb ⟨hg.1, by simpa [Wd.block, Wd.bF, n3] using hg.2.1, by rw [eg]⟩ (by rw [eg]; exact ve) hfr (fT := vp (aq (x.next g) g).top) (cases := aD p i) Wa (by rw [eg, SU]; show ((i.b.toNat : Nat) : Int) ≤ i.b; omega) (by omega) (aD p i).length (Nat.le_refl _)).1
    refine ⟨hw, ((iI.refl (x := x.next g) hr).pre n3 n4).KY rfl (by simp [Wd.block, Wd.bF]) fun m m0 hne => ?_⟩
    show aq ((x.next g).bF g _) m = _
    exact ri hg.1 (by rw [n3]; exact hg.2.1) m0 hne
  ·rename_i hne
   cases d with
   | num v =>
    refine .inl (S7 _ ?_).2
    obtain ⟨v0, v1⟩ := hd v rfl hne
    rw [List.getD_eq_getElem?_getD, List.getElem?_eq_getElem (by omega), Option.getD_some]
    exact List.getElem_mem _
   | dh l => exact .inr ⟨l, rfl, rfl⟩
theorem FF (h : WV p x) (hp : ej p) (h0 : 0 ≤ g) (hd : ∀ v kd n, d = .num v → asks p { x with ready := [] } g = some (kd, n) → 0 ≤ v ∧ v < n) :
  ∃ r rest, lH p x g d = some (r, rest) ∧ (hJ p g { x with ready := [] } r ∧ (xS { x with ready := [] } g ∨ r = .on { x with ready := [] } ∧ rest = true) ∨ ∃ l, d = .dh l ∧ r = .dh l { x with ready := [] } ∧ rest = false ∧ xS { x with ready := [] } g ∧ asks p { x with ready := [] } g ≠ none) := by
 have h := h.ready (r := [])
 generalize hx : ({ x with ready := [] } : Wd) = x' at h hd
 have hr : x'.ready = [] := by rw [← hx]
 unfold lH
 rw [hx]
 dsimp only
 split
 ·rename_i OK
  have hg : At x' g 1 := ⟨OK.1, OK.2.1, OK.2.2.2⟩
  have hz := h.j9 hg.1 hg.2.1
  obtain ⟨t1, t2, t3, t4, t5⟩ := hz.top
  rw [if_pos ⟨h.bp hg.1 hg.2.1, t1, t3, by omega⟩]
  obtain ⟨code, nh⟩ := aU (l := p.funcs) (i := (aq x' g).top.fn.toNat) (by omega)
  rw [nh]
  dsimp only
  have hf : code ∈ p.funcs := List.mem_of_getElem? nh
  obtain ⟨c1, c2, c3⟩ := hp.code code hf
  cases Wb : code[(aq x' g).top.pc.toNat]? with
  | none => exact ⟨_, _, rfl, .inl ⟨⟨h, iI.refl hr⟩, .inl OK⟩⟩
  | some i =>
   dsimp only
   have hi : jR p code i := c3 i (List.mem_of_getElem? Wb)
   have hi' := hi
   obtain ⟨o0, o1, o2, o7, o8, o9, o10, o13, o13b, o14, o16, o18, o21⟩ := hi'
   have hpl := (List.getElem?_eq_some_iff.1 Wb).1
   have Bk : (aq x' g).top.pc + 1 ≤ 64 := by omega
   obtain ⟨n1, n2, n3, n4, n5⟩ := h.next hg Bk
   have zT : (x'.next g).ready = [] := hr
   have j8 : asks p x' g = if i.op = 21 then some (4, i.b) else if i.op = 16 then (if enabled (aD p i) x'.aC = [] then none else some (3, (enabled (aD p i) x'.aC).length)) else none := by
    unfold asks Fz
    rw [if_pos OK, nh]
    dsimp only
    rw [Wb]
   have fin : ∀ {r : Out Wd}, hJ p g (x'.next g) r → hJ p g x' r := by
    intro r hres
    cases r with
    | on y => exact ⟨hres.1, hres.2.pre n3 n4⟩
    | fk n y => exact ⟨hres.1, hres.2.pre n3 n4⟩
    | dh l y => exact hres.elim
   split
   ·rename_i h8
    try rw [if_pos o2]
    refine ⟨_, _, rfl, .inl ⟨⟨h.bF hg.1 hg.2.1 (hz.cO ?_) rfl rfl, (iI.refl hr).bF hg.1 hg.2.1⟩, .inl OK⟩⟩
    unfold gM.pure
    have base : FA p (aq x' g).top.next := ⟨t1, t2, by show 0 ≤ (aq x' g).top.pc + 1; omega, Bk, t5⟩
    split; exact base
    split; exact base.set _ _
    split; exact base.set _ _
    split; exact base.set _ _
    split; exact base.set _ _
    split; exact base.set _ _
    split; exact base.set _ _
    split
    ·rename_i e
     exact ⟨t1, t2, (o7 e).1, by have := (o7 e).2; show i.a ≤ 64; omega, t5⟩
    ·split
     ·have := o8 (by omega)
      exact ⟨t1, t2, this.1, by show i.b ≤ 64; omega, t5⟩
     ·exact base
   ·rename_i h8
    split
    ·rename_i ve
     have hw := K0 (d := d) h hp hg hf hi ve hr Bk (fun v hv hne => by
      refine hd v 3 _ hv ?_
      rw [j8, if_neg (by omega), if_pos ve, if_neg hne])
     rw [if_pos hw.1]
     rcases hw.2 with GQ | ⟨l, CY, GQ⟩
     ·rw [if_pos (GQ.lt hg)]
      exact ⟨_, _, rfl, .inl ⟨GQ, .inl OK⟩⟩
     ·rw [GQ, if_pos (show g < (Out.fin (.dh l x')).gs.length from hg.2.1)]
      refine ⟨_, _, rfl, .inr ⟨l, CY, rfl, rfl, OK, ?_⟩⟩
      rw [j8, if_neg (by omega), if_pos ve]
      split
      ·rename_i e
       unfold Wd.choose at GQ
       rw [if_pos e] at GQ
       cases GQ
      ·simp
    ·rename_i ve
     split
     ·rename_i ZO
      rw [if_pos (o10 (.inr (.inr (.inr ZO))))]
      cases d with
      | num v =>
       have hl : g < (x'.next g).gs.length := by rw [n3]; exact hg.2.1
       have hres : hJ p g x' (x'.rand g i (.num v)) := ⟨n1.bx hg.1 hl, ((iI.refl (x := x'.next g) hr).pre n3 n4).bS hg.1 hl⟩
       rw [if_pos (hres.lt hg)]
       exact ⟨_, _, rfl, .inl ⟨hres, .inl OK⟩⟩
      | dh l =>
       rw [if_pos (show g < (Out.fin (x'.rand g i (.dh l))).gs.length from hg.2.1)]
       exact ⟨_, _, rfl, .inr ⟨l, rfl, rfl, rfl, OK, by rw [j8, if_pos ZO]; simp⟩⟩
     ·rename_i ZO
      have go : ∀ r, oe p (x'.next g) g i = some r → hJ p g (x'.next g) r → ∃ r rest, (match oe p (x'.next g) g i with
        | none => none
        | some r => if g < r.fin.gs.length then some (r, HH i.op r) else none) = some (r, rest) ∧ (hJ p g x' r ∧ (xS x' g ∨ r = .on x' ∧ rest = true) ∨ ∃ l, d = .dh l ∧ r = .dh l x' ∧ rest = false ∧ xS x' g ∧ asks p x' g ≠ none) := by
       intro r SW hres
       rw [SW]
       dsimp only
       rw [if_pos (hres.lt n2)]
       exact ⟨_, _, rfl, .inl ⟨fin hres, .inl OK⟩⟩
      have hop : i.op = 9 ∨ i.op = 10 ∨ i.op = 11 ∨ i.op = 12 ∨ i.op = 13 ∨ i.op = 14 ∨ i.op = 15 ∨ i.op = 17 ∨ i.op = 18 ∨ i.op = 19 ∨ i.op = 20 ∨ i.op = 22 := by omega
      rcases hop with e | e | e | e | e | e | e | e | e | e | e | e
      ·have w := Rv n1 n2 hi e zT
       refine go _ ?_ w.2
       unfold oe
       rw [e]; simp only [Int.reduceEq, if_false, if_true]
       rw [if_pos w.1]
      ·have w := Rx n1 n2 hi e zT
       refine go _ ?_ w.2
       unfold oe
       rw [e]; simp only [if_true]
       rw [if_pos w.1]
      ·have w := OJ n1 hp n2 hi e zT
       refine go _ ?_ w.2
       unfold oe
       rw [e]; simp only [Int.reduceEq, if_false, if_true]
       rw [if_pos w.1]
      ·refine go (.on (x'.next g)) ?_ ⟨n1, iI.refl zT⟩
       unfold oe
       rw [e]; simp only [Int.reduceEq, if_false, if_true]
      ·have w := Ry n1 hp n2 hf hi e zT
       refine go _ ?_ w.2
       unfold oe
       rw [e]; simp only [Int.reduceEq, if_false, if_true]
       rw [if_pos w.1]
      ·have w := Rz n1 hp n2 hf hi e zT
       refine go _ ?_ w.2
       unfold oe
       rw [e]; simp only [Int.reduceEq, if_false, if_true]
       rw [if_pos w.1]
      ·have w := RA n1 hp n2 hi e zT
       refine go _ ?_ w.2
       unfold oe
       rw [e]; simp only [Int.reduceEq, if_false, if_true]
       rw [if_pos w.1]
      ·have w := OH n1 hp n2 hi e zT
       refine go _ ?_ w.2
       unfold oe
       rw [e]; simp only [Int.reduceEq, if_false, if_true]
       rw [if_pos w.1]
      ·have w := RB n1 hp n2 hf hi e zT
       refine go _ ?_ w.2
       unfold oe
       rw [e]; simp only [Int.reduceEq, if_false, if_true]
       rw [if_pos w.1]
      ·have w := KZ n1 hp n2 hi e zT
       refine go _ ?_ w.2
       unfold oe
       rw [e]; simp only [Int.reduceEq, if_false, if_true]
       rw [if_pos w.1]
      ·have w := Rw n1 hp n2 hi e zT
       refine go _ ?_ w.2
       unfold oe
       rw [e]; simp only [Int.reduceEq, if_false, if_true]
       rw [if_pos w.1]
      ·refine go (.fk i.a (x'.next g)) ?_ ⟨n1, iI.refl zT⟩
       unfold oe
       rw [e]; simp only [Int.reduceEq, if_false, if_true]
 ·exact ⟨_, _, rfl, .inl ⟨⟨h, iI.refl hr⟩, .inr ⟨rfl, rfl⟩⟩⟩
theorem Jl {w : Wd} {k n : Int} (hp : ej p) (h : asks p w g = some (k, n)) : 1 ≤ n ∧ n < 1099511627776 := by
 unfold asks at h
 split at h
 ·split at h
  ·cases h
  ·rename_i ins hi
   have hio : ∃ f ∈ p.funcs, ins ∈ f := by
    unfold Fz at hi
    split at hi
    ·cases hi
    ·rename_i code hc
     exact ⟨code, List.mem_of_getElem? hc, List.mem_of_getElem? hi⟩
   obtain ⟨f, hf, hm⟩ := hio
   have hok := (hp.code f hf).2.2 ins hm
   split at h
   ·rename_i e
    simp only [Option.some.injEq, Prod.mk.injEq] at h
    have := hok.2.2.2.2.2.2.2.2.2.2.2.2 e
    omega
   ·split at h
    ·split at h
     ·cases h
     ·rename_i hne
      simp only [Option.some.injEq, Prod.mk.injEq] at h
      have h1 : (enabled (aD p ins) w.aC).length ≤ (aD p ins).length := EI _ _ _
      have h2 : (aD p ins).length ≤ p.cases.length := by
       unfold aD
       rw [List.length_take, List.length_drop]; omega
      have := hp.cs
      have h3 : 0 < (enabled (aD p ins) w.aC).length := by
       rcases hl : enabled (aD p ins) w.aC with _ | ⟨q, t⟩
       ·exact absurd hl hne
       ·simp
      omega
    ·cases h
 ·cases h
end
section
variable {p : bZ} {x y z : Wd} {g q k n : Int}
theorem Cr : ∀ (l : List Int) (x : Wd), WV p x → l.Nodup → (∀ q ∈ l, 0 ≤ q ∧ q < x.gs.length ∧ (aq x q).st ≠ 1 ∧ nk x q) → WV p (l.foldl Wd.fA x) ∧ Wk x (l.foldl Wd.fA x) ∧ (l.foldl Wd.fA x).ready = x.ready ++ l
 | [], x, h, _, _ => ⟨h, Wk.refl x, by simp⟩
 | q :: l, x, h, hn, ha => by
  obtain ⟨q0, q1, q2, q3⟩ := ha q (by simp)
  obtain ⟨Q9, AO⟩ := List.nodup_cons.1 hn
  obtain ⟨r1, r2, r3⟩ := Cr l (x.fA q) (h.fA q0 q1 q3) AO (fun m hm => by
   obtain ⟨m0, m1, m2, m3⟩ := ha m (List.mem_cons_of_mem _ hm)
   have hne : m ≠ q := fun e => Q9 (e ▸ hm)
   exact ⟨m0, by rw [nq]; exact m1, by rw [rh q0 q1 m0 hne]; exact m2, m3⟩)
  refine ⟨r1, (Wk.fA q0 q1 q2).trans r2, ?_⟩
  rw [List.foldl_cons, r3]
  show (x.ready ++ [q]) ++ l = _
  simp
def IZ (x : Wd) : List Int := (dS x.hl.length x.hl (IntKind.wrap .u64 (x.clock + 1))).2.map bH.id
theorem RE (he : x.end_ = 0) : x.tick = (IZ x).foldl Wd.fA { x with clock := IntKind.wrap .u64 (x.clock + 1), hl := (dS x.hl.length x.hl (IntKind.wrap .u64 (x.clock + 1))).1, ready := [] } := by
 unfold Wd.tick
 rw [if_neg (by rw [he]; decide)]
 rfl
theorem RF (h : WV p x) : (∀ y ∈ (dS x.hl.length x.hl (IntKind.wrap .u64 (x.clock + 1))).2, 0 ≤ y.id ∧ y.id < x.gs.length) ∧ WV p x.tick ∧ Wk { x with ready := [] } x.tick ∧ x.tick.ready.length ≤ 100 := by
 generalize hr : dS x.hl.length x.hl (IntKind.wrap .u64 (x.clock + 1)) = r
 have hp : x.hl.Perm (r.2 ++ r.1) := by rw [← hr]; exact Af _ _ _
 have m2 : ∀ y ∈ r.2, y ∈ x.hl := fun y hy => hp.mem_iff.2 (List.mem_append_left _ hy)
 have m1 : ∀ y ∈ r.1, y ∈ x.hl := fun y hy => hp.mem_iff.2 (List.mem_append_right _ hy)
 have hc : ∀ q, (r.2.map bH.id).count q + (r.1.map bH.id).count q ≤ 1 := fun q => by
  have a := h.h1 q
  unfold DB at a
  rw [(hp.map bH.id).count_eq, List.map_append, List.count_append] at a
  exact a
 refine ⟨fun y hy => ⟨(h.hl y (m2 y hy)).1, (h.hl y (m2 y hy)).2.1⟩, ?_⟩
 by_cases he : x.end_ = 0
 ·rw [RE he]
  unfold IZ
  rw [hr]
  have h1 : WV p { x with clock := IntKind.wrap .u64 (x.clock + 1), hl := r.1, ready := [] } :=
   ⟨h.n1, h.n2, h.FB, h.ch, h.lk, h.buf, h.eH, h.snd, h.lw, fun y hy => h.hl y (m1 y hy), h.one, h.Du, fun q => by have := hc q; unfold DB; dsimp only; omega, h.out⟩
  have hnd : (r.2.map bH.id).Nodup := List.nodup_iff_count.2 fun q => by have := hc q; omega
  obtain ⟨r1, r2, r3⟩ := Cr (r.2.map bH.id) { x with clock := IntKind.wrap .u64 (x.clock + 1), hl := r.1, ready := [] } h1 hnd (fun q hq => by
   obtain ⟨y, hy, rfl⟩ := List.mem_map.1 hq
   have a := h.hl y (m2 y hy)
   refine ⟨a.1, a.2.1, by show (aq x y.id).st ≠ 1; rw [a.2.2]; decide, fun c Xc hg => ?_, fun l hl hg => ?_, fun w hw e => ?_⟩
   ·have := (h.Rt Xc hg).1.2.2
    rw [a.2.2] at this; cases this
   ·have := (h.lw l hl _ hg).1.2.2
    rw [a.2.2] at this; cases this
   ·have b := hc y.id
    have c1 : 0 < (r.2.map bH.id).count y.id := List.count_pos_iff.2 hq
    have c2 : 0 < (r.1.map bH.id).count y.id := List.count_pos_iff.2 (List.mem_map.2 ⟨w, hw, e⟩)
    omega)
  refine ⟨r1, Wk.trans (Wk.same rfl rfl) r2, ?_⟩
  rw [r3]
  have a := h.Jg
  have b := hp.length_eq
  simp only [List.length_append, List.length_map, List.nil_append] at *
  omega
 ·have e : x.tick = { x with ready := [] } := by unfold Wd.tick; rw [if_pos he]
  rw [e]
  exact ⟨h.ready, Wk.refl _, by simp⟩
theorem Wc (hp : ej p) : WV p (Wd.new p) := by
 have e : ∀ q, aq (Wd.new p) q = if q.toNat = 0 then ⟨1, [gM.begin 0 0], .zero⟩ else ⟨0, [], .zero⟩ := by
  intro q
  unfold aq Wd.new
  dsimp only
  split
  ·rename_i e; rw [e]; rfl
  ·rename_i e
   rw [List.getD_eq_getElem?_getD, List.getElem?_eq_none (by simp; omega)]; rfl
 have xO : ∀ c ∈ (Wd.new p).aC, ∃ n, c = aV.new n := fun c hc => by
  obtain ⟨n, _, rfl⟩ := List.mem_map.1 hc
  exact ⟨n, rfl⟩
 have hlk : ∀ l ∈ (Wd.new p).aK, l.waits = [] := fun l hl => by
  have := List.eq_of_mem_replicate hl
  rw [this]
 have z1 : ∀ q, b9 (Wd.new p).aC q = 0 := fun q => qv _ _ fun c hc => by
  obtain ⟨n, rfl⟩ := xO c hc
  rfl
 have z2 : ∀ q, gU (Wd.new p).aK q = 0 := fun q => qv _ _ fun l hl => by rw [hlk l hl]; rfl
 refine ⟨by simp [Wd.new], by simp [Wd.new], fun y hy => ?_, by simp [Wd.new], by (simp [Wd.new]; have := hp.lk.1; omega), fun c hc => ?_, fun c hc v hv => ?_, fun c hc v hv => ?_, fun l hl q hq => ?_, fun y hy => by simp [Wd.new] at hy, fun q _ _ => by rw [z1, z2]; omega, fun q => by rw [z1]; omega, fun q => by simp [DB, Wd.new], by simp [Wd.new]⟩
 ·simp only [Wd.new, List.mem_singleton] at hy
  subst hy
  refine ⟨by simp, by simp, fun r hr => ?_, (fun e => by cases e), by show (1 : Int) ≤ 1 ∧ (1 : Int) ≤ 4; decide⟩
  simp only [List.mem_singleton] at hr; subst hr
  exact ⟨Int.le_refl 0, by have := hp.f1; show (0 : Int) < _; omega, Int.le_refl 0, (by show (0 : Int) ≤ 64; decide), by show aZ 0; decide⟩
 ·obtain ⟨n, rfl⟩ := xO c hc
  exact ⟨Nat.zero_le _, My n⟩
 ·obtain ⟨n, rfl⟩ := xO c hc
  cases hv
 ·obtain ⟨n, rfl⟩ := xO c hc
  cases hv
 ·rw [hlk l hl] at hq; cases hq
end
def HT (y : jr) : Bool := y.st == 1 || y.st == 3
def Wd.stuck (x : Wd) : Bool := x.end_ == 0 && !(x.gs.any HT)
section
variable {R : Mem} {L L' L2 : List HP} {M : Mem} {K : Value → Mem → Prop} {Kp : List PanicEntry → Mem → Prop} {pa : PA} {p : bZ} {b : Nat} {x : Wd} {g : Int}
theorem FG (h : Hp R L M) [o : KL b L pa p x L'] (hs : x.gs.length ≤ 1000000) (k : K (.bool x.stuck) M) : aa Tryz.prog 65 #[.pointer (some ⟨b, 0, none⟩)] M K Kp := by
 refine qb ?_
 unfold Wd.stuck at k
 have h' := fI h (b := b)
 clear h
 obtain ⟨a, gg, dr, n, hl, h⟩ := h'
 have hl' := hl
 obtain ⟨l1, l2, l3, l4⟩ := hl'
 refine aG h ?_
 refine dJ.2 ⟨fun he => ?_, fun he => ?_⟩
 ·rw [show (x.end_ == 0) = false from by simpa using he, Bool.false_and] at k
  exact k
 rw [show (x.end_ == 0) = true from by simpa using he, Bool.true_and] at k
 refine aF h ?_
 refine ⟨fun d vs M' => ∃ j : Nat, vs = [.int .i64 (j : Int)] ∧ d = x.gs.length - j ∧ j ≤ x.gs.length ∧ (x.gs.take j).any HT = false ∧ M' = M, ⟨_, 0, rfl, rfl, by omega, rfl, rfl⟩, ?_⟩
 rintro d _ nn M' ⟨j, xP, hd, hj, ha, rfl⟩
 simp only [List.cons.injEq, Value.int.injEq, and_true, true_and] at xP
 subst xP
 refine aN.2 ⟨fun hlt => ?_, fun hge => ?_⟩
 ·obtain ⟨gb, gf⟩ := aU (l := a.gb) (i := j) (by omega)
  obtain ⟨ga, V3⟩ := aU (l := gg) (i := j) (by omega)
  obtain ⟨y, hy⟩ := aU (l := x.gs) (i := j) (by omega)
  have Ou : M'.ld ⟨gb, 0, none⟩ = some (.int .i64 y.st) := by
   have h9 := m9 (b := gb) (h.dg gk gf (nZ hy V3))
   exact bO h9
  refine ⟨by omega, by omega, ?_⟩
  refine vL h gf fun q hq => ?_
  refine bg ?_
  rw [Ou]
  refine c6 ?_
  have hym := List.mem_of_getElem? hy
  refine aY.2 ⟨fun e1 => ?_, fun e1 => ?_⟩
  ·have : x.gs.any HT = true := List.any_eq_true.2 ⟨y, hym, by simp [HT, e1]⟩
   rw [this] at k
   exact k
  refine bg ?_
  rw [Ou]
  refine c6 ?_
  refine aY.2 ⟨fun e3 => ?_, fun e3 => ?_⟩
  ·have : x.gs.any HT = true := List.any_eq_true.2 ⟨y, hym, by simp [HT, e3]⟩
   rw [this] at k
   exact k
  refine ⟨x.gs.length - (j + 1), by omega, j + 1, by rw [aW (by omega)], rfl, by omega, ?_, rfl⟩
  rw [eo hy, List.any_append, ha]
  simp [HT, e1, e3]
 ·have F1 : j = x.gs.length := by omega
  subst F1
  rw [List.take_length] at ha
  rw [ha] at k
  exact k
end
def K2 : hU (Int × Int) := ⟨2, fun w => [.int .i64 w.1, .int .u64 w.2], fun _ => rfl, fun w v hv => by
 simp only [List.mem_cons, List.not_mem_nil, or_false] at hv; obtain rfl | rfl := hv <;> rfl⟩
inductive gE where
 | xU (l : List Int) (at_ : Nat)
 | tape (l : List (Int × Int)) (at_ : Nat)
structure jE where
 k : gE
 taken : List (Int × Int)
 sM : Option (Nat × Int) := none
def ZT (s : Option (Nat × Int)) (kind v : Int) : Option (Nat × Int) := match s with
 | none => none
 | some (w, d) => some (w, if kind = 3 ∨ kind = 4 then v else d)
def K3 : List PanicEntry := [{ v := .iface 240 (.agg #[]), recovered := false }]
def Xg (at_ kind n k v : Int) : List PanicEntry := [{ v := .iface 97 (.agg #[.int .i64 at_, .int .i64 kind, .int .i64 n, .int .i64 k, .int .u64 v]), recovered := false }]
def kK (n : Int) : Int := if 1 > n then 1 else n
def gE.next (k : gE) (kind m : Int) : gE × jQ := match k with
 | .xU l i => match l[i]? with
  | none => (.xU l i, .dh K3)
  | some v => (.xU l (i + 1), .num (Int.tmod v m))
 | .tape l i => match l[i]? with
  | none => (.tape l i, .dh K3)
  | some (q, v) => if q ≠ kind then (.tape l i, .dh (Xg i kind m q v)) else if v ≥ m then (.tape l i, .dh (Xg i kind m q v)) else (.tape l (i + 1), .num v)
def jE.draw (x : jE) (kind n : Int) : jE × jQ := match x.k.next kind (kK n) with
 | (k', .num v) => (⟨k', x.taken ++ [(kind, v)], ZT x.sM kind v⟩, .num v)
 | (k', .dh l) => (⟨k', x.taken, x.sM⟩, .dh l)
def gE.Ok : gE → Prop
 | .xU l i => l.length ≤ 1000000000 ∧ i ≤ l.length ∧ ∀ v ∈ l, 0 ≤ v ∧ v < 18446744073709551616
 | .tape l i => l.length ≤ 1000000000 ∧ i ≤ l.length ∧ ∀ v ∈ l, 0 ≤ v.2 ∧ v.2 < 18446744073709551616
def jE.Ok (x : jE) : Prop := x.k.Ok ∧ x.taken.length ≤ 1000000000
abbrev gF (A : Option Addr) (c : Nat) (l : List (Int × Int)) : HP := bE K2 95 A c l
abbrev ZU (A : Option Addr) (c : Nat) (l : List Int) : HP := bE AR 32 A c l
def kR : tj gE := ⟨fun b k => match k with
 | .xU l i => exs fun A : Option Addr => exs fun c : Nat => sep [pt b [.slice A l.length c, .int .i64 (i : Int)] 147, ZU A c l]
 | .tape l i => exs fun A : Option Addr => exs fun c : Nat => sep [pt b [.slice A l.length c, .int .i64 (i : Int)] 354, gF A c l]⟩
def jt : gE → Nat → Value
 | .xU _ _, b => .func (.func 59) #[.pointer (some ⟨b, 0, none⟩)] #[]
 | .tape _ _, b => .func (.func 198) #[.pointer (some ⟨b, 0, none⟩)] #[]
def jS : gE → Nat → Value
 | .xU _ _, b => .func (.func 60) #[.pointer (some ⟨b, 0, none⟩)] #[]
 | .tape _ _, b => .func (.func 199) #[.pointer (some ⟨b, 0, none⟩)] #[]
def vz : Option (Nat × Int) → Value
 | none => .nilFunc
 | some (w, _) => .func (.func 81) #[.pointer (some ⟨w, 0, none⟩)] #[]
def FH : Option (Nat × Int) → List HP
 | none => []
 | some (w, d) => [pt w [.int .i64 d] 182]
def cQ : tj jE := ⟨fun b x => exs fun A : Option Addr => exs fun c : Nat => exs fun kb : Nat =>
 sep [pt b [jt x.k kb, jS x.k kb, .slice A x.taken.length c, vz x.sM] 152, gF A c x.taken, ay kR kb x.k, sep (FH x.sM)]⟩
theorem We : bj Tryz.prog 149 95 2 16 [.int .i64 0, .int .u64 0] := bj.mk' (zv := .agg #[.int .i64 0, .int .u64 0]) (by kernel_rfl) (by kernel_rfl) rfl (by omega)
theorem OL : bj Tryz.prog 31 32 1 8 [.int .u64 0] := bj.mk' (zv := .int .u64 0) (by kernel_rfl) (by kernel_rfl) rfl (by omega)
theorem my {C : Ctx} {g : Nat} {first : Array Value} {args : List Value} {M : Mem} {K : Value → Mem → Prop} {Kp : List PanicEntry → Mem → Prop} (hg : 1 < g ∧ g < C.ok) (h : aa C.P g (first.toList ++ args).toArray M K Kp) : gZ C (.func (.func g) first #[]) args M K Kp := by
 unfold gZ
 simp only
 rw [if_pos hg]
 simpa using h
theorem Ag (n : Int) : 1 ≤ kK n := by unfold kK; split <;> omega
theorem FI {z : Int} (h0 : 0 ≤ z) (h : z < 18446744073709551616) : IntKind.wrap .u64 z = z := by
 obtain ⟨n, rfl⟩ := Int.eq_ofNat_of_zero_le h0
 rw [IntKind.wrap_u64]; omega
section
variable {R : Mem} {L L' L2 : List HP} {M : Mem} {K : Value → Mem → Prop} {Kp : List PanicEntry → Mem → Prop} {b : Nat} {x : jE}
theorem Ah {k : gE} {kind m : Int} (hok : k.Ok) (hm : 1 ≤ m) {k' : gE} {v : Int} (h : k.next kind m = (k', .num v)) : 0 ≤ v ∧ v < m := by
 cases k with
 | xU l i =>
  unfold gE.next at h
  dsimp only at h
  split at h
  ·cases h
  ·rename_i w hw
   cases h
   have := hok.2.2 w (List.mem_of_getElem? hw)
   exact ⟨Int.tmod_nonneg _ this.1, Int.tmod_lt_of_pos _ (by omega)⟩
 | tape l i =>
  unfold gE.next at h
  dsimp only at h
  split at h
  ·cases h
  ·rename_i q w hw
   have := hok.2.2 _ (List.mem_of_getElem? hw)
   split at h
   ·cases h
   ·split at h
    ·cases h
    ·cases h
     exact ⟨this.1, by omega⟩
theorem RH {k : gE} {kind m : Int} (hok : k.Ok) : (k.next kind m).1.Ok := by
 cases k with
 | xU l i =>
  unfold gE.next
  dsimp only
  split
  ·exact hok
  ·rename_i w hw
   have := (List.getElem?_eq_some_iff.1 hw).1
   exact ⟨hok.1, by omega, hok.2.2⟩
 | tape l i =>
  unfold gE.next
  dsimp only
  split
  ·exact hok
  ·rename_i q w hw
   have := (List.getElem?_eq_some_iff.1 hw).1
   split
   ·exact hok
   ·split
    ·exact hok
    ·exact ⟨hok.1, by omega, hok.2.2⟩
theorem HU {k : gE} {kind m : Int} {kb : Nat} : jt (k.next kind m).1 kb = jt k kb ∧ jS (k.next kind m).1 kb = jS k kb := by
 cases k with
 | xU l i => unfold gE.next; dsimp only; split <;> exact ⟨rfl, rfl⟩
 | tape l i =>
  unfold gE.next; dsimp only; split
  ·exact ⟨rfl, rfl⟩
  ·split
   ·exact ⟨rfl, rfl⟩
   ·split <;> exact ⟨rfl, rfl⟩
theorem Wf {k : gE} {kb : Nat} {kind m : Int} (h : Hp R (ay kR kb k :: L) M) (hok : k.Ok) (hm : 1 ≤ m) (ZV : m < 9223372036854775808)
  (g : match (k.next kind m).2 with
   | .num v => ∀ M', Hp R (ay kR kb (k.next kind m).1 :: L) M' → K (.int .u64 v) M'
   | .dh l => ∀ M', Hp R (ay kR kb (k.next kind m).1 :: L) M' → Kp l M') :
  gZ Cx (jt k kb) [.int .i64 kind, .int .i64 m] M K Kp := by
 cases k with
 | xU l i =>
  refine my ⟨by decide, by show _ < 255; decide⟩ ?_
  refine oR ?_
  obtain ⟨o1, o2, o3⟩ := hok
  unfold gE.next at g
  dsimp only at g
  have h2 := h.obj kR kb
  simp only [kR, Hp.de, Hp.aS, List.cons_append, List.nil_append] at h2
  obtain ⟨A, c, h2⟩ := h2
  clear h
  have h := h2
  clear h2
  have mk : ∀ {M : Mem} {i : Nat}, Hp R (pt kb [.slice A l.length c, .int .i64 (i : Int)] 147 :: ZU A c l :: L) M → Hp R (ay kR kb (.xU l i) :: L) M := by
   intro M i h
   refine Hp.wg ?_
   simp only [kR, Hp.de, Hp.aS, List.cons_append, List.nil_append]
   exact ⟨_, _, h⟩
  refine aG h (aF h ?_)
  refine aN.2 ⟨fun hge => ?_, fun hlt => ?_⟩
  ·have e : l[i]? = none := List.getElem?_eq_none_iff.2 (by omega)
   rw [e] at g
   exact g _ (mk h)
  ·obtain ⟨w, hw⟩ := aU (l := l) (i := i) (by omega)
   rw [hw] at g
   have hwb := o3 w (List.mem_of_getElem? hw)
   refine aG h ?_
   rw [aW (by omega)]
   refine au h ?_
   clear h; intro M h
   refine aF h (aG h ?_)
   have e : IntKind.wrap .i64 (((i + 1 : Nat) : Int) - 1) = (i : Int) := by rw [cC (by omega) (by omega)]; omega
   rw [e]
   obtain ⟨q, rfl⟩ := h.bM (A := A) (by omega) (by decide)
   refine ⟨by omega, by omega, bg ?_⟩
   refine be (Src.at (h.src (A := some ⟨q, 0, none⟩)) h (i := i) (j := 0) hw rfl (by simp [AR])) ?_
   rw [FI (by omega) (by omega)]
   exact ⟨by omega, g _ (mk h)⟩
 | tape l i =>
  refine my ⟨by decide, by show _ < 255; decide⟩ ?_
  refine r9 ?_
  obtain ⟨o1, o2, o3⟩ := hok
  unfold gE.next at g
  dsimp only at g
  have h2 := h.obj kR kb
  simp only [kR, Hp.de, Hp.aS, List.cons_append, List.nil_append] at h2
  obtain ⟨A, c, h2⟩ := h2
  clear h
  have h := h2
  clear h2
  have mk : ∀ {M : Mem} {i : Nat}, Hp R (pt kb [.slice A l.length c, .int .i64 (i : Int)] 354 :: gF A c l :: L) M → Hp R (ay kR kb (.tape l i) :: L) M := by
   intro M i h
   refine Hp.wg ?_
   simp only [kR, Hp.de, Hp.aS, List.cons_append, List.nil_append]
   exact ⟨_, _, h⟩
  refine aG h (aF h ?_)
  refine aN.2 ⟨fun hge => ?_, fun hlt => ?_⟩
  ·have e : l[i]? = none := List.getElem?_eq_none_iff.2 (by omega)
   rw [e] at g
   exact g _ (mk h)
  ·obtain ⟨⟨q, w⟩, hw⟩ := aU (l := l) (i := i) (by omega)
   rw [hw] at g
   dsimp only at g
   have hwb := o3 _ (List.mem_of_getElem? hw)
   dsimp only at hwb
   refine aF h (aG h ?_)
   obtain ⟨q0, rfl⟩ := h.bM (A := A) (by omega) (by decide)
   refine ⟨by omega, by omega, bg ?_⟩
   refine be (Src.at (h.src (A := some ⟨q0, 0, none⟩)) h (i := i) (j := 0) hw rfl (by simp [K2])) ?_
   refine be (Src.at (h.src (A := some ⟨q0, 0, none⟩)) h (i := i) (j := 1) hw rfl (by simp [K2])) ?_
   refine aj h ?_
   clear h; intro kk M h
   refine au h ?_
   clear h; intro M h
   refine au h ?_
   clear h; intro M h
   refine aG h ?_
   refine dJ.2 ⟨fun hne => ?_, fun heq => ?_⟩
   ·rw [if_pos hne] at g
    refine aG h (aG h (aG h ?_))
    exact g _ (mk (h.sub br))
   ·rw [if_neg (by simpa using heq)] at g
    refine aG h ?_
    rw [FI (by omega) (by omega)]
    refine aN.2 ⟨fun hge => ?_, fun HV => ?_⟩
    ·rw [if_pos hge] at g
     refine aG h (aG h (aG h ?_))
     exact g _ (mk (h.sub br))
    ·rw [if_neg HV] at g
     refine aG h ?_
     rw [aW (by omega)]
     refine au h ?_
     clear h; intro M h
     refine aG h ?_
     exact g _ (mk (h.sub br))
theorem vA (h : Hp R L M) [o : cq cQ b L x L'] : ∃ A c kb, Hp R (pt b [jt x.k kb, jS x.k kb, .slice A x.taken.length c, vz x.sM] 152 :: gF A c x.taken :: ay kR kb x.k :: sep (FH x.sM) :: L') M := by
 have := h.obj cQ b
 unfold ay at this
 simp only [cQ, Hp.de] at this
 obtain ⟨A, c, kb, this⟩ := this
 exact ⟨A, c, kb, Hp.aS.1 this⟩
theorem w7 {A : Option Addr} {c kb : Nat} (h : Hp R (pt b [jt x.k kb, jS x.k kb, .slice A x.taken.length c, vz x.sM] 152 :: gF A c x.taken :: ay kR kb x.k :: sep (FH x.sM) :: L) M) : Hp R (ay cQ b x :: L) M := by
 refine Hp.wg ?_
 simp only [cQ, Hp.de]
 exact ⟨_, _, _, Hp.aS.2 h⟩
theorem K4 {w : Nat} {d kind v : Int} (h : Hp R (pt w [.int .i64 d] 182 :: L) M) (h0 : 0 ≤ v) (h1 : v < 9223372036854775808) (g : ∀ M', Hp R (pt w [.int .i64 (if kind = 3 ∨ kind = 4 then v else d)] 182 :: L) M' → K (.tuple #[]) M') :
  aa Tryz.prog 81 #[.pointer (some ⟨w, 0, none⟩), .agg #[.int .i64 kind, .int .u64 v]] M K Kp := by
 refine qc ?_
 refine aj h ?_
 clear h; intro k1 M h
 refine aG h (aY.2 ⟨fun e => ?_, fun e => aG h (aY.2 ⟨fun e2 => ?_, fun e2 => ?_⟩)⟩)
 ·refine aG h ?_
  rw [cC h0 h1]
  refine au h ?_
  clear h; intro M h
  rw [if_pos (.inl e)] at g
  exact g M (h.sub br)
 ·refine aG h ?_
  rw [cC h0 h1]
  refine au h ?_
  clear h; intro M h
  rw [if_pos (.inr e2)] at g
  exact g M (h.sub br)
 ·rw [if_neg (by omega)] at g
  exact g M (h.sub br)
theorem qx {kind n : Int} (h : Hp R L M) [o : cq cQ b L x L'] (hok : x.Ok) (hn : n < 9223372036854775808) (ht : x.taken.length < 100000000)
  (g : match (x.draw kind n).2 with
   | .num v => ∀ M', Hp R (ay cQ b (x.draw kind n).1 :: L') M' → K (.int .i64 v) M'
   | .dh l => ∀ M', Hp R (ay cQ b (x.draw kind n).1 :: L') M' → Kp l M') :
  aa Tryz.prog 107 #[.pointer (some ⟨b, 0, none⟩), .int .i64 kind, .int .i64 n] M K Kp := by
 refine oS ?_
 have h' := vA h (b := b)
 clear h
 obtain ⟨A, c, kb, h⟩ := h'
 refine BL h ?_
 have em : (if (1 : Int) > n then 1 else n) = kK n := rfl
 rw [em]
 have hm1 := Ag n
 have ZV : kK n < 9223372036854775808 := by unfold kK; split <;> omega
 have hnv := HU (k := x.k) (kind := kind) (m := kK n) (kb := kb)
 obtain ⟨Q9, AO⟩ := hnv
 have HW := fun k' v => Ah (k := x.k) (kind := kind) hok.1 hm1 (k' := k') (v := v)
 unfold jE.draw at g
 replace h : Hp R (ay kR kb x.k :: pt b [jt x.k kb, jS x.k kb, .slice A x.taken.length c, vz x.sM] 152 :: gF A c x.taken :: sep (FH x.sM) :: L') M := h.sub br
 refine Wf (kind := kind) h hok.1 hm1 ZV ?_
 clear h
 generalize hr : x.k.next kind (kK n) = r at g Q9 AO HW
 obtain ⟨k', d⟩ := r
 dsimp only at Q9 AO ⊢
 rw [← Q9, ← AO]
 cases d with
 | dh l =>
  dsimp only at g ⊢
  intro M h
  exact g _ (w7 (x := ⟨k', x.taken, x.sM⟩) (h.sub br))
 | num v =>
  dsimp only at g ⊢
  obtain ⟨v0, v1⟩ := HW k' v rfl
  intro M h
  refine c6 ?_
  refine aj h ?_
  clear h; intro k5 M h
  refine au h ?_
  clear h; intro M h
  refine au h ?_
  clear h; intro M h
  refine aF h (aG h (aG h ?_))
  refine aj h ?_
  clear h; intro gT M h
  refine h.aT (A := A) We [(kind, v)] rfl rfl (by simp only [List.length_singleton]; omega) ?_
  clear h; intro A' c' M h
  refine aQ ?_
  refine au h ?_
  clear h; intro M h
  refine BL h ?_
  have h2 : Hp R (sep (FH x.sM) :: pt b [jt k' kb, jS k' kb, .slice A' (x.taken ++ [(kind, v)]).length c', vz x.sM] 152 :: gF A' c' (x.taken ++ [(kind, v)]) :: ay kR kb k' :: pt k5 [.int .i64 kind, .int .u64 v] 95 :: L') M := h.sub br
  clear h
  generalize x.sM = s0 at h2 g ⊢
  rcases s0 with _ | ⟨w, d0⟩
  ·unfold vz xm
   dsimp only
   refine ae (aG h2 ?_)
   rw [cC (by omega) (by omega)]
   exact g _ (w7 (x := ⟨k', x.taken ++ [(kind, v)], none⟩) (h2.sub br))
  ·have h3 : Hp R (pt w [.int .i64 d0] 182 :: pt b [jt k' kb, jS k' kb, .slice A' (x.taken ++ [(kind, v)]).length c', vz (some (w, d0))] 152 :: gF A' c' (x.taken ++ [(kind, v)]) :: ay kR kb k' :: pt k5 [.int .i64 kind, .int .u64 v] 95 :: L') M := Hp.aS.1 h2
   clear h2
   have e : vz (some (w, d0)) = .func (.func 81) #[.pointer (some ⟨w, 0, none⟩)] #[] := rfl
   unfold xm
   rw [e]
   dsimp only
   refine ai (BL h3 (aG h3 (aG h3 ?_)))
   rw [e]
   refine my (args := [_]) ⟨by decide, by show _ < 255; decide⟩ ?_
   refine K4 (v := v) h3 (by omega) (by omega) ?_
   clear h3; intro M h
   refine ⟨rfl, aG h ?_⟩
   rw [cC (by omega) (by omega)]
   refine g _ (w7 (x := ⟨k', x.taken ++ [(kind, v)], some (w, if kind = 3 ∨ kind = 4 then v else d0)⟩) (A := A') (c := c') (kb := kb) ?_)
   have h4 : Hp R (sep [pt w [.int .i64 (if kind = 3 ∨ kind = 4 then v else d0)] 182] :: pt b [jt k' kb, jS k' kb, .slice A' (x.taken ++ [(kind, v)]).length c', vz (some (w, d0))] 152 :: gF A' c' (x.taken ++ [(kind, v)]) :: ay kR kb k' :: L') M := Hp.aS.2 (h.sub br)
   exact h4.sub br
theorem sZ {B : Option Addr} {m cb : Nat} {l : List Int} (h : Hp R L M) (hB : Src R L B (AR.cells l)) (hm : m = l.length) (hl : l.length ≤ 1000000000)
  (g : ∀ b M', Hp R (ay cQ b ⟨.xU l 0, [], none⟩ :: L) M' → K (.pointer (some ⟨b, 0, none⟩)) M') :
  aa Tryz.prog 16 #[.slice B m cb] M K Kp := by
 refine wL ?_
 refine aj h ?_
 clear h; intro k1 M h
 refine h.lY AR OL l hB.cons hm (by omega) ?_
 clear h; intro A' c' M h
 refine aQ ?_
 refine aj h ?_
 clear h; intro k8 M h
 refine aj h ?_
 clear h; intro fR M h
 have h2 := h.bY K2 95
 refine g fR _ (w7 (x := ⟨.xU l 0, [], none⟩) (A := none) (c := 0) (kb := k8) ?_)
 have h3 : Hp R (ay kR k8 (.xU l 0) :: gF none 0 [] :: pt fR [jt (.xU l 0) k8, jS (.xU l 0) k8, .slice none 0 0, .nilFunc] 152 :: L) M := by
  refine Hp.wg ?_
  simp only [kR, Hp.de, Hp.aS, List.cons_append, List.nil_append]
  exact ⟨A', c', h2.sub br⟩
 have h4 := Hp.aS (l := []).2 h3
 exact h4.sub br
theorem K5 {kind n : Int} (hok : x.Ok) (hn : n < 9223372036854775808) (ht : x.taken.length < 100000000) :
  ji R (.func (.func 107) #[.pointer (some ⟨b, 0, none⟩)] #[]) kind n (x.draw kind n).2 (ay cQ b x :: L) (ay cQ b (x.draw kind n).1 :: L) := by
 intro Q M K Kp h k
 refine my ⟨by decide, by show _ < 255; decide⟩ ?_
 refine qx h hok hn ht ?_
 cases hd : (x.draw kind n).2 with
 | num v => rw [hd] at k; exact fun M' h' => k M' h'.swap
 | dh l => rw [hd] at k; exact fun M' h' => k M' h'.swap
end
end Go.Proofs
