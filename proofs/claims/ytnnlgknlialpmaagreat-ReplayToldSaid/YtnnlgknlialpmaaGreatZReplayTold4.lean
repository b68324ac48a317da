/- A part of proofs about one program. -/
import Derived.Test.YtnnlgknlialpmaaGreatZReplayTold2
import Derived.Test.YtnnlgknlialpmaaGreatZReplayTold3
set_option linter.unusedVariables false
namespace Go.Proofs
open Go.AF
set_option maxRecDepth 100000
set_option maxHeartbeats 1000000
attribute [local irreducible] aE cY gh cz ay fL az aF aX bh bJ aK
def slE : gi (Option Addr × Nat × Nat) := ⟨1, fun t => [.slice t.1 t.2.1 t.2.2], fun _ => rfl, fun w v hv => by simp only [List.mem_singleton] at hv; subst hv; rfl⟩
structure lD (R : Mem) (pa : PA) (p : cM) : Prop where
 funcs : ∃ ts : List (Option Addr × Nat × Nat), RS slE R pa.f pa.fc ts ∧ ts.length = p.funcs.length ∧ ∀ (i : Nat) t f, ts[i]? = some t → p.funcs[i]? = some f → RS MZ R t.1 t.2.2 f ∧ t.2.1 = f.length
 cases : RS uT R pa.k pa.kc p.cases
theorem lD.le {R R' : Mem} {pa : PA} {p : cM} (h : lD R pa p) (hle : R.le R') : lD R' pa p := by
 obtain ⟨⟨ts, h1, h2, h3⟩, h4⟩ := h
 exact ⟨⟨ts, h1.le hle, h2, fun i t f a b => ⟨(h3 i t f a b).1.le hle, (h3 i t f a b).2⟩⟩, h4.le hle⟩
def Wd.next (x : Wd) (g : Int) : Wd := x.b9 g ((au x g).dw (au x g).top.next)
def Mc (n : Int) : List PanicEntry := [{ v := .iface 340 (.int .i64 n), recovered := false }]
def eB (R : Mem) (pa : PA) (p : cM) (dr : Value) (fnum : Nat) (x : Wd) (g : Int) (i : eD) (r : Out Wd) (L L2 : List HP) : Prop :=
 ∀ (gg : List GA) (b bs c : Nat) (M : Mem) (K : Value → Mem → Prop) (Kp : List PanicEntry → Mem → Prop) (Q : HP), Hp R (ax (aU pa p gg dr) b x :: Q :: L) M → gg[g.toNat]? = some (some ⟨bs, 0, none⟩, c) →
  Out.Ok r (fun y => ∀ jk M', Hp R (ax (aU pa p jk dr) b y :: Q :: L2) M' → K (.tuple #[]) M') (fun n y => ∀ jk M', Hp R (ax (aU pa p jk dr) b y :: Q :: L2) M' → Kp (Mc n) M') (fun l y => ∀ jk M', Hp R (ax (aU pa p jk dr) b y :: Q :: L2) M' → Kp l M') →
  aa Tryz.prog fnum #[.pointer (some ⟨b, 0, none⟩), .int .i64 g, .pointer (some ⟨bs, ((au x g).fs.length - 1) * 11, none⟩), .agg #[.int .i64 i.op, .int .i64 i.a, .int .i64 i.b, .int .i64 i.c]] M K Kp
theorem Out.Ok.mono {α : Type} {r : Out α} {k1 SW : α → Prop} {k2 k2' : Int → Wd → Prop} {k3 : List PanicEntry → Wd → Prop} (h : r.Ok k1 k2 k3) (h1 : ∀ y, k1 y → SW y) (h2 : ∀ n y, k2 n y → k2' n y) : r.Ok SW k2' := by
 cases r with
 | on y => exact h1 y h
 | eF n y => exact h2 n y h
 | ee l y => trivial
section
variable {R : Mem} {L L' L2 : List HP} {M : Mem} {K : Value → Mem → Prop} {Kp : List PanicEntry → Mem → Prop} {pa : PA} {p : cM} {gg : List GA} {dr : Value} {b : Nat} {x : Wd} {g : Int} {i : eD}
theorem K3 (hp : lD R pa p) (hk : C5 p x g i) (hs : x.Sm) : eB R pa p dr 215 x g i (x.send p g i) L L := fun gg b bs c M K Kp Q h dh k =>
 C6 h hp.cases dh hk hs (k.mono (fun y hy M' h' => hy gg M' h') (fun n y hy M' h' => hy gg M' h'))
theorem K4 (hk : vJ x g i) (hs : x.Sm) : eB R pa p dr 216 x g i (.on (x.recv g i)) L L := fun gg b bs c M K Kp Q h dh k =>
 C7 h dh hk hs fun M' h' => k gg M' h'
theorem K5 (hg : bA x g) (ha : bz i.a) (hs : x.Sm) : eB R pa p dr 221 x g i (x.emit g i) L L := fun gg b bs c M K Kp Q h dh k =>
 C8 h dh hg ha hs (k.mono (fun y hy M' h' => hy gg M' h') (fun n y hy M' h' => hy gg M' h'))
theorem IG (hg : bA x g) (hb : bz i.b) (hc : bz i.c) (hs : x.Sm) : eB R pa p dr 213 x g i (x.spawn g i) L L := fun gg b bs c M K Kp Q h dh k =>
 Bh h dh hg hb hc hs (k.mono (fun y hy => hy) (fun n y hy M' h' => hy gg M' h'))
theorem K6 (hp : lD R pa p) (hk : qS p x i) (hs : x.Sm) : eB R pa p dr 217 x g i (x.shut p i) L L := fun gg b bs c M K Kp Q h dh k =>
 Da (f := .nilFunc) h hp.cases hk hs (k.mono (fun y hy M' h' => hy gg M' h') (fun n y hy M' h' => hy gg M' h'))
def OW : AL := [(9, .func (.func 211) #[] #[]), (10, .func (.func 212) #[] #[]), (11, .func (.func 213) #[] #[]), (12, .func (.func 214) #[] #[]), (13, .func (.func 215) #[] #[]), (14, .func (.func 216) #[] #[]), (15, .func (.func 217) #[] #[]), (17, .func (.func 218) #[] #[]), (18, .func (.func 219) #[] #[]), (19, .func (.func 220) #[] #[]), (20, .func (.func 221) #[] #[]), (22, .func (.func 222) #[] #[])]
theorem Bn (h : Hp R L M) (k : ∀ m M', Hp R (ob m (iX OW) :: L) M' → K (.map (some m)) M') : aa Tryz.prog 193 #[] M K Kp := by
 refine uW ?_
 refine Lw h ?_
 clear h
 intro m M h
 replace h : Hp R (ob m (iX []) :: L) M := h
 have hu : Tryz.prog.underlying 345 = some (.map 25 344) := by kernel_rfl
 have hk : Tryz.prog.underlying 25 = some (.int .i64) := by kernel_rfl
 iterate 12
  refine s9 h hu hk ?_
  clear h
  intro M h
 exact k _ _ h
end
theorem vL {α β : Type} : ∀ {l : List α} {m : List β} {i : Nat} {u : α} {v : β}, (l.zip m).set i (u, v) = (l.set i u).zip (m.set i v)
 | [], _, _, _, _ => by simp
 | a :: l, [], i, u, v => by simp
 | a :: l, w :: m, 0, u, v => rfl
 | a :: l, w :: m, i + 1, u, v => by
  have := vL (l := l) (m := m) (i := i) (u := u) (v := v)
  simp [this]
theorem sx {x : Wd} {g : Int} (h0 : 0 ≤ g) (h1 : g < x.gs.length) : x.b9 g (au x g) = x := by
 obtain ⟨y, hy⟩ := aL (l := x.gs) (i := g.toNat) (by omega)
 have e : au x g = y := by simp [au, hy]
 rw [e]
 obtain ⟨hi, rfl⟩ := List.getElem?_eq_some_iff.1 hy
 simp [Wd.b9]
section
variable {R : Mem} {L L' L2 : List HP} {M : Mem} {K : Value → Mem → Prop} {Kp : List PanicEntry → Mem → Prop} {pa : PA} {p : cM} {gg : List GA} {dr : Value} {b : Nat} {x : Wd} {g : Int} {i : eD}
theorem K7 (hg : bA x g) (ha : bz i.a) (hin : bz (au x g).top.qk) : eB R pa p dr 212 x g i (.on (x.back g i)) L L := by
 intro gg b bs c M K Kp Q h dh k
 refine nC ?_
 replace k : ∀ jk M', Hp R (ax (aU pa p jk dr) b (x.back g i) :: Q :: L) M' → K (.tuple #[]) M' := k
 have zk := hg
 obtain ⟨h0, h1, h2, h3⟩ := zk
 unfold Wd.back at k
 refine aj h ?_
 clear h
 intro kb M h
 have h' := e7 h (b := b) h0 h1 dh
 clear h
 obtain ⟨a, gb, hl, ei, h⟩ := h'
 have hl' := hl
 obtain ⟨l1, l2, l3, l4⟩ := hl'
 repeat (first|(refine aj h ?_;clear h;intro kb M h)|(refine ak h ?_;clear h;intro M h)|refine St.to h ?_|(apply Exists.intro;(repeat apply Exists.intro);refine And.intro rfl ?_)|refine aq ?_|refine af ?_|refine ai ?_)
 refine ry h ei fun q hq => ?_
 repeat (first|(refine aj h ?_;clear h;intro kb M h)|(refine ak h ?_;clear h;intro M h)|refine St.to h ?_|(apply Exists.intro;(repeat apply Exists.intro);refine And.intro rfl ?_)|refine aq ?_|refine af ?_|refine ai ?_)
 refine ⟨ha.1, ha.2, qO h (cV h2) ha rfl ?_⟩
 refine zj h h2 (by omega) (cV h2) hin ?_ ?_
 ·intro hlt
  rw [if_neg (by omega)] at k
  refine ⟨_, _, _, _, rfl, ai ?_⟩
  repeat (first|(refine aj h ?_;clear h;intro kb M h)|(refine ak h ?_;clear h;intro M h)|refine St.to h ?_|(apply Exists.intro;(repeat apply Exists.intro);refine And.intro rfl ?_)|refine aq ?_|refine af ?_|refine ai ?_)
  refine ry h ei fun q2 m9 => ?_
  repeat (first|(refine aj h ?_;clear h;intro kb M h)|(refine ak h ?_;clear h;intro M h)|refine St.to h ?_|(apply Exists.intro;(repeat apply Exists.intro);refine And.intro rfl ?_)|refine aq ?_|refine af ?_|refine ai ?_)
  refine bB.2 ⟨fun e0 => ?_, fun e0 => ?_⟩
  ·rw [if_pos e0] at k
   repeat (first|(refine aj h ?_;clear h;intro kb M h)|(refine ak h ?_;clear h;intro M h)|refine St.to h ?_|(apply Exists.intro;(repeat apply Exists.intro);refine And.intro rfl ?_)|refine aq ?_|refine af ?_|refine ai ?_)
   replace h := b6 h gb hl ei dh
   have jt := cy (y := { au x g with st := 4 }) (g := g) hl
   replace h := aM (a := a) (p := p) (pa := pa) (dr := dr) (gg := gg) (x := { x.b9 g { au x g with st := 4 } with end_ := 1 }) jt h b
   exact k _ _ h.bH
  ·rw [if_neg e0] at k
   replace h := b6 h gb hl ei dh
   have jt := cy (y := { au x g with st := 4 }) (g := g) hl
   replace h := aM (a := a) (p := p) (pa := pa) (dr := dr) (gg := gg) (x := x.b9 g { au x g with st := 4 }) jt h b
   exact k _ _ h.bH
 ·intro hge b' c' M' fr hfr h'
  clear h
  have h := h'
  clear h'
  rw [if_pos hge] at k
  refine ⟨_, _, _, _, rfl, af ?_⟩
  repeat (first|(refine aj h ?_;clear h;intro kb M h)|(refine ak h ?_;clear h;intro M h)|refine St.to h ?_|(apply Exists.intro;(repeat apply Exists.intro);refine And.intro rfl ?_)|refine aq ?_|refine af ?_|refine ai ?_)
  refine ry h ei fun q2 m9 => ?_
  repeat (first|(refine aj h ?_;clear h;intro kb M h)|(refine ak h ?_;clear h;intro M h)|refine St.to h ?_|(apply Exists.intro;(repeat apply Exists.intro);refine And.intro rfl ?_)|refine aq ?_|refine af ?_|refine ai ?_)
  have hlen : (au x g).fs.length - 1 = (((au x g).fs.take ((au x g).fs.length - 1)).set ((au x g).fs.length - 2) (fr.set (au x g).top.qk (bt x g i.a))).length := by simp
  have hfr2 : (au x g).fs.getD ((au x g).fs.length - 2) ⟨0, 0, [], 0⟩ = fr := by rw [List.getD_eq_getElem?_getD, hfr]; rfl
  have h5 := jV (A := some ⟨b', 0, none⟩) (fs := ((au x g).fs.take ((au x g).fs.length - 1)).set ((au x g).fs.length - 2) (fr.set (au x g).top.qk (bt x g i.a))) h gb hlen
  have hi := (List.getElem?_eq_some_iff.1 ei).1
  have h6 := h5.cQ eA gb ei (by rw [List.length_zip]; omega)
  rw [vL] at h6
  have jt : dz (gg.set g.toNat (some ⟨b', 0, none⟩, c')) a (x.b9 g ((au x g).back (bt x g i.a))) := ⟨by simpa [Wd.b9] using l1, by simpa [Wd.b9] using l2, l3, l4⟩
  have e : (au x g).back (bt x g i.a) = ⟨(au x g).st, ((au x g).fs.take ((au x g).fs.length - 1)).set ((au x g).fs.length - 2) (fr.set (au x g).top.qk (bt x g i.a)), (au x g).wt⟩ := by
   unfold pJ.back; rw [hfr2]
  rw [e] at jt k
  have h7 := aM (a := a) (p := p) (pa := pa) (dr := dr) (gg := gg.set g.toNat (some ⟨b', 0, none⟩, c')) (x := x.b9 g ⟨(au x g).st, ((au x g).fs.take ((au x g).fs.length - 1)).set ((au x g).fs.length - 2) (fr.set (au x g).top.qk (bt x g i.a)), (au x g).wt⟩) jt h6 b
  exact k _ _ (h7.sub bG)
end
def Out.fin : Out Wd → Wd
 | .on y => y
 | .eF n y => { y with end_ := 2, code := n }
 | .ee _ y => y
def II (op : Int) : Out Wd → Bool
 | .on _ => op == 12 || op == 17
 | .eF _ _ => false
 | .ee _ _ => false
inductive Step (R : Mem) (pa : PA) (p : cM) (dr : Value) (x : Wd) (g : Int) (code : List eD) : Out Wd → Bool → List HP → List HP → Prop where
 | out {L : List HP} (h : (code.length : Int) ≤ (au x g).top.pc) : Step R pa p dr x g code (.eF (-7) x) false L L
 | pure {L : List HP} (i : eD) (h : code[(au x g).top.pc.toNat]? = some i) (h0 : 0 ≤ i.op) (h8 : i.op ≤ 8) (hk : i.ju) : Step R pa p dr x g code (.on (x.b9 g ((au x g).dw ((au x g).top.next.pure i)))) false L L
 | OX {L L2 : List HP} {r : Out Wd} (i : eD) (h : code[(au x g).top.pc.toNat]? = some i) (PI : i.op = 16) (hs : eB R pa p dr 191 x g i r L L2) : Step R pa p dr x g code r false L L2
 | OY {L L2 : List HP} {r : Out Wd} (i : eD) (h : code[(au x g).top.pc.toNat]? = some i) (h21 : i.op = 21) (hs : eB R pa p dr 192 x g i r L L2) : Step R pa p dr x g code r false L L2
 | dflt {L L2 : List HP} {r : Out Wd} (i : eD) (fn : Nat) (h : code[(au x g).top.pc.toNat]? = some i) (h8 : 8 < i.op) (PI : i.op ≠ 16) (h21 : i.op ≠ 21) (hf : w9 OW i.op = some (.func (.func fn) #[] #[])) (hn : 1 < fn ∧ fn < 255)
   (hs : eB R pa p dr fn (x.next g) g i r L L2) : Step R pa p dr x g code r (II i.op r) L L2
section
variable {R : Mem} {L L' L2 : List HP} {M : Mem} {K : Value → Mem → Prop} {Kp : List PanicEntry → Mem → Prop} {pa : PA} {p : cM} {gg : List GA} {dr : Value} {b : Nat} {x : Wd} {g : Int} {i : eD}
theorem OZ {c bs j : Nat} {l : List gm} {f : gm} {G : Int → Prop} (h : Hp R L M) [q : bZ (some ⟨bs, 0, none⟩) L gm hJ 275 c l L'] (hi : l[j]? = some f) (g : G f.fn) : aE (M.ld ⟨bs, j * 11, none⟩) .i64 G := by
 refine aW (Src.at (h.src (A := some ⟨bs, 0, none⟩)) h (i := j) (j := 0) hi rfl ?_) g
 show _ = 0 + (j * 11 + 0); omega
theorem zm {n : Int} {v : Value} {Q : HP} (h : Hp R (ax (aU pa p gg dr) b x :: Q :: L) M) (k : ∀ M', Hp R (ax (aU pa p gg dr) b { x with end_ := 2, code := n } :: L) M' → K v M') :
  bW Tryz.prog 188 (.pointer (some ⟨b, 0, none⟩)) K Kp v (.panicking (Mc n)) M := by
 refine CV ?_
 have h' := bS h (b := b)
 clear h
 obtain ⟨a, hl, h⟩ := h'
 repeat (first|(refine aj h ?_;clear h;intro kb M h)|(refine ak h ?_;clear h;intro M h)|refine St.to h ?_|(apply Exists.intro;(repeat apply Exists.intro);refine And.intro rfl ?_)|refine aq ?_|refine af ?_|refine ai ?_)
 exact k _ (gP (a := a) (x := { x with end_ := 2, code := n }) hl (h.sub bG))
theorem uh {k : Nat} {bw : Nat} (h : Hp R L M) [o : iF k L [.int .i64 i.op, .int .i64 i.a, .int .i64 i.b, .int .i64 i.c] 27 L'] (g : K (.bool (i.op == 12 || i.op == 17)) M) :
  aE (M.ld ⟨k, 0, none⟩) .i64 fun n => aK (n == 12) (bW Tryz.prog 188 (.pointer (some ⟨bw, 0, none⟩)) K Kp (.bool true) .returning M)
   (aE (M.ld ⟨k, 0, none⟩) .i64 fun n => bW Tryz.prog 188 (.pointer (some ⟨bw, 0, none⟩)) K Kp (.bool (n == 17)) .returning M) := by
 have hp := h.pick o.pick
 refine ae hp ?_
 refine bB.2 ⟨fun e => ?_, fun e => ?_⟩
 ·rw [e] at g; exact AV g
 ·refine ae hp ?_
  have : (i.op == 12) = false := by simpa using e
  rw [this, Bool.false_or] at g
  exact AV g
def IJ (R : Mem) (pa : PA) (p : cM) (dr : Value) (b : Nat) (L2 : List HP) (K : Value → Mem → Prop) (Kp : List PanicEntry → Mem → Prop) (r : Out Wd) (rest : Bool) : Prop := match r with
 | .ee l y => ∀ jk M', Hp R (ax (aU pa p jk dr) b y :: L2) M' → bW Tryz.prog 188 (.pointer (some ⟨b, 0, none⟩)) K Kp (.bool false) (.panicking l) M'
 | .on y => ∀ jk M', Hp R (ax (aU pa p jk dr) b y :: L2) M' → K (.bool rest) M'
 | .eF n y => ∀ jk M', Hp R (ax (aU pa p jk dr) b { y with end_ := 2, code := n } :: L2) M' → K (.bool rest) M'
theorem Bp {code : List eD} {r : Out Wd} {rest : Bool} (h : Hp R L M) [o : sk b L pa p gg dr x L'] (hp : lD R pa p) (hg : bA x g) (hfn : 0 ≤ (au x g).top.fn) (qV : p.funcs[(au x g).top.fn.toNat]? = some code)
  (IK : 0 ≤ (au x g).top.pc ∧ (au x g).top.pc < 1000000000) (hs : Step R pa p dr x g code r rest L' L2)
  (k : IJ R pa p dr b L2 K Kp r rest) : aa Tryz.prog 159 #[.pointer (some ⟨b, 0, none⟩), .int .i64 g] M K Kp := by
 refine qK ?_
 have zk := hg
 obtain ⟨h0, h1, h2, h3⟩ := zk
 have h' := gQ h (b := b) h0 h1
 clear h
 obtain ⟨a, gb, A, c, hl, ei, dh, h⟩ := h'
 have hl' := hl
 obtain ⟨l1, l2, l3, l4⟩ := hl'
 obtain ⟨bs, rfl⟩ := h.bj (A := A) h2 (by decide)
 have hcl : ∀ {M : Mem}, Hp R (pt gb (mH (au x g) (some ⟨bs, 0, none⟩) c) 229 :: qN (some ⟨bs, 0, none⟩) c (au x g).fs :: pt b (jv pa p dr a x) 161 :: jg eA a.gb (x.gs.zip gg) g.toNat :: ov a x L') M → Hp R (ax (aU pa p gg dr) b x :: L') M := by
  intro M h
  replace h := b6 h gb hl ei dh
  have jt := cy (y := au x g) (g := g) hl
  replace h := aM (a := a) (p := p) (pa := pa) (dr := dr) (gg := gg) (x := x.b9 g (au x g)) jt h b
  rwa [sx h0 h1] at h
 repeat (first|(refine aj h ?_;clear h;intro kb M h)|(refine ak h ?_;clear h;intro M h)|refine St.to h ?_|(apply Exists.intro;(repeat apply Exists.intro);refine And.intro rfl ?_)|refine aq ?_|refine af ?_|refine ai ?_)
 refine ry h ei fun q hq => ?_
 repeat (first|(refine aj h ?_;clear h;intro kb M h)|(refine ak h ?_;clear h;intro M h)|refine St.to h ?_|(apply Exists.intro;(repeat apply Exists.intro);refine And.intro rfl ?_)|refine aq ?_|refine af ?_|refine ai ?_)
 refine jT h2 (by omega) ?_
 repeat (first|(refine aj h ?_;clear h;intro kb M h)|(refine ak h ?_;clear h;intro M h)|refine St.to h ?_|(apply Exists.intro;(repeat apply Exists.intro);refine And.intro rfl ?_)|refine aq ?_|refine af ?_|refine ai ?_)
 refine OZ h (cV h2) ?_
 obtain ⟨ts, hts, SV, hrow⟩ := hp.funcs
 have hfl := (List.getElem?_eq_some_iff.1 qV).1
 obtain ⟨t, ht⟩ := aL (l := ts) (i := (au x g).top.fn.toNat) (by omega)
 obtain ⟨JA, SX⟩ := hrow _ t code ht qV
 obtain ⟨tA, tn, tc⟩ := t
 dsimp only at JA SX
 subst SX
 refine ⟨hfn, by omega, ?_⟩
 obtain ⟨fb, fo, hfb⟩ := hts.some (by omega) (by decide)
 rw [hfb] at hts ⊢
 refine aS ?_
 refine MS (Src.at (hts.src (L := _)) h (i := (au x g).top.fn.toNat) (j := 0) ht rfl (by simp [slE])) ?_
 dsimp only
 refine aS ?_
 refine vB h (cV h2) rfl ?_
 refine aH.2 ⟨fun hge => ?_, fun hlt => ?_⟩
 ·cases hs with
  | out _ =>
   have h5 : Hp R (ax (aU pa p gg dr) b x :: fact True :: L') M := (Hp.dZ.2 ⟨trivial, hcl h⟩).swap
   exact zm h5 fun M' h' => k gg M' h'
  | pure i hi => have := (List.getElem?_eq_some_iff.1 hi).1; omega
  | OX i hi => have := (List.getElem?_eq_some_iff.1 hi).1; omega
  | OY i hi => have := (List.getElem?_eq_some_iff.1 hi).1; omega
  | dflt i fn hi => have := (List.getElem?_eq_some_iff.1 hi).1; omega
 refine aS ?_
 refine vB h (cV h2) rfl ?_
 refine ⟨IK.1, by omega, ?_⟩
 obtain ⟨i, hi⟩ := aL (l := code) (i := (au x g).top.pc.toNat) (by omega)
 obtain ⟨ib, io, rfl⟩ := JA.some (by omega) (by decide)
 refine aS ?_
 refine aW (Src.at (JA.src (L := _)) h (i := (au x g).top.pc.toNat) (j := 0) hi rfl (by simp [MZ])) ?_
 refine aW (Src.at (JA.src (L := _)) h (i := (au x g).top.pc.toNat) (j := 1) hi rfl (by show _ = io + (_ * 4 + 1); omega)) ?_
 refine aW (Src.at (JA.src (L := _)) h (i := (au x g).top.pc.toNat) (j := 2) hi rfl (by show _ = io + (_ * 4 + 2); omega)) ?_
 refine aW (Src.at (JA.src (L := _)) h (i := (au x g).top.pc.toNat) (j := 3) hi rfl (by show _ = io + (_ * 4 + 3); omega)) ?_
 have hpure : i.ju ∧ 0 ≤ i.op ∨ 8 < i.op := by
  cases hs with
  | out h => omega
  | pure j hj a1 a2 a3 => rw [hi] at hj; cases hj; exact .inl ⟨a3, a1⟩
  | OX j hj a1 => rw [hi] at hj; cases hj; exact .inr (by omega)
  | OY j hj a1 => rw [hi] at hj; cases hj; exact .inr (by omega)
  | dflt j fn hj a1 => rw [hi] at hj; cases hj; exact .inr a1
 have hok : i.ju ∧ 0 ≤ i.op := by
  rcases hpure with h | h
  ·exact h
  ·exact ⟨⟨fun h => by simp at h; omega, fun h => by omega, fun h => by simp at h; omega⟩, by omega⟩
 refine aj h ?_
 clear h; intro ki M h
 refine ak h ?_
 clear h; intro M h
 refine ak h ?_
 clear h; intro M h
 refine ak h ?_
 clear h; intro M h
 refine ak h ?_
 clear h; intro M h
 refine ae h (ae h (ae h (ae h ?_)))
 refine CY h (cV h2) hok.1 hok.2 IK ?_ ?_
 ·intro h8 M' h'
  clear h
  have h := h'
  clear h'
  refine eC (af ?_)
  cases hs with
  | out h => omega
  | OX j hj a1 => rw [hi] at hj; cases hj; omega
  | OY j hj a1 => rw [hi] at hj; cases hj; omega
  | dflt j fn hj a1 => rw [hi] at hj; cases hj; omega
  | pure j hj a1 a2 a3 =>
   rw [hi] at hj; cases hj
   replace h := b6 h gb hl ei dh (by simp)
   have jt := cy (y := (au x g).dw ((au x g).top.next.pure i)) (g := g) hl
   have h5 := aM (a := a) (p := p) (pa := pa) (dr := dr) (gg := gg) (x := x.b9 g ((au x g).dw ((au x g).top.next.pure i))) jt h b
   refine uh h5 ?_
   have e1 : (i.op == 12) = false := by simp; omega
   have e2 : (i.op == 17) = false := by simp; omega
   rw [e1, e2]
   exact k gg _ h5.bH
 ·intro h8 M' h'
  clear h
  have h := h'
  clear h'
  refine eC (ai ?_)
  refine ae h ?_
  refine bB.2 ⟨fun D9 => ?_, fun D9 => ?_⟩
  ·refine ae h (ae h (ae h (ae h ?_)))
   cases hs with
   | out h => omega
   | pure j hj a1 a2 a3 => rw [hi] at hj; cases hj; omega
   | dflt j fn hj a1 a2 => rw [hi] at hj; cases hj; omega
   | OY j hj a1 => rw [hi] at hj; cases hj; omega
   | OX j hj a1 hop =>
    rw [hi] at hj; cases hj
    replace h := b6 h gb hl ei dh
    have jt := cy (y := au x g) (g := g) hl
    replace h := aM (a := a) (p := p) (pa := pa) (dr := dr) (gg := gg) (x := x.b9 g (au x g)) jt h b
    rw [sx h0 h1] at h
    refine hop gg b bs c M' _ _ _ h dh ?_
    cases r with
    | on y =>
     intro jk M2 h
     refine ⟨rfl, uh h ?_⟩
     have e1 : (i.op == 12) = false := by simp; omega
     have e2 : (i.op == 17) = false := by simp; omega
     rw [e1, e2]
     exact k jk _ h.bH
    | eF n y =>
     intro jk M2 h
     exact zm h fun M3 h3 => k jk M3 h3
    | ee l y =>
     intro jk M2 h
     exact k jk M2 h.bH
  ·refine ae h ?_
   refine bB.2 ⟨fun PK => ?_, fun PK => ?_⟩
   ·refine ae h (ae h (ae h (ae h ?_)))
    cases hs with
    | out h => omega
    | pure j hj a1 a2 a3 => rw [hi] at hj; cases hj; omega
    | OX j hj a1 => rw [hi] at hj; cases hj; omega
    | dflt j fn hj a1 a2 a3 => rw [hi] at hj; cases hj; omega
    | OY j hj a1 hop =>
     rw [hi] at hj; cases hj
     replace h := b6 h gb hl ei dh
     have jt := cy (y := au x g) (g := g) hl
     replace h := aM (a := a) (p := p) (pa := pa) (dr := dr) (gg := gg) (x := x.b9 g (au x g)) jt h b
     rw [sx h0 h1] at h
     refine hop gg b bs c M' _ _ _ h dh ?_
     cases r with
     | on y =>
      intro jk M2 h
      refine ⟨rfl, uh h ?_⟩
      have e1 : (i.op == 12) = false := by simp; omega
      have e2 : (i.op == 17) = false := by simp; omega
      rw [e1, e2]
      exact k jk _ h.bH
     | eF n y =>
      intro jk M2 h
      exact zm h fun M3 h3 => k jk M3 h3
     | ee l y =>
      intro jk M2 h
      exact k jk M2 h.bH
   cases hs with
   | out h => omega
   | pure j hj a1 a2 a3 => rw [hi] at hj; cases hj; omega
   | OX j hj a1 => rw [hi] at hj; cases hj; omega
   | OY j hj a1 => rw [hi] at hj; cases hj; omega
   | dflt j fn hj a1 a2 a3 hf hn hop =>
    rw [hi] at hj; cases hj
    refine aS ?_
    refine vB h (cV h2) rfl ?_
    refine aS ?_
    rw [gB IK.1 (by omega)]
    refine vC h (cV h2) rfl ?_
    clear h; intro M h
    refine ae h (ae h (ae h (ae h (ae h ?_))))
    refine Bn h ?_
    clear h; intro mp M h
    refine ⟨gL (cH h) (gL (cH h) (gL (cH h) (gL (cH h) pW))), cH h, ?_⟩
    have hu : Tryz.prog.underlying 345 = some (.map 25 344) := by kernel_rfl
    have hkk : Tryz.prog.underlying 25 = some (.int .i64) := by kernel_rfl
    obtain ⟨ti, SU, htz⟩ : ∃ ti, Tryz.prog.info? 344 = some ti ∧ ti.zero = some .nilFunc := ⟨_, rfl, rfl⟩
    refine Iy h hu hkk SU htz ?_
    rw [hf]
    refine ⟨gL (cH h) (gL (cH h) (gL (cH h) (gL (cH h) pW))), cH h, ?_⟩
    refine Bb hn ?_
    replace h := b6 h gb hl ei dh (by simp)
    have jt := cy (y := (au x g).dw (au x g).top.next) (g := g) hl
    have h5 := aM (a := a) (p := p) (pa := pa) (dr := dr) (gg := gg) (x := x.next g) jt h b
    have h6 : Hp R (ax (aU pa p gg dr) b (x.next g) :: pt ki [.int .i64 i.op, .int .i64 i.a, .int .i64 i.b, .int .i64 i.c] 27 :: L') M := h5.sub bG
    clear h h5
    have hfl : (au (x.next g) g).fs.length = (au x g).fs.length := by
     unfold Wd.next; rw [rZ h0 h1]; simp [pJ.dw]
    have hc := hop gg b bs c M (fun Kj oP => (Kj = (.tuple #[])) ∧ ((Mem.dP oP ⟨ki, 0, none⟩ 0 4) = some [(.int .i64 i.op), (.int .i64 i.a), (.int .i64 i.b), (.int .i64 i.c)]) ∧ ((Mem.ld oP ⟨ki, 0, none⟩) = (some (.int .i64 i.op))) ∧
     aE (oP.ld ⟨ki, 0, none⟩) .i64 fun n => aK (n == 12) (bW Tryz.prog 188 (.pointer (some ⟨b, 0, none⟩)) K Kp (.bool true) .returning oP)
      (aE (oP.ld ⟨ki, 0, none⟩) .i64 fun n => bW Tryz.prog 188 (.pointer (some ⟨b, 0, none⟩)) K Kp (.bool (n == 17)) .returning oP))
     (fun l M => bW Tryz.prog 188 (.pointer (some ⟨b, 0, none⟩)) K Kp (.bool false) (.panicking l) M) _ h6 dh ?_
    ·rw [hfl] at hc
     exact hc
    cases r with
    | on y =>
     intro jk M2 h
     exact ⟨rfl, gL (cH h) (gL (cH h) (gL (cH h) (gL (cH h) pW))), cH h, uh h (k jk _ h.bH)⟩
    | eF n y =>
     intro jk M2 h
     exact zm h fun M3 h3 => k jk M3 h3
    | ee l y =>
     intro jk M2 h
     exact k jk M2 h.bH
end
abbrev ni (pa : PA) (p : cM) (dr : Value) (a : WA) (x : Wd) (n : Nat) : List Value :=
 [.slice pa.f p.funcs.length pa.fc, .slice pa.c p.kC.length pa.cc, .int .i64 p.bE, .slice pa.k p.cases.length pa.kc, .slice a.ag a.gb.length a.cg, .int .u64 x.clock,
  .slice a.ac a.cb.length a.cc, .slice a.al a.lb.length a.cl, .slice a.ah x.hl.length a.ch, .int .u64 x.jO, .slice a.ao x.out.length a.co, .int .i64 x.end_, .int .i64 x.code, .slice a.ar n a.cr, dr]
abbrev sr (a : WA) (x : Wd) (L : List HP) : List HP :=
 vD a.ag a.cg a.gb :: vE a.ac a.cc a.cb :: aP bg a.cb x.aI :: vF a.al a.cl a.lb :: aP ef a.lb x.bE :: eG a.ah a.ch x.hl :: qf a.ao a.co x.out :: L
def bk (pa : PA) (p : cM) : pE Wd := ⟨fun b x => exs fun q : WA × List GA × Value × Nat =>
 sep (pt b (ni pa p q.2.2.1 q.1 x q.2.2.2) 161 :: aP eA q.1.gb (x.gs.zip q.2.1) :: fact (dz q.2.1 q.1 x) :: sr q.1 x [])⟩
section
variable {R : Mem} {L L' L2 : List HP} {M : Mem} {K : Value → Mem → Prop} {Kp : List PanicEntry → Mem → Prop} {pa : PA} {p : cM} {gg : List GA} {dr : Value} {b : Nat} {x : Wd} {g : Int}
class Eb (b : Nat) (L : List HP) (pa : outParam PA) (p : outParam cM) (x : outParam Wd) (L' : outParam (List HP)) : Prop where
 pick : cv L (ax (bk pa p) b x) L'
instance Eb.here : Eb b (ax (bk pa p) b x :: L) pa p x L := ⟨.here⟩
instance (priority := low) Eb.there {Q : HP} [h : Eb b L pa p x L'] : Eb b (Q :: L) pa p x (Q :: L') := ⟨.there h.pick⟩
theorem c6 (h : Hp R L M) [o : Eb b L pa p x L'] : ∃ (a : WA) (gg : List GA) (dr : Value) (n : Nat), dz gg a x ∧ Hp R (pt b (ni pa p dr a x n) 161 :: aP eA a.gb (x.gs.zip gg) :: sr a x L') M := by
 have := h.pick o.pick
 unfold ax at this
 simp only [bk, sr, Hp.cP, Hp.aO, List.cons_append, List.nil_append] at this
 obtain ⟨⟨a, gg, dr, n⟩, h⟩ := this
 have h2 := h.pick (P := fact (dz gg a x)) (.there (.there .here))
 exact ⟨a, gg, dr, n, (Hp.dZ.1 h2).1, (Hp.dZ.1 h2).2⟩
theorem jl {a : WA} {n : Nat} (hl : dz gg a x) (h : Hp R (pt b (ni pa p dr a x n) 161 :: aP eA a.gb (x.gs.zip gg) :: sr a x L) M) : Hp R (ax (bk pa p) b x :: L) M := by
 refine Hp.tu ?_
 simp only [bk, sr, Hp.cP, Hp.aO, List.cons_append, List.nil_append]
 refine ⟨(a, gg, dr, n), ?_⟩
 have h2 : Hp R (fact (dz gg a x) :: pt b (ni pa p dr a x n) 161 :: aP eA a.gb (x.gs.zip gg) :: sr a x L) M := Hp.dZ.2 ⟨hl, h⟩
 exact h2.j9 (.there (.there .here))
def gC (x : Wd) (g : Int) (rest : Bool) : Bool := !rest && x.end_ == 0 && (au x g).st == 1
def yg (l l' : List PanicEntry) : Prop := ∀ (b : Nat) (v : Value) (M : Mem) (K : Value → Mem → Prop) (Kp : List PanicEntry → Mem → Prop), Kp l' M → bW Tryz.prog 188 (.pointer (some ⟨b, 0, none⟩)) K Kp v (.panicking l) M
def nj (R : Mem) (pa : PA) (p : cM) (b : Nat) (g : Int) (L2 : List HP) (K : Value → Mem → Prop) (Kp : List PanicEntry → Mem → Prop) (r : Out Wd) (rest : Bool) : Prop := match r with
 | .ee l y => ∃ l', yg l l' ∧ ∀ M', Hp R (ax (bk pa p) b y :: L2) M' → Kp l' M'
 | .on y => ∀ R' A c M', R.le R' → RS bq R' A c y.ready → Hp R' (ax (bk pa p) b y :: L2) M' → K (.agg #[.bool (gC y g rest), .slice A y.ready.length c]) M'
 | .eF n y => ∀ R' A c M', R.le R' → RS bq R' A c y.ready → Hp R' (ax (bk pa p) b { y with end_ := 2, code := n } :: L2) M' → K (.agg #[.bool (gC { y with end_ := 2, code := n } g rest), .slice A y.ready.length c]) M'
theorem IJ.of {r : Out Wd} {rest : Bool} (hd : ¬ ∃ l y, r = .ee l y) (k : ∀ jk M', Hp R (ax (aU pa p jk dr) b r.fin :: L2) M' → K (.bool rest) M') : IJ R pa p dr b L2 K Kp r rest := by
 cases r with
 | on y => exact k
 | eF n y => exact k
 | ee l y => exact absurd ⟨l, y, rfl⟩ hd
theorem nj.get {r : Out Wd} {rest : Bool} (hd : ¬ ∃ l y, r = .ee l y) (k : nj R pa p b g L2 K Kp r rest) :
  ∀ R' A c M', R.le R' → RS bq R' A c r.fin.ready → Hp R' (ax (bk pa p) b r.fin :: L2) M' → K (.agg #[.bool (gC r.fin g rest), .slice A r.fin.ready.length c]) M' := by
 cases r with
 | on y => exact k
 | eF n y => exact k
 | ee l y => exact absurd ⟨l, y, rfl⟩ hd
theorem Df {code : List eD} {r : Out Wd} {rest : Bool} (h : Hp R L M) [o : Eb b L pa p x L'] (hp : lD R pa p) (hg : bA x g) (he : x.end_ = 0) (hst : (au x g).st = 1)
  (hfn : 0 ≤ (au x g).top.fn) (qV : p.funcs[(au x g).top.fn.toNat]? = some code)
  (IK : 0 ≤ (au x g).top.pc ∧ (au x g).top.pc < 1000000000) (B4 : ∃ f c d, dr = .func f c d) (hs : ∀ Q, Step R pa p dr { x with ready := [] } g code r rest (Q :: L') (Q :: L2)) (hlen : g < r.fin.gs.length)
  (k : nj R pa p b g L2 K Kp r rest) :
  aa Tryz.prog 121 #[.pointer (some ⟨b, 0, none⟩), .int .i64 g, dr] M K Kp := by
 refine gZ ?_
 have zk := hg
 obtain ⟨h0, h1, h2, h3⟩ := zk
 refine aj h ?_
 clear h
 intro kb M h
 have h' := c6 h (b := b)
 clear h
 obtain ⟨a, gg, dr0, n0, hl, h⟩ := h'
 have hl' := hl
 obtain ⟨l1, l2, l3, l4⟩ := hl'
 refine aH.2 ⟨fun hn => by omega, fun _ => ?_⟩
 refine av h ?_
 refine aH.2 ⟨fun hn => by omega, fun _ => ?_⟩
 refine ae h ?_
 refine bM.2 ⟨fun hn => absurd he hn, fun _ => ?_⟩
 refine av h ?_
 refine ⟨h0, by omega, ?_⟩
 obtain ⟨gb, ei⟩ := aL (l := a.gb) (i := g.toNat) (by omega)
 refine ry h ei fun q hq => ?_
 obtain ⟨ga, O0⟩ := aL (l := gg) (i := g.toNat) (by omega)
 obtain ⟨y, hy⟩ := aL (l := x.gs) (i := g.toNat) (by omega)
 have ey : au x g = y := by simp [au, hy]
 rw [ey] at hst
 refine aS ?_
 have IL : M.ld ⟨gb, 0, none⟩ = some (.int .i64 y.st) := by
  have h9 := jU (b := gb) (h.cw eA ei (kH hy O0))
  exact cH h9
 rw [IL]
 refine bU ?_
 refine bM.2 ⟨fun hn => absurd hst hn, fun _ => ?_⟩
 refine ak h ?_
 clear h IL; intro M h
 have hpc2 : ∀ X : Prop, X → xo dr X := by
  obtain ⟨f, c, d, rfl⟩ := B4
  intro X hX; exact hX
 refine hpc2 _ ?_
 refine ak h ?_
 clear h; intro M h
 have h4 := h.ck bq 3
 have h5 : Hp R (ax (aU pa p gg dr) b { x with ready := [] } :: pt kb [.bool false, .slice none 0 0] 250 :: L') M := gP (a := { a with ar := none, cr := 0 }) (x := { x with ready := [] }) hl (h4.sub bG)
 clear h h4
 by_cases Dg : ∃ l y, r = .ee l y
 ·obtain ⟨l, y, rfl⟩ := Dg
  refine Bp (b := b) (x := { x with ready := [] }) h5 hp hg hfn qV IK (hs _) ?_
  clear h5
  intro jk M h
  obtain ⟨l', hdr2, k⟩ := k
  refine hdr2 _ _ _ _ _ (k _ ?_)
  have h' := bS h (b := b)
  clear h
  obtain ⟨a2, jt, h⟩ := h'
  exact jl (a := a2) (n := y.ready.length) (gg := jk) (dr := dr) jt (h.sub bG)
 refine Bp (b := b) (x := { x with ready := [] }) h5 hp hg hfn qV IK (hs _) (.of Dg ?_)
 clear h5
 intro jk M h
 replace k := nj.get Dg k
 generalize r.fin = z at h k hlen
 have h' := bS h (b := b)
 clear h
 obtain ⟨a2, jt, h⟩ := h'
 have OR := jt
 obtain ⟨m1, m2, m3, m4⟩ := OR
 have fin : ∀ t : Bool, t = gC z g rest → aF M ⟨kb, 0, none⟩ (.bool t) fun LO =>
    aF LO ⟨kb, (0 + 1), none⟩ (.slice a2.ar z.ready.length a2.cr) fun xT =>
    cY (Mem.ld xT ⟨kb, 0, none⟩) fun t60 =>
    ay (Mem.ld xT ⟨kb, (0 + 1), none⟩) fun Nk wY CK =>
    K (.agg #[(.bool t60), (.slice Nk wY CK)]) xT := by
  intro t ht
  refine ak h ?_
  clear h; intro M h
  refine ak h ?_
  clear h; intro M h
  refine DS h (av h ?_)
  obtain ⟨R', hle, wI, h6⟩ := h.tX a2.ar
  subst ht
  exact k R' _ _ _ hle wI (jl (a := a2) (n := z.ready.length) (gg := jk) (dr := dr) jt (h6.sub bG))
 refine eC ?_
 cases rest with
 | true =>
  refine ai ?_
  refine av h ?_
  exact fin false (by simp [gC])
 | false =>
  refine af ?_
  refine ae h ?_
  refine bB.2 ⟨fun e0 => ?_, fun e0 => ?_⟩
  ·refine av h ?_
   refine ⟨h0, by omega, ?_⟩
   obtain ⟨gb2, RK⟩ := aL (l := a2.gb) (i := g.toNat) (by omega)
   refine ry h RK fun q2 m9 => ?_
   obtain ⟨ga2, hga2⟩ := aL (l := jk) (i := g.toNat) (by omega)
   obtain ⟨y2, zG⟩ := aL (l := z.gs) (i := g.toNat) (by omega)
   have ey2 : au z g = y2 := by simp [au, zG]
   refine aS ?_
   have IL : M.ld ⟨gb2, 0, none⟩ = some (.int .i64 y2.st) := by
    have h9 := jU (b := gb2) (h.cw eA RK (kH zG hga2))
    exact cH h9
   rw [IL]
   refine bU ?_
   refine av h ?_
   exact fin (y2.st == 1) (by simp [gC, e0, ey2])
  ·refine av h ?_
   have : (z.end_ == 0) = false := by simpa using e0
   exact fin false (by simp [gC, this])
end
section
variable {R : Mem} {L L' L2 : List HP} {M : Mem} {K : Value → Mem → Prop} {Kp : List PanicEntry → Mem → Prop} {pa : PA} {p : cM} {gg : List GA} {dr : Value} {b : Nat} {x : Wd} {g : Int}
theorem yh (h : Hp R L M) [o : Eb b L pa p x L'] (k : K (.tuple #[.int .i64 x.end_, .int .i64 x.code]) M) : aa Tryz.prog 28 #[.pointer (some ⟨b, 0, none⟩)] M K Kp := by
 refine oS ?_
 have h' := c6 h (b := b)
 clear h
 obtain ⟨a, gg, dr, n, hl, h⟩ := h'
 refine ae h (ae h ?_)
 exact k
theorem zn (h : Hp R L M) [o : Eb b L pa p x L'] (h0 : 0 ≤ g) (h1 : g < x.gs.length) (k : K (.int .i64 (au x g).st) M) : aa Tryz.prog 119 #[.pointer (some ⟨b, 0, none⟩), .int .i64 g] M K Kp := by
 refine kZ ?_
 have h' := c6 h (b := b)
 clear h
 obtain ⟨a, gg, dr, n, hl, h⟩ := h'
 have hl' := hl
 obtain ⟨l1, l2, l3, l4⟩ := hl'
 refine aH.2 ⟨fun hn => by omega, fun _ => ?_⟩
 refine av h ?_
 refine aH.2 ⟨fun hn => by omega, fun _ => ?_⟩
 refine av h ?_
 refine ⟨h0, by omega, ?_⟩
 obtain ⟨gb, ei⟩ := aL (l := a.gb) (i := g.toNat) (by omega)
 refine ry h ei fun q hq => ?_
 obtain ⟨ga, O0⟩ := aL (l := gg) (i := g.toNat) (by omega)
 obtain ⟨y, hy⟩ := aL (l := x.gs) (i := g.toNat) (by omega)
 have ey : au x g = y := by simp [au, hy]
 rw [ey] at k
 refine aS ?_
 have IL : M.ld ⟨gb, 0, none⟩ = some (.int .i64 y.st) := by
  have h9 := jU (b := gb) (h.cw eA ei (kH hy O0))
  exact cH h9
 rw [IL]
 exact bU k
theorem FB (h : Hp R L M) [o : Eb b L pa p x L'] (hs : x.out.length ≤ 1000000) (k : ∀ A c M', Hp R (qf A c x.out :: L) M' → K (.slice A x.out.length c) M') : aa Tryz.prog 23 #[.pointer (some ⟨b, 0, none⟩)] M K Kp := by
 refine oT ?_
 refine aj h ?_
 clear h; intro kb M h
 have hC := h
 have h' := c6 h (b := b)
 clear h
 obtain ⟨a, gg, dr, n, hl, h⟩ := h'
 refine av h ?_
 have hsrc : Sl M a.ao (bq.cells x.out) := (h.src (A := a.ao)) M h
 clear h
 have h10 : Hp R (b8 bq 2 (some ⟨kb, 0, none⟩) ([] : List Int).length [] :: L) M := hC.oG rfl
 refine Hp.CX h10 (l := []) uR hsrc rfl (by simp; omega) ?_
 clear hC h10 hsrc
 intro A' c' M h
 exact aY (k _ _ _ h)
end
def Wd.new (p : cM) : Wd := ⟨[⟨1, [gm.begin 0 0], .zero⟩], 0, p.kC.map aZ.new, List.replicate p.bE.toNat ⟨-1, []⟩, [], 0, [], 0, 0, []⟩
theorem Md : bn Tryz.prog 156 230 1 8 [.pointer none] := bn.mk' (zv := .pointer none) (by kernel_rfl) (by kernel_rfl) rfl (by omega)
theorem Me : bn Tryz.prog 157 232 1 8 [.pointer none] := bn.mk' (zv := .pointer none) (by kernel_rfl) (by kernel_rfl) rfl (by omega)
section
variable {R : Mem} {L L' L2 : List HP} {M : Mem} {K : Value → Mem → Prop} {Kp : List PanicEntry → Mem → Prop} {pa : PA} {p : cM} {gg : List GA} {dr : Value} {b : Nat} {x : Wd} {g : Int}
theorem IM {j : Nat} {q A' : Nat} {c' : Nat} {v : Int} {a : WA} {n k : Nat} {Ac : Option Addr} {Q : List HP} (hl : dz gg a x)
  (h : Hp R (pt b (ni pa p dr { a with ac := Ac, cc := c', cb := a.cb ++ [k] } x n) 161 :: vE Ac c' (a.cb ++ [k]) :: ax bg k (aZ.new v) :: aP bg a.cb x.aI :: aP eA a.gb (x.gs.zip gg) :: vD a.ag a.cg a.gb :: vF a.al a.cl a.lb :: aP ef a.lb x.bE :: eG a.ah a.ch x.hl :: qf a.ao a.co x.out :: Q) M) :
  Hp R (ax (bk pa p) b { x with aI := x.aI ++ [aZ.new v] } :: Q) M := by
 obtain ⟨l1, l2, l3, l4⟩ := hl
 have h2 := h.ik bg k l3
 exact jl (a := { a with ac := Ac, cc := c', cb := a.cb ++ [k] }) (gg := gg) (dr := dr) (n := n) (x := { x with aI := x.aI ++ [aZ.new v] }) ⟨l1, l2, by simp [l3], l4⟩ (h2.sub bG)
theorem IN {c' : Nat} {a : WA} {n k : Nat} {Ac : Option Addr} {Q : List HP} (hl : dz gg a x)
  (h : Hp R (pt b (ni pa p dr { a with al := Ac, cl := c', lb := a.lb ++ [k] } x n) 161 :: vF Ac c' (a.lb ++ [k]) :: ax ef k ⟨-1, []⟩ :: aP ef a.lb x.bE :: aP eA a.gb (x.gs.zip gg) :: vD a.ag a.cg a.gb :: vE a.ac a.cc a.cb :: aP bg a.cb x.aI :: eG a.ah a.ch x.hl :: qf a.ao a.co x.out :: Q) M) :
  Hp R (ax (bk pa p) b { x with bE := x.bE ++ [⟨-1, []⟩] } :: Q) M := by
 obtain ⟨l1, l2, l3, l4⟩ := hl
 have h2 := h.ik ef k l4
 exact jl (a := { a with al := Ac, cl := c', lb := a.lb ++ [k] }) (gg := gg) (dr := dr) (n := n) (x := { x with bE := x.bE ++ [⟨-1, []⟩] }) ⟨l1, l2, l3, by simp [l4]⟩ (h2.sub bG)
theorem FC (h : Hp R L M) (vz : RS bq R pa.c pa.cc p.kC) (hc : p.kC.length ≤ 1000000) (hk : 0 ≤ p.bE ∧ p.bE ≤ 1000000)
  (k : ∀ b M', Hp R (ax (bk pa p) b (Wd.new p) :: L) M' → K (.pointer (some ⟨b, 0, none⟩)) M') :
  aa Tryz.prog 56 #[.agg #[.slice pa.f p.funcs.length pa.fc, .slice pa.c p.kC.length pa.cc, .int .i64 p.bE, .slice pa.k p.cases.length pa.kc]] M K Kp := by
 refine yZ ?_
 repeat (first|(refine aj h ?_;clear h;intro kb M h)|(refine ak h ?_;clear h;intro M h)|refine St.to h ?_|(apply Exists.intro;(repeat apply Exists.intro);refine And.intro rfl ?_)|refine aq ?_|refine af ?_|refine ai ?_)
 refine mG h ?_
 clear h
 intro bs M h
 repeat (first|(refine aj h ?_;clear h;intro kb M h)|(refine ak h ?_;clear h;intro M h)|refine St.to h ?_|(apply Exists.intro;(repeat apply Exists.intro);refine And.intro rfl ?_)|refine aq ?_|refine af ?_|refine ai ?_)
 rename_i kp _ _ kr _ kw _
 replace h := jV h kr
 replace h := (h.qh eA).ik eA kr rfl
 replace h := (h.pt kw).oG (E := js) (l := [kr]) rfl
 replace h := (h.ck js 230).qh bg
 replace h := (h.ck js 232).qh ef
 replace h := (h.ck ql 203).ck bq 2
 have base : Hp R (ax (bk pa p) kb { Wd.new p with aI := (p.kC.take 0).map aZ.new, bE := [] } :: pt kp [.slice pa.f p.funcs.length pa.fc, .slice pa.c p.kC.length pa.cc, .int .i64 p.bE, .slice pa.k p.cases.length pa.kc] 39 :: L) _ :=
  jl (a := ⟨some ⟨kw, 0, none⟩, 1, [kr], none, 0, [], none, 0, [], none, 0, none, 0, none, 0⟩) (gg := [(some ⟨bs, 0, none⟩, 1)]) (dr := .nilFunc) (n := 0) (x := { Wd.new p with aI := [], bE := [] }) ⟨rfl, rfl, rfl, rfl⟩ (h.sub bG)
 clear h
 refine ⟨fun d vs M => ∃ j : Nat, vs = [.int .i64 (j : Int)] ∧ d = p.kC.length - j ∧ j ≤ p.kC.length ∧ Hp R (ax (bk pa p) kb { Wd.new p with aI := (p.kC.take j).map aZ.new, bE := [] } :: pt kp [.slice pa.f p.funcs.length pa.fc, .slice pa.c p.kC.length pa.cc, .int .i64 p.bE, .slice pa.k p.cases.length pa.kc] 39 :: L) M,
  ⟨_, 0, rfl, rfl, by omega, base⟩, ?_⟩
 clear base
 rintro d _ nn M ⟨j, he, hd, hj, h⟩
 simp only [List.cons.injEq, Value.int.injEq, and_true, true_and] at he
 subst he
 refine aH.2 ⟨fun hlt => ?_, fun hge => ?_⟩
 ·obtain ⟨v, hv⟩ := aL (l := p.kC) (i := j) (by omega)
  have RG : (p.kC.take (j + 1)).map aZ.new = (p.kC.take j).map aZ.new ++ [aZ.new v] := by rw [c5 hv, List.map_append]; rfl
  have Jl : ((p.kC.take j).map aZ.new).length ≤ 1000000 := by simp; omega
  rw [aV (by omega)]
  refine ⟨by omega, hlt, ?_⟩
  obtain ⟨cb, co, hcb⟩ := vz.some (by omega) (by decide)
  have RL := vz
  rw [hcb] at RL ⊢
  refine aS ?_
  simp only [Int.toNat_natCast]
  refine aW (Src.at (RL.src (L := _)) h (i := j) (j := 0) hv rfl (by simp [bq])) ?_
  refine ⟨fun _ M => Hp R (ax (bk pa p) kb { Wd.new p with aI := (p.kC.take j).map aZ.new ++ [aZ.new v], bE := [] } :: pt kp [.slice pa.f p.funcs.length pa.fc, .slice pa.c p.kC.length pa.cc, .int .i64 p.bE, .slice pa.k p.cases.length pa.kc] 39 :: L) M, ⟨?_, ?_, trivial⟩, ?_⟩
  ·have h' := c6 h (b := kb)
   clear h
   obtain ⟨a, gg, dr, n, hl, h⟩ := h'
   have O1 : a.cb.length = ((p.kC.take j).map aZ.new).length := hl.2.2.1
   refine av h ?_
   refine xQ h ?_
   clear h
   intro kc M h
   repeat (first|(refine aj h ?_;clear h;intro kb M h)|(refine ak h ?_;clear h;intro M h)|refine St.to h ?_|(apply Exists.intro;(repeat apply Exists.intro);refine And.intro rfl ?_)|refine aq ?_|refine af ?_|refine ai ?_)
   refine h.bu Md [kc] rfl rfl (by simp only [List.length_singleton]; omega) ?_
   clear h
   intro A' c' M h
   repeat (first|(refine aj h ?_;clear h;intro kb M h)|(refine ak h ?_;clear h;intro M h)|refine St.to h ?_|(apply Exists.intro;(repeat apply Exists.intro);refine And.intro rfl ?_)|refine aq ?_|refine af ?_|refine ai ?_)
   exact IM (j := j) (q := j) (A' := j) (a := a) (x := { Wd.new p with aI := (p.kC.take j).map aZ.new, bE := [] }) hl (h.sub bG)
  ·have h' := c6 h (b := kb)
   clear h
   obtain ⟨a, gg, dr, n, hl, h⟩ := h'
   have O1 : a.cb.length = ((p.kC.take j).map aZ.new).length := hl.2.2.1
   refine xQ h ?_
   clear h
   intro kc M h
   repeat (first|(refine aj h ?_;clear h;intro kb M h)|(refine ak h ?_;clear h;intro M h)|refine St.to h ?_|(apply Exists.intro;(repeat apply Exists.intro);refine And.intro rfl ?_)|refine aq ?_|refine af ?_|refine ai ?_)
   refine h.bu Md [kc] rfl rfl (by simp only [List.length_singleton]; omega) ?_
   clear h
   intro A' c' M h
   repeat (first|(refine aj h ?_;clear h;intro kb M h)|(refine ak h ?_;clear h;intro M h)|refine St.to h ?_|(apply Exists.intro;(repeat apply Exists.intro);refine And.intro rfl ?_)|refine aq ?_|refine af ?_|refine ai ?_)
   exact IM (j := j) (q := j) (A' := j) (a := a) (x := { Wd.new p with aI := (p.kC.take j).map aZ.new, bE := [] }) hl (h.sub bG)
  ·clear h
   intro _ M h
   refine ⟨p.kC.length - (j + 1), by omega, j + 1, rfl, rfl, by omega, ?_⟩
   rw [RG, ← hcb]; exact h
 ·obtain rfl : j = p.kC.length := by omega
  rw [List.take_length] at h
  refine ae h ?_
  obtain ⟨nl, hnl⟩ := Int.eq_ofNat_of_zero_le hk.1
  refine ⟨fun d vs M => ∃ j : Nat, vs = [.int .i64 (j : Int)] ∧ d = nl - j ∧ j ≤ nl ∧ Hp R (ax (bk pa p) kb { Wd.new p with bE := List.replicate j ⟨-1, []⟩ } :: pt kp [.slice pa.f p.funcs.length pa.fc, .slice pa.c p.kC.length pa.cc, .int .i64 p.bE, .slice pa.k p.cases.length pa.kc] 39 :: L) M,
   ⟨_, 0, rfl, rfl, by omega, h⟩, ?_⟩
  clear h
  rintro d _ nn M ⟨j, he, hd, hj, h⟩
  simp only [List.cons.injEq, Value.int.injEq, and_true, true_and] at he
  subst he
  refine aH.2 ⟨fun hlt => ?_, fun hge => ?_⟩
  ·have RG : List.replicate (j + 1) (⟨-1, []⟩ : Lk) = List.replicate j ⟨-1, []⟩ ++ [⟨-1, []⟩] := List.replicate_succ'
   rw [aV (by omega)]
   refine ⟨fun _ M => Hp R (ax (bk pa p) kb { Wd.new p with bE := List.replicate j ⟨-1, []⟩ ++ [⟨-1, []⟩] } :: pt kp [.slice pa.f p.funcs.length pa.fc, .slice pa.c p.kC.length pa.cc, .int .i64 p.bE, .slice pa.k p.cases.length pa.kc] 39 :: L) M, ⟨?_, ?_, trivial⟩, ?_⟩
   ·have h' := c6 h (b := kb)
    clear h
    obtain ⟨a, gg, dr, n, hl, h⟩ := h'
    have O1 : a.lb.length = (List.replicate j (⟨-1, []⟩ : Lk)).length := hl.2.2.2
    rw [List.length_replicate] at O1
    refine av h ?_
    refine xX h ?_
    clear h
    intro kc M h
    repeat (first|(refine aj h ?_;clear h;intro kb M h)|(refine ak h ?_;clear h;intro M h)|refine St.to h ?_|(apply Exists.intro;(repeat apply Exists.intro);refine And.intro rfl ?_)|refine aq ?_|refine af ?_|refine ai ?_)
    refine h.bu Me [kc] rfl rfl (by simp only [List.length_singleton]; omega) ?_
    clear h
    intro A' c' M h
    repeat (first|(refine aj h ?_;clear h;intro kb M h)|(refine ak h ?_;clear h;intro M h)|refine St.to h ?_|(apply Exists.intro;(repeat apply Exists.intro);refine And.intro rfl ?_)|refine aq ?_|refine af ?_|refine ai ?_)
    exact IN (a := a) (x := { Wd.new p with bE := List.replicate j ⟨-1, []⟩ }) hl (h.sub bG)
   ·have h' := c6 h (b := kb)
    clear h
    obtain ⟨a, gg, dr, n, hl, h⟩ := h'
    have O1 : a.lb.length = (List.replicate j (⟨-1, []⟩ : Lk)).length := hl.2.2.2
    rw [List.length_replicate] at O1
    refine xX h ?_
    clear h
    intro kc M h
    repeat (first|(refine aj h ?_;clear h;intro kb M h)|(refine ak h ?_;clear h;intro M h)|refine St.to h ?_|(apply Exists.intro;(repeat apply Exists.intro);refine And.intro rfl ?_)|refine aq ?_|refine af ?_|refine ai ?_)
    refine h.bu Me [kc] rfl rfl (by simp only [List.length_singleton]; omega) ?_
    clear h
    intro A' c' M h
    repeat (first|(refine aj h ?_;clear h;intro kb M h)|(refine ak h ?_;clear h;intro M h)|refine St.to h ?_|(apply Exists.intro;(repeat apply Exists.intro);refine And.intro rfl ?_)|refine aq ?_|refine af ?_|refine ai ?_)
    exact IN (a := a) (x := { Wd.new p with bE := List.replicate j ⟨-1, []⟩ }) hl (h.sub bG)
   ·clear h
    intro _ M h
    refine ⟨nl - (j + 1), by omega, j + 1, rfl, rfl, by omega, ?_⟩
    rw [RG]; exact h
  ·obtain rfl : j = nl := by omega
   have e : Wd.new p = { Wd.new p with bE := List.replicate j ⟨-1, []⟩ } := by unfold Wd.new; rw [hnl]; rfl
   rw [← e] at h
   exact k _ _ h.bH
end
def aB (p : cM) (i : eD) : List pI := (p.cases.drop i.a.toNat).take i.b.toNat
def td (f : gm) : List Int := [f.r.getD 0 0, f.r.getD 1 0, f.r.getD 2 0, f.r.getD 3 0, f.r.getD 4 0, f.r.getD 5 0, f.r.getD 6 0, f.r.getD 7 0]
inductive iK where
 | num (d : Int)
 | ee (l : List PanicEntry)
def fZ (R : Mem) (dr : Value) (kind n : Int) (d : iK) (L L2 : List HP) : Prop := ∀ (Q : HP) (M : Mem) (K : Value → Mem → Prop) (Kp : List PanicEntry → Mem → Prop), Hp R (Q :: L) M →
 (match d with
  | .num v => ∀ M', Hp R (Q :: L2) M' → K (.int .i64 v) M'
  | .ee l => ∀ M', Hp R (Q :: L2) M' → Kp l M') → gn Cx dr [.int .i64 kind, .int .i64 n] M K Kp
def Wd.vM (p : cM) (x : Wd) (g : Int) (i : eD) (k : Int) : Out Wd :=
 let c := (aB p i).getD k.toNat ⟨0, 0, 0⟩
 let x1 := x.next g
 if c.way = 1 then match x1.put p c.ch (bt x1 g c.bL) with
  | .eF n y => .eF n y
  | .ee l y => .ee l y
  | .on (y, _) => .on (y.cn g i.c k)
 else .on (((x1.get c.ch).1.cn g c.bL (x1.get c.ch).2.1).cn g i.c k)
def Wd.vN (p : cM) (x : Wd) (g : Int) (i : eD) : Wd :=
 let x1 := x.next g
 match els (aB p i) with
  | some k => x1.cn g i.c (k : Int)
  | none => Wd.block { x1 with aI := dX g (td (au x1 g).top) (aB p i) x1.aI (aB p i).length } g i
def Wd.choose (p : cM) (x : Wd) (g : Int) (i : eD) (d : iK) : Out Wd :=
 if enabled (aB p i) x.aI = [] then .on (x.vN p g i)
 else match d with
  | .num v => x.vM p g i ((enabled (aB p i) x.aI).getD v.toNat 0)
  | .ee l => .ee l x
section
variable {R : Mem} {L L' L2 : List HP} {M : Mem} {K : Value → Mem → Prop} {Kp : List PanicEntry → Mem → Prop} {pa : PA} {p : cM} {gg : List GA} {dr : Value} {b : Nat} {x : Wd} {g : Int} {i : eD}
def qW (p : cM) (i : eD) : Prop := 0 ≤ i.a ∧ 0 ≤ i.b ∧ i.a + i.b ≤ p.cases.length ∧ p.cases.length ≤ 1000
instance (p : cM) (i : eD) : Decidable (qW p i) := by unfold qW; infer_instance
theorem Bq (h : Hp R L M) [o : sk b L pa p gg dr x L'] (hp : lD R pa p) (hk : qW p i)
  (k : ∀ A c M', RS uT R A c (aB p i) → Hp R (ax (aU pa p gg dr) b x :: L') M' → K (.slice A (aB p i).length c) M') :
  aa Tryz.prog 204 #[.pointer (some ⟨b, 0, none⟩), .agg #[.int .i64 i.op, .int .i64 i.a, .int .i64 i.b, .int .i64 i.c]] M K Kp := by
 refine me ?_
 obtain ⟨a0, b0, hab, hl⟩ := hk
 have hcap := hp.cases.2
 refine aj h ?_
 clear h; intro kb M h
 have hC := h.drop.pick o.pick
 have h' := bS h (b := b)
 clear h
 obtain ⟨a, jt, h⟩ := h'
 refine av h (ae h (ae h (ae h ?_)))
 rw [dH (by omega) (by omega)]
 refine ⟨by omega, by omega, by omega, by omega, by omega, by omega, ?_⟩
 have e : (aB p i).length = (i.a + i.b).toNat - i.a.toNat := by
  unfold aB
  rw [List.length_take, List.length_drop]; omega
 rw [← e]
 simp only [Int.toNat_natCast]
 exact k _ _ _ ((hp.cases.drop i.a.toNat (by omega)).take i.b.toNat) hC
theorem IP {bs j : Nat} {l : List gm} {f : gm} (hs : Src R L (some ⟨bs, 0, none⟩) (hJ.cells l)) (hi : l[j]? = some f) : Src R L (iO (some ⟨bs, j * 11 + 2, none⟩) 0 8 1) (bq.cells (td f)) := by
 intro M h
 have e : iO (some ⟨bs, j * 11 + 2, none⟩) 0 8 1 = some ⟨bs, j * 11 + 2, none⟩ := by
  unfold iO; rw [if_neg (by omega)]; rfl
 rw [e]
 intro q hq
 have hq8 : q < 8 := by simpa [bq, gi.cells, td] using hq
 have e2 : j * 11 + 2 + q = 0 + (j * hJ.z + (2 + q)) := by show _ = 0 + (j * 11 + (2 + q)); omega
 obtain rfl | rfl | rfl | rfl | rfl | rfl | rfl | rfl : q = 0 ∨ q = 1 ∨ q = 2 ∨ q = 3 ∨ q = 4 ∨ q = 5 ∨ q = 6 ∨ q = 7 := by omega
 all_goals exact Src.at hs h (i := j) hi rfl e2
theorem Dh {bs c oo : Nat} {v : Int} {G : Mem → Prop} (h : Hp R L M) [o : sk b L pa p gg dr x L'] (hg : bA x g) (dh : gg[g.toNat]? = some (some ⟨bs, 0, none⟩, c)) (e : oo = ((au x g).fs.length - 1) * 11 + 1) (hv : v = (au x g).top.pc + 1)
  (k : ∀ M', Hp R (ax (aU pa p gg dr) b (x.next g) :: L') M' → G M') : aF M ⟨bs, oo, none⟩ (.int .i64 v) G := by
 subst hv
 obtain ⟨h0, h1, h2, h3⟩ := hg
 obtain ⟨a, gb, hl, ei, h4⟩ := e7 h (b := b) h0 h1 dh
 refine vC h4 (cV h2) e fun M' h5 => ?_
 replace h5 := b6 h5 gb hl ei dh (by simp)
 exact k M' (aM (a := a) (p := p) (pa := pa) (dr := dr) (gg := gg) (x := x.next g) (cy hl) h5 b)
theorem Di {bs c oo : Nat} {G : Int → Prop} (h : Hp R L M) [o : sk b L pa p gg dr x L'] (hg : bA x g) (dh : gg[g.toNat]? = some (some ⟨bs, 0, none⟩, c)) (e : oo = ((au x g).fs.length - 1) * 11 + 1)
  (k : G (au x g).top.pc) : aE (M.ld ⟨bs, oo, none⟩) .i64 G := by
 obtain ⟨h0, h1, h2, h3⟩ := hg
 obtain ⟨a, gb, hl, ei, h4⟩ := e7 h (b := b) h0 h1 dh
 exact vB h4 (cV h2) e k
theorem vO (hg : bA x g) : au (x.next g) g = (au x g).dw (au x g).top.next := rZ hg.1 hg.2.1
theorem pA (hg : bA x g) : bA (x.next g) g := by
 have e := vO hg
 obtain ⟨h0, h1, h2, h3⟩ := hg
 refine ⟨h0, by simpa [Wd.next, Wd.b9] using h1, ?_, ?_⟩ <;> rw [e] <;> simpa [pJ.dw]
theorem zo (hg : bA x g) : (au (x.next g) g).fs.length = (au x g).fs.length := by rw [vO hg]; simp [pJ.dw]
theorem FD {q v : Int} (hg : bA x g) : (au (x.cn g q v) g).fs.length = (au x g).fs.length := by rw [fW hg]; simp [pJ.dw]
theorem K8 (hs : x.Sm) : (x.next g).Sm := D8 hs
def Br (p : cM) (x : Wd) (g : Int) (i : eD) (d : iK) : Prop := bA x g ∧ qW p i ∧ bz i.c ∧ x.Sm ∧ (au x g).top.pc < 1000000000 ∧ 0 ≤ (au x g).top.pc ∧ (∀ c ∈ aB p i, c.Ok x.aI.length) ∧
 match enabled (aB p i) x.aI, d with
 | [], _ => True
 | _, .ee _ => True
 | can, .num v => 0 ≤ v ∧ v < can.length ∧
  let k := can.getD v.toNat 0
  let c := (aB p i).getD k.toNat ⟨0, 0, 0⟩
  let x1 := x.next g
  0 ≤ k ∧ k < (aB p i).length ∧ bz c.bL ∧
  if c.way = 1 then qR p x1 c.ch (bt x1 g c.bL) ∧ (match x1.put p c.ch (bt x1 g c.bL) with
   | .on (y, _) => bA y g ∧ (au y g).fs.length = (au x g).fs.length
   | _ => True)
  else vG x1 c.ch ∧ bA (x1.get c.ch).1 g ∧ (au (x1.get c.ch).1 g).fs.length = (au x g).fs.length
theorem FE {d : iK} (hp : lD R pa p) (hk : Br p x g i d) (hd : if enabled (aB p i) x.aI = [] then L2 = L else fZ R dr 3 ((enabled (aB p i) x.aI).length : Int) d L L2) :
  eB R pa p dr 191 x g i (x.choose p g i d) L L2 := by
 intro gg b bs c M K Kp Q h dh k
 obtain ⟨hg, hcs, K9, hs, IK, RM, hok, hk⟩ := hk
 have zk := hg
 obtain ⟨h0, h1, h2, h3⟩ := zk
 have hs' := hs
 obtain ⟨s1, s2, s3, s4, s5, s6, s7, s8⟩ := hs'
 have hcl : (aB p i).length ≤ 1000 := by
  obtain ⟨_, _, _, hl⟩ := hcs
  unfold aB
  rw [List.length_take, List.length_drop]; omega
 refine lf ?_
 refine aj h ?_
 clear h; intro k1 M h
 refine ae h (ae h (ae h (ae h ?_)))
 refine Bq (b := b) h hp hcs ?_
 clear h; intro A ca M hA h
 refine aY ?_
 unfold Wd.choose at k
 have hen : ∀ {X : HP} {M : Mem} {L3 : List HP}, Hp R (ax (aU pa p gg dr) b x :: L3) M → ∀ (K1 : Value → Mem → Prop), (∀ A' c' M', Hp R (iY A' c' (enabled (aB p i) x.aI) :: ax (aU pa p gg dr) b x :: L3) M' → K1 (.slice A' (enabled (aB p i) x.aI).length c') M') →
   ay (M.ld ⟨b, 0 + 6, none⟩) fun wO cI gS => aa Tryz.prog 205 #[.slice A (aB p i).length ca, .slice wO cI gS] M K1 Kp := by
  intro X M L3 h K1 k1
  have h' := bS h (b := b)
  clear h
  obtain ⟨a, hl, h⟩ := h'
  have hl' := hl
  obtain ⟨l1, l2, l3, l4⟩ := hl'
  refine av h ?_
  refine wV h (hA.src) (Src.row (A := a.ac)) rfl rfl (by omega) l3 hok ?_
  clear h; intro A' c' M h
  exact k1 _ _ _ ((aM (a := a) (p := p) (pa := pa) (dr := dr) (gg := gg) (x := x) hl h b).swap)
 refine hen (X := Q) h _ ?_
 clear h hen; intro A2 c2 M h
 refine aY ?_
 by_cases hcan : enabled (aB p i) x.aI = []
 ·rw [if_pos hcan] at k hd
  subst hd
  rw [hcan] at h ⊢
  refine af ?_
  unfold Wd.vN at k
  dsimp only at k
  refine Di (b := b) h hg dh rfl ?_
  rw [gB RM (by omega)]
  refine Dh (b := b) h hg dh rfl rfl ?_
  clear h; intro M h
  have O2 := pA hg
  have EK := zo hg
  refine CH h hA.src rfl (by omega) ?_
  clear h; intro M h
  refine ⟨_, _, rfl, ?_⟩
  cases he : els (aB p i) with
  | some q =>
   rw [he] at k
   dsimp only at k ⊢
   refine af ?_
   refine ae h ?_
   refine ⟨K9.1, K9.2, ?_⟩
   refine jj (b := b) h O2 dh K9 (by rw [EK]) ?_
   clear h; intro M h
   exact k _ _ (h.sub bG)
  | none =>
   rw [he] at k
   dsimp only at k ⊢
   refine ai ⟨by decide, by decide, by decide, by decide, by decide, by decide, ?_⟩
   have wv := O2
   obtain ⟨g0, g1, g2, g3⟩ := wv
   have h' := e7 h (b := b) g0 g1 dh
   clear h
   obtain ⟨a, gb, hl, ei, h⟩ := h'
   have hl' := hl
   obtain ⟨l1, l2, l3, l4⟩ := hl'
   refine av h ?_
   refine CI (fM := td (au (x.next g) g).top) h hA.src (Src.row (A := a.ac)) ?_ rfl rfl rfl rfl (by omega) l3 hok (fun c hc => s1 c hc) ?_
   ·have e9 : ∀ {L9 : List HP}, Src R L9 (some ⟨bs, 0, none⟩) (hJ.cells (au (x.next g) g).fs) → Src R L9 (iO (some ⟨bs, ((au x g).fs.length - 1) * 11 + 2, none⟩) 0 8 1) (bq.cells (td (au (x.next g) g).top)) := fun hs => by
     have := IP hs (cV g2)
     rwa [EK] at this
    exact e9 Src.row
   clear h; intro M h
   refine ⟨rfl, ?_⟩
   refine ae h (ae h (ae h (ae h ?_)))
   replace h := b6 h gb hl ei dh
   have jt := cy (y := au (x.next g) g) (g := g) hl
   have hcl2 : ∀ x' : Wd, x' = { (x.next g).b9 g (au (x.next g) g) with aI := dX g (td (au (x.next g) g).top) (aB p i) x.aI (aB p i).length } → dz gg a x' := by
    rintro _ rfl
    obtain ⟨m1, m2, m3, m4⟩ := jt
    exact ⟨m1, m2, by show _ = List.length _; rw [iI]; exact l3, m4⟩
   replace h := aM (a := a) (p := p) (pa := pa) (dr := dr) (gg := gg) (x := { (x.next g).b9 g (au (x.next g) g) with aI := dX g (td (au (x.next g) g).top) (aB p i) x.aI (aB p i).length }) (hcl2 _ rfl) h b
   rw [sx g0 g1] at h
   refine ji (b := b) (i := i) (x := { x.next g with aI := dX g (td (au (x.next g) g).top) (aB p i) x.aI (aB p i).length }) h g0 g1 ?_
   clear h; intro M h
   exact ⟨rfl, k _ _ (h.sub bG)⟩
 rw [if_neg hcan] at k hd
 have RN : 0 < (enabled (aB p i) x.aI).length := by
  cases hh : enabled (aB p i) x.aI with
  | nil => exact absurd hh hcan
  | cons _ _ => simp
 refine lW (by simp; omega) ?_
 have B4 : M.ld ⟨b, 0 + 14, none⟩ = some dr := by
  obtain ⟨a, hl, h9⟩ := bS h (b := b)
  exact cH h9
 rw [B4]
 refine G2 ?_
 have h5 : Hp R (sep [iY A2 c2 (enabled (aB p i) x.aI), ax (aU pa p gg dr) b x, pt k1 [.int .i64 i.op, .int .i64 i.a, .int .i64 i.b, .int .i64 i.c] 27, Q] :: L) M := Hp.aO.2 (h.sub bG)
 refine hd _ _ _ _ h5 ?_
 clear h h5 B4
 cases d with
 | ee l =>
  dsimp only at k ⊢
  intro M h5
  have h : Hp R (iY A2 c2 (enabled (aB p i) x.aI) :: ax (aU pa p gg dr) b x :: pt k1 [.int .i64 i.op, .int .i64 i.a, .int .i64 i.b, .int .i64 i.c] 27 :: Q :: L2) M := Hp.aO.1 h5
  exact k _ _ (h.sub bG)
 | num v =>
  dsimp only at k ⊢
  intro M h5
  have h : Hp R (iY A2 c2 (enabled (aB p i) x.aI) :: ax (aU pa p gg dr) b x :: pt k1 [.int .i64 i.op, .int .i64 i.a, .int .i64 i.b, .int .i64 i.c] 27 :: Q :: L2) M := Hp.aO.1 h5
  clear h5
  have hk2 : 0 ≤ v ∧ v < (enabled (aB p i) x.aI).length ∧
    0 ≤ (enabled (aB p i) x.aI).getD v.toNat 0 ∧ (enabled (aB p i) x.aI).getD v.toNat 0 < (aB p i).length ∧ bz ((aB p i).getD ((enabled (aB p i) x.aI).getD v.toNat 0).toNat ⟨0, 0, 0⟩).bL ∧
    if ((aB p i).getD ((enabled (aB p i) x.aI).getD v.toNat 0).toNat ⟨0, 0, 0⟩).way = 1 then qR p (x.next g) ((aB p i).getD ((enabled (aB p i) x.aI).getD v.toNat 0).toNat ⟨0, 0, 0⟩).ch (bt (x.next g) g ((aB p i).getD ((enabled (aB p i) x.aI).getD v.toNat 0).toNat ⟨0, 0, 0⟩).bL) ∧
     (match (x.next g).put p ((aB p i).getD ((enabled (aB p i) x.aI).getD v.toNat 0).toNat ⟨0, 0, 0⟩).ch (bt (x.next g) g ((aB p i).getD ((enabled (aB p i) x.aI).getD v.toNat 0).toNat ⟨0, 0, 0⟩).bL) with
      | .on (y, _) => bA y g ∧ (au y g).fs.length = (au x g).fs.length
      | _ => True)
    else vG (x.next g) ((aB p i).getD ((enabled (aB p i) x.aI).getD v.toNat 0).toNat ⟨0, 0, 0⟩).ch ∧ bA ((x.next g).get ((aB p i).getD ((enabled (aB p i) x.aI).getD v.toNat 0).toNat ⟨0, 0, 0⟩).ch).1 g ∧ (au ((x.next g).get ((aB p i).getD ((enabled (aB p i) x.aI).getD v.toNat 0).toNat ⟨0, 0, 0⟩).ch).1 g).fs.length = (au x g).fs.length := by
   revert hk
   cases hh : enabled (aB p i) x.aI with
   | nil => exact absurd hh hcan
   | cons a l => exact fun hk => hk
  clear hk hcan hd
  generalize hcane : enabled (aB p i) x.aI = can at h k hk2 RN ⊢
  obtain ⟨v0, v1, q0, q1, Mf, O3⟩ := hk2
  refine bU ⟨v0, v1, ?_⟩
  obtain ⟨ab, rfl⟩ := h.bj (A := A2) RN (by decide)
  refine aS ?_
  obtain ⟨q, hq⟩ := aL (l := can) (i := v.toNat) (by omega)
  have hqe : can.getD v.toNat 0 = q := by simp [hq]
  rw [hqe] at k q0 q1 Mf O3
  refine aW (Src.at (h.src (A := some ⟨ab, 0, none⟩)) h (i := v.toNat) (j := 0) hq rfl (by simp [bq])) ?_
  unfold Wd.vM at k
  dsimp only at k
  obtain ⟨cc, SY⟩ := aL (l := aB p i) (i := q.toNat) (by omega)
  have hce : (aB p i).getD q.toNat ⟨0, 0, 0⟩ = cc := by simp [SY]
  rw [hce] at k Mf O3
  refine Di (b := b) h hg dh rfl ?_
  rw [gB RM (by omega)]
  refine Dh (b := b) h hg dh rfl rfl ?_
  clear h; intro M h
  have O2 := pA hg
  have EK := zo hg
  have rF : (x.next g).Sm := K8 hs
  generalize jW : x.next g = x1 at h k O3 O2 EK rF
  refine ⟨q0, q1, ?_⟩
  obtain ⟨cb, co, rfl⟩ := hA.some (by omega) (by decide)
  refine aS ?_
  refine aW (Src.at (hA.src (L := _)) h (i := q.toNat) (j := 0) SY rfl (by simp [uT])) ?_
  refine aW (Src.at (hA.src (L := _)) h (i := q.toNat) (j := 1) SY rfl (by show _ = co + (_ * 3 + 1); omega)) ?_
  refine aW (Src.at (hA.src (L := _)) h (i := q.toNat) (j := 2) SY rfl (by show _ = co + (_ * 3 + 2); omega)) ?_
  refine aj h ?_
  clear h; intro kc M h
  refine ak h ?_
  clear h; intro M h
  refine ak h ?_
  clear h; intro M h
  refine ak h ?_
  clear h; intro M h
  refine ae h ?_
  refine bB.2 ⟨fun e1 => ?_, fun e1 => ?_⟩
  ·rw [if_pos e1] at k O3
   obtain ⟨hput, hy⟩ := O3
   refine ae h (ae h ⟨Mf.1, Mf.2, ?_⟩)
   refine Bf (b := b) h O2 dh Mf (by rw [EK]) ?_
   refine xY (b := b) h hp.cases hput rF ?_ ?_
   ·clear h
    intro y ok M e h
    rw [e] at k hy
    dsimp only at k hy
    refine eC ?_
    refine ae h ⟨K9.1, K9.2, ?_⟩
    refine jj (b := b) h hy.1 dh K9 (by rw [hy.2]) ?_
    clear h; intro M h
    exact k _ _ (h.sub bG)
   ·clear h
    intro y n M e h
    rw [e] at k
    exact k _ _ (h.sub bG)
  ·rw [if_neg e1] at k O3
   obtain ⟨OQ, Bg, hfl⟩ := O3
   refine ae h (ae h ?_)
   refine xZ (b := b) h OQ rF ?_
   clear h; intro M h
   generalize x1.get cc.ch = r at h k Bg hfl
   obtain ⟨y, w, sm, ok⟩ := r
   dsimp only at h k Bg hfl ⊢
   refine ⟨_, _, _, rfl, cH h, Mf.1, Mf.2, ?_⟩
   refine jj (b := b) h Bg dh Mf (by rw [hfl]) ?_
   clear h; intro M h
   refine ⟨cH h, ae h ⟨K9.1, K9.2, ?_⟩⟩
   refine jj (b := b) h (fX Bg) dh K9 (by rw [FD Bg, hfl]) ?_
   clear h; intro M h
   exact k _ _ (h.sub bG)
end
def bI.before (a b : bI) : Bool := decide (a.t < b.t) || (a.t == b.t && decide (a.seq < b.seq))
def ox (l : List bI) (i : Nat) : bI := l.getD i ⟨0, 0, 0⟩
def g8 (l : List bI) (i j : Nat) : List bI := (l.set i (ox l j)).set j (ox l i)
def IQ : Nat → Nat → List bI → List bI
 | 0, _, l => l
 | f + 1, i, l => if 0 < i ∧ (ox l i).before (ox l ((i - 1) / 4)) = true then IQ f ((i - 1) / 4) (g8 l i ((i - 1) / 4)) else l
def eU (l : List bI) : Nat → Nat → Nat → Nat
 | 0, _, out => out
 | n + 1, k, out => if k < l.length then eU l n (k + 1) (if (ox l k).before (ox l out) then k else out) else out
def fj (l : List bI) (i : Nat) : Nat := eU l 4 (4 * i + 1) i
def oy : Nat → Nat → List bI → List bI
 | 0, _, l => l
 | f + 1, i, l => if fj l i = i then l else oy f (fj l i) (g8 l i (fj l i))
def tf (l : List bI) (x : bI) : List bI := IQ l.length l.length (l ++ [x])
def dI (l : List bI) (i : Nat) : List bI :=
 if i < l.length - 1 then IQ i i (oy l.length i ((g8 l i (l.length - 1)).take (l.length - 1))) else (g8 l i (l.length - 1)).take (l.length - 1)
def dO : Nat → List bI → Int → List bI × List bI
 | 0, l, _ => (l, [])
 | f + 1, l, now => if 0 < l.length ∧ (ox l 0).t ≤ now then ((dO f (dI l 0) now).1, ox l 0 :: (dO f (dI l 0) now).2) else (l, [])
theorem Bs {f i : Nat} {l : List bI} : IQ (f + 1) i l = if 0 < i ∧ (ox l i).before (ox l ((i - 1) / 4)) = true then IQ f ((i - 1) / 4) (g8 l i ((i - 1) / 4)) else l := rfl
theorem tR {l : List bI} {n k out : Nat} : eU l (n + 1) k out = if k < l.length then eU l n (k + 1) (if (ox l k).before (ox l out) then k else out) else out := rfl
theorem Dj {f i : Nat} {l : List bI} : oy (f + 1) i l = if fj l i = i then l else oy f (fj l i) (g8 l i (fj l i)) := rfl
theorem vP {f : Nat} {l : List bI} {now : Int} : dO (f + 1) l now = if 0 < l.length ∧ (ox l 0).t ≤ now then ((dO f (dI l 0) now).1, ox l 0 :: (dO f (dI l 0) now).2) else (l, []) := rfl
theorem gD {l : List bI} {i j : Nat} : (g8 l i j).length = l.length := by simp [g8]
theorem zp : ∀ {f i : Nat} {l : List bI}, (IQ f i l).length = l.length
 | 0, _, _ => rfl
 | f + 1, i, l => by unfold IQ; split; rw [zp, gD]; rfl
theorem ir : ∀ {f i : Nat} {l : List bI}, (oy f i l).length = l.length
 | 0, _, _ => rfl
 | f + 1, i, l => by unfold oy; split; rfl; rw [ir, gD]
theorem Bt {l : List bI} {i : Nat} : (dI l i).length = l.length - 1 := by
 unfold dI; split
 ·rw [zp, ir, List.length_take, gD]; omega
 ·rw [List.length_take, gD]; omega
theorem FF {l : List bI} {x : bI} : (tf l x).length = l.length + 1 := by unfold tf; rw [zp]; simp
theorem jx {l : List bI} {i : Nat} (h : i < l.length) : l[i]? = some (ox l i) := by
 unfold ox; rw [List.getD_eq_getElem?_getD, List.getElem?_eq_getElem h]; rfl
theorem jy {l : List bI} : ∀ (n k out : Nat), out < l.length → out < k → eU l n k out < l.length ∧ (out ≤ eU l n k out)
 | 0, _, _, h, _ => ⟨h, Nat.le_refl _⟩
 | n + 1, k, out, h, hk => by
  unfold eU; split
  ·rename_i hl
   split
   ·have := jy n (k + 1) k hl (by omega); omega
   ·exact jy n (k + 1) out h (by omega)
  ·exact ⟨h, Nat.le_refl _⟩
theorem FG {l : List bI} {i : Nat} (h : i < l.length) : fj l i < l.length ∧ i ≤ fj l i := jy 4 _ i h (by omega)
structure Mg (b o : Nat) (P : Option Addr → Nat → Nat → Int → HP) : Prop where
 Db : ∀ (R : Mem) (L : List HP) (M : Mem) (A : Option Addr) (n c : Nat) (s : Int), Hp R (P A n c s :: L) M → M.ld ⟨b, o, none⟩ = some (.slice A n c)
 ldI : ∀ (R : Mem) (L : List HP) (M : Mem) (A : Option Addr) (n c : Nat) (s : Int), Hp R (P A n c s :: L) M → M.ld ⟨b, o + 1, none⟩ = some (.int .u64 s)
 RH : ∀ (R : Mem) (L : List HP) (M : Mem) (A A' : Option Addr) (n c n' c' : Nat) (s : Int) (G : Mem → Prop), Hp R (P A n c s :: L) M → (∀ M', Hp R (P A' n' c' s :: L) M' → G M') → aF M ⟨b, o, none⟩ (.slice A' n' c') G
 stI : ∀ (R : Mem) (L : List HP) (M : Mem) (A : Option Addr) (n c : Nat) (s s' : Int) (G : Mem → Prop), Hp R (P A n c s :: L) M → (∀ M', Hp R (P A n c s' :: L) M' → G M') → aF M ⟨b, o + 1, none⟩ (.int .u64 s') G
theorem Ec : bn Tryz.prog 46 203 3 24 [.int .u64 0, .int .u64 0, .int .i64 0] := bn.mk' (zv := .agg #[.int .u64 0, .int .u64 0, .int .i64 0]) (by kernel_rfl) (by kernel_rfl) rfl (by omega)
section
variable {R : Mem} {L L' : List HP} {M : Mem} {K : Value → Mem → Prop} {Kp : List PanicEntry → Mem → Prop} {b o : Nat} {P : Option Addr → Nat → Nat → Int → HP} {A : Option Addr} {c : Nat} {s : Int} {l : List bI} {i j : Nat}
theorem jm {q o0 o1 o2 o3 : Nat} {x : bI} {G : Int → Int → Int → Prop} (h : Hp R L M) (hs : Src R L (some ⟨q, o0, none⟩) (ql.cells l)) (hi : l[i]? = some x) (e1 : o1 = o0 + i * 3) (e2 : o2 = o0 + i * 3 + 1) (e3 : o3 = o0 + i * 3 + 2) (g : G x.t x.seq x.id) :
  aE (M.ld ⟨q, o1, none⟩) .u64 fun a => aE (M.ld ⟨q, o2, none⟩) .u64 fun b => aE (M.ld ⟨q, o3, none⟩) .i64 fun d => G a b d := by
 refine aW (Src.at hs h (i := i) (j := 0) hi rfl (by rw [e1]; rfl)) ?_
 refine aW (Src.at hs h (i := i) (j := 1) hi rfl (by rw [e2]; show _ = o0 + (i * 3 + 1); omega)) ?_
 exact aW (Src.at hs h (i := i) (j := 2) hi rfl (by rw [e3]; show _ = o0 + (i * 3 + 2); omega)) g
theorem Ed {q o1 o2 o3 : Nat} {x y : bI} {G : Mem → Prop} (h : Hp R L M) [r : bZ (some ⟨q, 0, none⟩) L bI ql 203 c l L'] (hi : l[i]? = some x) (e1 : o1 = i * 3) (e2 : o2 = i * 3 + 1) (e3 : o3 = i * 3 + 2)
  (k : ∀ M', Hp R (eG (some ⟨q, 0, none⟩) c (l.set i y) :: L') M' → G M') :
  aF M ⟨q, o1, none⟩ (.int .u64 y.t) fun M1 => aF M1 ⟨q, o2, none⟩ (.int .u64 y.seq) fun M2 => aF M2 ⟨q, o3, none⟩ (.int .i64 y.id) G := by
 have hl := (List.getElem?_eq_some_iff.1 hi).1
 refine gp (E := ql) (a := x) (a' := ⟨y.t, x.seq, x.id⟩) i 0 h hi (by decide) rfl e1 ?_
 clear h; intro M h
 refine gp (E := ql) (a := ⟨y.t, x.seq, x.id⟩) (a' := ⟨y.t, y.seq, x.id⟩) i 1 h (by simp [hl]) (by decide) rfl e2 ?_
 clear h; intro M h
 refine gp (E := ql) (a := ⟨y.t, y.seq, x.id⟩) (a' := y) i 2 h (by simp [hl]) (by decide) rfl e3 ?_
 clear h; intro M h
 rw [fV, fV] at h
 exact k _ h
theorem tg {x y : bI} (h : Hp R L M) (k : ∀ M', Hp R L M' → K (.bool (x.before y)) M') : aa Tryz.prog 187 #[.agg #[.int .u64 x.t, .int .u64 x.seq, .int .i64 x.id], .agg #[.int .u64 y.t, .int .u64 y.seq, .int .i64 y.id]] M K Kp := by
 refine uY ?_
 repeat (first|(refine aj h ?_;clear h;intro kb M h)|(refine ak h ?_;clear h;intro M h)|refine St.to h ?_|(apply Exists.intro;(repeat apply Exists.intro);refine And.intro rfl ?_)|refine aq ?_|refine af ?_|refine ai ?_)
 unfold bI.before at k
 refine aH.2 ⟨fun h1 => ?_, fun h1 => ?_⟩
 ·have := k _ h.gk
  rwa [decide_eq_true h1, Bool.true_or] at this
 ·repeat (first|(refine aj h ?_;clear h;intro kb M h)|(refine ak h ?_;clear h;intro M h)|refine St.to h ?_|(apply Exists.intro;(repeat apply Exists.intro);refine And.intro rfl ?_)|refine aq ?_|refine af ?_|refine ai ?_)
  refine bB.2 ⟨fun h2 => ?_, fun h2 => ?_⟩
  ·repeat (first|(refine aj h ?_;clear h;intro kb M h)|(refine ak h ?_;clear h;intro M h)|refine St.to h ?_|(apply Exists.intro;(repeat apply Exists.intro);refine And.intro rfl ?_)|refine aq ?_|refine af ?_|refine ai ?_)
   have := k _ h.gk
   rwa [decide_eq_false h1, Bool.false_or, beq_iff_eq.2 h2, Bool.true_and] at this
  ·have := k _ h.gk
   rwa [decide_eq_false h1, Bool.false_or, show (x.t == y.t) = false from by simpa using h2, Bool.false_and] at this
theorem su (D : Mg b o P) (h : Hp R (P A l.length c s :: eG A c l :: L) M) (hi : i < l.length) (hj : j < l.length)
  (k : ∀ M', Hp R (P A l.length c s :: eG A c (g8 l i j) :: L) M' → K (.tuple #[]) M') : aa Tryz.prog 154 #[.pointer (some ⟨b, o, none⟩), .int .i64 (i : Int), .int .i64 (j : Int)] M K Kp := by
 refine qn ?_
 obtain ⟨q, rfl⟩ := h.bj (A := A) (by omega) (by decide)
 have hs := h.src (A := some ⟨q, 0, none⟩)
 rw [D.Db _ _ _ _ _ _ _ h]
 refine aY (aY (aY ⟨by omega, by omega, aS ?_⟩))
 refine jm h hs (jx hj) (by simp) (by simp) (by simp) ?_
 refine aY ⟨by omega, by omega, aS ?_⟩
 refine jm h hs (jx hi) (by simp) (by simp) (by simp) ?_
 clear hs
 refine ⟨by omega, by omega, aS ?_⟩
 refine Ed (y := ox l j) h (jx hi) (by simp) (by simp) (by simp) ?_
 clear h; intro M h
 refine ⟨by omega, by omega, aS ?_⟩
 have MO : (l.set i (ox l j))[j]? = some (ox l j) := by
  rw [List.getElem?_set]
  split
  ·rfl
  ·exact jx hj
 refine Ed (y := ox l i) h MO (by simp) (by simp) (by simp) ?_
 clear h; intro M h
 exact k _ (h.sub bG)
theorem vQ (D : Mg b o P) (h : Hp R (P A l.length c s :: eG A c l :: L) M) (hi : i < l.length) (hl : l.length ≤ 1000000)
  (k : ∀ M', Hp R (P A l.length c s :: eG A c l :: L) M' → K (.int .i64 (fj l i : Int)) M') : aa Tryz.prog 186 #[.pointer (some ⟨b, o, none⟩), .int .i64 (i : Int)] M K Kp := by
 refine o7 ?_
 have e1 : IntKind.wrap .i64 (IntKind.wrap .i64 (4 * (i : Int)) + 1) = ((4 * i + 1 : Nat) : Int) := by
  rw [dH (z := 4 * (i : Int)) (by omega) (by omega), dH (by omega) (by omega)]; omega
 have e4 : IntKind.wrap .i64 (IntKind.wrap .i64 (4 * (i : Int)) + 4) = ((4 * i + 4 : Nat) : Int) := by
  rw [dH (z := 4 * (i : Int)) (by omega) (by omega), dH (by omega) (by omega)]; omega
 rw [e1, e4]
 refine ⟨fun d vs M => ∃ kk out : Nat, vs = [.int .i64 (out : Int), .int .i64 (kk : Int)] ∧ d = 4 * i + 5 - kk ∧ kk ≤ 4 * i + 5 ∧ out < l.length ∧ out < kk ∧ eU l (4 * i + 5 - kk) kk out = fj l i ∧ Hp R (P A l.length c s :: eG A c l :: L) M,
  ⟨_, 4 * i + 1, i, rfl, rfl, by omega, hi, by omega, by rw [show 4 * i + 5 - (4 * i + 1) = 4 from by omega]; rfl, h⟩, ?_⟩
 clear h
 rintro d _ n5 n6 M ⟨kk, out, he, hd, hkk, ho, hok, hf, h⟩
 simp only [List.cons.injEq, Value.int.injEq, and_true, true_and] at he
 obtain ⟨rfl, rfl⟩ := he
 refine aH.2 ⟨fun hle => ?_, fun hgt => ?_⟩
 ·rw [D.Db _ _ _ _ _ _ _ h]
  obtain ⟨n, hn⟩ : ∃ n, 4 * i + 5 - kk = n + 1 := ⟨4 * i + 4 - kk, by omega⟩
  rw [hn] at hf
  rw [tR] at hf
  refine aY ?_
  refine aH.2 ⟨fun hlt => ?_, fun hge => ?_⟩
  ·rw [if_pos (by omega)] at hf
   obtain ⟨q, rfl⟩ := h.bj (A := A) (by omega) (by decide)
   have hs := h.src (A := some ⟨q, 0, none⟩)
   refine aY ⟨by omega, by omega, aS ?_⟩
   refine jm h hs (jx (i := kk) (by omega)) (by simp) (by simp) (by simp) ?_
   refine aY ⟨by omega, by omega, aS ?_⟩
   refine jm h hs (jx (i := out) (by omega)) (by simp) (by simp) (by simp) ?_
   refine tg h ?_
   clear h hs; intro M h
   refine eC ?_
   have e : IntKind.wrap .i64 ((kk : Int) + 1) = ((kk + 1 : Nat) : Int) := by rw [dH (by omega) (by omega)]; omega
   rw [e]
   cases hb : (ox l kk).before (ox l out) with
   | true =>
    rw [hb] at hf
    exact af ⟨n, by omega, kk + 1, kk, rfl, by omega, by omega, by omega, by omega, by rw [show 4 * i + 5 - (kk + 1) = n from by omega]; exact hf, h⟩
   | false =>
    rw [hb] at hf
    exact ai ⟨n, by omega, kk + 1, out, rfl, by omega, by omega, by omega, by omega, by rw [show 4 * i + 5 - (kk + 1) = n from by omega]; exact hf, h⟩
  ·rw [if_neg (by omega)] at hf
   subst hf
   exact k _ h
 ·have : 4 * i + 5 - kk = 0 := by omega
  rw [this] at hf
  have pR : out = fj l i := hf
  subst pR
  exact k _ h
theorem FH (D : Mg b o P) {f : Nat} (h : Hp R (P A l.length c s :: eG A c l :: L) M) (hi : i < l.length) (hl : l.length ≤ 1000000) (hf : l.length ≤ f + i)
  (k : ∀ M', Hp R (P A l.length c s :: eG A c (oy f i l) :: L) M' → K (.tuple #[]) M') : aa Tryz.prog 155 #[.pointer (some ⟨b, o, none⟩), .int .i64 (i : Int)] M K Kp := by
 refine qo ?_
 refine vQ D h hi hl ?_
 clear h; intro M h
 refine bU ?_
 refine ⟨fun d vs M => ∃ (f' i' : Nat) (l' : List bI), vs = [.int .i64 (i' : Int), .int .i64 (fj l' i' : Int)] ∧ d = l.length - i' ∧ i' < l.length ∧ l'.length = l.length ∧ l.length ≤ f' + i' ∧ oy f' i' l' = oy f i l ∧ Hp R (P A l.length c s :: eG A c l' :: L) M,
  ⟨_, f, i, l, rfl, rfl, hi, rfl, hf, rfl, h⟩, ?_⟩
 clear h
 rintro d _ n5 n6 M ⟨f', i', l', he, hd, hi', hl', Mx, yj, h⟩
 simp only [List.cons.injEq, Value.int.injEq, and_true, true_and] at he
 obtain ⟨rfl, rfl⟩ := he
 obtain ⟨g, rfl⟩ : ∃ g, f' = g + 1 := ⟨f' - 1, by omega⟩
 rw [Dj] at yj
 obtain ⟨m1, m2⟩ := FG (l := l') (i := i') (by omega)
 rw [← hl'] at h
 refine bM.2 ⟨fun hne => ?_, fun heq => ?_⟩
 ·rw [if_neg (by intro e; apply hne; rw [e])] at yj
  refine su D h (i := i') (j := fj l' i') (by omega) (by omega) ?_
  clear h; intro M h
  refine ⟨rfl, ?_⟩
  have PL : (g8 l' i' (fj l' i')).length = l'.length := gD
  rw [← PL] at h
  refine vQ D h (by omega) (by omega) ?_
  clear h; intro M h
  rw [PL] at h
  refine bU ?_
  exact ⟨l.length - fj l' i', by omega, g, fj l' i', _, rfl, rfl, by omega, by omega, by omega, yj, by rw [← hl']; exact h⟩
 ·rw [if_pos (by omega)] at yj
  subst yj
  rw [hl'] at h
  exact k _ h
theorem Ee (D : Mg b o P) {f : Nat} (h : Hp R (P A l.length c s :: eG A c l :: L) M) (hi : i < l.length) (hl : l.length ≤ 1000000) (hf : i ≤ f)
  (k : ∀ M', Hp R (P A l.length c s :: eG A c (IQ f i l) :: L) M' → K (.tuple #[]) M') : aa Tryz.prog 156 #[.pointer (some ⟨b, o, none⟩), .int .i64 (i : Int)] M K Kp := by
 refine tI ?_
 refine ⟨fun d vs M => ∃ (f' i' : Nat) (l' : List bI), vs = [.int .i64 (i' : Int)] ∧ d = i' ∧ i' < l.length ∧ l'.length = l.length ∧ i' ≤ f' ∧ IQ f' i' l' = IQ f i l ∧ Hp R (P A l.length c s :: eG A c l' :: L) M,
  ⟨_, f, i, l, rfl, rfl, hi, rfl, hf, rfl, h⟩, ?_⟩
 clear h
 rintro d _ n5 M ⟨f', i', l', he, hd, hi', hl', Mx, yj, h⟩
 simp only [List.cons.injEq, Value.int.injEq, and_true, true_and] at he
 subst he
 refine aH.2 ⟨fun hgt => ?_, fun hle => ?_⟩
 ·obtain ⟨g, rfl⟩ : ∃ g, f' = g + 1 := ⟨f' - 1, by omega⟩
  rw [Bs] at yj
  have ep : IntKind.wrap .i64 (Int.tdiv (IntKind.wrap .i64 ((i' : Int) - 1)) 4) = (((i' - 1) / 4 : Nat) : Int) := by
   rw [dH (z := (i' : Int) - 1) (by omega) (by omega), show ((i' : Int) - 1) = ((i' - 1 : Nat) : Int) from by omega, show (4 : Int) = ((4 : Nat) : Int) from rfl, ← Int.ofNat_tdiv, dH (by omega) (by omega)]
  have hp : (i' - 1) / 4 < i' := by omega
  generalize hpe : (i' - 1) / 4 = p at ep yj hp
  rw [ep, D.Db _ _ _ _ _ _ _ h]
  obtain ⟨q, rfl⟩ := h.bj (A := A) (by omega) (by decide)
  have hs := h.src (A := some ⟨q, 0, none⟩)
  refine ⟨by omega, aY ⟨by omega, by omega, aS ?_⟩⟩
  refine jm h hs (jx (i := i') (by omega)) (by simp) (by simp) (by simp) ?_
  refine aY ⟨by omega, by omega, aS ?_⟩
  refine jm h hs (jx (i := p) (by omega)) (by simp) (by simp) (by simp) ?_
  refine tg h ?_
  clear h hs; intro M h
  refine eC ?_
  cases hb : (ox l' i').before (ox l' p) with
  | true =>
   rw [if_pos ⟨by omega, hb⟩] at yj
   refine af ⟨by omega, ?_⟩
   rw [← hl'] at h
   refine su D h (i := i') (j := p) (by omega) (by omega) ?_
   clear h; intro M h
   rw [hl'] at h
   exact ⟨rfl, by omega, p, by omega, g, p, _, rfl, rfl, by omega, by rw [gD]; exact hl', by omega, yj, h⟩
  | false =>
   rw [if_neg (by rintro ⟨_, h2⟩; rw [hb] at h2; cases h2)] at yj
   refine ai ?_
   subst yj
   exact k _ h
 ·have : IQ f' i' l' = l' := by
   have h0 : i' = 0 := by omega
   subst h0
   cases f' with
   | zero => rfl
   | succ g => rw [Bs]; rw [if_neg (by omega)]
  rw [this] at yj
  subst yj
  exact k _ h
theorem FI (D : Mg b o P) {t id : Int} (h : Hp R (P A l.length c s :: eG A c l :: L) M) (hl : l.length < 1000000)
  (k : ∀ v A' c' M', Hp R (P A' (l.length + 1) c' (IntKind.wrap .u64 (s + 1)) :: eG A' c' (tf l ⟨t, s, id⟩) :: L) M' → K (.int .u64 v) M') : aa Tryz.prog 244 #[.pointer (some ⟨b, o, none⟩), .int .u64 t, .int .i64 id] M K Kp := by
 refine qp ?_
 rw [D.Db _ _ _ _ _ _ _ h, D.ldI _ _ _ _ _ _ _ h]
 refine aY (bU ?_)
 refine aj h ?_
 clear h; intro kb M h
 replace h : Hp R (P A l.length c s :: eG A c l :: pt kb [.int .u64 t, .int .u64 s, .int .i64 id] 203 :: L) M := h.sub bG
 refine h.bu (A := A) Ec [(⟨t, s, id⟩ : bI)] rfl rfl (by simp only [List.length_singleton]; omega) ?_
 clear h; intro A' c' M h
 refine aY ?_
 have hlen : (l ++ [(⟨t, s, id⟩ : bI)]).length = l.length + 1 := by simp
 refine D.RH _ _ _ _ _ _ _ _ _ _ _ h.swap ?_
 clear h; intro M h
 rw [D.ldI _ _ _ _ _ _ _ h]
 refine bU ?_
 refine D.stI _ _ _ _ _ _ _ _ _ h ?_
 clear h; intro M h
 rw [D.Db _ _ _ _ _ _ _ h]
 refine aY ?_
 have e : IntKind.wrap .i64 (((l ++ [(⟨t, s, id⟩ : bI)]).length : Int) - 1) = ((l.length : Nat) : Int) := by
  rw [dH (by omega) (by omega)]; omega
 rw [e]
 refine Ee D (f := l.length) h (by omega) (by omega) (Nat.le_refl _) ?_
 clear h; intro M h
 refine ⟨rfl, ?_⟩
 rw [D.ldI _ _ _ _ _ _ _ h]
 refine bU ?_
 rw [hlen] at h
 exact k _ _ _ _ h
theorem Bu (D : Mg b o P) (h : Hp R (P A l.length c s :: eG A c l :: L) M) (hi : i < l.length) (hl : l.length ≤ 1000000)
  (k : ∀ M', Hp R (P A (l.length - 1) c s :: eG A c (dI l i) :: L) M' → K (.agg #[.int .u64 (ox l i).t, .int .u64 (ox l i).seq, .int .i64 (ox l i).id]) M') : aa Tryz.prog 117 #[.pointer (some ⟨b, o, none⟩), .int .i64 (i : Int)] M K Kp := by
 refine nA ?_
 have hcap := h.gT A
 obtain ⟨q, rfl⟩ := h.bj (A := A) (by omega) (by decide)
 refine aj h ?_
 clear h; intro k1 M h
 have hs := h.src (A := some ⟨q, 0, none⟩)
 replace h : Hp R (P (some ⟨q, 0, none⟩) l.length c s :: eG (some ⟨q, 0, none⟩) c l :: pt k1 [.int .u64 0, .int .u64 0, .int .i64 0] 203 :: L) M := h.sub bG
 replace hs := h.src (A := some ⟨q, 0, none⟩)
 rw [D.Db _ _ _ _ _ _ _ h]
 refine aY ⟨by omega, by omega, aS ?_⟩
 refine jm h hs (jx hi) (by simp) (by simp) (by simp) ?_
 clear hs
 generalize hx : ox l i = x at k
 refine aj h ?_
 clear h; intro k2 M h
 refine ak h ?_
 clear h; intro M h
 refine ak h ?_
 clear h; intro M h
 refine ak h ?_
 clear h; intro M h
 replace h : Hp R (P (some ⟨q, 0, none⟩) l.length c s :: eG (some ⟨q, 0, none⟩) c l :: pt k2 [.int .u64 x.t, .int .u64 x.seq, .int .i64 x.id] 203 :: pt k1 [.int .u64 0, .int .u64 0, .int .i64 0] 203 :: L) M := h.sub bG
 rw [D.Db _ _ _ _ _ _ _ h]
 have e : IntKind.wrap .i64 ((l.length : Int) - 1) = ((l.length - 1 : Nat) : Int) := by
  rw [dH (by omega) (by omega)]; omega
 refine aY ?_
 rw [e]
 refine su D h hi (j := l.length - 1) (by omega) ?_
 clear h; intro M h
 refine ⟨rfl, ?_⟩
 rw [D.Db _ _ _ _ _ _ _ h]
 refine aY ⟨by omega, by omega, by omega, by omega, by omega, by omega, ?_⟩
 have e2 : iO (some ⟨q, 0, none⟩) 0 (Int.toNat (c : Int)) 3 = some ⟨q, 0, none⟩ := by
  unfold iO; rw [if_neg (by simp; omega)]; rfl
 rw [e2]
 simp only [Int.toNat_natCast, Nat.sub_zero]
 refine D.RH _ _ _ _ _ _ _ _ _ _ _ h ?_
 clear h; intro M h
 have PL : ((g8 l i (l.length - 1)).take (l.length - 1)).length = l.length - 1 := by rw [List.length_take, gD]; omega
 have fin : ∀ (M : Mem) (Q : List HP), Hp R (P (some ⟨q, 0, none⟩) (l.length - 1) c s :: eG (some ⟨q, 0, none⟩) c (dI l i) :: pt k2 [.int .u64 x.t, .int .u64 x.seq, .int .i64 x.id] 203 :: pt k1 [.int .u64 0, .int .u64 0, .int .i64 0] 203 :: L) M →
   aE (Mem.ld M ⟨k2, 0, none⟩) .u64 fun tE => aE (Mem.ld M ⟨k2, (0 + 1), none⟩) .u64 fun sV => aE (Mem.ld M ⟨k2, (0 + 2), none⟩) .i64 fun sP =>
   aF M ⟨k1, 0, none⟩ (.int .u64 tE) fun m6 => aF m6 ⟨k1, (0 + 1), none⟩ (.int .u64 sV) fun yV => aF yV ⟨k1, (0 + 2), none⟩ (.int .i64 sP) fun kQ =>
   aE (Mem.ld kQ ⟨k1, 0, none⟩) .u64 fun wW => aE (Mem.ld kQ ⟨k1, (0 + 1), none⟩) .u64 fun r5 => aE (Mem.ld kQ ⟨k1, (0 + 2), none⟩) .i64 fun wA =>
   K (.agg #[(.int .u64 wW), (.int .u64 r5), (.int .i64 wA)]) kQ := by
  intro M _ h
  refine ae h (ae h (ae h ?_))
  refine ak h ?_
  clear h; intro M h
  refine ak h ?_
  clear h; intro M h
  refine ak h ?_
  clear h; intro M h
  refine ae h (ae h (ae h ?_))
  exact k _ (h.sub bG)
 replace h : Hp R (P (some ⟨q, 0, none⟩) (l.length - 1) c s :: eG (some ⟨q, 0, none⟩) c ((g8 l i (l.length - 1)).take (l.length - 1)) :: pt k2 [.int .u64 x.t, .int .u64 x.seq, .int .i64 x.id] 203 :: pt k1 [.int .u64 0, .int .u64 0, .int .i64 0] 203 :: L) M := (h.swap.G4 (l.length - 1)).swap
 unfold dI at fin
 refine aH.2 ⟨fun hlt => ?_, fun hge => ?_⟩
 ·rw [if_pos (by omega)] at fin
  have h' : Hp R (P (some ⟨q, 0, none⟩) ((g8 l i (l.length - 1)).take (l.length - 1)).length c s :: eG (some ⟨q, 0, none⟩) c ((g8 l i (l.length - 1)).take (l.length - 1)) :: pt k2 [.int .u64 x.t, .int .u64 x.seq, .int .i64 x.id] 203 :: pt k1 [.int .u64 0, .int .u64 0, .int .i64 0] 203 :: L) M := by rw [PL]; exact h
  clear h
  have h := h'
  clear h'
  refine FH D (f := l.length) h (by omega) (by omega) (by omega) ?_
  clear h; intro M h
  refine ⟨rfl, ?_⟩
  rw [show ((g8 l i (l.length - 1)).take (l.length - 1)).length = (oy l.length i ((g8 l i (l.length - 1)).take (l.length - 1))).length from ir.symm] at h
  refine Ee D (f := i) h (by rw [ir]; omega) (by rw [ir]; omega) (Nat.le_refl _) ?_
  clear h; intro M h
  refine ⟨rfl, ?_⟩
  rw [ir, PL] at h
  exact fin M [] h
 ·rw [if_neg (by omega)] at fin
  exact fin M [] h
theorem FJ (D : Mg b o P) {now : Int} (h : Hp R (P A l.length c s :: eG A c l :: L) M) (hl : l.length ≤ 1000000)
  (k : ∀ A' c' M', Hp R (P A (dO l.length l now).1.length c s :: eG A c (dO l.length l now).1 :: eG A' c' (dO l.length l now).2 :: L) M' → K (.slice A' (dO l.length l now).2.length c') M') :
  aa Tryz.prog 157 #[.pointer (some ⟨b, o, none⟩), .int .u64 now] M K Kp := by
 refine qm ?_
 have h0 := h.ck ql 203
 refine ⟨fun d vs M => ∃ (A' : Option Addr) (c' : Nat) (out l' : List bI), vs = [.slice A' out.length c'] ∧ d = l'.length ∧ l'.length + out.length = l.length ∧ (dO l'.length l' now).1 = (dO l.length l now).1 ∧ out ++ (dO l'.length l' now).2 = (dO l.length l now).2 ∧
   Hp R (P A l'.length c s :: eG A c l' :: eG A' c' out :: L) M, ⟨_, none, 0, [], l, rfl, rfl, rfl, rfl, rfl, h0.sub bG⟩, ?_⟩
 clear h h0
 rintro d _ A' n' c' M ⟨A2, c2, out, l', he, hd, PL, e1, e2, h⟩
 simp only [List.cons.injEq, Value.slice.injEq, and_true, true_and] at he
 obtain ⟨rfl, rfl, rfl⟩ := he
 rw [D.Db _ _ _ _ _ _ _ h]
 have stop : ¬ (0 < l'.length ∧ (ox l' 0).t ≤ now) → K (.slice A' out.length c') M := by
  intro hn
  have e : dO l'.length l' now = (l', []) := by
   cases hl' : l'.length with
   | zero => rfl
   | succ m => rw [vP]; rw [if_neg hn]
  rw [e] at e1 e2
  dsimp only at e1 e2
  rw [List.append_nil] at e2
  subst e1; subst e2
  exact k _ _ _ h
 refine aY ?_
 refine aH.2 ⟨fun hgt => ?_, fun hle => stop (by omega)⟩
 have hcap := h.gT A
 obtain ⟨q, rfl⟩ := h.bj (A := A) (by omega) (by decide)
 have hs := h.src (A := some ⟨q, 0, none⟩)
 refine aY ⟨by omega, by omega, aS ?_⟩
 refine aW (Src.at hs h (i := 0) (j := 0) (jx (by omega)) rfl rfl) ?_
 clear hs
 refine aH.2 ⟨fun hle => ?_, fun hgt2 => stop (fun hn => hgt2 hn.2)⟩
 refine Bu D h (i := 0) (by omega) (by omega) ?_
 clear h stop; intro M h
 refine ⟨_, _, _, rfl, ?_⟩
 refine aj h ?_
 clear h; intro kb M h
 refine h.bu (A := A') Ec [ox l' 0] rfl rfl (by simp only [List.length_singleton]; omega) ?_
 clear h; intro A3 c3 M h
 refine aY ?_
 have jr : (dI l' 0).length = l'.length - 1 := Bt
 have hw : dO l'.length l' now = ((dO (dI l' 0).length (dI l' 0) now).1, ox l' 0 :: (dO (dI l' 0).length (dI l' 0) now).2) := by
  obtain ⟨m, hm⟩ : ∃ m, l'.length = m + 1 := ⟨l'.length - 1, by omega⟩
  rw [jr, hm]
  show dO (m + 1) l' now = _
  rw [vP]
  rw [if_pos ⟨by omega, hle⟩]; rfl
 rw [hw] at e1 e2
 rw [← jr] at h
 exact ⟨_, by omega, A3, c3, out ++ [ox l' 0], dI l' 0, rfl, rfl, by simp; omega, e1, by rw [List.append_assoc]; exact e2, h.sub bG⟩
end
def oc (x : Wd) (k : Int) : Lk := x.bE.getD k.toNat ⟨-1, []⟩
def Wd.mK (x : Wd) (k : Int) (c : Lk) : Wd := { x with bE := x.bE.set k.toNat c }
def Wd.lock (x : Wd) (g : Int) (i : eD) : Wd := if ((oc x i.a).take g).2 then x.mK i.a ((oc x i.a).take g).1 else (x.mK i.a ((oc x i.a).take g).1).block g i
def Wd.unlock (x : Wd) (g : Int) (i : eD) : Out Wd :=
 if ((oc x i.a).pq g).2.2 ≠ 0 then .eF (-3) (x.mK i.a ((oc x i.a).pq g).1)
 else if ((oc x i.a).pq g).2.1 ≠ -1 then .on ((x.mK i.a ((oc x i.a).pq g).1).kY ((oc x i.a).pq g).2.1) else .on (x.mK i.a ((oc x i.a).pq g).1)
def IS (x : Wd) (k : Int) : Prop := 0 ≤ k ∧ k < x.bE.length
instance (x : Wd) (k : Int) : Decidable (IS x k) := by unfold IS; infer_instance
def qX (x : Wd) (g : Int) (i : eD) : Prop := IS x i.a ∧ (((oc x i.a).pq g).2.1 ≠ -1 → 0 ≤ ((oc x i.a).pq g).2.1 ∧ ((oc x i.a).pq g).2.1 < x.gs.length)
instance (x : Wd) (g : Int) (i : eD) : Decidable (qX x g i) := by unfold qX; infer_instance
def Wd.rand (x : Wd) (g : Int) (i : eD) : iK → Out Wd
 | .num d => .on ((x.next g).cn g i.a d)
 | .ee l => .ee l x
def mL (x : Wd) (g : Int) (i : eD) : Int := if 1048576 < bt x g i.a then 1048576 else bt x g i.a
def Wd.sleep (x : Wd) (g : Int) (i : eD) : Wd :=
 if 0 < mL x g i then { x.b9 g { au x g with st := 3 } with hl := tf x.hl ⟨IntKind.wrap .u64 (x.clock + IntKind.wrap .u64 (mL x g i)), x.jO, g⟩, jO := IntKind.wrap .u64 (x.jO + 1) } else x
def Wd.tick (x : Wd) : Wd := if x.end_ ≠ 0 then { x with ready := [] } else
 let r := dO x.hl.length x.hl (IntKind.wrap .u64 (x.clock + 1))
 (r.2.map (·.id)).foldl Wd.kY { x with clock := IntKind.wrap .u64 (x.clock + 1), hl := r.1, ready := [] }
section
variable {R : Mem} {L L' L2 : List HP} {M : Mem} {K : Value → Mem → Prop} {Kp : List PanicEntry → Mem → Prop} {pa : PA} {p : cM} {gg : List GA} {dr : Value} {b : Nat} {x : Wd} {g : Int} {i : eD}
theorem La (hg : bA x g) (hb : bz i.b) : eB R pa p dr 211 x g i (x.call g i) L L := by
 intro gg b bs c M K Kp Q h dh k
 refine nB ?_
 have zk := hg
 obtain ⟨h0, h1, h2, h3⟩ := zk
 unfold Wd.call at k
 refine aj h ?_
 clear h
 intro kb M h
 have hC := h
 have h' := e7 h (b := b) h0 h1 dh
 clear h
 obtain ⟨a, gb, hl, ei, h⟩ := h'
 have hl' := hl
 obtain ⟨l1, l2, l3, l4⟩ := hl'
 repeat (first|(refine aj h ?_;clear h;intro kb M h)|(refine ak h ?_;clear h;intro M h)|refine St.to h ?_|(apply Exists.intro;(repeat apply Exists.intro);refine And.intro rfl ?_)|refine aq ?_|refine af ?_|refine ai ?_)
 refine ry h ei fun q hq => ?_
 repeat (first|(refine aj h ?_;clear h;intro kb M h)|(refine ak h ?_;clear h;intro M h)|refine St.to h ?_|(apply Exists.intro;(repeat apply Exists.intro);refine And.intro rfl ?_)|refine aq ?_|refine af ?_|refine ai ?_)
 refine ⟨hb.1, hb.2, qO h (cV h2) hb rfl ?_⟩
 repeat (first|(refine aj h ?_;clear h;intro kb M h)|(refine ak h ?_;clear h;intro M h)|refine St.to h ?_|(apply Exists.intro;(repeat apply Exists.intro);refine And.intro rfl ?_)|refine aq ?_|refine af ?_|refine ai ?_)
 refine CZ h h2 ?_ ?_
 ·intro PI
  rw [if_pos (by omega)] at k
  refine ⟨_, _, _, _, rfl, af ?_⟩
  exact k _ _ (hC.sub bG)
 ·intro hlt b' c' M' h'
  clear h hC
  have h := h'
  clear h'
  rw [if_neg (by omega)] at k
  refine ⟨_, _, _, _, rfl, ai ?_⟩
  repeat (first|(refine aj h ?_;clear h;intro kb M h)|(refine ak h ?_;clear h;intro M h)|refine St.to h ?_|(apply Exists.intro;(repeat apply Exists.intro);refine And.intro rfl ?_)|refine aq ?_|refine af ?_|refine ai ?_)
  refine ry h ei fun q2 m9 => ?_
  repeat (first|(refine aj h ?_;clear h;intro kb M h)|(refine ak h ?_;clear h;intro M h)|refine St.to h ?_|(apply Exists.intro;(repeat apply Exists.intro);refine And.intro rfl ?_)|refine aq ?_|refine af ?_|refine ai ?_)
  have hlen : (au x g).fs.length + 1 = ((au x g).fs ++ [(⟨i.a, 0, [bt x g i.b, 0, 0, 0, 0, 0, 0, 0], i.c⟩ : gm)]).length := by simp
  have h5 := jV (A := some ⟨b', 0, none⟩) (fs := (au x g).fs ++ [⟨i.a, 0, [bt x g i.b, 0, 0, 0, 0, 0, 0, 0], i.c⟩]) h gb hlen
  have hi := (List.getElem?_eq_some_iff.1 ei).1
  have h6 := h5.cQ eA gb ei (by rw [List.length_zip]; omega)
  rw [vL] at h6
  have jt : dz (gg.set g.toNat (some ⟨b', 0, none⟩, c')) a (x.b9 g ⟨(au x g).st, (au x g).fs ++ [⟨i.a, 0, [bt x g i.b, 0, 0, 0, 0, 0, 0, 0], i.c⟩], (au x g).wt⟩) := ⟨by simpa [Wd.b9] using l1, by simpa [Wd.b9] using l2, l3, l4⟩
  have h7 := aM (a := a) (p := p) (pa := pa) (dr := dr) (gg := gg.set g.toNat (some ⟨b', 0, none⟩, c')) (x := x.b9 g ⟨(au x g).st, (au x g).fs ++ [⟨i.a, 0, [bt x g i.b, 0, 0, 0, 0, 0, 0, 0], i.c⟩], (au x g).wt⟩) jt h6 b
  exact k _ _ (h7.sub bG)
theorem Ef {a : WA} {k : Int} {c : Lk} (hl : dz gg a x) : dz gg a (x.mK k c) := by
 obtain ⟨l1, l2, l3, l4⟩ := hl
 exact ⟨l1, l2, l3, by simpa [Wd.mK] using l4⟩
theorem Lb (hg : bA x g) (hk : IS x i.a) (hs : x.Sm) : eB R pa p dr 219 x g i (.on (x.lock g i)) L L := by
 intro gg b bs c M K Kp Q h dh k
 refine nG ?_
 replace k : ∀ jk M', Hp R (ax (aU pa p jk dr) b (x.lock g i) :: Q :: L) M' → K (.tuple #[]) M' := k
 unfold Wd.lock at k
 obtain ⟨s1, s2, s3, s4, s5, s6, s7, s8⟩ := hs
 obtain ⟨k0, k1⟩ := hk
 refine aj h ?_
 clear h
 intro kb M h
 have h' := bS h (b := b)
 clear h
 obtain ⟨a, hl, h⟩ := h'
 have hl' := hl
 obtain ⟨l1, l2, l3, l4⟩ := hl'
 refine av h (ae h ⟨k0, by omega, ?_⟩)
 obtain ⟨lb, hlb⟩ := aL (l := a.lb) (i := i.a.toNat) (by omega)
 refine ry h hlb fun q hq => ?_
 obtain ⟨y, hy⟩ := aL (l := x.bE) (i := i.a.toNat) (by omega)
 have e : oc x i.a = y := by simp [oc, hy]
 rw [e] at k
 replace h := h.cw ef hlb hy
 refine C0 h (Nat.le_trans (s6 y (List.mem_of_getElem? hy)) (by decide)) ?_
 clear h; intro M h
 replace h := h.cQ ef lb hlb (by omega)
 replace h := aM (a := a) (p := p) (pa := pa) (dr := dr) (gg := gg) (x := x.mK i.a (y.take g).1) (Ef hl) h b
 refine eC ?_
 cases ht : (y.take g).2 with
 | true =>
  rw [ht] at k
  simp only [if_true] at k
  refine ai ?_
  exact k _ _ (h.sub bG)
 | false =>
  rw [ht] at k
  simp only [Bool.false_eq_true, if_false] at k
  refine af ?_
  refine ae h (ae h (ae h (ae h ?_)))
  refine ji (b := b) (i := i) h hg.1 (show g < (x.mK i.a (y.take g).1).gs.length from hg.2.1) ?_
  clear h; intro M h
  exact ⟨rfl, k _ _ (h.sub bG)⟩
theorem FK (hk : qX x g i) (hs : x.Sm) : eB R pa p dr 220 x g i (x.unlock g i) L L := by
 intro gg b bs c M K Kp Q h dh k
 refine lg ?_
 unfold Wd.unlock at k
 obtain ⟨s1, s2, s3, s4, s5, s6, s7, s8⟩ := hs
 obtain ⟨⟨k0, k1⟩, hw⟩ := hk
 refine aj h ?_
 clear h
 intro kb M h
 have h' := bS h (b := b)
 clear h
 obtain ⟨a, hl, h⟩ := h'
 have hl' := hl
 obtain ⟨l1, l2, l3, l4⟩ := hl'
 refine av h (ae h ⟨k0, by omega, ?_⟩)
 obtain ⟨lb, hlb⟩ := aL (l := a.lb) (i := i.a.toNat) (by omega)
 refine ry h hlb fun q hq => ?_
 obtain ⟨y, hy⟩ := aL (l := x.bE) (i := i.a.toNat) (by omega)
 have e : oc x i.a = y := by simp [oc, hy]
 rw [e] at k hw
 replace h := h.cw ef hlb hy
 refine C1 h (Nat.le_trans (s6 y (List.mem_of_getElem? hy)) (by decide)) ?_
 clear h; intro M h
 replace h := h.cQ ef lb hlb (by omega)
 replace h := aM (a := a) (p := p) (pa := pa) (dr := dr) (gg := gg) (x := x.mK i.a (y.pq g).1) (Ef hl) h b
 refine ⟨_, _, rfl, ?_⟩
 refine bM.2 ⟨fun hn => ?_, fun hn => ?_⟩
 ·rw [if_pos hn] at k
  exact k _ _ (h.sub bG)
 rw [if_neg (by simpa using hn)] at k
 refine bM.2 ⟨fun yE => ?_, fun yE => ?_⟩
 ·rw [if_pos yE] at k
  obtain ⟨w0, w1⟩ := hw yE
  refine fE (b := b) h w0 (show _ < ((x.mK i.a (y.pq g).1).gs.length : Int) from w1) (by show x.ready.length ≤ _; omega) ?_
  clear h; intro M h
  exact ⟨rfl, k _ _ (h.sub bG)⟩
 ·rw [if_neg (by simpa using yE)] at k
  exact k _ _ (h.sub bG)
theorem Lc : eB R pa p dr 222 x g i (.eF i.a x) L L := by
 intro gg b bs c M K Kp Q h dh k
 refine nI ?_
 refine aj h ?_
 clear h
 intro kb M h
 refine ae h ?_
 exact k _ _ (h.sub bG)
theorem IU : eB R pa p dr 214 x g i (.on x) L L := by
 intro gg b bs c M K Kp Q h dh k
 refine mj ?_
 refine aj h ?_
 clear h
 intro kb M h
 exact k _ _ (h.sub bG)
theorem Ld {d : iK} (hg : bA x g) (ha : bz i.a) (IK : 0 ≤ (au x g).top.pc ∧ (au x g).top.pc < 1000000000) (hd : fZ R dr 4 i.b d L L2) : eB R pa p dr 192 x g i (x.rand g i d) L L2 := by
 intro gg b bs c M K Kp Q h dh k
 refine ny ?_
 refine aj h ?_
 clear h
 intro kb M h
 have B4 : M.ld ⟨b, 0 + 14, none⟩ = some dr := by
  obtain ⟨a, hl, h9⟩ := bS h (b := b)
  exact cH h9
 rw [B4]
 refine G2 (ae h ?_)
 have h5 : Hp R (sep [ax (aU pa p gg dr) b x, pt kb [.int .i64 i.op, .int .i64 i.a, .int .i64 i.b, .int .i64 i.c] 27, Q] :: L) M := Hp.aO.2 (h.sub bG)
 refine hd _ _ _ _ h5 ?_
 clear h h5 B4
 cases d with
 | ee l =>
  dsimp only at k ⊢
  intro M h5
  have h : Hp R (ax (aU pa p gg dr) b x :: pt kb [.int .i64 i.op, .int .i64 i.a, .int .i64 i.b, .int .i64 i.c] 27 :: Q :: L2) M := Hp.aO.1 h5
  exact k _ _ (h.sub bG)
 | num v =>
  dsimp only at k ⊢
  intro M h5
  have h : Hp R (ax (aU pa p gg dr) b x :: pt kb [.int .i64 i.op, .int .i64 i.a, .int .i64 i.b, .int .i64 i.c] 27 :: Q :: L2) M := Hp.aO.1 h5
  clear h5
  refine bU ?_
  refine Di (b := b) h hg dh rfl ?_
  rw [gB IK.1 (by omega)]
  refine Dh (b := b) h hg dh rfl rfl ?_
  clear h; intro M h
  refine ae h ⟨ha.1, ha.2, ?_⟩
  refine jj (b := b) h (pA hg) dh ha (by rw [zo hg]) ?_
  clear h; intro M h
  exact k _ _ (h.sub bG)
abbrev zq (pa : PA) (p : cM) (dr : Value) (a : WA) (x : Wd) (nr : Nat) (A : Option Addr) (n c : Nat) (s : Int) : List Value :=
 [.slice pa.f p.funcs.length pa.fc, .slice pa.c p.kC.length pa.cc, .int .i64 p.bE, .slice pa.k p.cases.length pa.kc, .slice a.ag a.gb.length a.cg, .int .u64 x.clock,
  .slice a.ac a.cb.length a.cc, .slice a.al a.lb.length a.cl, .slice A n c, .int .u64 s, .slice a.ao x.out.length a.co, .int .i64 x.end_, .int .i64 x.code, .slice a.ar nr a.cr, dr]
theorem Mh {a : WA} {nr T : Nat} : Mg b (0 + 8) (fun A n c s => pt b (zq pa p dr a x nr A n c s) T) :=
 ⟨fun R L M A n c s h => cH h, fun R L M A n c s h => cH h, fun R L M A A' n c n' c' s G h k => ak h k, fun R L M A n c s s' G h k => ak h k⟩
theorem IV (hg : bA x g) (ha : bz i.a) (hs : x.hl.length < 1000000) : eB R pa p dr 218 x g i (.on (x.sleep g i)) L L := by
 intro gg b bs c M K Kp Q h dh k
 refine mo ?_
 replace k : ∀ jk M', Hp R (ax (aU pa p jk dr) b (x.sleep g i) :: Q :: L) M' → K (.tuple #[]) M' := k
 have zk := hg
 obtain ⟨h0, h1, h2, h3⟩ := zk
 unfold Wd.sleep at k
 refine aj h ?_
 clear h
 intro kb M h
 refine ae h ⟨ha.1, ha.2, ?_⟩
 refine Bf (b := b) h hg dh ha rfl ?_
 have hC := h
 have h' := bS h (b := b)
 clear h
 obtain ⟨a, hl, h⟩ := h'
 have hl' := hl
 obtain ⟨l1, l2, l3, l4⟩ := hl'
 have e : (if (1048576 : Int) < bt x g i.a then 1048576 else bt x g i.a) = mL x g i := rfl
 rw [e]
 refine aH.2 ⟨fun hn => ?_, fun hn => ?_⟩
 ·rw [if_pos (by omega)] at k
  refine ae h ?_
  clear hC
  replace h : Hp R (pt b (zq pa p dr a x x.ready.length a.ah x.hl.length a.ch x.jO) 161 :: eG a.ah a.ch x.hl :: aP eA a.gb (x.gs.zip gg) :: vD a.ag a.cg a.gb :: vE a.ac a.cc a.cb :: aP bg a.cb x.aI :: vF a.al a.cl a.lb :: aP ef a.lb x.bE :: qf a.ao a.co x.out :: iY a.ar a.cr x.ready :: Q :: L) M := h.sub bG
  refine FI (Mh (a := a) (x := x)) h hs ?_
  clear h; intro v A' c' M h
  refine bU ?_
  have h9 : Hp R (ax (aU pa p gg dr) b { x with hl := tf x.hl ⟨IntKind.wrap .u64 (x.clock + IntKind.wrap .u64 (mL x g i)), x.jO, g⟩, jO := IntKind.wrap .u64 (x.jO + 1) } :: Q :: L) M := by
   have := FF (l := x.hl) (x := ⟨IntKind.wrap .u64 (x.clock + IntKind.wrap .u64 (mL x g i)), x.jO, g⟩)
   rw [← this] at h
   exact gP (a := { a with ah := A', ch := c' }) (x := { x with hl := tf x.hl ⟨IntKind.wrap .u64 (x.clock + IntKind.wrap .u64 (mL x g i)), x.jO, g⟩, jO := IntKind.wrap .u64 (x.jO + 1) }) ⟨l1, l2, l3, l4⟩ (h.sub bG)
  clear h hl l1 l2 l3 l4
  have h := h9
  clear h9
  have h' := e7 (x := { x with hl := tf x.hl ⟨IntKind.wrap .u64 (x.clock + IntKind.wrap .u64 (mL x g i)), x.jO, g⟩, jO := IntKind.wrap .u64 (x.jO + 1) }) h (b := b) h0 h1 dh
  clear h
  obtain ⟨a2, gb, hl, ei, h⟩ := h'
  have hl' := hl
  obtain ⟨l1, l2, l3, l4⟩ := hl'
  refine av h ⟨h0, by dsimp only at l1; omega, ?_⟩
  refine ry h ei fun q hq => ?_
  refine aS ?_
  refine ak h ?_
  clear h; intro M h
  replace h := b6 h gb hl ei dh
  have jt := cy (y := { au x g with st := 3 }) (g := g) hl
  replace h := aM (a := a2) (p := p) (pa := pa) (dr := dr) (gg := gg) (x := { x.b9 g { au x g with st := 3 } with hl := tf x.hl ⟨IntKind.wrap .u64 (x.clock + IntKind.wrap .u64 (mL x g i)), x.jO, g⟩, jO := IntKind.wrap .u64 (x.jO + 1) }) jt h b
  exact k _ _ (h.sub bG)
 ·rw [if_neg (by omega)] at k
  exact k _ _ (hC.sub bG)
theorem Le {l : List Int} : ∀ {x : Wd}, (l.foldl Wd.kY x).gs.length = x.gs.length := by
 induction l with
 | nil => intro x; rfl
 | cons a l ih => intro x; rw [List.foldl_cons, ih]; simp [Wd.kY, Wd.b9]
theorem Dk {l : List Int} : ∀ {x : Wd}, (l.foldl Wd.kY x).ready = x.ready ++ l := by
 induction l with
 | nil => intro x; simp
 | cons a l ih => intro x; rw [List.foldl_cons, ih]; simp [Wd.kY]
theorem Dl (h : Hp R L M) [o : Eb b L pa p x L'] (hs : x.hl.length ≤ 1000000) (hw : ∀ y ∈ (dO x.hl.length x.hl (IntKind.wrap .u64 (x.clock + 1))).2, 0 ≤ y.id ∧ y.id < x.gs.length)
  (k : ∀ R' A c M', R.le R' → RS bq R' A c x.tick.ready → Hp R' (ax (bk pa p) b x.tick :: L') M' → K (.slice A x.tick.ready.length c) M') :
  aa Tryz.prog 120 #[.pointer (some ⟨b, 0, none⟩)] M K Kp := by
 refine nu ?_
 have h' := c6 h (b := b)
 clear h
 obtain ⟨a, gg, dr, n, hl, h⟩ := h'
 have hl' := hl
 obtain ⟨l1, l2, l3, l4⟩ := hl'
 unfold Wd.tick at k
 dsimp only at k
 refine ae h ?_
 refine bM.2 ⟨fun he => ?_, fun he => ?_⟩
 ·rw [if_pos he] at k
  exact k R none 0 M (Mem.le_refl _) (RS.nil _ _) (jl (a := a) (gg := gg) (dr := dr) (n := n) (x := { x with ready := [] }) hl h)
 rw [if_neg (by simpa using he)] at k
 refine ae h ?_
 refine ak h ?_
 clear h; intro M h
 refine ak h ?_
 clear h; intro M h
 refine ae h ?_
 replace h : Hp R (pt b (zq pa p dr { a with ar := none, cr := 0 } { x with clock := IntKind.wrap .u64 (x.clock + 1) } 0 a.ah x.hl.length a.ch x.jO) 161 :: eG a.ah a.ch x.hl :: aP eA a.gb (x.gs.zip gg) :: vD a.ag a.cg a.gb :: vE a.ac a.cc a.cb :: aP bg a.cb x.aI :: vF a.al a.cl a.lb :: aP ef a.lb x.bE :: qf a.ao a.co x.out :: L') M := h.sub (by repeat (first | exact .refl | refine .cons (by repeat (first | exact .here | apply cv.there)) ?_ | apply Sub.drop))
 refine FJ (Mh (a := { a with ar := none, cr := 0 }) (x := { x with clock := IntKind.wrap .u64 (x.clock + 1) })) h hs ?_
 clear h; intro A' c' M h
 have hlen : (dO x.hl.length x.hl (IntKind.wrap .u64 (x.clock + 1))).2.length ≤ x.hl.length := by
  have : ∀ (f : Nat) (l : List bI) (now : Int), (dO f l now).2.length ≤ f := by
   intro f
   induction f with
   | zero => intro l now; exact Nat.le_refl _
   | succ f ih =>
    intro l now; unfold dO; split
    ·have := ih (dI l 0) now; simp; exact this
    ·exact Nat.zero_le _
  exact this _ _ _
 generalize dO x.hl.length x.hl (IntKind.wrap .u64 (x.clock + 1)) = r at h k hw hlen
 refine aY ?_
 have h0 := h.ck bq 3
 have hW : Hp R (ax (aU pa p gg dr) b { x with clock := IntKind.wrap .u64 (x.clock + 1), hl := r.1, ready := [] } :: eG A' c' r.2 :: L') M :=
  gP (a := { a with ar := none, cr := 0 }) (x := { x with clock := IntKind.wrap .u64 (x.clock + 1), hl := r.1, ready := [] }) ⟨l1, l2, l3, l4⟩ (h0.sub (by repeat (first | exact .refl | refine .cons (by repeat (first | exact .here | apply cv.there)) ?_ | apply Sub.drop)))
 clear h h0
 generalize jW : ({ x with clock := IntKind.wrap .u64 (x.clock + 1), hl := r.1, ready := [] } : Wd) = x1 at hW k
 have hgs : x1.gs.length = x.gs.length := by rw [← jW]
 have hrd : x1.ready = [] := by rw [← jW]
 refine ⟨fun d vs M => ∃ j : Nat, vs = [.int .i64 (j : Int)] ∧ d = r.2.length - j ∧ j ≤ r.2.length ∧ Hp R (ax (aU pa p gg dr) b (((r.2.take j).map (·.id)).foldl Wd.kY x1) :: eG A' c' r.2 :: L') M, ⟨_, 0, rfl, rfl, by omega, hW⟩, ?_⟩
 clear hW
 rintro d _ nn M ⟨j, ta, hd, hj, h⟩
 simp only [List.cons.injEq, Value.int.injEq, and_true, true_and] at ta
 subst ta
 refine aH.2 ⟨fun hlt => ?_, fun hge => ?_⟩
 ·obtain ⟨w, hww⟩ := aL (l := r.2) (i := j) (by omega)
  have hwm := hw w (List.mem_of_getElem? hww)
  obtain ⟨q, rfl⟩ := h.bj (A := A') (by omega) (by decide)
  have PM := h.src (A := some ⟨q, 0, none⟩)
  refine ⟨by omega, hlt, aS ?_⟩
  refine jm h PM hww (by simp) (by simp) (by simp) ?_
  clear PM
  refine aj h ?_
  clear h; intro kw M h
  refine ak h ?_
  clear h; intro M h
  refine ak h ?_
  clear h; intro M h
  refine ak h ?_
  clear h; intro M h
  refine ae h ?_
  refine fE (b := b) h hwm.1 (by rw [Le, hgs]; exact hwm.2) (by rw [Dk, hrd]; simp; omega) ?_
  clear h; intro M h
  refine ⟨rfl, r.2.length - (j + 1), by omega, j + 1, by rw [aV (by omega)], rfl, by omega, ?_⟩
  rw [c5 hww, List.map_append, List.foldl_append]
  exact h.sub (by repeat (first | exact .refl | refine .cons (by repeat (first | exact .here | apply cv.there)) ?_ | apply Sub.drop))
 ·have Jl : j = r.2.length := by omega
  subst Jl
  rw [List.take_length] at h
  generalize hz : (r.2.map (·.id)).foldl Wd.kY x1 = z at h k
  have h' := bS h (b := b)
  clear h
  obtain ⟨a2, jt, h⟩ := h'
  refine av h ?_
  obtain ⟨R', hle, wI, h6⟩ := h.tX a2.ar
  exact k R' _ _ _ hle wI (jl (a := a2) (n := z.ready.length) (gg := gg) (dr := dr) jt (h6.sub (by repeat (first | exact .refl | refine .cons (by repeat (first | exact .here | apply cv.there)) ?_ | apply Sub.drop))))
end
def uj (x : Wd) (g : Int) (i : eD) : Out (Wd × Bool) → Prop
 | .on (y, false) => bA y g ∧ (au y g).fs.length = (au x g).fs.length ∧ vI y i.a
 | .on (_, true) => True
 | .eF _ _ => True
 | .ee _ _ => True
instance (x : Wd) (g : Int) (i : eD) (r : Out (Wd × Bool)) : Decidable (uj x g i r) := match r with
 | .on (y, false) => by unfold uj; infer_instance
 | .on (_, true) => isTrue trivial
 | .eF _ _ => isTrue trivial
 | .ee _ _ => isTrue trivial
theorem FL {p : cM} {x : Wd} {g : Int} {i : eD} (h : bA x g ∧ bz i.b ∧ qR p x i.a (bt x g i.b) ∧ uj x g i (x.put p i.a (bt x g i.b))) : C5 p x g i := by
 obtain ⟨h1, h2, h3, h4⟩ := h
 refine ⟨h1, h2, h3, ?_⟩
 generalize x.put p i.a (bt x g i.b) = r at h4
 match r, h4 with
 | .on (y, false), h4 => exact h4
 | .on (y, true), _ => trivial
 | .eF _ _, _ => trivial
 | .ee _ _, _ => trivial
instance (x : Wd) (g : Int) (i : eD) : Decidable (vJ x g i) := by unfold vJ; infer_instance
instance (p : cM) (x : Wd) (i : eD) : Decidable (qS p x i) := by unfold qS; infer_instance
def Dm (p : cM) (x : Wd) (g : Int) (i : eD) (k : Int) : Prop :=
 let c := (aB p i).getD k.toNat ⟨0, 0, 0⟩
 let x1 := x.next g
 0 ≤ k ∧ k < (aB p i).length ∧ bz c.bL ∧
  if c.way = 1 then qR p x1 c.ch (bt x1 g c.bL) ∧ (match x1.put p c.ch (bt x1 g c.bL) with
   | .on (y, _) => bA y g ∧ (au y g).fs.length = (au x g).fs.length
   | _ => True)
  else vG x1 c.ch ∧ bA (x1.get c.ch).1 g ∧ (au (x1.get c.ch).1 g).fs.length = (au x g).fs.length
instance (g : Int) (n : Nat) (r : Out (Wd × Bool)) : Decidable (match r with
   | .on (y, _) => bA y g ∧ (au y g).fs.length = n
   | _ => True) := match r with
 | .on (y, _) => by dsimp only; infer_instance
 | .eF _ _ => isTrue trivial
 | .ee _ _ => isTrue trivial
instance (p : cM) (x : Wd) (g : Int) (i : eD) (k : Int) : Decidable (Dm p x g i k) := by unfold Dm; infer_instance
def sv (p : cM) (x : Wd) (g : Int) (i : eD) (d : iK) : Bool :=
 decide (bA x g ∧ qW p i ∧ bz i.c ∧ x.Sm ∧ (au x g).top.pc < 1000000000 ∧ 0 ≤ (au x g).top.pc ∧ (∀ c ∈ aB p i, c.Ok x.aI.length)) &&
 (match d with
  | .ee _ => true
  | .num v => (enabled (aB p i) x.aI).isEmpty || decide (0 ≤ v ∧ v < (enabled (aB p i) x.aI).length ∧ Dm p x g i ((enabled (aB p i) x.aI).getD v.toNat 0)))
theorem Bv {p : cM} {x : Wd} {g : Int} {i : eD} {d : iK} (h : sv p x g i d = true) : Br p x g i d := by
 unfold sv at h
 rw [Bool.and_eq_true] at h
 obtain ⟨h1, h2⟩ := h
 obtain ⟨a1, a2, a3, a4, a5, a6, a7⟩ := of_decide_eq_true h1
 refine ⟨a1, a2, a3, a4, a5, a6, a7, ?_⟩
 cases d with
 | ee l => split <;> trivial
 | num v =>
  dsimp only at h2
  cases he : enabled (aB p i) x.aI with
  | nil => trivial
  | cons q l =>
   rw [he] at h2
   rw [List.isEmpty_cons, Bool.false_or] at h2
   have h3 := of_decide_eq_true h2
   exact h3
def IW (p : cM) (x : Wd) (g : Int) (i : eD) : Option (Out Wd) :=
 if i.op = 10 then (if bA x g ∧ bz i.a ∧ bz (au x g).top.qk then some (.on (x.back g i)) else none)
 else if i.op = 11 then (if bA x g ∧ bz i.b ∧ bz i.c ∧ x.Sm then some (x.spawn g i) else none)
 else if i.op = 13 then (if (bA x g ∧ bz i.b ∧ qR p x i.a (bt x g i.b) ∧ uj x g i (x.put p i.a (bt x g i.b))) ∧ x.Sm then some (x.send p g i) else none)
 else if i.op = 14 then (if vJ x g i ∧ x.Sm then some (.on (x.recv g i)) else none)
 else if i.op = 15 then (if qS p x i ∧ x.Sm then some (x.shut p i) else none)
 else if i.op = 20 then (if bA x g ∧ bz i.a ∧ x.Sm then some (x.emit g i) else none)
 else if i.op = 9 then (if bA x g ∧ bz i.b then some (x.call g i) else none)
 else if i.op = 12 then some (.on x)
 else if i.op = 17 then (if bA x g ∧ bz i.a ∧ x.hl.length < 1000000 then some (.on (x.sleep g i)) else none)
 else if i.op = 18 then (if bA x g ∧ IS x i.a ∧ x.Sm then some (.on (x.lock g i)) else none)
 else if i.op = 19 then (if qX x g i ∧ x.Sm then some (x.unlock g i) else none)
 else if i.op = 22 then some (.eF i.a x)
 else none
def IX (p : cM) (x : Wd) (g : Int) : Option eD := match p.funcs[(au x g).top.fn.toNat]? with
 | none => none
 | some code => code[(au x g).top.pc.toNat]?
def Eg (x : Wd) (g : Int) : Prop := 0 ≤ g ∧ g < x.gs.length ∧ x.end_ = 0 ∧ (au x g).st = 1
instance (x : Wd) (g : Int) : Decidable (Eg x g) := by unfold Eg; infer_instance
def asks (p : cM) (x : Wd) (g : Int) : Option (Int × Int) :=
 if Eg x g then match IX p x g with
  | none => none
  | some i => if i.op = 21 then some (4, i.b) else if i.op = 16 then (if enabled (aB p i) x.aI = [] then none else some (3, (enabled (aB p i) x.aI).length)) else none
 else none
def yl (p : cM) (x0 : Wd) (g : Int) (d : iK) : Option (Out Wd × Bool) :=
 let x := { x0 with ready := [] }
 if Eg x g then
  if bA x g ∧ 0 ≤ (au x g).top.fn ∧ 0 ≤ (au x g).top.pc ∧ (au x g).top.pc < 1000000000 then
   match p.funcs[(au x g).top.fn.toNat]? with
   | none => none
   | some code => match code[(au x g).top.pc.toNat]? with
    | none => some (.eF (-7) x, false)
    | some i =>
     if 0 ≤ i.op ∧ i.op ≤ 8 then (if i.ju then some (.on (x.b9 g ((au x g).dw ((au x g).top.next.pure i))), false) else none)
     else if i.op = 16 then (if sv p x g i d = true then (if g < (x.choose p g i d).fin.gs.length then some (x.choose p g i d, false) else none) else none)
     else if i.op = 21 then (if bz i.a then (if g < (x.rand g i d).fin.gs.length then some (x.rand g i d, false) else none) else none)
     else match IW p (x.next g) g i with
      | none => none
      | some r => if g < r.fin.gs.length then some (r, II i.op r) else none
  else none
 else some (.on x, true)
section
variable {R : Mem} {L L' L2 : List HP} {M : Mem} {K : Value → Mem → Prop} {Kp : List PanicEntry → Mem → Prop} {pa : PA} {p : cM} {gg : List GA} {dr : Value} {b : Nat} {x : Wd} {g : Int}
theorem b7 {α : Type} {c : Prop} [Decidable c] {a b : α} (h : (if c then some a else none) = some b) : c ∧ b = a := by
 split at h
 ·rename_i hc; cases h; exact ⟨hc, rfl⟩
 ·cases h
theorem FM {i : eD} {r : Out Wd} (hp : lD R pa p) (h : IW p x g i = some r) : ∃ fn, w9 OW i.op = some (.func (.func fn) #[] #[]) ∧ (1 < fn ∧ fn < 255) ∧ i.op ≠ 16 ∧ i.op ≠ 21 ∧ 8 < i.op ∧ ∀ L, eB R pa p dr fn x g i r L L := by
 unfold IW at h
 by_cases e : i.op = 10
 ·rw [if_pos e] at h
  obtain ⟨hc, rfl⟩ := b7 h
  exact ⟨212, by rw [e]; rfl, by decide, by omega, by omega, by omega, fun L => K7 hc.1 hc.2.1 hc.2.2⟩
 rw [if_neg e] at h
 clear e
 by_cases e : i.op = 11
 ·rw [if_pos e] at h
  obtain ⟨hc, rfl⟩ := b7 h
  exact ⟨213, by rw [e]; rfl, by decide, by omega, by omega, by omega, fun L => IG hc.1 hc.2.1 hc.2.2.1 hc.2.2.2⟩
 rw [if_neg e] at h
 clear e
 by_cases e : i.op = 13
 ·rw [if_pos e] at h
  obtain ⟨hc, rfl⟩ := b7 h
  exact ⟨215, by rw [e]; rfl, by decide, by omega, by omega, by omega, fun L => K3 hp (FL hc.1) hc.2⟩
 rw [if_neg e] at h
 clear e
 by_cases e : i.op = 14
 ·rw [if_pos e] at h
  obtain ⟨hc, rfl⟩ := b7 h
  exact ⟨216, by rw [e]; rfl, by decide, by omega, by omega, by omega, fun L => K4 hc.1 hc.2⟩
 rw [if_neg e] at h
 clear e
 by_cases e : i.op = 15
 ·rw [if_pos e] at h
  obtain ⟨hc, rfl⟩ := b7 h
  exact ⟨217, by rw [e]; rfl, by decide, by omega, by omega, by omega, fun L => K6 hp hc.1 hc.2⟩
 rw [if_neg e] at h
 clear e
 by_cases e : i.op = 20
 ·rw [if_pos e] at h
  obtain ⟨hc, rfl⟩ := b7 h
  exact ⟨221, by rw [e]; rfl, by decide, by omega, by omega, by omega, fun L => K5 hc.1 hc.2.1 hc.2.2⟩
 rw [if_neg e] at h
 clear e
 by_cases e : i.op = 9
 ·rw [if_pos e] at h
  obtain ⟨hc, rfl⟩ := b7 h
  exact ⟨211, by rw [e]; rfl, by decide, by omega, by omega, by omega, fun L => La hc.1 hc.2⟩
 rw [if_neg e] at h
 clear e
 by_cases e : i.op = 12
 ·rw [if_pos e] at h
  cases h
  exact ⟨214, by rw [e]; rfl, by decide, by omega, by omega, by omega, fun L => IU⟩
 rw [if_neg e] at h
 clear e
 by_cases e : i.op = 17
 ·rw [if_pos e] at h
  obtain ⟨hc, rfl⟩ := b7 h
  exact ⟨218, by rw [e]; rfl, by decide, by omega, by omega, by omega, fun L => IV hc.1 hc.2.1 hc.2.2⟩
 rw [if_neg e] at h
 clear e
 by_cases e : i.op = 18
 ·rw [if_pos e] at h
  obtain ⟨hc, rfl⟩ := b7 h
  exact ⟨219, by rw [e]; rfl, by decide, by omega, by omega, by omega, fun L => Lb hc.1 hc.2.1 hc.2.2⟩
 rw [if_neg e] at h
 clear e
 by_cases e : i.op = 19
 ·rw [if_pos e] at h
  obtain ⟨hc, rfl⟩ := b7 h
  exact ⟨220, by rw [e]; rfl, by decide, by omega, by omega, by omega, fun L => FK hc.1 hc.2⟩
 rw [if_neg e] at h
 clear e
 by_cases e : i.op = 22
 ·rw [if_pos e] at h
  cases h
  exact ⟨222, by rw [e]; rfl, by decide, by omega, by omega, by omega, fun L => Lc⟩
 rw [if_neg e] at h
 clear e
 cases h
theorem Dp {l : List Int} (h : Hp R (ax (bk pa p) b x :: L) M) : Hp R (ax (bk pa p) b { x with ready := l } :: L) M := by
 obtain ⟨a, gg, dr, n, hl, h⟩ := c6 h (b := b)
 exact jl (a := a) (gg := gg) (dr := dr) (n := n) (x := { x with ready := l }) hl h
theorem fZ.cons {kind n : Int} {d : iK} {Q : HP} (h : fZ R dr kind n d L L2) : fZ R dr kind n d (Q :: L) (Q :: L2) := by
 intro Q' M K Kp hM k
 refine h (sep [Q', Q]) M K Kp (Hp.aO.2 hM) ?_
 cases d with
 | num v => exact fun M' h' => k M' (Hp.aO.1 h')
 | ee l => exact fun M' h' => k M' (Hp.aO.1 h')
theorem FN {d : iK} {r : Out Wd} {rest : Bool} (h : Hp R L M) [o : Eb b L pa p x L'] (hp : lD R pa p) (B4 : ∃ f c d, dr = .func f c d) (he : yl p x g d = some (r, rest))
  (hd : match asks p { x with ready := [] } g with | none => L2 = L' | some (kd, n) => fZ R dr kd n d L' L2) (k : nj R pa p b g L2 K Kp r rest) :
  aa Tryz.prog 121 #[.pointer (some ⟨b, 0, none⟩), .int .i64 g, dr] M K Kp := by
 unfold yl at he
 dsimp only at he
 split at he
 ·rename_i hg
  have zk := hg
  obtain ⟨h0, h1, hr0, JA⟩ := zk
  split at he
  ·rename_i IK
   obtain ⟨hgo, hf0, hp0, PJ⟩ := IK
   split at he
   ·cases he
   ·rename_i code qV
    have done : ∀ (r : Out Wd) (rest : Bool), nj R pa p b g L2 K Kp r rest → (∀ Q, Step R pa p dr { x with ready := [] } g code r rest (Q :: L') (Q :: L2)) → g < r.fin.gs.length → aa Tryz.prog 121 #[.pointer (some ⟨b, 0, none⟩), .int .i64 g, dr] M K Kp := by
     intro r rest k hs hl
     exact Df (x := x) h hp (show bA x g from hgo) hr0 JA hf0 qV ⟨hp0, PJ⟩ B4 hs hl k
    have IY : ∀ i, code[(au x g).top.pc.toNat]? = some i → asks p { x with ready := [] } g = if i.op = 21 then some (4, i.b) else if i.op = 16 then (if enabled (aB p i) x.aI = [] then none else some (3, ((enabled (aB p i) x.aI).length : Int))) else none := by
     intro i hi
     unfold asks
     rw [if_pos hg]
     unfold IX
     rw [show p.funcs[(au { x with ready := [] } g).top.fn.toNat]? = some code from qV]
     dsimp only
     rw [show code[(au { x with ready := [] } g).top.pc.toNat]? = some i from hi]
    split at he
    ·rename_i hnone
     cases he
     have e : asks p { x with ready := [] } g = none := by
      unfold asks
      rw [if_pos hg]
      unfold IX
      rw [show p.funcs[(au { x with ready := [] } g).top.fn.toNat]? = some code from qV]
      dsimp only
      rw [hnone]
     rw [e] at hd
     dsimp only at hd
     subst hd
     refine done (.eF (-7) { x with ready := [] }) false k (fun Q => .out ?_) h1
     have := List.getElem?_eq_none_iff.1 hnone
     omega
    ·rename_i i hi
     have e := IY i hi
     rw [e] at hd
     clear e IY
     split at he
     ·rename_i h8
      split at he
      ·rename_i hok
       cases he
       rw [if_neg (by omega), if_neg (by omega)] at hd
       dsimp only at hd
       subst hd
       exact done (.on _) false k (fun Q => .pure i hi h8.1 h8.2 hok) (by simpa [Out.fin, Wd.b9] using h1)
      ·cases he
     split at he
     ·rename_i D9
      split at he
      ·rename_i hok
       split at he
       ·rename_i hl
        cases he
        rw [if_neg (by omega), if_pos D9] at hd
        refine done _ false k (fun Q => .OX i hi D9 (FE hp (Bv hok) ?_)) hl
        split at hd
        ·rename_i hq
         split at hq
         ·rename_i m9
          rw [if_pos (by exact m9), hd]
         ·cases hq
        ·rename_i kd n hq
         split at hq
         ·cases hq
         ·rename_i m9
          cases hq
          rw [if_neg (by exact m9)]
          exact hd.cons
       ·cases he
      ·cases he
     split at he
     ·rename_i PK
      split at he
      ·rename_i hok
       split at he
       ·rename_i hl
        cases he
        rw [if_pos PK] at hd
        exact done _ false k (fun Q => .OY i hi PK (Ld hgo hok ⟨hp0, PJ⟩ (fZ.cons hd))) hl
       ·cases he
      ·cases he
     split at he
     ·cases he
     ·rename_i D9 PK _ r' Mi
      split at he
      ·rename_i hl
       cases he
       rw [if_neg PK, if_neg D9] at hd
       dsimp only at hd
       subst hd
       obtain ⟨fn, f1, f2, f3, f4, f5, f6⟩ := FM (R := R) (pa := pa) (dr := dr) hp Mi
       exact done _ _ k (fun Q => .dflt i fn hi f5 f3 f4 f1 f2 (f6 _)) hl
      ·cases he
  ·cases he
 ·rename_i hr
  cases he
  have e : asks p { x with ready := [] } g = none := by
   unfold asks
   rw [if_neg hr]
  rw [e] at hd
  dsimp only at hd
  subst hd
  refine gZ ?_
  refine aj h ?_
  clear h
  intro kb M h
  have hC := h
  have h' := c6 h (b := b)
  clear h
  obtain ⟨a, gg, dr0, n0, hl, h⟩ := h'
  have hl' := hl
  obtain ⟨l1, l2, l3, l4⟩ := hl'
  have fin : aF M ⟨kb, 0, none⟩ (.bool false) fun kQ => aF kQ ⟨kb, (0 + 1), none⟩ (.slice none 0 0) fun uZ =>
    cY (Mem.ld uZ ⟨kb, 0, none⟩) fun t36 => ay (Mem.ld uZ ⟨kb, (0 + 1), none⟩) fun BZ fC lG => K (.agg #[(.bool t36), (.slice BZ fC lG)]) uZ := by
   have h := hC
   clear hC
   refine ak h ?_
   clear h; intro M h
   refine ak h ?_
   clear h; intro M h
   refine DS h (av h ?_)
   have k2 := k R none 0 M (Mem.le_refl _) (RS.nil _ _) (Dp (h.drop.pick o.pick))
   exact k2
  refine aH.2 ⟨fun hn => fin, fun h0 => ?_⟩
  refine av h ?_
  refine aH.2 ⟨fun hn => fin, fun h1 => ?_⟩
  refine ae h ?_
  refine bM.2 ⟨fun hn => fin, fun he0 => ?_⟩
  refine av h ?_
  refine ⟨by omega, by omega, ?_⟩
  obtain ⟨gb, ei⟩ := aL (l := a.gb) (i := g.toNat) (by omega)
  refine ry h ei fun q hq => ?_
  obtain ⟨ga, O0⟩ := aL (l := gg) (i := g.toNat) (by omega)
  obtain ⟨z, hy⟩ := aL (l := x.gs) (i := g.toNat) (by omega)
  have ey : au x g = z := by simp [au, hy]
  refine aS ?_
  have IL : M.ld ⟨gb, 0, none⟩ = some (.int .i64 z.st) := by
   have h9 := jU (b := gb) (h.cw eA ei (kH hy O0))
   exact cH h9
  rw [IL]
  refine bU ?_
  refine bM.2 ⟨fun hn => fin, fun hn => ?_⟩
  exact absurd ⟨by omega, by show g < (x.gs.length : Int); omega, he0, by show (au x g).st = 1; rw [ey]; exact hn⟩ hr
end
def Mj (p : cM) (f : List eD) (i : eD) : Prop := 0 ≤ i.op ∧ i.op < 23 ∧ i.ju ∧ (i.op = 7 → 0 ≤ i.a ∧ i.a < f.length) ∧ (i.op = 8 → 0 ≤ i.b ∧ i.b < f.length) ∧
 (i.op = 9 ∨ i.op = 11 → 0 ≤ i.a ∧ i.a < p.funcs.length ∧ bz i.b ∧ bz i.c) ∧ (i.op = 10 ∨ i.op = 17 ∨ i.op = 20 ∨ i.op = 21 → bz i.a) ∧
 (i.op = 13 ∨ i.op = 14 ∨ i.op = 15 → 0 ≤ i.a ∧ i.a < p.kC.length) ∧ (i.op = 13 ∨ i.op = 14 → bz i.b) ∧ (i.op = 14 ∨ i.op = 16 → bz i.c) ∧
 (i.op = 16 → 0 ≤ i.a ∧ 1 ≤ i.b ∧ i.a + i.b ≤ p.cases.length) ∧ (i.op = 18 ∨ i.op = 19 → 0 ≤ i.a ∧ i.a < p.bE) ∧ (i.op = 21 → 1 ≤ i.b ∧ i.b < 1099511627776)
structure Mk (p : cM) : Prop where
 f1 : 0 < p.funcs.length
 ch : p.kC.length ≤ 8
 lk : 0 ≤ p.bE ∧ p.bE ≤ 8
 cs : p.cases.length ≤ 32
 cas : ∀ c ∈ p.cases, c.Ok p.kC.length ∧ bz c.bL
 code : ∀ f ∈ p.funcs, 0 < f.length ∧ f.length ≤ 64 ∧ ∀ i ∈ f, Mj p f i
section
variable {p : cM} {x y z : Wd} {g q k n : Int} {f : List eD} {i : eD} {v : Wt}
theorem fq {α : Type} : ∀ (l : List α) (n : Nat) (a : α), l[n]? = some a → l.set n a = l
 | [], _, _, _ => rfl
 | b :: l, 0, a, h => by simp at h; subst h; rfl
 | b :: l, n + 1, a, h => by rw [List.set_cons_succ, fq l n a (by simpa using h)]
end
section
variable {p : cM} {x y z : Wd} {g q k n : Int}
def LX (x : Wd) : List Int := (dO x.hl.length x.hl (IntKind.wrap .u64 (x.clock + 1))).2.map bI.id
end
def Dq (y : pJ) : Bool := y.st == 1 || y.st == 3
def Wd.stuck (x : Wd) : Bool := x.end_ == 0 && !(x.gs.any Dq)
section
variable {R : Mem} {L L' L2 : List HP} {M : Mem} {K : Value → Mem → Prop} {Kp : List PanicEntry → Mem → Prop} {pa : PA} {p : cM} {b : Nat} {x : Wd} {g : Int}
theorem Bw (h : Hp R L M) [o : Eb b L pa p x L'] (hs : x.gs.length ≤ 1000000) (k : K (.bool x.stuck) M) : aa Tryz.prog 65 #[.pointer (some ⟨b, 0, none⟩)] M K Kp := by
 refine mq ?_
 unfold Wd.stuck at k
 have h' := c6 h (b := b)
 clear h
 obtain ⟨a, gg, dr, n, hl, h⟩ := h'
 have hl' := hl
 obtain ⟨l1, l2, l3, l4⟩ := hl'
 refine ae h ?_
 refine bM.2 ⟨fun he => ?_, fun he => ?_⟩
 ·rw [show (x.end_ == 0) = false from by simpa using he, Bool.false_and] at k
  exact k
 rw [show (x.end_ == 0) = true from by simpa using he, Bool.true_and] at k
 refine av h ?_
 refine ⟨fun d vs M' => ∃ j : Nat, vs = [.int .i64 (j : Int)] ∧ d = x.gs.length - j ∧ j ≤ x.gs.length ∧ (x.gs.take j).any Dq = false ∧ M' = M, ⟨_, 0, rfl, rfl, by omega, rfl, rfl⟩, ?_⟩
 rintro d _ nn M' ⟨j, ta, hd, hj, ha, rfl⟩
 simp only [List.cons.injEq, Value.int.injEq, and_true, true_and] at ta
 subst ta
 refine aH.2 ⟨fun hlt => ?_, fun hge => ?_⟩
 ·obtain ⟨gb, ei⟩ := aL (l := a.gb) (i := j) (by omega)
  obtain ⟨ga, O0⟩ := aL (l := gg) (i := j) (by omega)
  obtain ⟨y, hy⟩ := aL (l := x.gs) (i := j) (by omega)
  have IL : M'.ld ⟨gb, 0, none⟩ = some (.int .i64 y.st) := by
   have h9 := jU (b := gb) (h.cw eA ei (kH hy O0))
   exact cH h9
  refine ⟨by omega, by omega, ?_⟩
  refine ry h ei fun q hq => ?_
  refine aS ?_
  rw [IL]
  refine bU ?_
  have hym := List.mem_of_getElem? hy
  refine bB.2 ⟨fun e1 => ?_, fun e1 => ?_⟩
  ·have : x.gs.any Dq = true := List.any_eq_true.2 ⟨y, hym, by simp [Dq, e1]⟩
   rw [this] at k
   exact k
  refine aS ?_
  rw [IL]
  refine bU ?_
  refine bB.2 ⟨fun e3 => ?_, fun e3 => ?_⟩
  ·have : x.gs.any Dq = true := List.any_eq_true.2 ⟨y, hym, by simp [Dq, e3]⟩
   rw [this] at k
   exact k
  refine ⟨x.gs.length - (j + 1), by omega, j + 1, by rw [aV (by omega)], rfl, by omega, ?_, rfl⟩
  rw [c5 hy, List.any_append, ha]
  simp [Dq, e1, e3]
 ·have Jl : j = x.gs.length := by omega
  subst Jl
  rw [List.take_length] at ha
  rw [ha] at k
  exact k
end
def FO : gi (Int × Int) := ⟨2, fun w => [.int .i64 w.1, .int .u64 w.2], fun _ => rfl, fun w v hv => by
 simp only [List.mem_cons, List.not_mem_nil, or_false] at hv; obtain rfl | rfl := hv <;> rfl⟩
inductive gX where
 | Eh (l : List Int) (at_ : Nat)
 | tape (l : List (Int × Int)) (at_ : Nat)
structure vR where
 k : gX
 taken : List (Int × Int)
def vS : List PanicEntry := [{ v := .iface 240 (.agg #[]), recovered := false }]
def Ml (at_ kind n k v : Int) : List PanicEntry := [{ v := .iface 97 (.agg #[.int .i64 at_, .int .i64 kind, .int .i64 n, .int .i64 k, .int .u64 v]), recovered := false }]
def qY (n : Int) : Int := if 1 > n then 1 else n
def gX.next (k : gX) (kind m : Int) : gX × iK := match k with
 | .Eh l i => match l[i]? with
  | none => (.Eh l i, .ee vS)
  | some v => (.Eh l (i + 1), .num (Int.tmod v m))
 | .tape l i => match l[i]? with
  | none => (.tape l i, .ee vS)
  | some (q, v) => if q ≠ kind then (.tape l i, .ee (Ml i kind m q v)) else if v ≥ m then (.tape l i, .ee (Ml i kind m q v)) else (.tape l (i + 1), .num v)
def vR.draw (x : vR) (kind n : Int) : vR × iK := match x.k.next kind (qY n) with
 | (k', .num v) => (⟨k', x.taken ++ [(kind, v)]⟩, .num v)
 | (k', .ee l) => (⟨k', x.taken⟩, .ee l)
def gX.Ok : gX → Prop
 | .Eh l i => l.length ≤ 1000000000 ∧ i ≤ l.length ∧ ∀ v ∈ l, 0 ≤ v ∧ v < 18446744073709551616
 | .tape l i => l.length ≤ 1000000000 ∧ i ≤ l.length ∧ ∀ v ∈ l, 0 ≤ v.2 ∧ v.2 < 18446744073709551616
def vR.Ok (x : vR) : Prop := x.k.Ok ∧ x.taken.length ≤ 1000000000
abbrev pB (A : Option Addr) (c : Nat) (l : List (Int × Int)) : HP := b8 FO 95 A c l
abbrev RO (A : Option Addr) (c : Nat) (l : List Int) : HP := b8 G5 32 A c l
def kR : pE gX := ⟨fun b k => match k with
 | .Eh l i => exs fun A : Option Addr => exs fun c : Nat => sep [pt b [.slice A l.length c, .int .i64 (i : Int)] 147, RO A c l]
 | .tape l i => exs fun A : Option Addr => exs fun c : Nat => sep [pt b [.slice A l.length c, .int .i64 (i : Int)] 354, pB A c l]⟩
def th : gX → Nat → Value
 | .Eh _ _, b => .func (.func 59) #[.pointer (some ⟨b, 0, none⟩)] #[]
 | .tape _ _, b => .func (.func 198) #[.pointer (some ⟨b, 0, none⟩)] #[]
def vT : gX → Nat → Value
 | .Eh _ _, b => .func (.func 60) #[.pointer (some ⟨b, 0, none⟩)] #[]
 | .tape _ _, b => .func (.func 199) #[.pointer (some ⟨b, 0, none⟩)] #[]
def b5 (Mm : Value) : pE vR := ⟨fun b x => exs fun A : Option Addr => exs fun c : Nat => exs fun kb : Nat =>
 sep [pt b [th x.k kb, vT x.k kb, .slice A x.taken.length c, Mm] 152, pB A c x.taken, ax kR kb x.k]⟩
theorem IZ : bn Tryz.prog 149 95 2 16 [.int .i64 0, .int .u64 0] := bn.mk' (zv := .agg #[.int .i64 0, .int .u64 0]) (by kernel_rfl) (by kernel_rfl) rfl (by omega)
theorem jn {C : Ctx} {g : Nat} {first : Array Value} {args : List Value} {M : Mem} {K : Value → Mem → Prop} {Kp : List PanicEntry → Mem → Prop} (hg : 1 < g ∧ g < C.ok) (h : aa C.P g (first.toList ++ args).toArray M K Kp) : gn C (.func (.func g) first #[]) args M K Kp := by
 unfold gn
 simp only
 rw [if_pos hg]
 simpa using h
theorem vU (n : Int) : 1 ≤ qY n := by unfold qY; split <;> omega
theorem Bx {z : Int} (h0 : 0 ≤ z) (h : z < 18446744073709551616) : IntKind.wrap .u64 z = z := by
 obtain ⟨n, rfl⟩ := Int.eq_ofNat_of_zero_le h0
 rw [IntKind.wrap_u64]; omega
section
variable {R : Mem} {L L' L2 : List HP} {M : Mem} {K : Value → Mem → Prop} {Kp : List PanicEntry → Mem → Prop} {b : Nat} {x : vR} {Mm : Value}
theorem vV {k : gX} {kind m : Int} (hok : k.Ok) (hm : 1 ≤ m) {k' : gX} {v : Int} (h : k.next kind m = (k', .num v)) : 0 ≤ v ∧ v < m := by
 cases k with
 | Eh l i =>
  unfold gX.next at h
  dsimp only at h
  split at h
  ·cases h
  ·rename_i w hw
   cases h
   have := hok.2.2 w (List.mem_of_getElem? hw)
   exact ⟨Int.tmod_nonneg _ this.1, Int.tmod_lt_of_pos _ (by omega)⟩
 | tape l i =>
  unfold gX.next at h
  dsimp only at h
  split at h
  ·cases h
  ·rename_i q w hw
   have := hok.2.2 _ (List.mem_of_getElem? hw)
   split at h
   ·cases h
   ·split at h
    ·cases h
    ·cases h
     exact ⟨this.1, by omega⟩
theorem Lf {k : gX} {kind m : Int} (hok : k.Ok) : (k.next kind m).1.Ok := by
 cases k with
 | Eh l i =>
  unfold gX.next
  dsimp only
  split
  ·exact hok
  ·rename_i w hw
   have := (List.getElem?_eq_some_iff.1 hw).1
   exact ⟨hok.1, by omega, hok.2.2⟩
 | tape l i =>
  unfold gX.next
  dsimp only
  split
  ·exact hok
  ·rename_i q w hw
   have := (List.getElem?_eq_some_iff.1 hw).1
   split
   ·exact hok
   ·split
    ·exact hok
    ·exact ⟨hok.1, by omega, hok.2.2⟩
theorem Dr {k : gX} {kind m : Int} {kb : Nat} : th (k.next kind m).1 kb = th k kb ∧ vT (k.next kind m).1 kb = vT k kb := by
 cases k with
 | Eh l i => unfold gX.next; dsimp only; split <;> exact ⟨rfl, rfl⟩
 | tape l i =>
  unfold gX.next; dsimp only; split
  ·exact ⟨rfl, rfl⟩
  ·split
   ·exact ⟨rfl, rfl⟩
   ·split <;> exact ⟨rfl, rfl⟩
theorem O4 {k : gX} {kb : Nat} {kind m : Int} (h : Hp R (ax kR kb k :: L) M) (hok : k.Ok) (hm : 1 ≤ m) (RP : m < 9223372036854775808)
  (g : match (k.next kind m).2 with
   | .num v => ∀ M', Hp R (ax kR kb (k.next kind m).1 :: L) M' → K (.int .u64 v) M'
   | .ee l => ∀ M', Hp R (ax kR kb (k.next kind m).1 :: L) M' → Kp l M') :
  gn Cx (th k kb) [.int .i64 kind, .int .i64 m] M K Kp := by
 cases k with
 | Eh l i =>
  refine jn ⟨by decide, by show _ < 255; decide⟩ ?_
  refine lu ?_
  obtain ⟨o1, o2, o3⟩ := hok
  unfold gX.next at g
  dsimp only at g
  have h2 := h.obj kR kb
  simp only [kR, Hp.cP, Hp.aO, List.cons_append, List.nil_append] at h2
  obtain ⟨A, c, h2⟩ := h2
  clear h
  have h := h2
  clear h2
  have mk : ∀ {M : Mem} {i : Nat}, Hp R (pt kb [.slice A l.length c, .int .i64 (i : Int)] 147 :: RO A c l :: L) M → Hp R (ax kR kb (.Eh l i) :: L) M := by
   intro M i h
   refine Hp.tu ?_
   simp only [kR, Hp.cP, Hp.aO, List.cons_append, List.nil_append]
   exact ⟨_, _, h⟩
  refine ae h (av h ?_)
  refine aH.2 ⟨fun hge => ?_, fun hlt => ?_⟩
  ·have e : l[i]? = none := List.getElem?_eq_none_iff.2 (by omega)
   rw [e] at g
   exact g _ (mk h)
  ·obtain ⟨w, hw⟩ := aL (l := l) (i := i) (by omega)
   rw [hw] at g
   have hwb := o3 w (List.mem_of_getElem? hw)
   refine ae h ?_
   rw [aV (by omega)]
   refine ak h ?_
   clear h; intro M h
   refine av h (ae h ?_)
   have e : IntKind.wrap .i64 (((i + 1 : Nat) : Int) - 1) = (i : Int) := by rw [dH (by omega) (by omega)]; omega
   rw [e]
   obtain ⟨q, rfl⟩ := h.bj (A := A) (by omega) (by decide)
   refine ⟨by omega, by omega, aS ?_⟩
   refine aW (Src.at (h.src (A := some ⟨q, 0, none⟩)) h (i := i) (j := 0) hw rfl (by simp [G5])) ?_
   rw [Bx (by omega) (by omega)]
   exact ⟨by omega, g _ (mk h)⟩
 | tape l i =>
  refine jn ⟨by decide, by show _ < 255; decide⟩ ?_
  refine nR ?_
  obtain ⟨o1, o2, o3⟩ := hok
  unfold gX.next at g
  dsimp only at g
  have h2 := h.obj kR kb
  simp only [kR, Hp.cP, Hp.aO, List.cons_append, List.nil_append] at h2
  obtain ⟨A, c, h2⟩ := h2
  clear h
  have h := h2
  clear h2
  have mk : ∀ {M : Mem} {i : Nat}, Hp R (pt kb [.slice A l.length c, .int .i64 (i : Int)] 354 :: pB A c l :: L) M → Hp R (ax kR kb (.tape l i) :: L) M := by
   intro M i h
   refine Hp.tu ?_
   simp only [kR, Hp.cP, Hp.aO, List.cons_append, List.nil_append]
   exact ⟨_, _, h⟩
  refine ae h (av h ?_)
  refine aH.2 ⟨fun hge => ?_, fun hlt => ?_⟩
  ·have e : l[i]? = none := List.getElem?_eq_none_iff.2 (by omega)
   rw [e] at g
   exact g _ (mk h)
  ·obtain ⟨⟨q, w⟩, hw⟩ := aL (l := l) (i := i) (by omega)
   rw [hw] at g
   dsimp only at g
   have hwb := o3 _ (List.mem_of_getElem? hw)
   dsimp only at hwb
   refine av h (ae h ?_)
   obtain ⟨q0, rfl⟩ := h.bj (A := A) (by omega) (by decide)
   refine ⟨by omega, by omega, aS ?_⟩
   refine aW (Src.at (h.src (A := some ⟨q0, 0, none⟩)) h (i := i) (j := 0) hw rfl (by simp [FO])) ?_
   refine aW (Src.at (h.src (A := some ⟨q0, 0, none⟩)) h (i := i) (j := 1) hw rfl (by simp [FO])) ?_
   refine aj h ?_
   clear h; intro kk M h
   refine ak h ?_
   clear h; intro M h
   refine ak h ?_
   clear h; intro M h
   refine ae h ?_
   refine bM.2 ⟨fun hne => ?_, fun heq => ?_⟩
   ·rw [if_pos hne] at g
    refine ae h (ae h (ae h ?_))
    exact g _ (mk (h.sub bG))
   ·rw [if_neg (by simpa using heq)] at g
    refine ae h ?_
    rw [Bx (by omega) (by omega)]
    refine aH.2 ⟨fun hge => ?_, fun hlt2 => ?_⟩
    ·rw [if_pos hge] at g
     refine ae h (ae h (ae h ?_))
     exact g _ (mk (h.sub bG))
    ·rw [if_neg hlt2] at g
     refine ae h ?_
     rw [aV (by omega)]
     refine ak h ?_
     clear h; intro M h
     refine ae h ?_
     exact g _ (mk (h.sub bG))
theorem I0 (h : Hp R L M) [o : bO (b5 Mm) b L x L'] : ∃ A c kb, Hp R (pt b [th x.k kb, vT x.k kb, .slice A x.taken.length c, Mm] 152 :: pB A c x.taken :: ax kR kb x.k :: L') M := by
 have := h.obj (b5 Mm) b
 simpa only [b5, Hp.cP, Hp.aO, List.cons_append, List.nil_append] using this
theorem Ds {A : Option Addr} {c kb : Nat} (h : Hp R (pt b [th x.k kb, vT x.k kb, .slice A x.taken.length c, Mm] 152 :: pB A c x.taken :: ax kR kb x.k :: L) M) : Hp R (ax (b5 Mm) b x :: L) M := by
 refine Hp.tu ?_
 simp only [b5, Hp.cP, Hp.aO, List.cons_append, List.nil_append]
 exact ⟨_, _, _, h⟩
theorem mM {kind n : Int} (h : Hp R L M) [o : bO (b5 .nilFunc) b L x L'] (hok : x.Ok) (hn : n < 9223372036854775808) (ht : x.taken.length < 100000000)
  (g : match (x.draw kind n).2 with
   | .num v => ∀ M', Hp R (ax (b5 .nilFunc) b (x.draw kind n).1 :: L') M' → K (.int .i64 v) M'
   | .ee l => ∀ M', Hp R (ax (b5 .nilFunc) b (x.draw kind n).1 :: L') M' → Kp l M') :
  aa Tryz.prog 107 #[.pointer (some ⟨b, 0, none⟩), .int .i64 kind, .int .i64 n] M K Kp := by
 refine lz ?_
 have h' := I0 (Mm := .nilFunc) h (b := b)
 clear h
 obtain ⟨A, c, kb, h⟩ := h'
 refine GZ h ?_
 have em : (if (1 : Int) > n then 1 else n) = qY n := rfl
 rw [em]
 have hm1 := vU n
 have RP : qY n < 9223372036854775808 := by unfold qY; split <;> omega
 have hnv := Dr (k := x.k) (kind := kind) (m := qY n) (kb := kb)
 obtain ⟨RI, yE⟩ := hnv
 have Dt := fun k' v => vV (k := x.k) (kind := kind) hok.1 hm1 (k' := k') (v := v)
 unfold vR.draw at g
 replace h : Hp R (ax kR kb x.k :: pt b [th x.k kb, vT x.k kb, .slice A x.taken.length c, .nilFunc] 152 :: pB A c x.taken :: L') M := h.sub bG
 refine O4 (kind := kind) h hok.1 hm1 RP ?_
 clear h
 generalize hr : x.k.next kind (qY n) = r at g RI yE Dt
 obtain ⟨k', d⟩ := r
 dsimp only at RI yE ⊢
 rw [← RI, ← yE]
 cases d with
 | ee l =>
  dsimp only at g ⊢
  intro M h
  exact g _ (Ds (x := ⟨k', x.taken⟩) (h.sub bG))
 | num v =>
  dsimp only at g ⊢
  obtain ⟨v0, v1⟩ := Dt k' v rfl
  intro M h
  refine bU ?_
  refine aj h ?_
  clear h; intro k5 M h
  refine ak h ?_
  clear h; intro M h
  refine ak h ?_
  clear h; intro M h
  refine av h (ae h (ae h ?_))
  refine aj h ?_
  clear h; intro gS M h
  refine h.bu (A := A) IZ [(kind, v)] rfl rfl (by simp only [List.length_singleton]; omega) ?_
  clear h; intro A' c' M h
  refine aY ?_
  refine ak h ?_
  clear h; intro M h
  refine GZ h ?_
  unfold DH
  dsimp only
  refine ai (ae h ?_)
  rw [dH (by omega) (by omega)]
  exact g _ (Ds (x := ⟨k', x.taken ++ [(kind, v)]⟩) (h.sub bG))
theorem By {B : Option Addr} {m cb : Nat} {l : List (Int × Int)} (h : Hp R L M) (hB : Src R L B (FO.cells l)) (hm : m = l.length) (hl : l.length ≤ 1000000000)
  (g : ∀ b M', Hp R (ax (b5 .nilFunc) b ⟨.tape l 0, []⟩ :: L) M' → K (.pointer (some ⟨b, 0, none⟩)) M') :
  aa Tryz.prog 172 #[.slice B m cb] M K Kp := by
 refine u5 ?_
 refine aj h ?_
 clear h; intro k1 M h
 refine h.jc FO IZ l hB.cons hm (by omega) ?_
 clear h; intro A' c' M h
 refine aY ?_
 refine aj h ?_
 clear h; intro k8 M h
 refine aj h ?_
 clear h; intro cX M h
 have h2 := h.ck FO 95
 refine g cX _ (Ds (x := ⟨.tape l 0, []⟩) (A := none) (c := 0) (kb := k8) ?_)
 have h3 : Hp R (ax kR k8 (.tape l 0) :: pB none 0 [] :: pt cX [th (.tape l 0) k8, vT (.tape l 0) k8, .slice none 0 0, .nilFunc] 152 :: L) M := by
  refine Hp.tu ?_
  simp only [kR, Hp.cP, Hp.aO, List.cons_append, List.nil_append]
  exact ⟨A', c', h2.sub bG⟩
 exact h3.sub bG
theorem FP {kind n : Int} (hok : x.Ok) (hn : n < 9223372036854775808) (ht : x.taken.length < 100000000) :
  fZ R (.func (.func 107) #[.pointer (some ⟨b, 0, none⟩)] #[]) kind n (x.draw kind n).2 (ax (b5 .nilFunc) b x :: L) (ax (b5 .nilFunc) b (x.draw kind n).1 :: L) := by
 intro Q M K Kp h k
 refine jn ⟨by decide, by show _ < 255; decide⟩ ?_
 refine mM h hok hn ht ?_
 cases hd : (x.draw kind n).2 with
 | num v => rw [hd] at k; exact fun M' h' => k M' h'.swap
 | ee l => rw [hd] at k; exact fun M' h' => k M' h'.swap
end
structure dM where
 q : Loc
 turns : Int
 xd : Int
structure JB where
 p : Int
 g : Int
 left : Int
 deriving DecidableEq
structure SZ where
 P : Int
 M : Int
 R : Int
 S : Int
structure Sc where
 w : Wd
 c : SZ
 ps : List dM
 ms : List JB
 gl : List Int
 d : vR
 steps : Int
structure Ev where
 kind : Int
 m : Int
 g : Int
 ready : List Int
def mN : gi (Nat × Int × Int) := ⟨3, fun w => [.pointer (some ⟨w.1, 0, none⟩), .int .i64 w.2.1, .int .i64 w.2.2], fun _ => rfl, fun w v hv => by
 simp only [List.mem_cons, List.not_mem_nil, or_false] at hv; obtain rfl | rfl | rfl := hv <;> rfl⟩
def jo : gi JB := ⟨3, fun w => [.int .i64 w.p, .int .i64 w.g, .int .i64 w.left], fun _ => rfl, fun w v hv => by
 simp only [List.mem_cons, List.not_mem_nil, or_false] at hv; obtain rfl | rfl | rfl := hv <;> rfl⟩
def bC (bs : List Nat) (ps : List dM) : List (Nat × Int × Int) := List.zipWith (fun b (p : dM) => (b, p.turns, p.xd)) bs ps
def aD (x : Sc) (m : Int) : JB := x.ms.getD m.toNat ⟨-1, -1, 0⟩
def aJ (x : Sc) (i : Int) : dM := x.ps.getD i.toNat ⟨⟨-1, 0, []⟩, 0, -1⟩
def Sc.gE (x : Sc) (m : Int) (y : JB) : Sc := { x with ms := x.ms.set m.toNat y }
def Sc.cD (x : Sc) (i : Int) (y : dM) : Sc := { x with ps := x.ps.set i.toNat y }
structure SA where
 ap : Option Addr
 cp : Nat
 lb : List Nat
 am : Option Addr
 cm : Nat
abbrev bK (A : Option Addr) (c : Nat) (l : List (Nat × Int × Int)) : HP := b8 mN 141 A c l
abbrev bT (A : Option Addr) (c : Nat) (l : List JB) : HP := b8 jo 143 A c l
abbrev cW (wb db : Nat) (a : SA) (x : Sc) (A : Option Addr) (n c : Nat) : List Value :=
 [.pointer (some ⟨wb, 0, none⟩), .int .i64 x.c.P, .int .i64 x.c.M, .int .i64 x.c.R, .int .i64 x.c.S, .slice a.ap x.ps.length a.cp, .slice a.am x.ms.length a.cm, .slice A n c, .pointer (some ⟨db, 0, none⟩), .int .i64 x.steps]
abbrev cR (b wb db : Nat) (a : SA) (x : Sc) : Option Addr → Nat → Nat → HP := fun A n c => pt b (cW wb db a x A n c) 137
theorem vW {b wb db : Nat} {a : SA} {x : Sc} : Ma b (0 + 7) (cR b wb db a x) :=
 ⟨fun R L M A n c h => cH h, fun R L M A A' n c n' c' G h k => ak h k⟩
abbrev gd (a : SA) (x : Sc) (L : List HP) : List HP := bK a.ap a.cp (bC a.lb x.ps) :: aP bl a.lb (x.ps.map dM.q) :: bT a.am a.cm x.ms :: L
def gf (pa : PA) (p : cM) (wb db : Nat) : pE Sc := ⟨fun b x => exs fun a : SA =>
 sep (fe (cR b wb db a x) x.gl :: ax (bk pa p) wb x.w :: ax (b5 .nilFunc) db x.d :: fact (a.lb.length = x.ps.length) :: gd a x [])⟩
class od (b : Nat) (L : List HP) (pa : outParam PA) (p : outParam cM) (wb db : outParam Nat) (x : outParam Sc) (L' : outParam (List HP)) : Prop where
 pick : cv L (ax (gf pa p wb db) b x) L'
instance od.here {pa : PA} {p : cM} {wb db b : Nat} {x : Sc} {L : List HP} : od b (ax (gf pa p wb db) b x :: L) pa p wb db x L := ⟨.here⟩
instance (priority := low) od.there {pa : PA} {p : cM} {wb db b : Nat} {x : Sc} {Q : HP} {L L' : List HP} [h : od b L pa p wb db x L'] : od b (Q :: L) pa p wb db x (Q :: L') := ⟨.there h.pick⟩
section
variable {R : Mem} {L L' L2 : List HP} {M : Mem} {K : Value → Mem → Prop} {Kp : List PanicEntry → Mem → Prop} {pa : PA} {p : cM} {b wb db : Nat} {x : Sc} {m i : Int}
theorem ej (h : Hp R L M) [o : od b L pa p wb db x L'] : ∃ a : SA, a.lb.length = x.ps.length ∧ Hp R (fe (cR b wb db a x) x.gl :: ax (bk pa p) wb x.w :: ax (b5 .nilFunc) db x.d :: gd a x L') M := by
 have := h.pick o.pick
 unfold ax at this
 simp only [gf, gd, Hp.cP, Hp.aO, List.cons_append, List.nil_append] at this
 obtain ⟨a, h⟩ := this
 refine ⟨a, ?_⟩
 have h2 := h.pick (P := fact (a.lb.length = x.ps.length)) (.there (.there (.there .here)))
 obtain ⟨e, h3⟩ := Hp.dZ.1 h2
 exact ⟨e, h3⟩
theorem gF {a : SA} (hl : a.lb.length = x.ps.length) (h : Hp R (fe (cR b wb db a x) x.gl :: ax (bk pa p) wb x.w :: ax (b5 .nilFunc) db x.d :: gd a x L) M) : Hp R (ax (gf pa p wb db) b x :: L) M := by
 refine Hp.tu ?_
 simp only [gf, gd, Hp.cP, Hp.aO, List.cons_append, List.nil_append]
 refine ⟨a, ?_⟩
 have h2 : Hp R (fact (a.lb.length = x.ps.length) :: fe (cR b wb db a x) x.gl :: ax (bk pa p) wb x.w :: ax (b5 .nilFunc) db x.d :: gd a x L) M := Hp.dZ.2 ⟨hl, h⟩
 exact h2.j9 (.there (.there (.there .here)))
theorem kJ {a : SA} (h : Hp R (fe (cR b wb db a x) x.gl :: L) M) : ∃ A c, Hp R (pt b (cW wb db a x A x.gl.length c) 137 :: iY A c x.gl :: L) M := gJ (P := cR b wb db a x) h
theorem uk {a : SA} {A : Option Addr} {c n : Nat} {l : List Int} (h : Hp R (pt b (cW wb db a x A n c) 137 :: iY A c l :: L) M) (e : n = l.length := by first | rfl | simp) : Hp R (fe (cR b wb db a x) l :: L) M := Ea (P := cR b wb db a x) h e
theorem Lg {bs : List Nat} {ps : List dM} {i lb : Nat} {pr : dM} (h1 : bs[i]? = some lb) (h2 : ps[i]? = some pr) : (bC bs ps)[i]? = some (lb, pr.turns, pr.xd) := CG h1 h2
theorem vX {bs : List Nat} {ps : List dM} {i lb : Nat} {pr : dM} (h1 : bs[i]? = some lb) : (bC bs ps).set i (lb, pr.turns, pr.xd) = bC bs (ps.set i pr) := kz (f := fun b (p : dM) => (b, p.turns, p.xd)) h1
theorem iL {bs : List Nat} {ps : List dM} (h : bs.length = ps.length) : (bC bs ps).length = ps.length := by simp [bC, h]
theorem tj (h : Hp R L M) [o : od b L pa p wb db x L'] (k : K (.pointer (some ⟨wb, 0, none⟩)) M) : aa Tryz.prog 18 #[.pointer (some ⟨b, 0, none⟩)] M K Kp := by
 refine mz ?_
 obtain ⟨a, hl, h⟩ := ej h (b := b)
 obtain ⟨A, c, h⟩ := kJ h
 exact om h k
theorem Bz (h : Hp R L M) [o : od b L pa p wb db x L'] (k : K (.int .i64 x.steps) M) : aa Tryz.prog 35 #[.pointer (some ⟨b, 0, none⟩)] M K Kp := by
 refine mA ?_
 obtain ⟨a, hl, h⟩ := ej h (b := b)
 obtain ⟨A, c, h⟩ := kJ h
 exact ae h k
def Sc.status (x : Sc) : Int := if x.w.end_ = 1 then 1 else if x.w.end_ = 2 then 2 else if x.w.stuck then 3 else 0
theorem qZ (h : Hp R L M) [o : od b L pa p wb db x L'] (hs : x.w.gs.length ≤ 1000000) (k : K (.int .i64 x.status) M) : aa Tryz.prog 22 #[.pointer (some ⟨b, 0, none⟩)] M K Kp := by
 refine lA ?_
 have h' := ej h (b := b)
 clear h
 obtain ⟨a, hl, h⟩ := h'
 have h' := kJ h
 clear h
 obtain ⟨A, c, h⟩ := h'
 unfold Sc.status at k
 refine om h ?_
 refine yh h ?_
 refine ⟨_, _, rfl, ?_⟩
 refine bB.2 ⟨fun e => ?_, fun e => ?_⟩
 ·rw [if_pos e] at k; exact k
 rw [if_neg e] at k
 refine bB.2 ⟨fun e => ?_, fun e => ?_⟩
 ·rw [if_pos e] at k; exact k
 rw [if_neg e] at k
 refine om h ?_
 refine Bw h hs ?_
 refine eC ?_
 cases hst : x.w.stuck with
 | true => rw [hst] at k; exact af k
 | false => rw [hst] at k; exact ai k
def Sc.tick (x : Sc) : Sc × Ev := ({ x with w := x.w.tick, gl := x.gl ++ x.w.tick.ready }, ⟨1, -1, -1, x.w.tick.ready⟩)
def Gi (e : Ev) (A : Option Addr) (c : Nat) : Value := .agg #[.int .i64 e.kind, .int .i64 e.m, .int .i64 e.g, .slice A e.ready.length c]
theorem mO {k1 T n : Nat} {v1 v2 v3 v4 : Value} {e1 e2 e3 : Int} {A : Option Addr} {c : Nat} {G : Mem → Prop} (h : Hp R L M) [q : iF k1 L [v1, v2, v3, v4] T L']
  (k : ∀ M', Hp R (pt k1 [.int .i64 e1, .int .i64 e2, .int .i64 e3, .slice A n c] T :: L') M' → G M') :
  aF M ⟨k1, 0, none⟩ (.int .i64 e1) fun M1 => aF M1 ⟨k1, (0 + 1), none⟩ (.int .i64 e2) fun M2 => aF M2 ⟨k1, (0 + 2), none⟩ (.int .i64 e3) fun M3 => aF M3 ⟨k1, (0 + 3), none⟩ (.slice A n c) G := by
 have h := h.pick q.pick
 refine ak h ?_
 clear h; intro M h
 refine ak h ?_
 clear h; intro M h
 refine ak h ?_
 clear h; intro M h
 refine ak h ?_
 clear h; intro M h
 exact k _ h
theorem mP {k1 T n : Nat} {e1 e2 e3 : Int} {A : Option Addr} {c : Nat} {G : Int → Int → Int → Option Addr → Nat → Nat → Prop} (h : Hp R L M) [q : iF k1 L [.int .i64 e1, .int .i64 e2, .int .i64 e3, .slice A n c] T L'] (g : G e1 e2 e3 A n c) :
  aE (Mem.ld M ⟨k1, 0, none⟩) .i64 fun n1 => aE (Mem.ld M ⟨k1, (0 + 1), none⟩) .i64 fun n2 => aE (Mem.ld M ⟨k1, (0 + 2), none⟩) .i64 fun n3 => ay (Mem.ld M ⟨k1, (0 + 3), none⟩) fun A k l => G n1 n2 n3 A k l := by
 have h := h.pick q.pick
 exact ae h (ae h (ae h (av h g)))
def zu (x : Sc) : Prop := x.w.hl.length ≤ 1000000 ∧ (∀ y ∈ (dO x.w.hl.length x.w.hl (IntKind.wrap .u64 (x.w.clock + 1))).2, 0 ≤ y.id ∧ y.id < x.w.gs.length) ∧ x.gl.length + x.w.tick.ready.length ≤ 1000000
instance (x : Sc) : Decidable (zu x) := by unfold zu; infer_instance
theorem Du (h : Hp R L M) [o : od b L pa p wb db x L'] (hk : zu x)
  (k : ∀ R' A c M', R.le R' → RS bq R' A c x.tick.2.ready → Hp R' (ax (gf pa p wb db) b x.tick.1 :: L') M' → K (Gi x.tick.2 A c) M') : aa Tryz.prog 108 #[.pointer (some ⟨b, 0, none⟩)] M K Kp := by
 refine nX ?_
 refine aj h ?_
 clear h
 intro k1 M h
 have h' := ej h (b := b)
 clear h
 obtain ⟨a, hl, h⟩ := h'
 have h' := kJ h
 clear h
 obtain ⟨A, c, h⟩ := h'
 refine om h ?_
 refine Dl h hk.1 hk.2.1 ?_
 clear h; intro R2 Ar cr M hle wI h
 refine aY ?_
 replace h : Hp R2 (pt b (cW wb db a x A x.gl.length c) 137 :: iY A c x.gl :: ax (bk pa p) wb x.w.tick :: ax (b5 .nilFunc) db x.d :: bK a.ap a.cp (bC a.lb x.ps) :: aP bl a.lb (x.ps.map dM.q) :: bT a.am a.cm x.ms :: pt k1 [.int .i64 0, .int .i64 0, .int .i64 0, .slice none 0 0] 43 :: L') M := h.sub bG
 replace h := uk h
 refine kI (P := cR b wb db a x) vW h (wI.src) rfl (by have := hk.2.2; omega) ?_
 clear h; intro M h
 refine ⟨rfl, ?_⟩
 refine mO h ?_
 clear h; intro M h
 refine mP h ?_
 exact k R2 Ar cr _ hle wI (gF (a := a) (x := x.tick.1) hl (h.sub bG))
end
def zw (q : Loc) : Bool := q.next != -1 || !q.l.isEmpty
def RQ (q : Loc) (turns : Int) (gl : List Int) : Loc × List Int × Int × Bool :=
 let a := q.vK gl
 if Int.tmod turns 7 = 6 ∧ 0 < a.2.1.length then (a.1, a.2.1.drop 1, a.2.1.headD 0, true)
 else if zw a.1 then (a.1.get.1, a.2.1, a.1.get.2, true)
 else ((a.1.get.1.g6 a.2.1 0).1, (a.1.get.1.g6 a.2.1 0).2.1, (a.1.get.1.g6 a.2.1 0).2.2, !a.2.1.isEmpty)
def jX (f : Loc) (v : Int) : Bool := v != -1 || !f.l.isEmpty
theorem I2 {q : Loc} {gl : List Int} : (q.vK gl).2.1.length ≤ gl.length + q.l.length + 1 := by
 unfold Loc.vK
 split
 ·simp; omega
 ·unfold Loc.put
  split
  ·simp; omega
  ·simp; omega
section
variable {R : Mem} {L L' L2 : List HP} {M : Mem} {K : Value → Mem → Prop} {Kp : List PanicEntry → Mem → Prop} {pa : PA} {p : cM} {b wb db : Nat} {x : Sc} {m i : Int}
def Sc.hold (x : Sc) (m : Int) : Sc × Ev := match x.ps.findIdx? (fun pr => pr.xd == -1) with
 | some i => (((x.cD (i : Int) { aJ x (i : Int) with xd := m }).gE m { aD x m with p := (i : Int) }), ⟨2, m, -1, []⟩)
 | none => (x, ⟨3, m, -1, []⟩)
theorem vY {a : SA} {y : dM} : cR b wb db a (x.cD i y) = cR b wb db a x := by
 unfold cR cW Sc.cD; simp
theorem vZ {a : SA} {y : JB} : cR b wb db a (x.gE i y) = cR b wb db a x := by
 unfold cR cW Sc.gE; simp
theorem mQ {a : SA} (hl : a.lb.length = x.ps.length) (h0 : 0 ≤ i) (h1 : i < x.ps.length) : ∃ lb, a.lb[i.toNat]? = some lb ∧ x.ps[i.toNat]? = some (aJ x i) ∧ (bC a.lb x.ps)[i.toNat]? = some (lb, (aJ x i).turns, (aJ x i).xd) := by
 obtain ⟨lb, hlb⟩ := aL (l := a.lb) (i := i.toNat) (by omega)
 obtain ⟨y, hy⟩ := aL (l := x.ps) (i := i.toNat) (by omega)
 have e : aJ x i = y := by simp [aJ, hy]
 rw [e]
 exact ⟨lb, hlb, hy, Lg hlb hy⟩
theorem mR (h0 : 0 ≤ m) (h1 : m < x.ms.length) : x.ms[m.toNat]? = some (aD x m) := by
 obtain ⟨y, hy⟩ := aL (l := x.ms) (i := m.toNat) (by omega)
 have e : aD x m = y := by simp [aD, hy]
 rw [e]; exact hy
theorem sw {ps : List dM} {j : Nat} {pr y : dM} (h : ps[j]? = some pr) (e : y.q = pr.q) : (ps.set j y).map dM.q = ps.map dM.q := by
 obtain ⟨hj, rfl⟩ := List.getElem?_eq_some_iff.1 h
 rw [List.map_set, e]
 have h2 : (ps.map dM.q)[j]'(by simpa using hj) = ps[j].q := by simp
 rw [← h2]
 exact List.set_getElem_self _
theorem sA {a : SA} {A : Option Addr} {c : Nat} {cs : List Value} {l : List Int} {pw : List (Nat × Int × Int)} {qs : List Loc} {ms : List JB} {L0 L1 L2 L3 L4 L5 L6 : List HP} (h : Hp R L M) (b : Nat)
  [p0 : iF b L cs 137 L0] [p1 : bZ A L0 Int bq 3 c l L1] [p2 : Eb wb L1 pa p x.w L2] [p3 : bO (b5 .nilFunc) db L2 x.d L3] [p4 : bZ a.ap L3 (Nat × Int × Int) mN 141 a.cp pw L4]
  [p5 : dW bl L4 a.lb qs L5] [p6 : bZ a.am L5 JB jo 143 a.cm ms L6] (hc : cs = cW wb db a x A x.gl.length c) (hg : l = x.gl) (hl : a.lb.length = x.ps.length) (hp : pw = bC a.lb x.ps) (hq : x.ps.map dM.q = qs) (hm : ms = x.ms) : Hp R (ax (gf pa p wb db) b x :: L6) M := by
 subst hc; subst hg; subst hp; subst hq; subst hm
 have h2 : Hp R (pt b (cW wb db a x A x.gl.length c) 137 :: iY A c x.gl :: ax (bk pa p) wb x.w :: ax (b5 .nilFunc) db x.d :: gd a x L6) M :=
  h.sub (.cons p0.pick (.cons p1.pick (.cons p2.pick (.cons p3.pick (.cons p4.pick (.cons p5.pick (.cons p6.pick .refl)))))))
 exact gF (a := a) hl (uk h2)
theorem Dv (h : Hp R L M) [o : od b L pa p wb db x L'] (h0 : 0 ≤ m) (h1 : m < x.ms.length) (hs : x.ps.length ≤ 1000000)
  (k : ∀ M', Hp R (ax (gf pa p wb db) b (x.hold m).1 :: L') M' → K (Gi (x.hold m).2 none 0) M') : aa Tryz.prog 109 #[.pointer (some ⟨b, 0, none⟩), .int .i64 m] M K Kp := by
 refine nY ?_
 refine aj h ?_
 clear h
 intro k1 M h
 have h' := ej h (b := b)
 clear h
 obtain ⟨a, hl, h⟩ := h'
 have h' := kJ h
 clear h
 obtain ⟨A, c, h⟩ := h'
 refine av h ?_
 unfold Sc.hold at k
 have hprl := iL hl
 refine ⟨fun d vs M => ∃ j : Nat, vs = [.int .i64 (j : Int)] ∧ d = x.ps.length - j ∧ j ≤ x.ps.length ∧ (∀ q pr, q < j → x.ps[q]? = some pr → pr.xd ≠ -1) ∧
   Hp R (pt b (cW wb db a x A x.gl.length c) 137 :: iY A c x.gl :: pt k1 [.int .i64 0, .int .i64 0, .int .i64 0, .slice none 0 0] 43 :: ax (bk pa p) wb x.w :: ax (b5 .nilFunc) db x.d :: gd a x L') M,
  ⟨_, 0, rfl, rfl, by omega, fun q pr hq => by omega, h.sub bG⟩, ?_⟩
 clear h
 rintro d _ nn M ⟨j, he, hd, hj, hp, h⟩
 simp only [List.cons.injEq, Value.int.injEq, and_true, true_and] at he
 subst he
 refine aH.2 ⟨fun hlt => ?_, fun hge => ?_⟩
 ·obtain ⟨lb, hlb, zH, hrow⟩ := mQ (i := (j : Int)) hl (by omega) hlt
  simp only [Int.toNat_natCast] at hlb zH hrow
  obtain ⟨q, hq⟩ := h.bj (A := a.ap) (l := bC a.lb x.ps) (by omega) (by decide)
  have PM := h.src (A := a.ap)
  rw [hq] at PM
  refine av h ⟨by omega, hlt, ?_⟩
  rw [hq]
  refine aS ?_
  refine aW (Src.at PM h (i := j) (j := 2) hrow rfl (by show _ = 0 + (j * 3 + 2); simp)) ?_
  refine bB.2 ⟨fun e => ?_, fun e => ?_⟩
  ·have Qr : x.ps.findIdx? (fun pr => pr.xd == -1) = some j := by
    refine List.findIdx?_eq_some_iff_getElem.2 ⟨by omega, ?_, fun q hq => ?_⟩
    ·have := (List.getElem?_eq_some_iff.1 zH).2
     rw [this]; simpa using e
    ·have := hp q _ hq (List.getElem?_eq_getElem (by omega))
     simpa using this
   rw [Qr] at k
   dsimp only at k
   clear PM
   obtain ⟨q2, m9⟩ := h.bj (A := a.am) (l := x.ms) (by omega) (by decide)
   have ea := cH h (b := b) (o := 0 + 5) (v := .slice a.ap x.ps.length a.cp)
   rw [hq] at ea
   refine (show ∀ {G}, G (some ⟨q, 0, none⟩) x.ps.length a.cp → ay (M.ld ⟨b, 0 + 5, none⟩) G from fun g => by rw [ea]; exact aY g) ?_
   refine av h ⟨by omega, hlt, aS ?_⟩
   have hap : a.ap = some ⟨q, 0, none⟩ := hq
   have Ei : a.am = some ⟨q2, 0, none⟩ := m9
   obtain ⟨ap, cp, rz, am, cm⟩ := a
   dsimp only at hap Ei hrow hlb hl hprl h
   subst hap; subst Ei
   refine gp (E := mN) (a' := (lb, (aJ x (j : Int)).turns, m)) j 2 h hrow (by decide) rfl (by show _ = j * 3 + 2; simp) ?_
   clear h; intro M h
   refine ⟨h0, h1, aS ?_⟩
   refine gp (E := jo) (a' := { aD x m with p := (j : Int) }) m.toNat 0 h (mR h0 h1) (by decide) rfl (by show _ = m.toNat * 3 + 0; simp) ?_
   clear h; intro M h
   refine mO h ?_
   clear h; intro M h
   refine mP h ?_
   rw [vX (pr := { aJ x (j : Int) with xd := m }) hlb] at h
   have e3 := sw (y := { aJ x (j : Int) with xd := m }) zH rfl
   exact k _ (Hp.bH (sA (A := A) (c := c) (a := ⟨some ⟨q, 0, none⟩, cp, rz, some ⟨q2, 0, none⟩, cm⟩) (x := (x.cD (j : Int) { aJ x (j : Int) with xd := m }).gE m { aD x m with p := (j : Int) }) h b (by simp [Sc.cD, Sc.gE, cW]) (by rfl) (by simpa [Sc.cD, Sc.gE] using hl) (by rfl) (by exact e3) (by rfl)))
  ·refine ⟨x.ps.length - (j + 1), by omega, j + 1, by rw [aV (by omega)], rfl, by omega, fun q' pr' hq' O5 => ?_, h⟩
   rcases Nat.lt_or_ge q' j with h8 | h8
   ·exact hp q' pr' h8 O5
   ·have : q' = j := by omega
    subst this
    rw [zH] at O5; cases O5; exact e
 ·have Qr : x.ps.findIdx? (fun pr => pr.xd == -1) = none := by
   refine List.findIdx?_eq_none_iff.2 fun pr zH => ?_
   obtain ⟨q, hq, e⟩ := List.getElem_of_mem zH
   have := hp q pr (by omega) (by rw [← e]; exact List.getElem?_eq_getElem hq)
   simpa using this
  rw [Qr] at k
  dsimp only at k
  refine mO h ?_
  clear h; intro M h
  refine mP h ?_
  refine k _ (gF (a := a) hl ?_)
  have h2 := uk (h.sub (show Sub _ (pt b (cW wb db a x A x.gl.length c) 137 :: iY A c x.gl :: ax (bk pa p) wb x.w :: ax (b5 .nilFunc) db x.d :: gd a x L') from bG))
  exact h2
theorem wc {bs : List Nat} {ps : List dM} {j : Nat} {pr y : dM} (h : ps[j]? = some pr) (e1 : y.turns = pr.turns) (e2 : y.xd = pr.xd) : bC bs (ps.set j y) = bC bs ps := by
 obtain ⟨hj, rfl⟩ := List.getElem?_eq_some_iff.1 h
 unfold bC
 refine List.ext_getElem (by simp) fun n h1 h2 => ?_
 simp only [List.getElem_zipWith, List.getElem_set]
 split
 ·rename_i he
  subst he
  rw [e1, e2]
 ·rfl
def Sc.own (x : Sc) (i : Int) : Sc × Int × Bool :=
 let r := RQ (aJ x i).q (aJ x i).turns x.gl
 ({ x.cD i { aJ x i with q := r.1 } with gl := r.2.1 }, r.2.2.1, r.2.2.2)
theorem FQ {q : Nat} {a : SA} (h : Hp R L M) [o : pz (cR b wb db a x) L x.gl L'] [o2 : bZ (some ⟨q, 0, none⟩) L' (Nat × Int × Int) mN 141 a.cp (bC a.lb x.ps) L2] {L3 : List HP} [o3 : dW bl L2 a.lb (x.ps.map dM.q) L3]
  (hap : a.ap = some ⟨q, 0, none⟩) (hl : a.lb.length = x.ps.length) (h0 : 0 ≤ i) (h1 : i < x.ps.length) (hs : x.gl.length ≤ 1000000) (ht : 0 ≤ (aJ x i).turns)
  (k : ∀ M', Hp R (fe (cR b wb db a x) (x.own i).1.gl :: bK (some ⟨q, 0, none⟩) a.cp (bC a.lb x.ps) :: aP bl a.lb ((x.own i).1.ps.map dM.q) :: L3) M' → K (.tuple #[.int .i64 (x.own i).2.1, .bool (x.own i).2.2]) M') :
  aa Tryz.prog 150 #[.pointer (some ⟨b, 0, none⟩), .pointer (some ⟨q, i.toNat * 3, none⟩)] M K Kp := by
 refine pe ?_
 obtain ⟨lb, hlb, zH, hrow⟩ := mQ (i := i) hl h0 h1
 have h2 : Hp R (fe (cR b wb db a x) x.gl :: bK (some ⟨q, 0, none⟩) a.cp (bC a.lb x.ps) :: aP bl a.lb (x.ps.map dM.q) :: L3) M := h.sub (.cons o.pick (.cons o2.pick (.cons o3.pick .refl)))
 clear h
 have h := h2
 clear h2
 have hq : (x.ps.map dM.q)[i.toNat]? = some (aJ x i).q := by rw [List.getElem?_map, zH]; rfl
 unfold Sc.own at k
 dsimp only at k
 have KX : ∀ q', (x.cD i { aJ x i with q := q' }).ps.map dM.q = (x.ps.map dM.q).set i.toNat q' := fun q' => by simp [Sc.cD, List.map_set]
 simp only [KX] at k
 unfold RQ at k
 dsimp only at k
 refine jK (Src.at (Src.row (A := some ⟨q, 0, none⟩) : Src R _ _ (mN.cells (bC a.lb x.ps))) h (i := i.toNat) (j := 0) hrow rfl (by show _ = 0 + (i.toNat * 3 + 0); simp)) ?_
 replace h := h.cw bl hlb hq
 replace h : Hp R (ax bl lb (aJ x i).q :: fe (cR b wb db a x) x.gl :: jg bl a.lb (x.ps.map dM.q) i.toNat :: bK (some ⟨q, 0, none⟩) a.cp (bC a.lb x.ps) :: L3) M := h.sub bG
 have hbd := sq h (b := lb)
 refine De (P := cR b wb db a x) vW h (by omega) ?_
 clear h; intro M h
 have SV := I2 (q := (aJ x i).q) (gl := x.gl)
 refine bU ?_
 generalize htr : (aJ x i).q.vK x.gl = r at h k SV
 obtain ⟨q1, g1, n1⟩ := r
 dsimp only at h k SV
 have O2 : g1.length ≤ 100000000 := by obtain ⟨a1, a2, a3⟩ := hbd; omega
 refine aW (Src.at (h.src (A := some ⟨q, 0, none⟩)) h (i := i.toNat) (j := 1) hrow rfl (by show _ = 0 + (i.toNat * 3 + 1); omega)) ?_
 refine ⟨by decide, ?_⟩
 have rest : ∀ {M : Mem}, (Hp R (ax bl lb q1 :: fe (cR b wb db a x) g1 :: jg bl a.lb (x.ps.map dM.q) i.toNat :: bK (some ⟨q, 0, none⟩) a.cp (bC a.lb x.ps) :: L3) M) → ¬ (Int.tmod (aJ x i).turns 7 = 6 ∧ 0 < g1.length) →
   cz (Mem.ld M ⟨q, i.toNat * 3, none⟩) fun gz =>
    aa Tryz.prog 149 #[(.pointer gz)] M (fun E7 dG =>
    ∃ fB : Int, ∃ t18 : Bool, (E7 = (.tuple #[(.int .i64 fB), (.bool t18)])) ∧
    aK t18
     (K (.tuple #[(.int .i64 fB), (.bool true)]) dG)
     (cz (Mem.ld dG ⟨q, i.toNat * 3, none⟩) fun At =>
     aa Tryz.prog 180 #[(.pointer At), (.pointer (some ⟨b, (0 + 7), none⟩)), (.int .i64 0)] dG (fun v20 rq =>
     ∃ kT : Int, ∃ t23 : Bool, (v20 = (.tuple #[(.int .i64 kT), (.bool t23)])) ∧
     K (.tuple #[(.int .i64 kT), (.bool t23)]) rq) Kp)) Kp := by
  intro M h hno
  rw [if_neg hno] at k
  refine jK (Src.at (h.src (A := some ⟨q, 0, none⟩)) h (i := i.toNat) (j := 0) hrow rfl (by show _ = 0 + (i.toNat * 3 + 0); simp)) ?_
  refine yf h (b := lb) ?_
  clear h; intro t M S0 S1 h
  refine ⟨_, _, rfl, ?_⟩
  by_cases hh : zw q1 = true
  ·rw [if_pos hh] at k
   have : t = true := S1 (by unfold zw at hh; simpa using hh)
   subst this
   refine af ?_
   replace h := h.cQ bl lb hlb (by rw [List.length_map]; omega)
   exact k _ (h.sub bG)
  ·rw [if_neg hh] at k
   have hn : q1.next = -1 ∧ q1.l = [] := by
    unfold zw at hh
    rw [Bool.or_eq_true] at hh
    constructor
    ·exact Decidable.byContradiction fun e => hh (.inl (by simpa using e))
    ·cases hq1 : q1.l with
     | nil => rfl
     | cons _ _ => exact absurd (.inr (by rw [hq1]; rfl)) hh
   have hg : q1.get.2 = -1 := by unfold Loc.get; rw [if_neg (by simpa using hn.1), hn.2]
   have : t = false := S0 hg hn.1 hn.2
   subst this
   refine ai ?_
   refine jK (Src.at (h.src (A := some ⟨q, 0, none⟩)) h (i := i.toNat) (j := 0) hrow rfl (by show _ = 0 + (i.toNat * 3 + 0); simp)) ?_
   replace h : Hp R (ax bl lb q1.get.1 :: fe (cR b wb db a x) g1 :: jg bl a.lb (x.ps.map dM.q) i.toNat :: bK (some ⟨q, 0, none⟩) a.cp (bC a.lb x.ps) :: L3) M := h.sub bG
   refine Bl (P := cR b wb db a x) vW h O2 (by decide) ?_
   clear h; intro t2 M ht3 ht4 h
   refine ⟨_, _, rfl, ?_⟩
   have ht5 : t2 = !g1.isEmpty := by
    cases g1 with
    | nil => exact ht3 (by unfold Loc.g6; simp) rfl
    | cons _ _ => exact ht4 (by simp)
   subst ht5
   replace h := h.cQ bl lb hlb (by rw [List.length_map]; omega)
   exact k _ (h.sub bG)
 refine bB.2 ⟨fun e6 => ?_, fun e6 => ?_⟩
 ·replace h : Hp R (fe (cR b wb db a x) g1 :: ax bl lb q1 :: jg bl a.lb (x.ps.map dM.q) i.toNat :: bK (some ⟨q, 0, none⟩) a.cp (bC a.lb x.ps) :: L3) M := h.sub bG
  refine mJ (P := cR b wb db a x) (n := 1) vW h (by omega) ?_
  clear h; intro A2 c2 M h
  refine aY ?_
  have e1 : (1 : Int).toNat = 1 := rfl
  rw [e1] at h ⊢
  by_cases hg : 0 < g1.length
  ·rw [if_pos ⟨e6, hg⟩] at k
   have hlen : (g1.take 1).length = 1 := by rw [List.length_take]; omega
   rw [hlen]
   refine af ⟨by omega, by omega, ?_⟩
   obtain ⟨q9, rfl⟩ := h.bj (A := A2) (by omega) (by decide)
   refine aS ?_
   obtain ⟨v, hv⟩ := aL (l := g1) (i := 0) hg
   have Lr : (g1.take 1)[0]? = some v := by rw [List.getElem?_take, if_pos (by omega)]; exact hv
   refine aW (Src.at (h.src (A := some ⟨q9, 0, none⟩)) h (i := 0) (j := 0) Lr rfl rfl) ?_
   have hvd : g1.headD 0 = v := by
    cases g1 with
    | nil => simp at hg
    | cons w _ => simp at hv; simpa using hv
   rw [hvd] at k
   replace h : Hp R (ax bl lb q1 :: jg bl a.lb (x.ps.map dM.q) i.toNat :: fe (cR b wb db a x) (g1.drop 1) :: bK (some ⟨q, 0, none⟩) a.cp (bC a.lb x.ps) :: L3) M := h.sub bG
   replace h := h.cQ bl lb hlb (by rw [List.length_map]; omega)
   exact k _ (h.sub bG)
  ·have OV : g1 = [] := List.eq_nil_of_length_eq_zero (by omega)
   subst OV
   refine ai ?_
   exact rest (h.sub bG) (fun hc => by simp at hc)
 ·exact rest (h.sub bG) (fun hc => e6 hc.1)
end
inductive tS where
 | ev (e : Ev)
 | ee (l : List PanicEntry)
def Sc.cq (x : Sc) (m i kind g : Int) (ok : Bool) : Sc × Ev :=
 if ok then ((x.cD i { aJ x i with turns := (aJ x i).turns + 1 }).gE m ⟨(aD x m).p, g, x.c.S⟩, ⟨kind, m, g, []⟩)
 else ((x.cD i { aJ x i with xd := -1 }).gE m ⟨-1, -1, 0⟩, ⟨6, m, -1, []⟩)
def Sc.find (x : Sc) (m : Int) : Sc × tS :=
 let i := (aD x m).p
 if 0 < (aD x m).left ∧ (aJ x i).q.next ≠ -1 then
  ((x.cD i { aJ x i with q := (aJ x i).q.get.1 }).gE m { aD x m with g := (aJ x i).q.get.2 }, .ev ⟨4, m, (aJ x i).q.get.2, []⟩)
 else
  let y := (x.own i).1
  if (x.own i).2.2 = false ∧ 1 < x.c.P then match y.d.draw 2 x.c.P with
   | (d', .ee l) => ({ y with d := d' }, .ee l)
   | (d', .num v) =>
    let y := { y with d := d' }
    if v = i then ((y.cq m i 5 (-1) false).1, .ev (y.cq m i 5 (-1) false).2)
    else
     let s := (aJ y i).q.g7 (aJ y v).q
     let z := (y.cD i { aJ y i with q := s.1 }).cD v { aJ y v with q := s.2.1 }
     ((z.cq m i 5 s.2.2 (jX (aJ y v).q s.2.2)).1, .ev (z.cq m i 5 s.2.2 (jX (aJ y v).q s.2.2)).2)
  else ((y.cq m i 4 (x.own i).2.1 (x.own i).2.2).1, .ev (y.cq m i 4 (x.own i).2.1 (x.own i).2.2).2)
section
variable {R : Mem} {L L' L2 : List HP} {M : Mem} {K : Value → Mem → Prop} {Kp : List PanicEntry → Mem → Prop} {pa : PA} {p : cM} {b wb db : Nat} {x : Sc} {m i : Int}
theorem sB {lb : Nat} (k : K (.tuple #[.int .i64 (-1), .bool false]) M) : aa Tryz.prog 151 #[.pointer (some ⟨lb, 0, none⟩), .pointer (some ⟨lb, 0, none⟩)] M K Kp := by
 refine gO ?_
 exact ⟨fun _ => af k, fun hne => absurd rfl hne⟩
theorem mS {y : dM} : (x.cD i y).ps.length = x.ps.length := by simp [Sc.cD]
theorem FR {a : SA} {q q2 k1 : Nat} {kind g : Int} {t : Bool}
  (h : Hp R (fe (cR b wb db a x) x.gl :: ax (bk pa p) wb x.w :: ax (b5 .nilFunc) db x.d :: bK (some ⟨q, 0, none⟩) a.cp (bC a.lb x.ps) :: aP bl a.lb (x.ps.map dM.q) :: bT (some ⟨q2, 0, none⟩) a.cm x.ms :: pt k1 [.int .i64 0, .int .i64 0, .int .i64 0, .slice none 0 0] 43 :: L') M)
  (hap : a.ap = some ⟨q, 0, none⟩) (Ei : a.am = some ⟨q2, 0, none⟩) (hl : a.lb.length = x.ps.length) (m0 : 0 ≤ m) (m1 : m < x.ms.length) (i0 : 0 ≤ i) (i1 : i < x.ps.length) (ht : 0 ≤ (aJ x i).turns ∧ (aJ x i).turns < 1000000000)
  (k : ∀ M', Hp R (ax (gf pa p wb db) b (x.cq m i kind g t).1 :: L') M' → K (Gi (x.cq m i kind g t).2 none 0) M') :
  aK (!t)
   (ay (Mem.ld M ⟨b, (0 + 6), none⟩) fun Nl Ge Nn =>
   aF M ⟨q, ((i.toNat * 3) + 2), none⟩ (.int .i64 (-1)) fun No =>
   ((0 : Int) ≤ m) ∧
   ((m : Int) < ((Ge : Nat) : Int)) ∧
   az Nl fun Fh Fi =>
   aF No ⟨Fh, (Fi + ((Int.toNat m) * 3)), none⟩ (.int .i64 (-1)) fun Kt =>
   aF Kt ⟨Fh, ((Fi + ((Int.toNat m) * 3)) + 1), none⟩ (.int .i64 (-1)) fun Q3 =>
   aF Q3 ⟨Fh, ((Fi + ((Int.toNat m) * 3)) + 2), none⟩ (.int .i64 0) fun CM =>
   aF CM ⟨k1, 0, none⟩ (.int .i64 6) fun Q4 =>
   aF Q4 ⟨k1, (0 + 1), none⟩ (.int .i64 m) fun oP =>
   aF oP ⟨k1, (0 + 2), none⟩ (.int .i64 (-1)) fun gI =>
   aF gI ⟨k1, (0 + 3), none⟩ (.slice none 0 0) fun va =>
   aE (Mem.ld va ⟨k1, 0, none⟩) .i64 fun F8 =>
   aE (Mem.ld va ⟨k1, (0 + 1), none⟩) .i64 fun DY =>
   aE (Mem.ld va ⟨k1, (0 + 2), none⟩) .i64 fun F9 =>
   ay (Mem.ld va ⟨k1, (0 + 3), none⟩) fun LU Ku LV =>
   K (.agg #[(.int .i64 F8), (.int .i64 DY), (.int .i64 F9), (.slice LU Ku LV)]) va)
   (aE (Mem.ld M ⟨q, ((i.toNat * 3) + 1), none⟩) .i64 fun qe =>
   aF M ⟨q, ((i.toNat * 3) + 1), none⟩ (.int .i64 (IntKind.wrap .i64 (qe + 1))) fun kF =>
   ay (Mem.ld kF ⟨b, (0 + 6), none⟩) fun zb qB Fj =>
   ay (Mem.ld kF ⟨b, (0 + 6), none⟩) fun r9 nQ zc =>
   aE (Mem.ld kF ⟨b, ((0 + 1) + 3), none⟩) .i64 fun tL =>
   ((0 : Int) ≤ m) ∧
   ((m : Int) < ((qB : Nat) : Int)) ∧
   az zb fun zd CR =>
   aF kF ⟨zd, ((CR + ((Int.toNat m) * 3)) + 1), none⟩ (.int .i64 g) fun mB =>
   ((0 : Int) ≤ m) ∧
   ((m : Int) < ((nQ : Nat) : Int)) ∧
   az r9 fun AJ HR =>
   aF mB ⟨AJ, ((HR + ((Int.toNat m) * 3)) + 2), none⟩ (.int .i64 tL) fun HS =>
   aF HS ⟨k1, 0, none⟩ (.int .i64 kind) fun HT =>
   aF HT ⟨k1, (0 + 1), none⟩ (.int .i64 m) fun CO =>
   aF CO ⟨k1, (0 + 2), none⟩ (.int .i64 g) fun CP =>
   aF CP ⟨k1, (0 + 3), none⟩ (.slice none 0 0) fun kD =>
   aE (Mem.ld kD ⟨k1, 0, none⟩) .i64 fun CS =>
   aE (Mem.ld kD ⟨k1, (0 + 1), none⟩) .i64 fun u6 =>
   aE (Mem.ld kD ⟨k1, (0 + 2), none⟩) .i64 fun u7 =>
   ay (Mem.ld kD ⟨k1, (0 + 3), none⟩) fun HU HV y8 =>
   K (.agg #[(.int .i64 CS), (.int .i64 u6), (.int .i64 u7), (.slice HU HV y8)]) kD) := by
 obtain ⟨lb, hlb, zH, hrow⟩ := mQ (i := i) hl i0 i1
 have BA := mR m0 m1
 have m2 : m.toNat < x.ms.length := by omega
 obtain ⟨ap, cp, rz, am, cm⟩ := a
 dsimp only at hap Ei hl hlb hrow h
 subst hap; subst Ei
 obtain ⟨A, c, h2⟩ := kJ h
 clear h
 have h := h2
 clear h2
 unfold Sc.cq at k
 cases t with
 | false =>
  simp only [Bool.false_eq_true, if_false] at k
  refine af ?_
  refine av h ?_
  refine gp (E := mN) (a' := (lb, (aJ x i).turns, -1)) i.toNat 2 h hrow (by decide) rfl rfl ?_
  clear h; intro M h
  refine ⟨m0, m1, aS ?_⟩
  refine gp (E := jo) (a' := ⟨-1, (aD x m).g, (aD x m).left⟩) m.toNat 0 h BA (by decide) rfl (by show _ = m.toNat * 3 + 0; omega) ?_
  clear h; intro M h
  refine gp (E := jo) (a := ⟨-1, (aD x m).g, (aD x m).left⟩) (a' := ⟨-1, -1, (aD x m).left⟩) m.toNat 1 h (by simp [m2]) (by decide) rfl (by show _ = m.toNat * 3 + 1; omega) ?_
  clear h; intro M h
  refine gp (E := jo) (a := ⟨-1, -1, (aD x m).left⟩) (a' := ⟨-1, -1, 0⟩) m.toNat 2 h (by simp [m2]) (by decide) rfl (by show _ = m.toNat * 3 + 2; omega) ?_
  clear h; intro M h
  rw [fV, fV, vX (pr := { aJ x i with xd := -1 }) hlb] at h
  refine mO h ?_
  clear h; intro M h
  refine mP h ?_
  have e3 := sw (y := { aJ x i with xd := -1 }) zH rfl
  exact k _ (Hp.bH (sA (A := A) (c := c) (a := ⟨some ⟨q, 0, none⟩, cp, rz, some ⟨q2, 0, none⟩, cm⟩) (x := (x.cD i { aJ x i with xd := -1 }).gE m ⟨-1, -1, 0⟩) h b (by simp [Sc.cD, Sc.gE, cW]) (by rfl) (by simpa [Sc.cD, Sc.gE] using hl) (by rfl) (by exact e3) (by rfl)))
 | true =>
  simp only [if_true] at k
  refine ai ?_
  refine aW (Src.at (h.src (A := some ⟨q, 0, none⟩)) h (i := i.toNat) (j := 1) hrow rfl (by show _ = 0 + (i.toNat * 3 + 1); omega)) ?_
  rw [gB ht.1 (by omega)]
  refine gp (E := mN) (a' := (lb, (aJ x i).turns + 1, (aJ x i).xd)) i.toNat 1 h hrow (by decide) rfl rfl ?_
  clear h; intro M h
  refine av h (av h (ae h ⟨m0, m1, aS ?_⟩))
  refine gp (E := jo) (a' := ⟨(aD x m).p, g, (aD x m).left⟩) m.toNat 1 h BA (by decide) rfl (by show _ = m.toNat * 3 + 1; omega) ?_
  clear h; intro M h
  refine ⟨m0, m1, aS ?_⟩
  refine gp (E := jo) (a := ⟨(aD x m).p, g, (aD x m).left⟩) (a' := ⟨(aD x m).p, g, x.c.S⟩) m.toNat 2 h (by simp [m2]) (by decide) rfl (by show _ = m.toNat * 3 + 2; omega) ?_
  clear h; intro M h
  rw [fV, vX (pr := { aJ x i with turns := (aJ x i).turns + 1 }) hlb] at h
  refine mO h ?_
  clear h; intro M h
  refine mP h ?_
  have e3 := sw (y := { aJ x i with turns := (aJ x i).turns + 1 }) zH rfl
  exact k _ (Hp.bH (sA (A := A) (c := c) (a := ⟨some ⟨q, 0, none⟩, cp, rz, some ⟨q2, 0, none⟩, cm⟩) (x := (x.cD i { aJ x i with turns := (aJ x i).turns + 1 }).gE m ⟨(aD x m).p, g, x.c.S⟩) h b (by simp [Sc.cD, Sc.gE, cW]) (by rfl) (by simpa [Sc.cD, Sc.gE] using hl) (by rfl) (by exact e3) (by rfl)))
def we (x : Sc) (m : Int) : Prop := 0 ≤ m ∧ m < x.ms.length ∧ 0 ≤ (aD x m).p ∧ (aD x m).p < x.ps.length ∧ x.gl.length ≤ 1000000 ∧ 0 ≤ (aJ x (aD x m).p).turns ∧ (aJ x (aD x m).p).turns < 1000000000 ∧ x.d.taken.length < 100000000 ∧ x.c.P ≤ x.ps.length ∧ x.c.P < 1000000
instance (x : Sc) (m : Int) : Decidable (we x m) := by unfold we; infer_instance
theorem FT {j : Int} (h0 : 0 ≤ i) (hi : i < x.ps.length) (hj : 0 ≤ j) : (aJ (x.own i).1 j).turns = (aJ x j).turns := by
 unfold Sc.own Sc.cD aJ
 dsimp only
 by_cases e : i.toNat = j.toNat
 ·rw [e]
  rw [List.getD_eq_getElem?_getD, List.getElem?_set_self (by omega)]; rfl
 ·rw [List.getD_eq_getElem?_getD, List.getElem?_set_ne e, ← List.getD_eq_getElem?_getD]
end
section
variable {R : Mem} {L L' L2 : List HP} {M : Mem} {K : Value → Mem → Prop} {Kp : List PanicEntry → Mem → Prop} {pa : PA} {p : cM} {b wb db : Nat} {x : Sc} {m i : Int} {a : SA} {g : List Int}
theorem I7 (h : Hp R (fe (cR b wb db a x) g :: L) M) : M.ld ⟨b, 0 + 5, none⟩ = some (.slice a.ap x.ps.length a.cp) := by
 obtain ⟨A, c, h9⟩ := gJ (P := cR b wb db a x) h; exact cH h9
theorem wg (h : Hp R (fe (cR b wb db a x) g :: L) M) : M.ld ⟨b, 0 + 6, none⟩ = some (.slice a.am x.ms.length a.cm) := by
 obtain ⟨A, c, h9⟩ := gJ (P := cR b wb db a x) h; exact cH h9
theorem sc_P (h : Hp R (fe (cR b wb db a x) g :: L) M) : M.ld ⟨b, 0 + 1, none⟩ = some (.int .i64 x.c.P) := by
 obtain ⟨A, c, h9⟩ := gJ (P := cR b wb db a x) h; exact cH h9
theorem RR (h : Hp R (fe (cR b wb db a x) g :: L) M) : M.ld ⟨b, (0 + 1) + 1, none⟩ = some (.int .i64 x.c.M) := by
 obtain ⟨A, c, h9⟩ := gJ (P := cR b wb db a x) h; exact cH h9
theorem O6 (h : Hp R (fe (cR b wb db a x) g :: L) M) : M.ld ⟨b, 0 + 8, none⟩ = some (.pointer (some ⟨db, 0, none⟩)) := by
 obtain ⟨A, c, h9⟩ := gJ (P := cR b wb db a x) h; exact cH h9
theorem RT (h : Hp R (fe (cR b wb db a x) g :: L) M) : M.ld ⟨b, 0, none⟩ = some (.pointer (some ⟨wb, 0, none⟩)) := by
 obtain ⟨A, c, h9⟩ := gJ (P := cR b wb db a x) h; exact cH h9
theorem Lh : cR b wb db a (x.own i).1 = cR b wb db a x := by
 unfold Sc.own cR cW Sc.cD; simp
def S2 (R : Mem) (pa : PA) (p : cM) (b wb db : Nat) (a : SA) (L' : List HP) (K : Value → Mem → Prop) (m i : Int) (q q2 k1 : Nat) (z : Sc) (kind g : Int) (t : Bool) (M : Mem) : Prop :=
 Hp R (fe (cR b wb db a z) z.gl :: ax (bk pa p) wb z.w :: ax (b5 .nilFunc) db z.d :: bK (some ⟨q, 0, none⟩) a.cp (bC a.lb z.ps) :: aP bl a.lb (z.ps.map dM.q) :: bT (some ⟨q2, 0, none⟩) a.cm z.ms :: pt k1 [.int .i64 0, .int .i64 0, .int .i64 0, .slice none 0 0] 43 :: L') M ∧
 a.lb.length = z.ps.length ∧ m < z.ms.length ∧ i < z.ps.length ∧ (0 ≤ (aJ z i).turns ∧ (aJ z i).turns < 1000000000) ∧
 (∀ M', Hp R (ax (gf pa p wb db) b (z.cq m i kind g t).1 :: L') M' → K (Gi (z.cq m i kind g t).2 none 0) M')
theorem BB {y : dM} {j : Int} (hi : 0 ≤ i) (h1 : i < x.ps.length) (hj : 0 ≤ j) : aJ (x.cD i y) j = if i = j then y else aJ x j := by
 unfold aJ Sc.cD
 dsimp only
 by_cases e : i = j
 ·subst e
  rw [if_pos rfl, List.getD_eq_getElem?_getD, List.getElem?_set_self (by omega)]; rfl
 ·rw [if_neg e, List.getD_eq_getElem?_getD, List.getElem?_set_ne (by omega), ← List.getD_eq_getElem?_getD]
theorem ym {q q2 k1 : Nat}
  (h : Hp R (fe (cR b wb db a x) x.gl :: ax (bk pa p) wb x.w :: ax (b5 .nilFunc) db x.d :: bK (some ⟨q, 0, none⟩) a.cp (bC a.lb x.ps) :: aP bl a.lb (x.ps.map dM.q) :: bT (some ⟨q2, 0, none⟩) a.cm x.ms :: pt k1 [.int .i64 0, .int .i64 0, .int .i64 0, .slice none 0 0] 43 :: L') M)
  (hap : a.ap = some ⟨q, 0, none⟩) (Ei : a.am = some ⟨q2, 0, none⟩) (hl : a.lb.length = x.ps.length) (hk : we x m) (hi : i = (aD x m).p) (hd : x.d.Ok)
  (k : let y := (x.own i).1
   if (x.own i).2.2 = false ∧ 1 < x.c.P then match y.d.draw 2 x.c.P with
    | (d', .ee l) => ∀ M', Hp R (ax (gf pa p wb db) b { y with d := d' } :: L') M' → Kp l M'
    | (d', .num v) =>
     let y := { y with d := d' }
     let s := (aJ y i).q.g7 (aJ y v).q
     let z := if v = i then y else (y.cD i { aJ y i with q := s.1 }).cD v { aJ y v with q := s.2.1 }
     let r := if v = i then (-1, false) else (s.2.2, jX (aJ y v).q s.2.2)
     ∀ M', Hp R (ax (gf pa p wb db) b (z.cq m i 5 r.1 r.2).1 :: L') M' → K (Gi (z.cq m i 5 r.1 r.2).2 none 0) M'
   else ∀ M', Hp R (ax (gf pa p wb db) b (y.cq m i 4 (x.own i).2.1 (x.own i).2.2).1 :: L') M' → K (Gi (y.cq m i 4 (x.own i).2.1 (x.own i).2.2).2 none 0) M') :
  aa Tryz.prog 150 #[(.pointer (some ⟨b, 0, none⟩)), (.pointer (some ⟨q, (i.toNat * 3), none⟩))] M (fun Fg r8 =>
 ∃ wH : Int, ∃ t57 : Bool, (Fg = (.tuple #[(.int .i64 wH), (.bool t57)])) ∧
 aK (!t57)
  (aE (Mem.ld r8 ⟨b, (0 + 1), none⟩) .i64 fun zC =>
  ∃ NB : List Value → Mem → Prop, (aK (decide ((zC : Int) > 1))
   (cz (Mem.ld r8 ⟨b, (0 + 8), none⟩) fun UG =>
    aE (Mem.ld r8 ⟨b, (0 + 1), none⟩) .i64 fun yR =>
    aa Tryz.prog 107 #[(.pointer UG), (.int .i64 2), (.int .i64 yR)] r8 (fun Kd tB =>
    aE (some Kd) .i64 fun n64 =>
    cz (Mem.ld tB ⟨q, (i.toNat * 3), none⟩) fun LR =>
    ay (Mem.ld tB ⟨b, (0 + 5), none⟩) fun HQ wG Gh =>
    ((0 : Int) ≤ n64) ∧
    ((n64 : Int) < ((wG : Nat) : Int)) ∧
    az HQ fun LS Gd =>
    cz (Mem.ld tB ⟨LS, (Gd + ((Int.toNat n64) * 3)), none⟩) fun QW =>
    aa Tryz.prog 151 #[(.pointer LR), (.pointer QW)] tB (fun UH CN =>
    ∃ Jy : Int, ∃ t75 : Bool, (UH = (.tuple #[(.int .i64 Jy), (.bool t75)])) ∧
    NB [(.int .i64 5), (.int .i64 Jy), (.bool t75)] CN) Kp) Kp)
   (NB [(.int .i64 4), (.int .i64 wH), (.bool t57)] r8)) ∧
  ∀ NC : Nat → Value, ∀ uO : Int, ∀ w6 : Int, ∀ t79 : Bool, ∀ wZ : Mem, (NB [(.int .i64 uO), (.int .i64 w6), (.bool t79)] wZ) → aK (!t79)
   (ay (Mem.ld wZ ⟨b, (0 + 6), none⟩) fun Nl Ge Nn =>
   aF wZ ⟨q, ((i.toNat * 3) + 2), none⟩ (.int .i64 (-1)) fun No =>
   ((0 : Int) ≤ m) ∧
   ((m : Int) < ((Ge : Nat) : Int)) ∧
   az Nl fun Fh Fi =>
   aF No ⟨Fh, (Fi + ((Int.toNat m) * 3)), none⟩ (.int .i64 (-1)) fun Kt =>
   aF Kt ⟨Fh, ((Fi + ((Int.toNat m) * 3)) + 1), none⟩ (.int .i64 (-1)) fun Q3 =>
   aF Q3 ⟨Fh, ((Fi + ((Int.toNat m) * 3)) + 2), none⟩ (.int .i64 0) fun CM =>
   aF CM ⟨k1, 0, none⟩ (.int .i64 6) fun Q4 =>
   aF Q4 ⟨k1, (0 + 1), none⟩ (.int .i64 m) fun oP =>
   aF oP ⟨k1, (0 + 2), none⟩ (.int .i64 (-1)) fun gI =>
   aF gI ⟨k1, (0 + 3), none⟩ (.slice none 0 0) fun va =>
   aE (Mem.ld va ⟨k1, 0, none⟩) .i64 fun F8 =>
   aE (Mem.ld va ⟨k1, (0 + 1), none⟩) .i64 fun DY =>
   aE (Mem.ld va ⟨k1, (0 + 2), none⟩) .i64 fun F9 =>
   ay (Mem.ld va ⟨k1, (0 + 3), none⟩) fun LU Ku LV =>
   K (.agg #[(.int .i64 F8), (.int .i64 DY), (.int .i64 F9), (.slice LU Ku LV)]) va)
   (aE (Mem.ld wZ ⟨q, ((i.toNat * 3) + 1), none⟩) .i64 fun qe =>
   aF wZ ⟨q, ((i.toNat * 3) + 1), none⟩ (.int .i64 (IntKind.wrap .i64 (qe + 1))) fun kF =>
   ay (Mem.ld kF ⟨b, (0 + 6), none⟩) fun zb qB Fj =>
   ay (Mem.ld kF ⟨b, (0 + 6), none⟩) fun r9 nQ zc =>
   aE (Mem.ld kF ⟨b, ((0 + 1) + 3), none⟩) .i64 fun tL =>
   ((0 : Int) ≤ m) ∧
   ((m : Int) < ((qB : Nat) : Int)) ∧
   az zb fun zd CR =>
   aF kF ⟨zd, ((CR + ((Int.toNat m) * 3)) + 1), none⟩ (.int .i64 w6) fun mB =>
   ((0 : Int) ≤ m) ∧
   ((m : Int) < ((nQ : Nat) : Int)) ∧
   az r9 fun AJ HR =>
   aF mB ⟨AJ, ((HR + ((Int.toNat m) * 3)) + 2), none⟩ (.int .i64 tL) fun HS =>
   aF HS ⟨k1, 0, none⟩ (.int .i64 uO) fun HT =>
   aF HT ⟨k1, (0 + 1), none⟩ (.int .i64 m) fun CO =>
   aF CO ⟨k1, (0 + 2), none⟩ (.int .i64 w6) fun CP =>
   aF CP ⟨k1, (0 + 3), none⟩ (.slice none 0 0) fun kD =>
   aE (Mem.ld kD ⟨k1, 0, none⟩) .i64 fun CS =>
   aE (Mem.ld kD ⟨k1, (0 + 1), none⟩) .i64 fun u6 =>
   aE (Mem.ld kD ⟨k1, (0 + 2), none⟩) .i64 fun u7 =>
   ay (Mem.ld kD ⟨k1, (0 + 3), none⟩) fun HU HV y8 =>
   K (.agg #[(.int .i64 CS), (.int .i64 u6), (.int .i64 u7), (.slice HU HV y8)]) kD))
  (∃ HW : List Value → Mem → Prop, (HW [(.int .i64 4), (.int .i64 wH), (.bool t57)] r8) ∧
  ∀ Kv : Nat → Value, ∀ vb : Int, ∀ tM : Int, ∀ t129 : Bool, ∀ ve : Mem, (HW [(.int .i64 vb), (.int .i64 tM), (.bool t129)] ve) → aK (!t129)
   (ay (Mem.ld ve ⟨b, (0 + 6), none⟩) fun AH u9 Fe =>
   aF ve ⟨q, ((i.toNat * 3) + 2), none⟩ (.int .i64 (-1)) fun HL =>
   ((0 : Int) ≤ m) ∧
   ((m : Int) < ((u9 : Nat) : Int)) ∧
   az AH fun ze zf =>
   aF HL ⟨ze, (zf + ((Int.toNat m) * 3)), none⟩ (.int .i64 (-1)) fun Ff =>
   aF Ff ⟨ze, ((zf + ((Int.toNat m) * 3)) + 1), none⟩ (.int .i64 (-1)) fun CT =>
   aF CT ⟨ze, ((zf + ((Int.toNat m) * 3)) + 2), none⟩ (.int .i64 0) fun y9 =>
   aF y9 ⟨k1, 0, none⟩ (.int .i64 6) fun ND =>
   aF ND ⟨k1, (0 + 1), none⟩ (.int .i64 m) fun NF =>
   aF NF ⟨k1, (0 + 2), none⟩ (.int .i64 (-1)) fun NG =>
   aF NG ⟨k1, (0 + 3), none⟩ (.slice none 0 0) fun vf =>
   aE (Mem.ld vf ⟨k1, 0, none⟩) .i64 fun NH =>
   aE (Mem.ld vf ⟨k1, (0 + 1), none⟩) .i64 fun NI =>
   aE (Mem.ld vf ⟨k1, (0 + 2), none⟩) .i64 fun NJ =>
   ay (Mem.ld vf ⟨k1, (0 + 3), none⟩) fun NK HX NL =>
   K (.agg #[(.int .i64 NH), (.int .i64 NI), (.int .i64 NJ), (.slice NK HX NL)]) vf)
   (aE (Mem.ld ve ⟨q, ((i.toNat * 3) + 1), none⟩) .i64 fun za =>
   aF ve ⟨q, ((i.toNat * 3) + 1), none⟩ (.int .i64 (IntKind.wrap .i64 (za + 1))) fun zg =>
   ay (Mem.ld zg ⟨b, (0 + 6), none⟩) fun NM NN HO =>
   ay (Mem.ld zg ⟨b, (0 + 6), none⟩) fun NO NP NQ =>
   aE (Mem.ld zg ⟨b, ((0 + 1) + 3), none⟩) .i64 fun NR =>
   ((0 : Int) ≤ m) ∧
   ((m : Int) < ((NN : Nat) : Int)) ∧
   az NM fun HY HZ =>
   aF zg ⟨HY, ((HZ + ((Int.toNat m) * 3)) + 1), none⟩ (.int .i64 tM) fun NS =>
   ((0 : Int) ≤ m) ∧
   ((m : Int) < ((NP : Nat) : Int)) ∧
   az NO fun H6 H7 =>
   aF NS ⟨H6, ((H7 + ((Int.toNat m) * 3)) + 2), none⟩ (.int .i64 NR) fun NT =>
   aF NT ⟨k1, 0, none⟩ (.int .i64 vb) fun NU =>
   aF NU ⟨k1, (0 + 1), none⟩ (.int .i64 m) fun NV =>
   aF NV ⟨k1, (0 + 2), none⟩ (.int .i64 tM) fun H8 =>
   aF H8 ⟨k1, (0 + 3), none⟩ (.slice none 0 0) fun vg =>
   aE (Mem.ld vg ⟨k1, 0, none⟩) .i64 fun H9 =>
   aE (Mem.ld vg ⟨k1, (0 + 1), none⟩) .i64 fun NW =>
   aE (Mem.ld vg ⟨k1, (0 + 2), none⟩) .i64 fun Fk =>
   ay (Mem.ld vg ⟨k1, (0 + 3), none⟩) fun NX NY NZ =>
   K (.agg #[(.int .i64 H9), (.int .i64 NW), (.int .i64 Fk), (.slice NX NY NZ)]) vg))) Kp := by
 obtain ⟨m0, m1, i0, i1, RU, ht0, S0, PN, hP, hP2⟩ := hk
 rw [← hi] at i0 i1 ht0 S0
 have go : ∀ (z : Sc) (kind g : Int) (t : Bool) (M : Mem), S2 R pa p b wb db a L' K m i q q2 k1 z kind g t M → _ := fun z kind g t M ⟨h, a1, a2, a3, a4, a5⟩ => FR h hap Ei a1 m0 a2 i0 a3 a4 a5
 refine FQ (i := i) (q := q) (a := a) (x := x) (b := b) (wb := wb) (db := db) h hap hl i0 i1 RU ht0 ?_
 clear h; intro M h
 refine ⟨_, _, rfl, ?_⟩
 dsimp only at k
 have ey : cR b wb db a (x.own i).1 = cR b wb db a x := Lh
 have ep : bC a.lb (x.own i).1.ps = bC a.lb x.ps := by
  obtain ⟨lb, hlb, zH, hrow⟩ := mQ (i := i) hl i0 i1
  exact wc zH rfl rfl
 have el : (x.own i).1.ps.length = x.ps.length := by simp [Sc.own, Sc.cD]
 have et : ∀ j, 0 ≤ j → (aJ (x.own i).1 j).turns = (aJ x j).turns := fun j hj => FT i0 i1 hj
 have em : (x.own i).1.ms = x.ms := rfl
 have ew : (x.own i).1.w = x.w := rfl
 have ed : (x.own i).1.d = x.d := rfl
 rw [← ey, ← ep] at h
 have hR : Hp R (fe (cR b wb db a (x.own i).1) (x.own i).1.gl :: ax (bk pa p) wb (x.own i).1.w :: ax (b5 .nilFunc) db (x.own i).1.d :: bK (some ⟨q, 0, none⟩) a.cp (bC a.lb (x.own i).1.ps) :: aP bl a.lb ((x.own i).1.ps.map dM.q) :: bT (some ⟨q2, 0, none⟩) a.cm (x.own i).1.ms :: pt k1 [.int .i64 0, .int .i64 0, .int .i64 0, .slice none 0 0] 43 :: L') M := h.sub bG
 clear h
 have h := hR
 clear hR
 have ec : (x.own i).1.c = x.c := rfl
 generalize hy : x.own i = r at h k ey ep el et em ew ed ec
 obtain ⟨y, v1, t1⟩ := r
 dsimp only at h k ey ep el et em ew ed ec ⊢
 have SU := et i i0
 have Mn : ∀ M, Hp R (fe (cR b wb db a y) y.gl :: ax (bk pa p) wb y.w :: ax (b5 .nilFunc) db y.d :: bK (some ⟨q, 0, none⟩) a.cp (bC a.lb y.ps) :: aP bl a.lb (y.ps.map dM.q) :: bT (some ⟨q2, 0, none⟩) a.cm y.ms :: pt k1 [.int .i64 0, .int .i64 0, .int .i64 0, .slice none 0 0] 43 :: L') M → ¬ (t1 = false ∧ 1 < x.c.P) → S2 R pa p b wb db a L' K m i q q2 k1 y 4 v1 t1 M := by
  intro M h hno
  rw [if_neg hno] at k
  exact ⟨h, by omega, by rw [em]; exact m1, by omega, by omega, k⟩
 cases t1 with
 | true =>
  refine ai ?_
  refine ⟨fun vs M => ∃ (z : Sc) (kind g : Int) (t : Bool), vs = [.int .i64 kind, .int .i64 g, .bool t] ∧ S2 R pa p b wb db a L' K m i q q2 k1 z kind g t M, ⟨y, 4, v1, true, rfl, Mn M h (fun hc => by cases hc.1)⟩, ?_⟩
  clear h
  rintro _ n1 n2 t3 M ⟨z, kind, g, t, he, hz⟩
  simp only [List.cons.injEq, Value.int.injEq, Value.bool.injEq, and_true, true_and] at he
  obtain ⟨rfl, rfl, rfl⟩ := he
  exact go z n1 n2 t3 M hz
 | false =>
  refine af ?_
  rw [sc_P h]
  refine bU ?_
  refine ⟨fun vs M => ∃ (z : Sc) (kind g : Int) (t : Bool), vs = [.int .i64 kind, .int .i64 g, .bool t] ∧ S2 R pa p b wb db a L' K m i q q2 k1 z kind g t M, ?_, ?_⟩
  ·rw [ec]
   refine aH.2 ⟨fun hgt => ?_, fun hle => ?_⟩
   ·rw [if_pos ⟨rfl, hgt⟩] at k
    rw [O6 h]
    refine gK ?_
    refine bU ?_
    rw [ed] at k h
    replace h : Hp R (ax (b5 .nilFunc) db x.d :: fe (cR b wb db a y) y.gl :: ax (bk pa p) wb y.w :: bK (some ⟨q, 0, none⟩) a.cp (bC a.lb y.ps) :: aP bl a.lb (y.ps.map dM.q) :: bT (some ⟨q2, 0, none⟩) a.cm y.ms :: pt k1 [.int .i64 0, .int .i64 0, .int .i64 0, .slice none 0 0] 43 :: L') M := h.sub bG
    refine mM h hd (by omega) PN ?_
    clear h
    have Dt := fun k' v => vV (k := x.d.k) (kind := 2) hd.1 (vU x.c.P) (k' := k') (v := v)
    have B4 : ∀ v, (x.d.draw 2 x.c.P).2 = .num v → 0 ≤ v ∧ v < x.c.P := by
     intro v hv
     unfold vR.draw at hv
     split at hv
     ·rename_i k' v' hn
      cases hv
      have := Dt k' _ hn
      have e : qY x.c.P = x.c.P := by unfold qY; rw [if_neg (by omega)]
      rw [e] at this
      exact this
     ·cases hv
    generalize Mi : x.d.draw 2 x.c.P = dd at k B4
    obtain ⟨d', o⟩ := dd
    cases o with
    | ee l =>
     dsimp only at k B4 ⊢
     intro M h
     have hsc : cR b wb db a y = cR b wb db a { y with d := d' } := rfl
     rw [hsc] at h
     have h9 : Hp R (fe (cR b wb db a { y with d := d' }) y.gl :: ax (bk pa p) wb y.w :: ax (b5 .nilFunc) db d' :: bK a.ap a.cp (bC a.lb y.ps) :: aP bl a.lb (y.ps.map dM.q) :: bT a.am a.cm y.ms :: pt k1 [.int .i64 0, .int .i64 0, .int .i64 0, .slice none 0 0] 43 :: L') M := by
      rw [show bK a.ap a.cp (bC a.lb y.ps) = bK (some ⟨q, 0, none⟩) a.cp (bC a.lb y.ps) from by rw [hap], show bT a.am a.cm y.ms = bT (some ⟨q2, 0, none⟩) a.cm y.ms from by rw [Ei]]
      exact h.sub bG
     exact k M (Hp.bH (gF (a := a) (x := { y with d := d' }) (by rw [el]; exact hl) h9))
    | num v =>
     dsimp only at k B4 ⊢
     obtain ⟨v0, v1'⟩ := B4 v rfl
     intro M h
     refine bU ?_
     have hsc : cR b wb db a y = cR b wb db a { y with d := d' } := rfl
     rw [hsc] at h
     generalize hyz : ({ y with d := d' } : Sc) = y2 at h k
     have p1 : y2.ps = y.ps := by rw [← hyz]
     have p2 : y2.ms = y.ms := by rw [← hyz]
     have p3 : y2.gl = y.gl := by rw [← hyz]
     have p4 : y2.w = y.w := by rw [← hyz]
     have p5 : y2.d = d' := by rw [← hyz]
     rw [← p1, ← p2, ← p3, ← p4, ← p5] at h
     replace h : Hp R (fe (cR b wb db a y2) y2.gl :: ax (bk pa p) wb y2.w :: ax (b5 .nilFunc) db y2.d :: bK (some ⟨q, 0, none⟩) a.cp (bC a.lb y2.ps) :: aP bl a.lb (y2.ps.map dM.q) :: bT (some ⟨q2, 0, none⟩) a.cm y2.ms :: pt k1 [.int .i64 0, .int .i64 0, .int .i64 0, .slice none 0 0] 43 :: L') M := h.sub bG
     have jt : a.lb.length = y2.ps.length := by rw [p1, el]; exact hl
     have Is : i < y2.ps.length := by rw [p1, el]; exact i1
     have Lr : v < y2.ps.length := by rw [p1, el]; omega
     have RP : m < y2.ms.length := by rw [p2, em]; exact m1
     have S1 : ∀ j, aJ y2 j = aJ y j := fun j => by unfold aJ; rw [p1]
     obtain ⟨lbi, RV, RW, RX⟩ := mQ (i := i) jt i0 Is
     obtain ⟨lbv, O7, RY, RZ⟩ := mQ (i := v) jt v0 Lr
     refine jK (Src.at (Src.row (A := some ⟨q, 0, none⟩) : Src R _ _ (mN.cells (bC a.lb y2.ps))) h (i := i.toNat) (j := 0) RX rfl (by show _ = 0 + (i.toNat * 3 + 0); simp)) ?_
     rw [I7 h]
     refine aY ⟨v0, Lr, ?_⟩
     rw [hap]
     refine aS ?_
     rw [Nat.zero_add]
     refine jK (Src.at (Src.row (A := some ⟨q, 0, none⟩) : Src R _ _ (mN.cells (bC a.lb y2.ps))) h (i := v.toNat) (j := 0) RZ rfl (by show _ = 0 + (v.toNat * 3 + 0); simp)) ?_
     by_cases hvi : v = i
     ·subst hvi
      rw [RV] at O7
      cases O7
      refine sB ?_
      refine ⟨_, _, rfl, ?_⟩
      simp only [if_true] at k
      exact ⟨y2, 5, -1, false, rfl, h, jt, RP, Is, by rw [S1]; omega, k⟩
     ·simp only [if_neg hvi] at k
      have S3 : (y2.ps.map dM.q)[i.toNat]? = some (aJ y2 i).q := by rw [List.getElem?_map, RW]; rfl
      have hqv : (y2.ps.map dM.q)[v.toNat]? = some (aJ y2 v).q := by rw [List.getElem?_map, RY]; rfl
      obtain ⟨X, hX, yn⟩ := h.Ir bl (i := i.toNat) (j := v.toNat) (by omega) RV S3 O7 hqv
      clear h
      refine Bm hX ?_
      clear hX; intro t M g1 g2 h
      refine ⟨_, _, rfl, ?_⟩
      have hte : t = jX (aJ y2 v).q ((aJ y2 i).q.g7 (aJ y2 v).q).2.2 := by
       unfold jX
       by_cases hc : ((aJ y2 i).q.g7 (aJ y2 v).q).2.2 ≠ -1 ∨ (aJ y2 v).q.l ≠ []
       ·rw [g2 hc]
        rcases hc with hc | hc
        ·simp [hc]
        ·cases hq : (aJ y2 v).q.l with
         | nil => exact absurd hq hc
         | cons _ _ => simp
       ·have hc1 : ((aJ y2 i).q.g7 (aJ y2 v).q).2.2 = -1 := Decidable.byContradiction fun e => hc (.inl e)
        have LK : (aJ y2 v).q.l = [] := by
         cases hq : (aJ y2 v).q.l with
         | nil => rfl
         | cons _ _ => exact absurd (.inr (by rw [hq]; simp)) hc
        rw [g1 hc1 LK, hc1, LK]; rfl
      subst hte
      replace h := yn (L2 := _) h
      generalize hs : (aJ y2 i).q.g7 (aJ y2 v).q = s at h k ⊢
      obtain ⟨s1, s2, s3⟩ := s
      dsimp only at h k ⊢
      have e1 : bC a.lb ((y2.cD i { aJ y2 i with q := s1 }).cD v { aJ y2 v with q := s2 }).ps = bC a.lb y2.ps := by
       show bC a.lb ((y2.ps.set i.toNat _).set v.toNat _) = _
       rw [wc (ps := y2.ps.set i.toNat { aJ y2 i with q := s1 }) (j := v.toNat) (pr := aJ y2 v) (y := { aJ y2 v with q := s2 }) (by rw [List.getElem?_set_ne (by omega)]; exact RY) rfl rfl]
       exact wc RW rfl rfl
      have e2 : ((y2.cD i { aJ y2 i with q := s1 }).cD v { aJ y2 v with q := s2 }).ps.map dM.q = ((y2.ps.map dM.q).set i.toNat s1).set v.toNat s2 := by
       simp [Sc.cD, List.map_set]
      have e3 : cR b wb db a ((y2.cD i { aJ y2 i with q := s1 }).cD v { aJ y2 v with q := s2 }) = cR b wb db a y2 := by rw [vY, vY]
      rw [← e1, ← e2, ← e3] at h
      have e4 : (aJ ((y2.cD i { aJ y2 i with q := s1 }).cD v { aJ y2 v with q := s2 }) i).turns = (aJ y2 i).turns := by
       rw [BB v0 (by rw [mS]; exact Lr) i0, if_neg hvi, BB i0 Is i0, if_pos rfl]
      refine ⟨(y2.cD i { aJ y2 i with q := s1 }).cD v { aJ y2 v with q := s2 }, 5, s3, _, rfl, h.sub bG, ?_, RP, ?_, ?_, k⟩
      ·rw [mS, mS]; exact jt
      ·rw [mS, mS]; exact Is
      ·rw [e4, S1]; omega
   ·exact ⟨y, 4, v1, false, rfl, Mn M h (fun hc => hle hc.2)⟩
  ·clear h
   rintro _ n1 n2 t3 M ⟨z, kind, g, t, he, hz⟩
   simp only [List.cons.injEq, Value.int.injEq, Value.bool.injEq, and_true, true_and] at he
   obtain ⟨rfl, rfl, rfl⟩ := he
   exact go z n1 n2 t3 M hz
end
def xe (l : List PanicEntry) : List PanicEntry := l ++ l.map fun e => { e with recovered := true }
theorem yo : yg vS (xe vS) := fun b v M K Kp h => Fw h
theorem BC {a k n q v : Int} : yg (Ml a k n q v) (xe (Ml a k n q v)) := fun b w M K Kp h => zh h
theorem I9 {k k' : gX} {kind m : Int} {l : List PanicEntry} (h : k.next kind m = (k', .ee l)) : k' = k ∧ yg l (xe l) := by
 cases k with
 | Eh l i =>
  unfold gX.next at h
  dsimp only at h
  split at h
  ·cases h; exact ⟨rfl, yo⟩
  ·cases h
 | tape l i =>
  unfold gX.next at h
  dsimp only at h
  split at h
  ·cases h; exact ⟨rfl, yo⟩
  ·split at h
   ·cases h; exact ⟨rfl, BC⟩
   ·split at h
    ·cases h; exact ⟨rfl, BC⟩
    ·cases h
theorem Ja {x x' : vR} {kind n : Int} {l : List PanicEntry} (h : x.draw kind n = (x', .ee l)) : x' = x ∧ yg l (xe l) := by
 unfold vR.draw at h
 split at h
 ·cases h
 ·rename_i k' l' hn
  cases h
  obtain ⟨e, h2⟩ := I9 hn
  subst e
  exact ⟨rfl, h2⟩
theorem Li {x : vR} {kind n : Int} (h : x.k.Ok) : (x.draw kind n).1.k.Ok := by
 unfold vR.draw
 have := Lf (kind := kind) (m := qY n) h
 split
 ·rename_i k' v hn; rw [hn] at this; exact this
 ·rename_i k' v hn; rw [hn] at this; exact this
theorem Jb {x x' : vR} {kind n v : Int} (hok : x.k.Ok) (h : x.draw kind n = (x', .num v)) : 0 ≤ v ∧ v < qY n ∧ x'.taken = x.taken ++ [(kind, v)] := by
 unfold vR.draw at h
 split at h
 ·rename_i k' v' hn
  cases h
  have := vV hok (vU n) hn
  exact ⟨this.1, this.2, rfl⟩
 ·cases h
def aR (m : Int) (x : Sc) (r : Int) : Sc :=
 let i := (aD x m).p
 { x.cD i { aJ x i with q := ((aJ x i).q.ready r x.gl).1 } with gl := ((aJ x i).q.ready r x.gl).2.1 }
def Sc.wh (x : Sc) (m g : Int) (keep : Bool) (ready : List Int) : Sc × Ev :=
 if keep = true ∧ (aD x m).left - 1 ≠ 0 then (x.gE m { aD x m with left := (aD x m).left - 1 }, ⟨7, m, g, ready⟩)
 else ({ x.gE m { aD x m with left := (aD x m).left - 1, g := -1 } with gl := if (au x.w g).st = 1 then x.gl ++ [g] else x.gl }, ⟨7, m, g, ready⟩)
def zx (p : cM) (x : Sc) (m : Int) : Prop := 0 ≤ m ∧ m < x.ms.length ∧ 0 ≤ (aD x m).p ∧ (aD x m).p < x.ps.length ∧ x.gl.length ≤ 1000000 ∧ x.d.taken.length < 100000000 ∧ 1 ≤ (aD x m).left ∧ (aD x m).left < 1000000000 ∧ 0 ≤ (aD x m).g
instance (p : cM) (x : Sc) (m : Int) : Decidable (zx p x m) := by unfold zx; infer_instance
def R5 : Option (Int × Int) → Bool
 | none => true
 | some (_, n) => decide (n < 9223372036854775808)
def tp (x : Sc) (m g : Int) (d : vR) (y : Wd) (rest : Bool) : Option (Sc × tS) :=
 if y.ready.length ≤ 10000 ∧ g < y.gs.length then
  some (((y.ready.foldl (aR m) { x with w := y, d := d }).wh m g (gC y g rest) y.ready).1, .ev ((y.ready.foldl (aR m) { x with w := y, d := d }).wh m g (gC y g rest) y.ready).2)
 else none
def hU (d : vR) : Option (Int × Int) → vR × iK
 | none => (d, .num 0)
 | some (k, n) => d.draw k n
def Sc.run (p : cM) (x : Sc) (m : Int) : Option (Sc × tS) :=
 if zx p x m then
  if R5 (asks p { x.w with ready := [] } (aD x m).g) then
   match yl p x.w (aD x m).g (hU x.d (asks p { x.w with ready := [] } (aD x m).g)).2 with
   | none => none
   | some (.ee l y, _) => some ({ x with w := y, d := (hU x.d (asks p { x.w with ready := [] } (aD x m).g)).1 }, .ee (xe l))
   | some (.on y, rest) => tp x m (aD x m).g (hU x.d (asks p { x.w with ready := [] } (aD x m).g)).1 y rest
   | some (.eF n y, rest) => tp x m (aD x m).g (hU x.d (asks p { x.w with ready := [] } (aD x m).g)).1 { y with end_ := 2, code := n } rest
  else none
 else none
def FU : Sc × tS → Sc × tS
 | (x, .ev e) => ({ x with steps := x.steps + 1 }, .ev e)
 | (x, .ee l) => (x, .ee l)
def zy (x : Sc) : Prop := x.w.gs.length ≤ 1000000 ∧ x.c.M = x.ms.length ∧ x.ps.length ≤ 1000000 ∧ x.ms.length ≤ 1000000 ∧ x.d.taken.length < 10000000 ∧ 0 ≤ x.steps ∧ x.steps < 1000000000
instance (x : Sc) : Decidable (zy x) := by unfold zy; infer_instance
def Sc.act (p : cM) (x : Sc) (m : Int) : Option (Sc × tS) :=
 if m = x.c.M then (if zu x then some (x.tick.1, .ev x.tick.2) else none)
 else if (aD x m).p = -1 then some ((x.hold m).1, .ev (x.hold m).2)
 else if (aD x m).g = -1 then (if we x m then some (x.find m) else none)
 else x.run p m
def Sc.step (p : cM) (x : Sc) : Option (Sc × tS) :=
 if zy x then
  if x.status ≠ 0 then some (x, .ev ⟨0, 0, 0, []⟩)
  else match x.d.draw 1 (x.c.M + 1) with
   | (d', .ee l) => some ({ x with d := d' }, .ee l)
   | (d', .num m) => (Sc.act p { x with d := d' } m).map FU
 else none
section
variable {R : Mem} {L L' L2 : List HP} {M : Mem} {K : Value → Mem → Prop} {Kp : List PanicEntry → Mem → Prop} {pa : PA} {p : cM} {b wb db : Nat} {x : Sc} {m i : Int}
theorem Dw (h : Hp R L M) [o : od b L pa p wb db x L'] (hk : we x m) (hd : x.d.k.Ok)
  (k : match (x.find m).2 with
   | .ev e => ∀ M', Hp R (ax (gf pa p wb db) b (x.find m).1 :: L') M' → K (Gi e none 0) M'
   | .ee l => ∀ M', Hp R (ax (gf pa p wb db) b (x.find m).1 :: L') M' → Kp l M') : aa Tryz.prog 110 #[.pointer (some ⟨b, 0, none⟩), .int .i64 m] M K Kp := by
 refine nZ ?_
 have hk' := hk
 obtain ⟨m0, m1, i0, i1, RU, ht0, S0, PN, hP, hP2⟩ := hk'
 have PO : x.d.Ok := ⟨hd, by omega⟩
 refine aj h ?_
 clear h
 intro k1 M h
 have h' := ej h (b := b)
 clear h
 obtain ⟨a, hl, h⟩ := h'
 obtain ⟨lb, hlb, zH, hrow⟩ := mQ (i := (aD x m).p) hl i0 i1
 have BA := mR m0 m1
 have m2 : m.toNat < x.ms.length := by omega
 obtain ⟨q, hq⟩ := h.bj (A := a.ap) (l := bC a.lb x.ps) (by rw [iL hl]; omega) (by decide)
 obtain ⟨q2, m9⟩ := h.bj (A := a.am) (l := x.ms) (by omega) (by decide)
 replace h : Hp R (fe (cR b wb db a x) x.gl :: ax (bk pa p) wb x.w :: ax (b5 .nilFunc) db x.d :: bK (some ⟨q, 0, none⟩) a.cp (bC a.lb x.ps) :: aP bl a.lb (x.ps.map dM.q) :: bT (some ⟨q2, 0, none⟩) a.cm x.ms :: pt k1 [.int .i64 0, .int .i64 0, .int .i64 0, .slice none 0 0] 43 :: L') M := by
  unfold gd at h
  rw [show bK a.ap a.cp (bC a.lb x.ps) = bK (some ⟨q, 0, none⟩) a.cp (bC a.lb x.ps) from by rw [hq], show bT a.am a.cm x.ms = bT (some ⟨q2, 0, none⟩) a.cm x.ms from by rw [m9]] at h
  exact h.sub (by repeat (first | exact .refl | refine .cons (by repeat (first | exact .here | apply cv.there)) ?_ | apply Sub.drop))
 rw [I7 h]
 refine aY ?_
 rw [wg h]
 refine aY ⟨m0, m1, ?_⟩
 rw [m9]
 refine aS ?_
 refine aW (Src.at (h.src (A := some ⟨q2, 0, none⟩)) h (i := m.toNat) (j := 0) BA rfl (by show _ = 0 + (m.toNat * 3 + 0); simp)) ?_
 refine ⟨i0, i1, ?_⟩
 rw [hq]
 refine aS ?_
 refine aY ⟨m0, m1, aS ?_⟩
 refine aW (Src.at (h.src (A := some ⟨q2, 0, none⟩)) h (i := m.toNat) (j := 2) BA rfl (by show _ = 0 + (m.toNat * 3 + 2); omega)) ?_
 simp only [Nat.zero_add]
 have hno : ¬ (0 < (aD x m).left ∧ (aJ x (aD x m).p).q.next ≠ -1) → (let y := (x.own (aD x m).p).1
   if (x.own (aD x m).p).2.2 = false ∧ 1 < x.c.P then match y.d.draw 2 x.c.P with
    | (d', .ee l) => ∀ M', Hp R (ax (gf pa p wb db) b { y with d := d' } :: L') M' → Kp l M'
    | (d', .num v) =>
     let y := { y with d := d' }
     let s := (aJ y (aD x m).p).q.g7 (aJ y v).q
     let z := if v = (aD x m).p then y else (y.cD (aD x m).p { aJ y (aD x m).p with q := s.1 }).cD v { aJ y v with q := s.2.1 }
     let r := if v = (aD x m).p then (-1, false) else (s.2.2, jX (aJ y v).q s.2.2)
     ∀ M', Hp R (ax (gf pa p wb db) b (z.cq m (aD x m).p 5 r.1 r.2).1 :: L') M' → K (Gi (z.cq m (aD x m).p 5 r.1 r.2).2 none 0) M'
   else ∀ M', Hp R (ax (gf pa p wb db) b (y.cq m (aD x m).p 4 (x.own (aD x m).p).2.1 (x.own (aD x m).p).2.2).1 :: L') M' → K (Gi (y.cq m (aD x m).p 4 (x.own (aD x m).p).2.1 (x.own (aD x m).p).2.2).2 none 0) M') := by
  intro hn
  unfold Sc.find at k
  dsimp only at k ⊢
  rw [if_neg hn] at k
  split
  ·rename_i hc
   rw [if_pos hc] at k
   split
   ·rename_i d' l Mi
    rw [Mi] at k
    exact k
   ·rename_i d' v Mi
    rw [Mi] at k
    dsimp only at k ⊢
    by_cases hv : v = (aD x m).p
    ·simp only [if_pos hv] at k ⊢
     exact k
    ·simp only [if_neg hv] at k ⊢
     exact k
  ·rename_i hc
   rw [if_neg hc] at k
   exact k
 refine aH.2 ⟨fun hgt => ?_, fun hle => ?_⟩
 ·refine jK (Src.at (h.src (A := some ⟨q, 0, none⟩)) h (i := (aD x m).p.toNat) (j := 0) hrow rfl (by show _ = 0 + ((aD x m).p.toNat * 3 + 0); simp)) ?_
  have S3 : (x.ps.map dM.q)[(aD x m).p.toNat]? = some (aJ x (aD x m).p).q := by rw [List.getElem?_map, zH]; rfl
  have h3 := h.cw bl hlb S3
  refine Dc h3 ?_
  refine bU ?_
  refine ⟨fun vs M => vs = [] ∧ (aJ x (aD x m).p).q.next = -1 ∧ Hp R (fe (cR b wb db a x) x.gl :: ax (bk pa p) wb x.w :: ax (b5 .nilFunc) db x.d :: bK (some ⟨q, 0, none⟩) a.cp (bC a.lb x.ps) :: aP bl a.lb (x.ps.map dM.q) :: bT (some ⟨q2, 0, none⟩) a.cm x.ms :: pt k1 [.int .i64 0, .int .i64 0, .int .i64 0, .slice none 0 0] 43 :: L') M, ?_, ?_⟩
  ·refine bM.2 ⟨fun hne => ?_, fun heq => ⟨rfl, by simpa using heq, h⟩⟩
   clear h3
   unfold Sc.find at k
   dsimp only at k
   rw [if_pos ⟨by omega, hne⟩] at k
   dsimp only at k
   refine jK (Src.at (h.src (A := some ⟨q, 0, none⟩)) h (i := (aD x m).p.toNat) (j := 0) hrow rfl (by show _ = 0 + ((aD x m).p.toNat * 3 + 0); simp)) ?_
   rw [show M.ld ⟨b, 6, none⟩ = some (.slice a.am x.ms.length a.cm) from wg h]
   refine aY ?_
   replace h := h.cw bl hlb S3
   refine yf h (b := lb) ?_
   clear h; intro t M _ _ h
   refine ⟨_, _, rfl, ?_⟩
   replace h := h.cQ bl lb hlb (by rw [List.length_map]; omega)
   replace h : Hp R (fe (cR b wb db a x) x.gl :: ax (bk pa p) wb x.w :: ax (b5 .nilFunc) db x.d :: bK (some ⟨q, 0, none⟩) a.cp (bC a.lb x.ps) :: aP bl a.lb ((x.ps.map dM.q).set (aD x m).p.toNat (aJ x (aD x m).p).q.get.1) :: bT (some ⟨q2, 0, none⟩) a.cm x.ms :: pt k1 [.int .i64 0, .int .i64 0, .int .i64 0, .slice none 0 0] 43 :: L') M := h.sub (by repeat (first | exact .refl | refine .cons (by repeat (first | exact .here | apply cv.there)) ?_ | apply Sub.drop))
   refine ⟨wg h, m0, m1, ?_⟩
   rw [m9]
   refine aS ?_
   refine gp (E := jo) (a' := ⟨(aD x m).p, (aJ x (aD x m).p).q.get.2, (aD x m).left⟩) m.toNat 1 h BA (by decide) rfl (by show _ = m.toNat * 3 + 1; omega) ?_
   clear h; intro M h
   replace h : Hp R (fe (cR b wb db a x) x.gl :: ax (bk pa p) wb x.w :: ax (b5 .nilFunc) db x.d :: bK (some ⟨q, 0, none⟩) a.cp (bC a.lb x.ps) :: aP bl a.lb ((x.ps.map dM.q).set (aD x m).p.toNat (aJ x (aD x m).p).q.get.1) :: bT (some ⟨q2, 0, none⟩) a.cm (x.ms.set m.toNat ⟨(aD x m).p, (aJ x (aD x m).p).q.get.2, (aD x m).left⟩) :: pt k1 [.int .i64 0, .int .i64 0, .int .i64 0, .slice none 0 0] 43 :: L') M := h.sub (by repeat (first | exact .refl | refine .cons (by repeat (first | exact .here | apply cv.there)) ?_ | apply Sub.drop))
   refine ⟨by have := wg h; rw [m9] at this; exact this, ?_⟩
   rw [show M.ld ⟨b, 6, none⟩ = some (.slice a.am x.ms.length a.cm) from wg h, m9]
   refine aY ⟨m0, m1, aS ?_⟩
   refine aW (Src.at (h.src (A := some ⟨q2, 0, none⟩)) h (i := m.toNat) (j := 1) (a := ⟨(aD x m).p, (aJ x (aD x m).p).q.get.2, (aD x m).left⟩) (by simp [m2]) rfl (by show _ = 0 + (m.toNat * 3 + 1); omega)) ?_
   dsimp only
   refine mO h ?_
   clear h; intro M h
   refine mP h ?_
   have e1 : bC a.lb (x.cD (aD x m).p { aJ x (aD x m).p with q := (aJ x (aD x m).p).q.get.1 }).ps = bC a.lb x.ps := wc zH rfl rfl
   have e2 : ((x.cD (aD x m).p { aJ x (aD x m).p with q := (aJ x (aD x m).p).q.get.1 }).ps).map dM.q = (x.ps.map dM.q).set (aD x m).p.toNat (aJ x (aD x m).p).q.get.1 := by simp [Sc.cD, List.map_set]
   have h9 : Hp R (fe (cR b wb db a ((x.cD (aD x m).p { aJ x (aD x m).p with q := (aJ x (aD x m).p).q.get.1 }).gE m { aD x m with g := (aJ x (aD x m).p).q.get.2 })) x.gl :: ax (bk pa p) wb x.w :: ax (b5 .nilFunc) db x.d :: bK a.ap a.cp (bC a.lb ((x.cD (aD x m).p { aJ x (aD x m).p with q := (aJ x (aD x m).p).q.get.1 }).gE m { aD x m with g := (aJ x (aD x m).p).q.get.2 }).ps) :: aP bl a.lb (((x.cD (aD x m).p { aJ x (aD x m).p with q := (aJ x (aD x m).p).q.get.1 }).gE m { aD x m with g := (aJ x (aD x m).p).q.get.2 }).ps.map dM.q) :: bT a.am a.cm (x.ms.set m.toNat ⟨(aD x m).p, (aJ x (aD x m).p).q.get.2, (aD x m).left⟩) :: L') M := by
    rw [vZ, vY]
    show Hp R (_ :: _ :: _ :: bK a.ap a.cp (bC a.lb (x.cD (aD x m).p { aJ x (aD x m).p with q := (aJ x (aD x m).p).q.get.1 }).ps) :: aP bl a.lb ((x.cD (aD x m).p { aJ x (aD x m).p with q := (aJ x (aD x m).p).q.get.1 }).ps.map dM.q) :: _) M
    rw [e1, e2, hq, m9]
    exact h.sub (by repeat (first | exact .refl | refine .cons (by repeat (first | exact .here | apply cv.there)) ?_ | apply Sub.drop))
   exact k _ (gF (a := a) (x := (x.cD (aD x m).p { aJ x (aD x m).p with q := (aJ x (aD x m).p).q.get.1 }).gE m { aD x m with g := (aJ x (aD x m).p).q.get.2 }) (by simpa [Sc.cD, Sc.gE] using hl) h9)
  ·clear h h3
   rintro _ M ⟨_, hnx, h⟩
   exact ym h hq m9 hl hk rfl PO (hno (fun hc => hc.2 hnx))
 ·refine ⟨fun vs M => vs = [] ∧ Hp R (fe (cR b wb db a x) x.gl :: ax (bk pa p) wb x.w :: ax (b5 .nilFunc) db x.d :: bK (some ⟨q, 0, none⟩) a.cp (bC a.lb x.ps) :: aP bl a.lb (x.ps.map dM.q) :: bT (some ⟨q2, 0, none⟩) a.cm x.ms :: pt k1 [.int .i64 0, .int .i64 0, .int .i64 0, .slice none 0 0] 43 :: L') M, ⟨rfl, h⟩, ?_⟩
  clear h
  rintro _ M ⟨_, h⟩
  exact ym h hq m9 hl hk rfl PO (hno (fun hc => hle (by omega)))
end
theorem yp {p : cM} {x : Wd} {k v : Int} {l : List PanicEntry} {y : Wd} : x.put p k v ≠ .ee l y := by
 unfold Wd.put; dsimp only; split <;> simp
theorem Dx {p : cM} {x : Wd} {g : Int} {i : eD} {l : List PanicEntry} {y : Wd} (h : IW p x g i = some (.ee l y)) : False := by
 unfold IW at h
 by_cases e : i.op = 10
 ·rw [if_pos e] at h; obtain ⟨_, h⟩ := b7 h; cases h
 rw [if_neg e] at h; clear e
 by_cases e : i.op = 11
 ·rw [if_pos e] at h; obtain ⟨_, h⟩ := b7 h; unfold Wd.spawn at h; split at h <;> cases h
 rw [if_neg e] at h; clear e
 by_cases e : i.op = 13
 ·rw [if_pos e] at h; obtain ⟨_, h⟩ := b7 h
  unfold Wd.send at h
  split at h
  ·cases h
  ·rename_i hp; exact yp hp
  ·cases h
  ·cases h
 rw [if_neg e] at h; clear e
 by_cases e : i.op = 14
 ·rw [if_pos e] at h; obtain ⟨_, h⟩ := b7 h; cases h
 rw [if_neg e] at h; clear e
 by_cases e : i.op = 15
 ·rw [if_pos e] at h; obtain ⟨_, h⟩ := b7 h; unfold Wd.shut at h; dsimp only at h; split at h
  ·cases h
  ·split at h <;> cases h
 rw [if_neg e] at h; clear e
 by_cases e : i.op = 20
 ·rw [if_pos e] at h; obtain ⟨_, h⟩ := b7 h; unfold Wd.emit at h; split at h <;> cases h
 rw [if_neg e] at h; clear e
 by_cases e : i.op = 9
 ·rw [if_pos e] at h; obtain ⟨_, h⟩ := b7 h; unfold Wd.call at h; split at h <;> cases h
 rw [if_neg e] at h; clear e
 by_cases e : i.op = 12
 ·rw [if_pos e] at h; cases h
 rw [if_neg e] at h; clear e
 by_cases e : i.op = 17
 ·rw [if_pos e] at h; obtain ⟨_, h⟩ := b7 h; cases h
 rw [if_neg e] at h; clear e
 by_cases e : i.op = 18
 ·rw [if_pos e] at h; obtain ⟨_, h⟩ := b7 h; cases h
 rw [if_neg e] at h; clear e
 by_cases e : i.op = 19
 ·rw [if_pos e] at h; obtain ⟨_, h⟩ := b7 h; unfold Wd.unlock at h; split at h
  ·cases h
  ·split at h <;> cases h
 rw [if_neg e] at h; clear e
 by_cases e : i.op = 22
 ·rw [if_pos e] at h; cases h
 rw [if_neg e] at h; cases h
theorem FV {p : cM} {x : Wd} {g : Int} {d : iK} {l : List PanicEntry} {y : Wd} {rest : Bool} (h : yl p x g d = some (.ee l y, rest)) : d = .ee l ∧ y = { x with ready := [] } := by
 unfold yl at h
 dsimp only at h
 split at h
 ·split at h
  ·split at h
   ·cases h
   ·split at h
    ·cases h
    ·split at h
     ·split at h <;> cases h
     ·split at h
      ·split at h
       ·split at h
        ·rename_i hc
         simp only [Option.some.injEq, Prod.mk.injEq] at h
         obtain ⟨h, _⟩ := h
         unfold Wd.choose at h
         split at h
         ·cases h
         ·cases d with
          | ee l' => cases h; exact ⟨rfl, rfl⟩
          | num v =>
           dsimp only at h
           unfold Wd.vM at h
           dsimp only at h
           split at h
           ·split at h
            ·cases h
            ·rename_i hp; exact absurd hp yp
            ·cases h
           ·cases h
        ·cases h
       ·cases h
      ·split at h
       ·split at h
        ·split at h
         ·simp only [Option.some.injEq, Prod.mk.injEq] at h
          obtain ⟨h, _⟩ := h
          cases d with
          | ee l' => cases h; exact ⟨rfl, rfl⟩
          | num v => cases h
         ·cases h
        ·cases h
       ·split at h
        ·cases h
        ·rename_i r hd
         split at h
         ·simp only [Option.some.injEq, Prod.mk.injEq] at h
          obtain ⟨h, _⟩ := h
          subst h
          exact (Dx hd).elim
         ·cases h
  ·cases h
 ·cases h
theorem FW {q : Loc} {r : Int} {gl : List Int} : (q.ready r gl).2.1.length ≤ gl.length + q.l.length + 1 := by
 unfold Loc.ready
 split
 ·dsimp only; omega
 ·unfold Loc.put
  dsimp only
  split
  ·dsimp only; omega
  ·dsimp only; simp; omega
section
variable {R : Mem} {L L' L2 : List HP} {M : Mem} {K : Value → Mem → Prop} {Kp : List PanicEntry → Mem → Prop} {pa : PA} {p : cM} {b wb db : Nat} {x : Sc} {m i : Int} {a : SA}
abbrev wj (dm : Nat) (kp : Bool) (A : Option Addr) (n c : Nat) : HP := pt dm [.bool kp, .slice A n c] 250
theorem BD {q2 k1 dm c : Nat} {g : Int} {kp : Bool} {A : Option Addr} {rd : List Int}
  (h : Hp R (fe (cR b wb db a x) x.gl :: ax (bk pa p) wb x.w :: ax (b5 .nilFunc) db x.d :: bK a.ap a.cp (bC a.lb x.ps) :: aP bl a.lb (x.ps.map dM.q) :: bT (some ⟨q2, 0, none⟩) a.cm (x.ms.set m.toNat { aD x m with left := (aD x m).left - 1 }) :: wj dm kp A rd.length c :: pt k1 [.int .i64 0, .int .i64 0, .int .i64 0, .slice none 0 0] 43 :: L') M)
  (Ei : a.am = some ⟨q2, 0, none⟩) (hl : a.lb.length = x.ps.length) (m0 : 0 ≤ m) (m1 : m < x.ms.length) (g0 : 0 ≤ g) (g1 : g < x.w.gs.length) (RU : x.gl.length ≤ 100000000)
  (k : ∀ M', Hp R (ax (gf pa p wb db) b { x.gE m { aD x m with left := (aD x m).left - 1, g := -1 } with gl := if (au x.w g).st = 1 then x.gl ++ [g] else x.gl } :: L') M' → K (Gi ⟨7, m, g, rd⟩ A c) M') :
  aF M ⟨q2, ((m.toNat * 3) + 1), none⟩ (.int .i64 (-1)) fun tH =>
  cz (Mem.ld tH ⟨b, 0, none⟩) fun Gg =>
  aa Tryz.prog 119 #[(.pointer Gg), (.int .i64 g)] tH (fun E4 uc =>
  aE (some E4) .i64 fun zE =>
  aK (zE == 1)
   (aX uc (.cells #[(.int .i64 g)] 3 (0, 0)) fun nm E9 =>
   aa Tryz.prog 58 #[(.pointer (some ⟨b, (0 + 7), none⟩)), (.slice (some ⟨nm, 0, none⟩) 1 1)] E9 (fun Fg r8 =>
   (Fg = (.tuple #[])) ∧
   ay (Mem.ld r8 ⟨dm, (0 + 1), none⟩) fun KC y4 yQ =>
   aF r8 ⟨k1, 0, none⟩ (.int .i64 7) fun xT =>
   aF xT ⟨k1, (0 + 1), none⟩ (.int .i64 m) fun Aq =>
   aF Aq ⟨k1, (0 + 2), none⟩ (.int .i64 g) fun yO =>
   aF yO ⟨k1, (0 + 3), none⟩ (.slice KC y4 yQ) fun rm =>
   aE (Mem.ld rm ⟨k1, 0, none⟩) .i64 fun rT =>
   aE (Mem.ld rm ⟨k1, (0 + 1), none⟩) .i64 fun n64 =>
   aE (Mem.ld rm ⟨k1, (0 + 2), none⟩) .i64 fun pG =>
   ay (Mem.ld rm ⟨k1, (0 + 3), none⟩) fun HQ wG Gh =>
   K (.agg #[(.int .i64 rT), (.int .i64 n64), (.int .i64 pG), (.slice HQ wG Gh)]) rm) Kp)
   (ay (Mem.ld uc ⟨dm, (0 + 1), none⟩) fun Ra Gd CL =>
   aF uc ⟨k1, 0, none⟩ (.int .i64 7) fun LF =>
   aF LF ⟨k1, (0 + 1), none⟩ (.int .i64 m) fun CN =>
   aF CN ⟨k1, (0 + 2), none⟩ (.int .i64 g) fun xS =>
   aF xS ⟨k1, (0 + 3), none⟩ (.slice Ra Gd CL) fun w5 =>
   aE (Mem.ld w5 ⟨k1, 0, none⟩) .i64 fun CC =>
   aE (Mem.ld w5 ⟨k1, (0 + 1), none⟩) .i64 fun uO =>
   aE (Mem.ld w5 ⟨k1, (0 + 2), none⟩) .i64 fun w6 =>
   ay (Mem.ld w5 ⟨k1, (0 + 3), none⟩) fun Ju Gf AD =>
   K (.agg #[(.int .i64 CC), (.int .i64 uO), (.int .i64 w6), (.slice Ju Gf AD)]) w5)) Kp := by
 have BA := mR m0 m1
 have m2 : m.toNat < x.ms.length := by omega
 refine gp (E := jo) (a := { aD x m with left := (aD x m).left - 1 }) (a' := ⟨(aD x m).p, -1, (aD x m).left - 1⟩) m.toNat 1 h (by simp [m2]) (by decide) rfl (by show _ = m.toNat * 3 + 1; omega) ?_
 clear h; intro M h
 rw [fV] at h
 replace h : Hp R (fe (cR b wb db a x) x.gl :: ax (bk pa p) wb x.w :: ax (b5 .nilFunc) db x.d :: bK a.ap a.cp (bC a.lb x.ps) :: aP bl a.lb (x.ps.map dM.q) :: bT (some ⟨q2, 0, none⟩) a.cm (x.ms.set m.toNat ⟨(aD x m).p, -1, (aD x m).left - 1⟩) :: wj dm kp A rd.length c :: pt k1 [.int .i64 0, .int .i64 0, .int .i64 0, .slice none 0 0] 43 :: L') M := h.sub bG
 rw [RT h]
 refine gK ?_
 refine zn h g0 g1 ?_
 refine bU ?_
 have fin : ∀ (S4 : List Int) (M : Mem), S4 = (if (au x.w g).st = 1 then x.gl ++ [g] else x.gl) → Hp R (fe (cR b wb db a x) S4 :: ax (bk pa p) wb x.w :: ax (b5 .nilFunc) db x.d :: bK a.ap a.cp (bC a.lb x.ps) :: aP bl a.lb (x.ps.map dM.q) :: bT (some ⟨q2, 0, none⟩) a.cm (x.ms.set m.toNat ⟨(aD x m).p, -1, (aD x m).left - 1⟩) :: wj dm kp A rd.length c :: pt k1 [.int .i64 0, .int .i64 0, .int .i64 0, .slice none 0 0] 43 :: L') M →
   ay (Mem.ld M ⟨dm, (0 + 1), none⟩) fun KC y4 yQ => aF M ⟨k1, 0, none⟩ (.int .i64 7) fun xT => aF xT ⟨k1, (0 + 1), none⟩ (.int .i64 m) fun Aq => aF Aq ⟨k1, (0 + 2), none⟩ (.int .i64 g) fun yO => aF yO ⟨k1, (0 + 3), none⟩ (.slice KC y4 yQ) fun rm =>
   aE (Mem.ld rm ⟨k1, 0, none⟩) .i64 fun rT => aE (Mem.ld rm ⟨k1, (0 + 1), none⟩) .i64 fun n64 => aE (Mem.ld rm ⟨k1, (0 + 2), none⟩) .i64 fun pG => ay (Mem.ld rm ⟨k1, (0 + 3), none⟩) fun HQ wG Gh =>
   K (.agg #[(.int .i64 rT), (.int .i64 n64), (.int .i64 pG), (.slice HQ wG Gh)]) rm := by
  intro S4 M hgl' h
  refine av h ?_
  refine mO h ?_
  clear h; intro M h
  refine mP h ?_
  refine k _ (gF (a := a) (x := { x.gE m { aD x m with left := (aD x m).left - 1, g := -1 } with gl := if (au x.w g).st = 1 then x.gl ++ [g] else x.gl }) hl ?_)
  rw [← hgl']
  have e1 : cR b wb db a { x.gE m { aD x m with left := (aD x m).left - 1, g := -1 } with gl := S4 } = cR b wb db a x := vZ (x := x)
  rw [e1]
  show Hp R (_ :: _ :: _ :: _ :: _ :: bT a.am a.cm (x.ms.set m.toNat ⟨(aD x m).p, -1, (aD x m).left - 1⟩) :: _) M
  rw [Ei]
  exact h.sub bG
 refine bB.2 ⟨fun e1 => ?_, fun e1 => ?_⟩
 ·refine aj h ?_
  clear h; intro nm M h
  replace h := (h.pt nm).oG (E := bq) (l := [g]) rfl
  replace h : Hp R (fe (cR b wb db a x) x.gl :: iY (some ⟨nm, 0, none⟩) 1 [g] :: ax (bk pa p) wb x.w :: ax (b5 .nilFunc) db x.d :: bK a.ap a.cp (bC a.lb x.ps) :: aP bl a.lb (x.ps.map dM.q) :: bT (some ⟨q2, 0, none⟩) a.cm (x.ms.set m.toNat ⟨(aD x m).p, -1, (aD x m).left - 1⟩) :: wj dm kp A rd.length c :: pt k1 [.int .i64 0, .int .i64 0, .int .i64 0, .slice none 0 0] 43 :: L') M := h.sub bG
  refine kI (P := cR b wb db a x) vW h (Src.row (A := some ⟨nm, 0, none⟩)) rfl (by simp; omega) ?_
  clear h; intro M h
  refine ⟨rfl, ?_⟩
  exact fin _ M (by rw [if_pos e1]) (h.sub bG)
 ·exact fin _ M (by rw [if_neg e1]) h
theorem kK {m : Int} : ∀ (l : List Int) (z : Sc), 0 ≤ (aD z m).p → (aD z m).p < z.ps.length → (l.foldl (aR m) z).ms = z.ms ∧ (l.foldl (aR m) z).ps.length = z.ps.length ∧ (l.foldl (aR m) z).w = z.w ∧ (l.foldl (aR m) z).d = z.d ∧ (l.foldl (aR m) z).c = z.c ∧ (l.foldl (aR m) z).steps = z.steps ∧ ∀ bs, bC bs (l.foldl (aR m) z).ps = bC bs z.ps
 | [], z, _, _ => ⟨rfl, rfl, rfl, rfl, rfl, rfl, fun _ => rfl⟩
 | r :: l, z, h0, h1 => by
  have hp : z.ps[(aD z m).p.toNat]? = some (aJ z (aD z m).p) := by
   obtain ⟨y, hy⟩ := aL (l := z.ps) (i := (aD z m).p.toNat) (by omega)
   have e : aJ z (aD z m).p = y := by simp [aJ, hy]
   rw [e]; exact hy
  have hms : (aR m z r).ms = z.ms := rfl
  have hps : (aR m z r).ps.length = z.ps.length := by simp [aR, Sc.cD]
  have BA : aD (aR m z r) m = aD z m := rfl
  obtain ⟨a1, a2, a3, a4, a5, a6, a7⟩ := kK l (aR m z r) (by rw [BA]; exact h0) (by rw [BA, hps]; exact h1)
  refine ⟨a1, by rw [List.foldl_cons, a2, hps], a3, a4, a5, a6, fun bs => ?_⟩
  rw [List.foldl_cons, a7]
  exact wc hp rfl rfl
end
end Go.Proofs
