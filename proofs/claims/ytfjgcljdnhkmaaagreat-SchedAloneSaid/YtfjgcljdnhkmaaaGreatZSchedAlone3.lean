/- A part of proofs about one program. -/
import Derived.Test.YtfjgcljdnhkmaaaGreatZSchedAlone1
import Derived.Test.YtfjgcljdnhkmaaaGreatZSchedAlone2
set_option linter.unusedVariables false
namespace Go.Proofs
open Go.AF
set_option maxRecDepth 100000
set_option maxHeartbeats 1000000
attribute [local irreducible] aG c6 fD cj aC eU aD aF bg aZ bD aQ
def PR : jv (Option Addr × Nat × Nat) := ⟨1, fun t => [.slice t.1 t.2.1 t.2.2], fun _ => rfl, fun w v hv => by simp only [List.mem_singleton] at hv; subst hv; rfl⟩
structure mH (R : Mem) (pa : PA) (p : cf) : Prop where
 funcs : ∃ ts : List (Option Addr × Nat × Nat), RS PR R pa.f pa.fc ts ∧ ts.length = p.funcs.length ∧ ∀ (i : Nat) t f, ts[i]? = some t → p.funcs[i]? = some f → RS xD R t.1 t.2.2 f ∧ t.2.1 = f.length
 cases : RS vF R pa.k pa.kc p.cases
theorem mH.le {R R' : Mem} {pa : PA} {p : cf} (h : mH R pa p) (hle : R.le R') : mH R' pa p := by
 obtain ⟨⟨ts, h1, h2, h3⟩, h4⟩ := h
 exact ⟨⟨ts, h1.le hle, h2, fun i t f a b => ⟨(h3 i t f a b).1.le hle, (h3 i t f a b).2⟩⟩, h4.le hle⟩
def Wd.next (x : Wd) (g : Int) : Wd := x.aY g ((ae x g).bS (ae x g).top.next)
def Nn (n : Int) : List PanicEntry := [{ v := .iface 256 (.int .i64 n), recovered := false }]
def eR (R : Mem) (pa : PA) (p : cf) (dr : Value) (Yj : Nat) (x : Wd) (g : Int) (i : cQ) (r : Out Wd) (L L2 : List HP) : Prop :=
 ∀ (gg : List GA) (b bs c : Nat) (M : Mem) (K : Value → Mem → Prop) (Kp : List PanicEntry → Mem → Prop) (Q : HP), Hp R (ax (be pa p gg dr) b x :: Q :: L) M → gg[g.toNat]? = some (some ⟨bs, 0, none⟩, c) →
  Out.Ok r (fun y => ∀ jK M', Hp R (ax (be pa p jK dr) b y :: Q :: L2) M' → K (.tuple #[]) M') (fun n y => ∀ jK M', Hp R (ax (be pa p jK dr) b y :: Q :: L2) M' → Kp (Nn n) M') (fun l y => ∀ jK M', Hp R (ax (be pa p jK dr) b y :: Q :: L2) M' → Kp l M') →
  aa Tryz.prog Yj #[.pointer (some ⟨b, 0, none⟩), .int .i64 g, .pointer (some ⟨bs, ((ae x g).fs.length - 1) * 11, none⟩), .agg #[.int .i64 i.op, .int .i64 i.a, .int .i64 i.b, .int .i64 i.c]] M K Kp
theorem Out.Ok.mono {α : Type} {r : Out α} {k1 TY : α → Prop} {k2 Zo : Int → Wd → Prop} {k3 : List PanicEntry → Wd → Prop} (h : r.Ok k1 k2 k3) (h1 : ∀ y, k1 y → TY y) (h2 : ∀ n y, k2 n y → Zo n y) : r.Ok TY Zo := by
 cases r with
 | on y => exact h1 y h
 | dy n y => exact h2 n y h
 | cG l y => trivial
section
variable {R : Mem} {L L' L2 : List HP} {M : Mem} {K : Value → Mem → Prop} {Kp : List PanicEntry → Mem → Prop} {pa : PA} {p : cf} {gg : List GA} {dr : Value} {b : Nat} {x : Wd} {g : Int} {i : cQ}
theorem LA (hp : mH R pa p) (hk : Dl p x g i) (hs : x.Sm) : eR R pa p dr 165 x g i (x.send p g i) L L := fun gg b bs c M K Kp Q h dJ k =>
 Dm h hp.cases dJ hk hs (k.mono (fun y hy M' h' => hy gg M' h') (fun n y hy M' h' => hy gg M' h'))
theorem LB (hk : tq x g i) (hs : x.Sm) : eR R pa p dr 166 x g i (.on (x.recv g i)) L L := fun gg b bs c M K Kp Q h dJ k =>
 Dp h dJ hk hs fun M' h' => k gg M' h'
theorem LC (hg : aS x g) (ha : bn i.a) (hs : x.Sm) : eR R pa p dr 171 x g i (x.emit g i) L L := fun gg b bs c M K Kp Q h dJ k =>
 Dq h dJ hg ha hs (k.mono (fun y hy M' h' => hy gg M' h') (fun n y hy M' h' => hy gg M' h'))
theorem Jv (hg : aS x g) (hb : bn i.b) (hc : bn i.c) (hs : x.Sm) : eR R pa p dr 163 x g i (x.spawn g i) L L := fun gg b bs c M K Kp Q h dJ k =>
 Bu h dJ hg hb hc hs (k.mono (fun y hy => hy) (fun n y hy M' h' => hy gg M' h'))
theorem LD (hp : mH R pa p) (hk : lO p x i) (hs : x.Sm) : eR R pa p dr 167 x g i (x.shut p i) L L := fun gg b bs c M K Kp Q h dJ k =>
 Ds (f := .nilFunc) h hp.cases hk hs (k.mono (fun y hy M' h' => hy gg M' h') (fun n y hy M' h' => hy gg M' h'))
def PS : AL := [(9, .func (.func 161) #[] #[]), (10, .func (.func 162) #[] #[]), (11, .func (.func 163) #[] #[]), (12, .func (.func 164) #[] #[]), (13, .func (.func 165) #[] #[]), (14, .func (.func 166) #[] #[]), (15, .func (.func 167) #[] #[]), (17, .func (.func 168) #[] #[]), (18, .func (.func 169) #[] #[]), (19, .func (.func 170) #[] #[]), (20, .func (.func 171) #[] #[]), (22, .func (.func 172) #[] #[])]
theorem BA (h : Hp R L M) (k : ∀ m M', Hp R (ob m (jz PS) :: L) M' → K (.map (some m)) M') : aa Tryz.prog 124 #[] M K Kp := by
 refine vI ?_
 refine ML h ?_
 clear h
 intro m M h
 replace h : Hp R (ob m (jz []) :: L) M := h
 have hu : Tryz.prog.underlying 261 = some (.map 32 260) := by kernel_rfl
 have hk : Tryz.prog.underlying 32 = some (.int .i64) := by kernel_rfl
 iterate 12
  refine ue h hu hk ?_
  clear h
  intro M h
 exact k _ _ h
end
theorem vZ {α β : Type} : ∀ {l : List α} {m : List β} {i : Nat} {u : α} {v : β}, (l.zip m).set i (u, v) = (l.set i u).zip (m.set i v)
 | [], _, _, _, _ => by simp
 | a :: l, [], i, u, v => by simp
 | a :: l, w :: m, 0, u, v => rfl
 | a :: l, w :: m, i + 1, u, v => by
  have := vZ (l := l) (m := m) (i := i) (u := u) (v := v)
  simp [this]
theorem sx {x : Wd} {g : Int} (h0 : 0 ≤ g) (h1 : g < x.gs.length) : x.aY g (ae x g) = x := by
 obtain ⟨y, hy⟩ := aN (l := x.gs) (i := g.toNat) (by omega)
 have e : ae x g = y := by simp [ae, hy]
 rw [e]
 obtain ⟨hi, rfl⟩ := List.getElem?_eq_some_iff.1 hy
 simp [Wd.aY]
section
variable {R : Mem} {L L' L2 : List HP} {M : Mem} {K : Value → Mem → Prop} {Kp : List PanicEntry → Mem → Prop} {pa : PA} {p : cf} {gg : List GA} {dr : Value} {b : Nat} {x : Wd} {g : Int} {i : cQ}
theorem LF (hg : aS x g) (ha : bn i.a) (hin : bn (ae x g).top.eE) : eR R pa p dr 162 x g i (.on (x.back g i)) L L := by
 intro gg b bs c M K Kp Q h dJ k
 refine oU ?_
 replace k : ∀ jK M', Hp R (ax (be pa p jK dr) b (x.back g i) :: Q :: L) M' → K (.tuple #[]) M' := k
 have zH := hg
 obtain ⟨h0, h1, h2, h3⟩ := zH
 unfold Wd.back at k
 refine aj h ?_
 clear h
 intro kb M h
 have h' := fH h (b := b) h0 h1 dJ
 clear h
 obtain ⟨a, gb, hl, eL, h⟩ := h'
 have hl' := hl
 obtain ⟨l1, l2, l3, l4⟩ := hl'
 repeat (first|(refine aj h ?_;clear h;intro kb M h)|(refine aq h ?_;clear h;intro M h)|refine St.to h ?_|(apply Exists.intro;(repeat apply Exists.intro);refine And.intro rfl ?_)|refine au ?_|refine af ?_|refine ai ?_)
 refine sC h eL fun q hq => ?_
 repeat (first|(refine aj h ?_;clear h;intro kb M h)|(refine aq h ?_;clear h;intro M h)|refine St.to h ?_|(apply Exists.intro;(repeat apply Exists.intro);refine And.intro rfl ?_)|refine au ?_|refine af ?_|refine ai ?_)
 refine ⟨ha.1, ha.2, rX h (di h2) ha rfl ?_⟩
 refine zG h h2 (by omega) (di h2) hin ?_ ?_
 ·intro hlt
  rw [if_neg (by omega)] at k
  refine ⟨_, _, _, _, rfl, ai ?_⟩
  repeat (first|(refine aj h ?_;clear h;intro kb M h)|(refine aq h ?_;clear h;intro M h)|refine St.to h ?_|(apply Exists.intro;(repeat apply Exists.intro);refine And.intro rfl ?_)|refine au ?_|refine af ?_|refine ai ?_)
  refine sC h eL fun q2 oB => ?_
  repeat (first|(refine aj h ?_;clear h;intro kb M h)|(refine aq h ?_;clear h;intro M h)|refine St.to h ?_|(apply Exists.intro;(repeat apply Exists.intro);refine And.intro rfl ?_)|refine au ?_|refine af ?_|refine ai ?_)
  refine bP.2 ⟨fun e0 => ?_, fun e0 => ?_⟩
  ·rw [if_pos e0] at k
   repeat (first|(refine aj h ?_;clear h;intro kb M h)|(refine aq h ?_;clear h;intro M h)|refine St.to h ?_|(apply Exists.intro;(repeat apply Exists.intro);refine And.intro rfl ?_)|refine au ?_|refine af ?_|refine ai ?_)
   replace h := ck h gb hl eL dJ
   have jW := cA (y := { ae x g with st := 4 }) (g := g) hl
   replace h := aM (a := a) (p := p) (pa := pa) (dr := dr) (gg := gg) (x := { x.aY g { ae x g with st := 4 } with end_ := 1 }) jW h b
   exact k _ _ h.bM
  ·rw [if_neg e0] at k
   replace h := ck h gb hl eL dJ
   have jW := cA (y := { ae x g with st := 4 }) (g := g) hl
   replace h := aM (a := a) (p := p) (pa := pa) (dr := dr) (gg := gg) (x := x.aY g { ae x g with st := 4 }) jW h b
   exact k _ _ h.bM
 ·intro hge b' c' M' fr hfr h'
  clear h
  have h := h'
  clear h'
  rw [if_pos hge] at k
  refine ⟨_, _, _, _, rfl, af ?_⟩
  repeat (first|(refine aj h ?_;clear h;intro kb M h)|(refine aq h ?_;clear h;intro M h)|refine St.to h ?_|(apply Exists.intro;(repeat apply Exists.intro);refine And.intro rfl ?_)|refine au ?_|refine af ?_|refine ai ?_)
  refine sC h eL fun q2 oB => ?_
  repeat (first|(refine aj h ?_;clear h;intro kb M h)|(refine aq h ?_;clear h;intro M h)|refine St.to h ?_|(apply Exists.intro;(repeat apply Exists.intro);refine And.intro rfl ?_)|refine au ?_|refine af ?_|refine ai ?_)
  have hlen : (ae x g).fs.length - 1 = (((ae x g).fs.take ((ae x g).fs.length - 1)).set ((ae x g).fs.length - 2) (fr.set (ae x g).top.eE (aV x g i.a))).length := by simp
  have Yk : (ae x g).fs.getD ((ae x g).fs.length - 2) ⟨0, 0, [], 0⟩ = fr := by rw [List.getD_eq_getElem?_getD, hfr]; rfl
  have h5 := kF (A := some ⟨b', 0, none⟩) (fs := ((ae x g).fs.take ((ae x g).fs.length - 1)).set ((ae x g).fs.length - 2) (fr.set (ae x g).top.eE (aV x g i.a))) h gb hlen
  have hi := (List.getElem?_eq_some_iff.1 eL).1
  have h6 := h5.cY eP gb eL (by rw [List.length_zip]; omega)
  rw [vZ] at h6
  have jW : dO (gg.set g.toNat (some ⟨b', 0, none⟩, c')) a (x.aY g ((ae x g).back (aV x g i.a))) := ⟨by simpa [Wd.aY] using l1, by simpa [Wd.aY] using l2, l3, l4⟩
  have e : (ae x g).back (aV x g i.a) = ⟨(ae x g).st, ((ae x g).fs.take ((ae x g).fs.length - 1)).set ((ae x g).fs.length - 2) (fr.set (ae x g).top.eE (aV x g i.a)), (ae x g).wt⟩ := by
   unfold dD.back; rw [Yk]
  rw [e] at jW k
  have h7 := aM (a := a) (p := p) (pa := pa) (dr := dr) (gg := gg.set g.toNat (some ⟨b', 0, none⟩, c')) (x := x.aY g ⟨(ae x g).st, ((ae x g).fs.take ((ae x g).fs.length - 1)).set ((ae x g).fs.length - 2) (fr.set (ae x g).top.eE (aV x g i.a)), (ae x g).wt⟩) jW h6 b
  exact k _ _ (h7.sub bQ)
end
def Out.fin : Out Wd → Wd
 | .on y => y
 | .dy n y => { y with end_ := 2, code := n }
 | .cG _ y => y
def wc (op : Int) : Out Wd → Bool
 | .on _ => op == 12 || op == 17
 | .dy _ _ => false
 | .cG _ _ => false
inductive Step (R : Mem) (pa : PA) (p : cf) (dr : Value) (x : Wd) (g : Int) (code : List cQ) : Out Wd → Bool → List HP → List HP → Prop where
 | out {L : List HP} (h : (code.length : Int) ≤ (ae x g).top.pc) : Step R pa p dr x g code (.dy (-7) x) false L L
 | pure {L : List HP} (i : cQ) (h : code[(ae x g).top.pc.toNat]? = some i) (h0 : 0 ≤ i.op) (h8 : i.op ≤ 8) (hk : i.jZ) : Step R pa p dr x g code (.on (x.aY g ((ae x g).bS ((ae x g).top.next.pure i)))) false L L
 | zK {L L2 : List HP} {r : Out Wd} (i : cQ) (h : code[(ae x g).top.pc.toNat]? = some i) (qv : i.op = 16) (hs : eR R pa p dr 122 x g i r L L2) : Step R pa p dr x g code r false L L2
 | PT {L L2 : List HP} {r : Out Wd} (i : cQ) (h : code[(ae x g).top.pc.toNat]? = some i) (PU : i.op = 21) (hs : eR R pa p dr 123 x g i r L L2) : Step R pa p dr x g code r false L L2
 | dflt {L L2 : List HP} {r : Out Wd} (i : cQ) (fn : Nat) (h : code[(ae x g).top.pc.toNat]? = some i) (h8 : 8 < i.op) (qv : i.op ≠ 16) (PU : i.op ≠ 21) (hf : xK PS i.op = some (.func (.func fn) #[] #[])) (hn : 1 < fn ∧ fn < 228)
   (hs : eR R pa p dr fn (x.next g) g i r L L2) : Step R pa p dr x g code r (wc i.op r) L L2
section
variable {R : Mem} {L L' L2 : List HP} {M : Mem} {K : Value → Mem → Prop} {Kp : List PanicEntry → Mem → Prop} {pa : PA} {p : cf} {gg : List GA} {dr : Value} {b : Nat} {x : Wd} {g : Int} {i : cQ}
theorem PV {c bs j : Nat} {l : List e7} {f : e7} {G : Int → Prop} (h : Hp R L M) [q : b9 (some ⟨bs, 0, none⟩) L e7 iM 234 c l L'] (hi : l[j]? = some f) (g : G f.fn) : aG (M.ld ⟨bs, j * 11, none⟩) .i64 G := by
 refine br (Src.at (h.src (A := some ⟨bs, 0, none⟩)) h (i := j) (j := 0) hi rfl ?_) g
 show _ = 0 + (j * 11 + 0); omega
theorem zL {n : Int} {v : Value} {Q : HP} (h : Hp R (ax (be pa p gg dr) b x :: Q :: L) M) (k : ∀ M', Hp R (ax (be pa p gg dr) b { x with end_ := 2, code := n } :: L) M' → K v M') :
  bZ Tryz.prog 119 (.pointer (some ⟨b, 0, none⟩)) K Kp v (.panicking (Nn n)) M := by
 refine Dc ?_
 have h' := bU h (b := b)
 clear h
 obtain ⟨a, hl, h⟩ := h'
 repeat (first|(refine aj h ?_;clear h;intro kb M h)|(refine aq h ?_;clear h;intro M h)|refine St.to h ?_|(apply Exists.intro;(repeat apply Exists.intro);refine And.intro rfl ?_)|refine au ?_|refine af ?_|refine ai ?_)
 exact k _ (ig (a := a) (x := { x with end_ := 2, code := n }) hl (h.sub bQ))
theorem uV {k : Nat} {bw : Nat} (h : Hp R L M) [o : jx k L [.int .i64 i.op, .int .i64 i.a, .int .i64 i.b, .int .i64 i.c] 34 L'] (g : K (.bool (i.op == 12 || i.op == 17)) M) :
  aG (M.ld ⟨k, 0, none⟩) .i64 fun n => aQ (n == 12) (bZ Tryz.prog 119 (.pointer (some ⟨bw, 0, none⟩)) K Kp (.bool true) .returning M)
   (aG (M.ld ⟨k, 0, none⟩) .i64 fun n => bZ Tryz.prog 119 (.pointer (some ⟨bw, 0, none⟩)) K Kp (.bool (n == 17)) .returning M) := by
 have hp := h.pick o.pick
 refine aH hp ?_
 refine bP.2 ⟨fun e => ?_, fun e => ?_⟩
 ·rw [e] at g; exact Bj g
 ·refine aH hp ?_
  have : (i.op == 12) = false := by simpa using e
  rw [this, Bool.false_or] at g
  exact Bj g
def Jw (R : Mem) (pa : PA) (p : cf) (dr : Value) (b : Nat) (L2 : List HP) (K : Value → Mem → Prop) (Kp : List PanicEntry → Mem → Prop) (r : Out Wd) (rest : Bool) : Prop := match r with
 | .cG l y => ∀ jK M', Hp R (ax (be pa p jK dr) b y :: L2) M' → bZ Tryz.prog 119 (.pointer (some ⟨b, 0, none⟩)) K Kp (.bool false) (.panicking l) M'
 | .on y => ∀ jK M', Hp R (ax (be pa p jK dr) b y :: L2) M' → K (.bool rest) M'
 | .dy n y => ∀ jK M', Hp R (ax (be pa p jK dr) b { y with end_ := 2, code := n } :: L2) M' → K (.bool rest) M'
theorem BB {code : List cQ} {r : Out Wd} {rest : Bool} (h : Hp R L M) [o : tj b L pa p gg dr x L'] (hp : mH R pa p) (hg : aS x g) (hfn : 0 ≤ (ae x g).top.fn) (ik : p.funcs[(ae x g).top.fn.toNat]? = some code)
  (ug : 0 ≤ (ae x g).top.pc ∧ (ae x g).top.pc < 1000000000) (hs : Step R pa p dr x g code r rest L' L2)
  (k : Jw R pa p dr b L2 K Kp r rest) : aa Tryz.prog 88 #[.pointer (some ⟨b, 0, none⟩), .int .i64 g] M K Kp := by
 refine rQ ?_
 have zH := hg
 obtain ⟨h0, h1, h2, h3⟩ := zH
 have h' := ij h (b := b) h0 h1
 clear h
 obtain ⟨a, gb, A, c, hl, eL, dJ, h⟩ := h'
 have hl' := hl
 obtain ⟨l1, l2, l3, l4⟩ := hl'
 obtain ⟨bs, rfl⟩ := h.bt (A := A) h2 (by decide)
 have PW : ∀ {M : Mem}, Hp R (pt gb (nH (ae x g) (some ⟨bs, 0, none⟩) c) 182 :: rV (some ⟨bs, 0, none⟩) c (ae x g).fs :: pt b (j0 pa p dr a x) 164 :: jH eP a.gb (x.gs.zip gg) g.toNat :: pM a x L') M → Hp R (ax (be pa p gg dr) b x :: L') M := by
  intro M h
  replace h := ck h gb hl eL dJ
  have jW := cA (y := ae x g) (g := g) hl
  replace h := aM (a := a) (p := p) (pa := pa) (dr := dr) (gg := gg) (x := x.aY g (ae x g)) jW h b
  rwa [sx h0 h1] at h
 repeat (first|(refine aj h ?_;clear h;intro kb M h)|(refine aq h ?_;clear h;intro M h)|refine St.to h ?_|(apply Exists.intro;(repeat apply Exists.intro);refine And.intro rfl ?_)|refine au ?_|refine af ?_|refine ai ?_)
 refine sC h eL fun q hq => ?_
 repeat (first|(refine aj h ?_;clear h;intro kb M h)|(refine aq h ?_;clear h;intro M h)|refine St.to h ?_|(apply Exists.intro;(repeat apply Exists.intro);refine And.intro rfl ?_)|refine au ?_|refine af ?_|refine ai ?_)
 refine kC h2 (by omega) ?_
 repeat (first|(refine aj h ?_;clear h;intro kb M h)|(refine aq h ?_;clear h;intro M h)|refine St.to h ?_|(apply Exists.intro;(repeat apply Exists.intro);refine And.intro rfl ?_)|refine au ?_|refine af ?_|refine ai ?_)
 refine PV h (di h2) ?_
 obtain ⟨ts, hts, TX, hrow⟩ := hp.funcs
 have hfl := (List.getElem?_eq_some_iff.1 ik).1
 obtain ⟨t, ht⟩ := aN (l := ts) (i := (ae x g).top.fn.toNat) (by omega)
 obtain ⟨we, No⟩ := hrow _ t code ht ik
 obtain ⟨tA, tn, tc⟩ := t
 dsimp only at we No
 subst No
 refine ⟨hfn, by omega, ?_⟩
 obtain ⟨fb, fo, hfb⟩ := hts.some (by omega) (by decide)
 rw [hfb] at hts ⊢
 refine bp ?_
 refine Od (Src.at (hts.src (L := _)) h (i := (ae x g).top.fn.toNat) (j := 0) ht rfl (by simp [PR])) ?_
 dsimp only
 refine bp ?_
 refine vT h (di h2) rfl ?_
 refine aL.2 ⟨fun hge => ?_, fun hlt => ?_⟩
 ·cases hs with
  | out _ =>
   have h5 : Hp R (ax (be pa p gg dr) b x :: fact True :: L') M := (Hp.eJ.2 ⟨trivial, PW h⟩).swap
   exact zL h5 fun M' h' => k gg M' h'
  | pure i hi => have := (List.getElem?_eq_some_iff.1 hi).1; omega
  | zK i hi => have := (List.getElem?_eq_some_iff.1 hi).1; omega
  | PT i hi => have := (List.getElem?_eq_some_iff.1 hi).1; omega
  | dflt i fn hi => have := (List.getElem?_eq_some_iff.1 hi).1; omega
 refine bp ?_
 refine vT h (di h2) rfl ?_
 refine ⟨ug.1, by omega, ?_⟩
 obtain ⟨i, hi⟩ := aN (l := code) (i := (ae x g).top.pc.toNat) (by omega)
 obtain ⟨ib, io, rfl⟩ := we.some (by omega) (by decide)
 refine bp ?_
 refine br (Src.at (we.src (L := _)) h (i := (ae x g).top.pc.toNat) (j := 0) hi rfl (by simp [xD])) ?_
 refine br (Src.at (we.src (L := _)) h (i := (ae x g).top.pc.toNat) (j := 1) hi rfl (by show _ = io + (_ * 4 + 1); omega)) ?_
 refine br (Src.at (we.src (L := _)) h (i := (ae x g).top.pc.toNat) (j := 2) hi rfl (by show _ = io + (_ * 4 + 2); omega)) ?_
 refine br (Src.at (we.src (L := _)) h (i := (ae x g).top.pc.toNat) (j := 3) hi rfl (by show _ = io + (_ * 4 + 3); omega)) ?_
 have hpure : i.jZ ∧ 0 ≤ i.op ∨ 8 < i.op := by
  cases hs with
  | out h => omega
  | pure j hj a1 a2 a3 => rw [hi] at hj; cases hj; exact .inl ⟨a3, a1⟩
  | zK j hj a1 => rw [hi] at hj; cases hj; exact .inr (by omega)
  | PT j hj a1 => rw [hi] at hj; cases hj; exact .inr (by omega)
  | dflt j fn hj a1 => rw [hi] at hj; cases hj; exact .inr a1
 have hok : i.jZ ∧ 0 ≤ i.op := by
  rcases hpure with h | h
  ·exact h
  ·exact ⟨⟨fun h => by simp at h; omega, fun h => by omega, fun h => by simp at h; omega⟩, by omega⟩
 refine aj h ?_
 clear h; intro ki M h
 refine aq h ?_
 clear h; intro M h
 refine aq h ?_
 clear h; intro M h
 refine aq h ?_
 clear h; intro M h
 refine aq h ?_
 clear h; intro M h
 refine aH h (aH h (aH h (aH h ?_)))
 refine Df h (di h2) hok.1 hok.2 ug ?_ ?_
 ·intro h8 M' h'
  clear h
  have h := h'
  clear h'
  refine lX (af ?_)
  cases hs with
  | out h => omega
  | zK j hj a1 => rw [hi] at hj; cases hj; omega
  | PT j hj a1 => rw [hi] at hj; cases hj; omega
  | dflt j fn hj a1 => rw [hi] at hj; cases hj; omega
  | pure j hj a1 a2 a3 =>
   rw [hi] at hj; cases hj
   replace h := ck h gb hl eL dJ (by simp)
   have jW := cA (y := (ae x g).bS ((ae x g).top.next.pure i)) (g := g) hl
   have h5 := aM (a := a) (p := p) (pa := pa) (dr := dr) (gg := gg) (x := x.aY g ((ae x g).bS ((ae x g).top.next.pure i))) jW h b
   refine uV h5 ?_
   have e1 : (i.op == 12) = false := by simp; omega
   have e2 : (i.op == 17) = false := by simp; omega
   rw [e1, e2]
   exact k gg _ h5.bM
 ·intro h8 M' h'
  clear h
  have h := h'
  clear h'
  refine lX (ai ?_)
  refine aH h ?_
  refine bP.2 ⟨fun Er => ?_, fun Er => ?_⟩
  ·refine aH h (aH h (aH h (aH h ?_)))
   cases hs with
   | out h => omega
   | pure j hj a1 a2 a3 => rw [hi] at hj; cases hj; omega
   | dflt j fn hj a1 a2 => rw [hi] at hj; cases hj; omega
   | PT j hj a1 => rw [hi] at hj; cases hj; omega
   | zK j hj a1 hop =>
    rw [hi] at hj; cases hj
    replace h := ck h gb hl eL dJ
    have jW := cA (y := ae x g) (g := g) hl
    replace h := aM (a := a) (p := p) (pa := pa) (dr := dr) (gg := gg) (x := x.aY g (ae x g)) jW h b
    rw [sx h0 h1] at h
    refine hop gg b bs c M' _ _ _ h dJ ?_
    cases r with
    | on y =>
     intro jK M2 h
     refine ⟨rfl, uV h ?_⟩
     have e1 : (i.op == 12) = false := by simp; omega
     have e2 : (i.op == 17) = false := by simp; omega
     rw [e1, e2]
     exact k jK _ h.bM
    | dy n y =>
     intro jK M2 h
     exact zL h fun M3 h3 => k jK M3 h3
    | cG l y =>
     intro jK M2 h
     exact k jK M2 h.bM
  ·refine aH h ?_
   refine bP.2 ⟨fun QO => ?_, fun QO => ?_⟩
   ·refine aH h (aH h (aH h (aH h ?_)))
    cases hs with
    | out h => omega
    | pure j hj a1 a2 a3 => rw [hi] at hj; cases hj; omega
    | zK j hj a1 => rw [hi] at hj; cases hj; omega
    | dflt j fn hj a1 a2 a3 => rw [hi] at hj; cases hj; omega
    | PT j hj a1 hop =>
     rw [hi] at hj; cases hj
     replace h := ck h gb hl eL dJ
     have jW := cA (y := ae x g) (g := g) hl
     replace h := aM (a := a) (p := p) (pa := pa) (dr := dr) (gg := gg) (x := x.aY g (ae x g)) jW h b
     rw [sx h0 h1] at h
     refine hop gg b bs c M' _ _ _ h dJ ?_
     cases r with
     | on y =>
      intro jK M2 h
      refine ⟨rfl, uV h ?_⟩
      have e1 : (i.op == 12) = false := by simp; omega
      have e2 : (i.op == 17) = false := by simp; omega
      rw [e1, e2]
      exact k jK _ h.bM
     | dy n y =>
      intro jK M2 h
      exact zL h fun M3 h3 => k jK M3 h3
     | cG l y =>
      intro jK M2 h
      exact k jK M2 h.bM
   cases hs with
   | out h => omega
   | pure j hj a1 a2 a3 => rw [hi] at hj; cases hj; omega
   | zK j hj a1 => rw [hi] at hj; cases hj; omega
   | PT j hj a1 => rw [hi] at hj; cases hj; omega
   | dflt j fn hj a1 a2 a3 hf hn hop =>
    rw [hi] at hj; cases hj
    refine bp ?_
    refine vT h (di h2) rfl ?_
    refine bp ?_
    rw [g7 ug.1 (by omega)]
    refine vU h (di h2) rfl ?_
    clear h; intro M h
    refine aH h (aH h (aH h (aH h (aH h ?_))))
    refine BA h ?_
    clear h; intro mp M h
    refine ⟨bI (bz h) (bI (bz h) (bI (bz h) (bI (bz h) eA))), bz h, ?_⟩
    have hu : Tryz.prog.underlying 261 = some (.map 32 260) := by kernel_rfl
    have hkk : Tryz.prog.underlying 32 = some (.int .i64) := by kernel_rfl
    obtain ⟨ti, TW, Yf⟩ : ∃ ti, Tryz.prog.info? 260 = some ti ∧ ti.zero = some .nilFunc := ⟨_, rfl, rfl⟩
    refine Jg h hu hkk TW Yf ?_
    rw [hf]
    refine ⟨bI (bz h) (bI (bz h) (bI (bz h) (bI (bz h) eA))), bz h, ?_⟩
    refine Bp hn ?_
    replace h := ck h gb hl eL dJ (by simp)
    have jW := cA (y := (ae x g).bS (ae x g).top.next) (g := g) hl
    have h5 := aM (a := a) (p := p) (pa := pa) (dr := dr) (gg := gg) (x := x.next g) jW h b
    have h6 : Hp R (ax (be pa p gg dr) b (x.next g) :: pt ki [.int .i64 i.op, .int .i64 i.a, .int .i64 i.b, .int .i64 i.c] 34 :: L') M := h5.sub bQ
    clear h h5
    have hfl : (ae (x.next g) g).fs.length = (ae x g).fs.length := by
     unfold Wd.next; rw [fG h0 h1]; simp [dD.bS]
    have hc := hop gg b bs c M (fun La pX => (La = (.tuple #[])) ∧ ((Mem.gh pX ⟨ki, 0, none⟩ 0 4) = some [(.int .i64 i.op), (.int .i64 i.a), (.int .i64 i.b), (.int .i64 i.c)]) ∧ ((Mem.ld pX ⟨ki, 0, none⟩) = (some (.int .i64 i.op))) ∧
     aG (pX.ld ⟨ki, 0, none⟩) .i64 fun n => aQ (n == 12) (bZ Tryz.prog 119 (.pointer (some ⟨b, 0, none⟩)) K Kp (.bool true) .returning pX)
      (aG (pX.ld ⟨ki, 0, none⟩) .i64 fun n => bZ Tryz.prog 119 (.pointer (some ⟨b, 0, none⟩)) K Kp (.bool (n == 17)) .returning pX))
     (fun l M => bZ Tryz.prog 119 (.pointer (some ⟨b, 0, none⟩)) K Kp (.bool false) (.panicking l) M) _ h6 dJ ?_
    ·rw [hfl] at hc
     exact hc
    cases r with
    | on y =>
     intro jK M2 h
     exact ⟨rfl, bI (bz h) (bI (bz h) (bI (bz h) (bI (bz h) eA))), bz h, uV h (k jK _ h.bM)⟩
    | dy n y =>
     intro jK M2 h
     exact zL h fun M3 h3 => k jK M3 h3
    | cG l y =>
     intro jK M2 h
     exact k jK M2 h.bM
end
abbrev oF (pa : PA) (p : cf) (dr : Value) (a : WA) (x : Wd) (n : Nat) : List Value :=
 [.slice pa.f p.funcs.length pa.fc, .slice pa.c p.oA.length pa.cc, .int .i64 p.aP, .slice pa.k p.cases.length pa.kc, .slice a.ag a.gb.length a.cg, .int .u64 x.clock,
  .slice a.ac a.cb.length a.cc, .slice a.al a.lb.length a.cl, .slice a.ah x.hl.length a.ch, .int .u64 x.kz, .slice a.ao x.out.length a.co, .int .i64 x.end_, .int .i64 x.code, .slice a.ar n a.cr, dr]
abbrev tv (a : WA) (x : Wd) (L : List HP) : List HP :=
 vV a.ag a.cg a.gb :: vW a.ac a.cc a.cb :: aR bq a.cb x.az :: vX a.al a.cl a.lb :: aR eK a.lb x.aP :: eZ a.ah a.ch x.hl :: ry a.ao a.co x.out :: L
def bx (pa : PA) (p : cf) : qH Wd := ⟨fun b x => exs fun q : WA × List GA × Value × Nat =>
 sep (pt b (oF pa p q.2.2.1 q.1 x q.2.2.2) 164 :: aR eP q.1.gb (x.gs.zip q.2.1) :: fact (dO q.2.1 q.1 x) :: tv q.1 x [])⟩
section
variable {R : Mem} {L L' L2 : List HP} {M : Mem} {K : Value → Mem → Prop} {Kp : List PanicEntry → Mem → Prop} {pa : PA} {p : cf} {gg : List GA} {dr : Value} {b : Nat} {x : Wd} {g : Int}
class EC (b : Nat) (L : List HP) (pa : outParam PA) (p : outParam cf) (x : outParam Wd) (L' : outParam (List HP)) : Prop where
 pick : cu L (ax (bx pa p) b x) L'
instance EC.here : EC b (ax (bx pa p) b x :: L) pa p x L := ⟨.here⟩
instance (priority := low) EC.there {Q : HP} [h : EC b L pa p x L'] : EC b (Q :: L) pa p x (Q :: L') := ⟨.there h.pick⟩
theorem dF (h : Hp R L M) [o : EC b L pa p x L'] : ∃ (a : WA) (gg : List GA) (dr : Value) (n : Nat), dO gg a x ∧ Hp R (pt b (oF pa p dr a x n) 164 :: aR eP a.gb (x.gs.zip gg) :: tv a x L') M := by
 have := h.pick o.pick
 unfold ax at this
 simp only [bx, tv, Hp.cX, Hp.aO, List.cons_append, List.nil_append] at this
 obtain ⟨⟨a, gg, dr, n⟩, h⟩ := this
 have h2 := h.pick (P := fact (dO gg a x)) (.there (.there .here))
 exact ⟨a, gg, dr, n, (Hp.eJ.1 h2).1, (Hp.eJ.1 h2).2⟩
theorem jL {a : WA} {n : Nat} (hl : dO gg a x) (h : Hp R (pt b (oF pa p dr a x n) 164 :: aR eP a.gb (x.gs.zip gg) :: tv a x L) M) : Hp R (ax (bx pa p) b x :: L) M := by
 refine Hp.uu ?_
 simp only [bx, tv, Hp.cX, Hp.aO, List.cons_append, List.nil_append]
 refine ⟨(a, gg, dr, n), ?_⟩
 have h2 : Hp R (fact (dO gg a x) :: pt b (oF pa p dr a x n) 164 :: aR eP a.gb (x.gs.zip gg) :: tv a x L) M := Hp.eJ.2 ⟨hl, h⟩
 exact h2.lu (.there (.there .here))
def dg (x : Wd) (g : Int) (rest : Bool) : Bool := !rest && x.end_ == 0 && (ae x g).st == 1
def yL (l l' : List PanicEntry) : Prop := ∀ (b : Nat) (v : Value) (M : Mem) (K : Value → Mem → Prop) (Kp : List PanicEntry → Mem → Prop), Kp l' M → bZ Tryz.prog 119 (.pointer (some ⟨b, 0, none⟩)) K Kp v (.panicking l) M
def oG (R : Mem) (pa : PA) (p : cf) (b : Nat) (g : Int) (L2 : List HP) (K : Value → Mem → Prop) (Kp : List PanicEntry → Mem → Prop) (r : Out Wd) (rest : Bool) : Prop := match r with
 | .cG l y => ∃ l', yL l l' ∧ ∀ M', Hp R (ax (bx pa p) b y :: L2) M' → Kp l' M'
 | .on y => ∀ R' A c M', R.le R' → RS bN R' A c y.ready → Hp R' (ax (bx pa p) b y :: L2) M' → K (.agg #[.bool (dg y g rest), .slice A y.ready.length c]) M'
 | .dy n y => ∀ R' A c M', R.le R' → RS bN R' A c y.ready → Hp R' (ax (bx pa p) b { y with end_ := 2, code := n } :: L2) M' → K (.agg #[.bool (dg { y with end_ := 2, code := n } g rest), .slice A y.ready.length c]) M'
theorem Jw.of {r : Out Wd} {rest : Bool} (hd : ¬ ∃ l y, r = .cG l y) (k : ∀ jK M', Hp R (ax (be pa p jK dr) b r.fin :: L2) M' → K (.bool rest) M') : Jw R pa p dr b L2 K Kp r rest := by
 cases r with
 | on y => exact k
 | dy n y => exact k
 | cG l y => exact absurd ⟨l, y, rfl⟩ hd
theorem oG.get {r : Out Wd} {rest : Bool} (hd : ¬ ∃ l y, r = .cG l y) (k : oG R pa p b g L2 K Kp r rest) :
  ∀ R' A c M', R.le R' → RS bN R' A c r.fin.ready → Hp R' (ax (bx pa p) b r.fin :: L2) M' → K (.agg #[.bool (dg r.fin g rest), .slice A r.fin.ready.length c]) M' := by
 cases r with
 | on y => exact k
 | dy n y => exact k
 | cG l y => exact absurd ⟨l, y, rfl⟩ hd
theorem Dz {code : List cQ} {r : Out Wd} {rest : Bool} (h : Hp R L M) [o : EC b L pa p x L'] (hp : mH R pa p) (hg : aS x g) (he : x.end_ = 0) (hst : (ae x g).st = 1)
  (hfn : 0 ≤ (ae x g).top.fn) (ik : p.funcs[(ae x g).top.fn.toNat]? = some code)
  (ug : 0 ≤ (ae x g).top.pc ∧ (ae x g).top.pc < 1000000000) (wg : ∃ f c d, dr = .func f c d) (hs : ∀ Q, Step R pa p dr { x with ready := [] } g code r rest (Q :: L') (Q :: L2)) (hlen : g < r.fin.gs.length)
  (k : oG R pa p b g L2 K Kp r rest) :
  aa Tryz.prog 41 #[.pointer (some ⟨b, 0, none⟩), .int .i64 g, dr] M K Kp := by
 refine iF ?_
 have zH := hg
 obtain ⟨h0, h1, h2, h3⟩ := zH
 refine aj h ?_
 clear h
 intro kb M h
 have h' := dF h (b := b)
 clear h
 obtain ⟨a, gg, dr0, n0, hl, h⟩ := h'
 have hl' := hl
 obtain ⟨l1, l2, l3, l4⟩ := hl'
 refine aL.2 ⟨fun hn => by omega, fun _ => ?_⟩
 refine bl h ?_
 refine aL.2 ⟨fun hn => by omega, fun _ => ?_⟩
 refine aH h ?_
 refine eo.2 ⟨fun hn => absurd he hn, fun _ => ?_⟩
 refine bl h ?_
 refine ⟨h0, by omega, ?_⟩
 obtain ⟨gb, eL⟩ := aN (l := a.gb) (i := g.toNat) (by omega)
 refine sC h eL fun q hq => ?_
 obtain ⟨ga, PX⟩ := aN (l := gg) (i := g.toNat) (by omega)
 obtain ⟨y, hy⟩ := aN (l := x.gs) (i := g.toNat) (by omega)
 have ey : ae x g = y := by simp [ae, hy]
 rw [ey] at hst
 refine bp ?_
 have Jx : M.ld ⟨gb, 0, none⟩ = some (.int .i64 y.st) := by
  have h9 := kD (b := gb) (h.cz eP eL (lN hy PX))
  exact bz h9
 rw [Jx]
 refine cF ?_
 refine eo.2 ⟨fun hn => absurd hst hn, fun _ => ?_⟩
 refine aq h ?_
 clear h Jx; intro M h
 have Yl : ∀ X : Prop, X → xQ dr X := by
  obtain ⟨f, c, d, rfl⟩ := wg
  intro X hX; exact hX
 refine Yl _ ?_
 refine aq h ?_
 clear h; intro M h
 have h4 := h.cw bN 3
 have h5 : Hp R (ax (be pa p gg dr) b { x with ready := [] } :: pt kb [.bool false, .slice none 0 0] 120 :: L') M := ig (a := { a with ar := none, cr := 0 }) (x := { x with ready := [] }) hl (h4.sub bQ)
 clear h h4
 by_cases DA : ∃ l y, r = .cG l y
 ·obtain ⟨l, y, rfl⟩ := DA
  refine BB (b := b) (x := { x with ready := [] }) h5 hp hg hfn ik ug (hs _) ?_
  clear h5
  intro jK M h
  obtain ⟨l', Ym, k⟩ := k
  refine Ym _ _ _ _ _ (k _ ?_)
  have h' := bU h (b := b)
  clear h
  obtain ⟨a2, jW, h⟩ := h'
  exact jL (a := a2) (n := y.ready.length) (gg := jK) (dr := dr) jW (h.sub bQ)
 refine BB (b := b) (x := { x with ready := [] }) h5 hp hg hfn ik ug (hs _) (.of DA ?_)
 clear h5
 intro jK M h
 replace k := oG.get DA k
 generalize r.fin = z at h k hlen
 have h' := bU h (b := b)
 clear h
 obtain ⟨a2, jW, h⟩ := h'
 have PL := jW
 obtain ⟨m1, m2, m3, m4⟩ := PL
 have fin : ∀ t : Bool, t = dg z g rest → aF M ⟨kb, 0, none⟩ (.bool t) fun OD =>
    aF OD ⟨kb, (0 + 1), none⟩ (.slice a2.ar z.ready.length a2.cr) fun yx =>
    c6 (Mem.ld yx ⟨kb, 0, none⟩) fun t60 =>
    aC (Mem.ld yx ⟨kb, (0 + 1), none⟩) fun R0 R7 Nd =>
    K (.agg #[(.bool t60), (.slice R0 R7 Nd)]) yx := by
  intro t ht
  refine aq h ?_
  clear h; intro M h
  refine aq h ?_
  clear h; intro M h
  refine Ea h (bl h ?_)
  obtain ⟨R', hle, uh, h6⟩ := h.iK a2.ar
  subst ht
  exact k R' _ _ _ hle uh (jL (a := a2) (n := z.ready.length) (gg := jK) (dr := dr) jW (h6.sub bQ))
 refine lX ?_
 cases rest with
 | true =>
  refine ai ?_
  refine bl h ?_
  exact fin false (by simp [dg])
 | false =>
  refine af ?_
  refine aH h ?_
  refine bP.2 ⟨fun e0 => ?_, fun e0 => ?_⟩
  ·refine bl h ?_
   refine ⟨h0, by omega, ?_⟩
   obtain ⟨Zp, SQ⟩ := aN (l := a2.gb) (i := g.toNat) (by omega)
   refine sC h SQ fun q2 oB => ?_
   obtain ⟨ga2, Yn⟩ := aN (l := jK) (i := g.toNat) (by omega)
   obtain ⟨y2, Zq⟩ := aN (l := z.gs) (i := g.toNat) (by omega)
   have ey2 : ae z g = y2 := by simp [ae, Zq]
   refine bp ?_
   have Jx : M.ld ⟨Zp, 0, none⟩ = some (.int .i64 y2.st) := by
    have h9 := kD (b := Zp) (h.cz eP SQ (lN Zq Yn))
    exact bz h9
   rw [Jx]
   refine cF ?_
   refine bl h ?_
   exact fin (y2.st == 1) (by simp [dg, e0, ey2])
  ·refine bl h ?_
   have : (z.end_ == 0) = false := by simpa using e0
   exact fin false (by simp [dg, this])
end
section
variable {R : Mem} {L L' L2 : List HP} {M : Mem} {K : Value → Mem → Prop} {Kp : List PanicEntry → Mem → Prop} {pa : PA} {p : cf} {gg : List GA} {dr : Value} {b : Nat} {x : Wd} {g : Int}
theorem Gc (h : Hp R L M) [o : EC b L pa p x L'] (k : K (.tuple #[.int .i64 x.end_, .int .i64 x.code]) M) : aa Tryz.prog 60 #[.pointer (some ⟨b, 0, none⟩)] M K Kp := by
 refine qc ?_
 have h' := dF h (b := b)
 clear h
 obtain ⟨a, gg, dr, n, hl, h⟩ := h'
 refine aH h (aH h ?_)
 exact k
theorem zM (h : Hp R L M) [o : EC b L pa p x L'] (h0 : 0 ≤ g) (h1 : g < x.gs.length) (k : K (.int .i64 (ae x g).st) M) : aa Tryz.prog 65 #[.pointer (some ⟨b, 0, none⟩), .int .i64 g] M K Kp := by
 refine mw ?_
 have h' := dF h (b := b)
 clear h
 obtain ⟨a, gg, dr, n, hl, h⟩ := h'
 have hl' := hl
 obtain ⟨l1, l2, l3, l4⟩ := hl'
 refine aL.2 ⟨fun hn => by omega, fun _ => ?_⟩
 refine bl h ?_
 refine aL.2 ⟨fun hn => by omega, fun _ => ?_⟩
 refine bl h ?_
 refine ⟨h0, by omega, ?_⟩
 obtain ⟨gb, eL⟩ := aN (l := a.gb) (i := g.toNat) (by omega)
 refine sC h eL fun q hq => ?_
 obtain ⟨ga, PX⟩ := aN (l := gg) (i := g.toNat) (by omega)
 obtain ⟨y, hy⟩ := aN (l := x.gs) (i := g.toNat) (by omega)
 have ey : ae x g = y := by simp [ae, hy]
 rw [ey] at k
 refine bp ?_
 have Jx : M.ld ⟨gb, 0, none⟩ = some (.int .i64 y.st) := by
  have h9 := kD (b := gb) (h.cz eP eL (lN hy PX))
  exact bz h9
 rw [Jx]
 exact cF k
theorem Gd (h : Hp R L M) [o : EC b L pa p x L'] (hs : x.out.length ≤ 1000000) (k : ∀ A c M', Hp R (ry A c x.out :: L) M' → K (.slice A x.out.length c) M') : aa Tryz.prog 22 #[.pointer (some ⟨b, 0, none⟩)] M K Kp := by
 refine qd ?_
 refine aj h ?_
 clear h; intro kb M h
 have hC := h
 have h' := dF h (b := b)
 clear h
 obtain ⟨a, gg, dr, n, hl, h⟩ := h'
 refine bl h ?_
 have hsrc : Sl M a.ao (bN.cells x.out) := (h.src (A := a.ao)) M h
 clear h
 have TZ : Hp R (ct bN 2 (some ⟨kb, 0, none⟩) ([] : List Int).length [] :: L) M := hC.gZ rfl
 refine Hp.De TZ (l := []) vD hsrc rfl (by simp; omega) ?_
 clear hC TZ hsrc
 intro A' c' M h
 exact aW (k _ _ _ h)
end
def Wd.new (p : cf) : Wd := ⟨[⟨1, [e7.begin 0 0], .zero⟩], 0, p.oA.map aK.new, List.replicate p.aP.toNat ⟨-1, []⟩, [], 0, [], 0, 0, []⟩
theorem Np : bu Tryz.prog 159 183 1 8 [.pointer none] := bu.mk' (zv := .pointer none) (by kernel_rfl) (by kernel_rfl) rfl (by omega)
theorem Nq : bu Tryz.prog 160 185 1 8 [.pointer none] := bu.mk' (zv := .pointer none) (by kernel_rfl) (by kernel_rfl) rfl (by omega)
section
variable {R : Mem} {L L' L2 : List HP} {M : Mem} {K : Value → Mem → Prop} {Kp : List PanicEntry → Mem → Prop} {pa : PA} {p : cf} {gg : List GA} {dr : Value} {b : Nat} {x : Wd} {g : Int}
theorem Jy {j : Nat} {q A' : Nat} {c' : Nat} {v : Int} {a : WA} {n k : Nat} {Ac : Option Addr} {Q : List HP} (hl : dO gg a x)
  (h : Hp R (pt b (oF pa p dr { a with ac := Ac, cc := c', cb := a.cb ++ [k] } x n) 164 :: vW Ac c' (a.cb ++ [k]) :: ax bq k (aK.new v) :: aR bq a.cb x.az :: aR eP a.gb (x.gs.zip gg) :: vV a.ag a.cg a.gb :: vX a.al a.cl a.lb :: aR eK a.lb x.aP :: eZ a.ah a.ch x.hl :: ry a.ao a.co x.out :: Q) M) :
  Hp R (ax (bx pa p) b { x with az := x.az ++ [aK.new v] } :: Q) M := by
 obtain ⟨l1, l2, l3, l4⟩ := hl
 have h2 := h.iT bq k l3
 exact jL (a := { a with ac := Ac, cc := c', cb := a.cb ++ [k] }) (gg := gg) (dr := dr) (n := n) (x := { x with az := x.az ++ [aK.new v] }) ⟨l1, l2, by simp [l3], l4⟩ (h2.sub bQ)
theorem Jz {c' : Nat} {a : WA} {n k : Nat} {Ac : Option Addr} {Q : List HP} (hl : dO gg a x)
  (h : Hp R (pt b (oF pa p dr { a with al := Ac, cl := c', lb := a.lb ++ [k] } x n) 164 :: vX Ac c' (a.lb ++ [k]) :: ax eK k ⟨-1, []⟩ :: aR eK a.lb x.aP :: aR eP a.gb (x.gs.zip gg) :: vV a.ag a.cg a.gb :: vW a.ac a.cc a.cb :: aR bq a.cb x.az :: eZ a.ah a.ch x.hl :: ry a.ao a.co x.out :: Q) M) :
  Hp R (ax (bx pa p) b { x with aP := x.aP ++ [⟨-1, []⟩] } :: Q) M := by
 obtain ⟨l1, l2, l3, l4⟩ := hl
 have h2 := h.iT eK k l4
 exact jL (a := { a with al := Ac, cl := c', lb := a.lb ++ [k] }) (gg := gg) (dr := dr) (n := n) (x := { x with aP := x.aP ++ [⟨-1, []⟩] }) ⟨l1, l2, l3, by simp [l4]⟩ (h2.sub bQ)
theorem Ge (h : Hp R L M) (xk : RS bN R pa.c pa.cc p.oA) (hc : p.oA.length ≤ 1000000) (hk : 0 ≤ p.aP ∧ p.aP ≤ 1000000)
  (k : ∀ b M', Hp R (ax (bx pa p) b (Wd.new p) :: L) M' → K (.pointer (some ⟨b, 0, none⟩)) M') :
  aa Tryz.prog 36 #[.agg #[.slice pa.f p.funcs.length pa.fc, .slice pa.c p.oA.length pa.cc, .int .i64 p.aP, .slice pa.k p.cases.length pa.kc]] M K Kp := by
 refine zw ?_
 repeat (first|(refine aj h ?_;clear h;intro kb M h)|(refine aq h ?_;clear h;intro M h)|refine St.to h ?_|(apply Exists.intro;(repeat apply Exists.intro);refine And.intro rfl ?_)|refine au ?_|refine af ?_|refine ai ?_)
 refine nG h ?_
 clear h
 intro bs M h
 repeat (first|(refine aj h ?_;clear h;intro kb M h)|(refine aq h ?_;clear h;intro M h)|refine St.to h ?_|(apply Exists.intro;(repeat apply Exists.intro);refine And.intro rfl ?_)|refine au ?_|refine af ?_|refine ai ?_)
 rename_i kp _ _ kr _ kw _
 replace h := kF h kr
 replace h := (h.rA eP).iT eP kr rfl
 replace h := (h.pt kw).gZ (E := jU) (l := [kr]) rfl
 replace h := (h.cw jU 183).rA bq
 replace h := (h.cw jU 185).rA eK
 replace h := (h.cw rF 205).cw bN 2
 have base : Hp R (ax (bx pa p) kb { Wd.new p with az := (p.oA.take 0).map aK.new, aP := [] } :: pt kp [.slice pa.f p.funcs.length pa.fc, .slice pa.c p.oA.length pa.cc, .int .i64 p.aP, .slice pa.k p.cases.length pa.kc] 41 :: L) _ :=
  jL (a := ⟨some ⟨kw, 0, none⟩, 1, [kr], none, 0, [], none, 0, [], none, 0, none, 0, none, 0⟩) (gg := [(some ⟨bs, 0, none⟩, 1)]) (dr := .nilFunc) (n := 0) (x := { Wd.new p with az := [], aP := [] }) ⟨rfl, rfl, rfl, rfl⟩ (h.sub bQ)
 clear h
 refine ⟨fun d vs M => ∃ j : Nat, vs = [.int .i64 (j : Int)] ∧ d = p.oA.length - j ∧ j ≤ p.oA.length ∧ Hp R (ax (bx pa p) kb { Wd.new p with az := (p.oA.take j).map aK.new, aP := [] } :: pt kp [.slice pa.f p.funcs.length pa.fc, .slice pa.c p.oA.length pa.cc, .int .i64 p.aP, .slice pa.k p.cases.length pa.kc] 41 :: L) M,
  ⟨_, 0, rfl, rfl, by omega, base⟩, ?_⟩
 clear base
 rintro d _ nn M ⟨j, he, hd, hj, h⟩
 simp only [List.cons.injEq, Value.int.injEq, and_true, true_and] at he
 subst he
 refine aL.2 ⟨fun hlt => ?_, fun hge => ?_⟩
 ·obtain ⟨v, hv⟩ := aN (l := p.oA) (i := j) (by omega)
  have SO : (p.oA.take (j + 1)).map aK.new = (p.oA.take j).map aK.new ++ [aK.new v] := by rw [dB hv, List.map_append]; rfl
  have GW : ((p.oA.take j).map aK.new).length ≤ 1000000 := by simp; omega
  rw [bk (by omega)]
  refine ⟨by omega, hlt, ?_⟩
  obtain ⟨cb, co, hcb⟩ := xk.some (by omega) (by decide)
  have SR := xk
  rw [hcb] at SR ⊢
  refine bp ?_
  simp only [Int.toNat_natCast]
  refine br (Src.at (SR.src (L := _)) h (i := j) (j := 0) hv rfl (by simp [bN])) ?_
  refine ⟨fun _ M => Hp R (ax (bx pa p) kb { Wd.new p with az := (p.oA.take j).map aK.new ++ [aK.new v], aP := [] } :: pt kp [.slice pa.f p.funcs.length pa.fc, .slice pa.c p.oA.length pa.cc, .int .i64 p.aP, .slice pa.k p.cases.length pa.kc] 41 :: L) M, ⟨?_, ?_, trivial⟩, ?_⟩
  ·have h' := dF h (b := kb)
   clear h
   obtain ⟨a, gg, dr, n, hl, h⟩ := h'
   have PY : a.cb.length = ((p.oA.take j).map aK.new).length := hl.2.2.1
   refine bl h ?_
   refine yq h ?_
   clear h
   intro kc M h
   repeat (first|(refine aj h ?_;clear h;intro kb M h)|(refine aq h ?_;clear h;intro M h)|refine St.to h ?_|(apply Exists.intro;(repeat apply Exists.intro);refine And.intro rfl ?_)|refine au ?_|refine af ?_|refine ai ?_)
   refine h.bE Np [kc] rfl rfl (by simp only [List.length_singleton]; omega) ?_
   clear h
   intro A' c' M h
   repeat (first|(refine aj h ?_;clear h;intro kb M h)|(refine aq h ?_;clear h;intro M h)|refine St.to h ?_|(apply Exists.intro;(repeat apply Exists.intro);refine And.intro rfl ?_)|refine au ?_|refine af ?_|refine ai ?_)
   exact Jy (j := j) (q := j) (A' := j) (a := a) (x := { Wd.new p with az := (p.oA.take j).map aK.new, aP := [] }) hl (h.sub bQ)
  ·have h' := dF h (b := kb)
   clear h
   obtain ⟨a, gg, dr, n, hl, h⟩ := h'
   have PY : a.cb.length = ((p.oA.take j).map aK.new).length := hl.2.2.1
   refine yq h ?_
   clear h
   intro kc M h
   repeat (first|(refine aj h ?_;clear h;intro kb M h)|(refine aq h ?_;clear h;intro M h)|refine St.to h ?_|(apply Exists.intro;(repeat apply Exists.intro);refine And.intro rfl ?_)|refine au ?_|refine af ?_|refine ai ?_)
   refine h.bE Np [kc] rfl rfl (by simp only [List.length_singleton]; omega) ?_
   clear h
   intro A' c' M h
   repeat (first|(refine aj h ?_;clear h;intro kb M h)|(refine aq h ?_;clear h;intro M h)|refine St.to h ?_|(apply Exists.intro;(repeat apply Exists.intro);refine And.intro rfl ?_)|refine au ?_|refine af ?_|refine ai ?_)
   exact Jy (j := j) (q := j) (A' := j) (a := a) (x := { Wd.new p with az := (p.oA.take j).map aK.new, aP := [] }) hl (h.sub bQ)
  ·clear h
   intro _ M h
   refine ⟨p.oA.length - (j + 1), by omega, j + 1, rfl, rfl, by omega, ?_⟩
   rw [SO, ← hcb]; exact h
 ·obtain rfl : j = p.oA.length := by omega
  rw [List.take_length] at h
  refine aH h ?_
  obtain ⟨nl, Yo⟩ := Int.eq_ofNat_of_zero_le hk.1
  refine ⟨fun d vs M => ∃ j : Nat, vs = [.int .i64 (j : Int)] ∧ d = nl - j ∧ j ≤ nl ∧ Hp R (ax (bx pa p) kb { Wd.new p with aP := List.replicate j ⟨-1, []⟩ } :: pt kp [.slice pa.f p.funcs.length pa.fc, .slice pa.c p.oA.length pa.cc, .int .i64 p.aP, .slice pa.k p.cases.length pa.kc] 41 :: L) M,
   ⟨_, 0, rfl, rfl, by omega, h⟩, ?_⟩
  clear h
  rintro d _ nn M ⟨j, he, hd, hj, h⟩
  simp only [List.cons.injEq, Value.int.injEq, and_true, true_and] at he
  subst he
  refine aL.2 ⟨fun hlt => ?_, fun hge => ?_⟩
  ·have SO : List.replicate (j + 1) (⟨-1, []⟩ : Lk) = List.replicate j ⟨-1, []⟩ ++ [⟨-1, []⟩] := List.replicate_succ'
   rw [bk (by omega)]
   refine ⟨fun _ M => Hp R (ax (bx pa p) kb { Wd.new p with aP := List.replicate j ⟨-1, []⟩ ++ [⟨-1, []⟩] } :: pt kp [.slice pa.f p.funcs.length pa.fc, .slice pa.c p.oA.length pa.cc, .int .i64 p.aP, .slice pa.k p.cases.length pa.kc] 41 :: L) M, ⟨?_, ?_, trivial⟩, ?_⟩
   ·have h' := dF h (b := kb)
    clear h
    obtain ⟨a, gg, dr, n, hl, h⟩ := h'
    have PY : a.lb.length = (List.replicate j (⟨-1, []⟩ : Lk)).length := hl.2.2.2
    rw [List.length_replicate] at PY
    refine bl h ?_
    refine yB h ?_
    clear h
    intro kc M h
    repeat (first|(refine aj h ?_;clear h;intro kb M h)|(refine aq h ?_;clear h;intro M h)|refine St.to h ?_|(apply Exists.intro;(repeat apply Exists.intro);refine And.intro rfl ?_)|refine au ?_|refine af ?_|refine ai ?_)
    refine h.bE Nq [kc] rfl rfl (by simp only [List.length_singleton]; omega) ?_
    clear h
    intro A' c' M h
    repeat (first|(refine aj h ?_;clear h;intro kb M h)|(refine aq h ?_;clear h;intro M h)|refine St.to h ?_|(apply Exists.intro;(repeat apply Exists.intro);refine And.intro rfl ?_)|refine au ?_|refine af ?_|refine ai ?_)
    exact Jz (a := a) (x := { Wd.new p with aP := List.replicate j ⟨-1, []⟩ }) hl (h.sub bQ)
   ·have h' := dF h (b := kb)
    clear h
    obtain ⟨a, gg, dr, n, hl, h⟩ := h'
    have PY : a.lb.length = (List.replicate j (⟨-1, []⟩ : Lk)).length := hl.2.2.2
    rw [List.length_replicate] at PY
    refine yB h ?_
    clear h
    intro kc M h
    repeat (first|(refine aj h ?_;clear h;intro kb M h)|(refine aq h ?_;clear h;intro M h)|refine St.to h ?_|(apply Exists.intro;(repeat apply Exists.intro);refine And.intro rfl ?_)|refine au ?_|refine af ?_|refine ai ?_)
    refine h.bE Nq [kc] rfl rfl (by simp only [List.length_singleton]; omega) ?_
    clear h
    intro A' c' M h
    repeat (first|(refine aj h ?_;clear h;intro kb M h)|(refine aq h ?_;clear h;intro M h)|refine St.to h ?_|(apply Exists.intro;(repeat apply Exists.intro);refine And.intro rfl ?_)|refine au ?_|refine af ?_|refine ai ?_)
    exact Jz (a := a) (x := { Wd.new p with aP := List.replicate j ⟨-1, []⟩ }) hl (h.sub bQ)
   ·clear h
    intro _ M h
    refine ⟨nl - (j + 1), by omega, j + 1, rfl, rfl, by omega, ?_⟩
    rw [SO]; exact h
  ·obtain rfl : j = nl := by omega
   have e : Wd.new p = { Wd.new p with aP := List.replicate j ⟨-1, []⟩ } := by unfold Wd.new; rw [Yo]; rfl
   rw [← e] at h
   exact k _ _ h.bM
end
def ay (p : cf) (i : cQ) : List oz := (p.cases.drop i.a.toNat).take i.b.toNat
def r9 (f : e7) : List Int := [f.r.getD 0 0, f.r.getD 1 0, f.r.getD 2 0, f.r.getD 3 0, f.r.getD 4 0, f.r.getD 5 0, f.r.getD 6 0, f.r.getD 7 0]
inductive gU where
 | num (d : Int)
 | cG (l : List PanicEntry)
def gJ (R : Mem) (dr : Value) (kind n : Int) (d : gU) (L L2 : List HP) : Prop := ∀ (Q : HP) (M : Mem) (K : Value → Mem → Prop) (Kp : List PanicEntry → Mem → Prop), Hp R (Q :: L) M →
 (match d with
  | .num v => ∀ M', Hp R (Q :: L2) M' → K (.int .i64 v) M'
  | .cG l => ∀ M', Hp R (Q :: L2) M' → Kp l M') → gy Cx dr [.int .i64 kind, .int .i64 n] M K Kp
def Wd.nK (p : cf) (x : Wd) (g : Int) (i : cQ) (k : Int) : Out Wd :=
 let c := (ay p i).getD k.toNat ⟨0, 0, 0⟩
 let x1 := x.next g
 if c.way = 1 then match x1.put p c.ch (aV x1 g c.bL) with
  | .dy n y => .dy n y
  | .cG l y => .cG l y
  | .on (y, _) => .on (y.aX g i.c k)
 else .on (((x1.get c.ch).1.aX g c.bL (x1.get c.ch).2.1).aX g i.c k)
def Wd.qx (p : cf) (x : Wd) (g : Int) (i : cQ) : Wd :=
 let x1 := x.next g
 match els (ay p i) with
  | some k => x1.aX g i.c (k : Int)
  | none => Wd.block { x1 with az := de g (r9 (ae x1 g).top) (ay p i) x1.az (ay p i).length } g i
def Wd.choose (p : cf) (x : Wd) (g : Int) (i : cQ) (d : gU) : Out Wd :=
 if enabled (ay p i) x.az = [] then .on (x.qx p g i)
 else match d with
  | .num v => x.nK p g i ((enabled (ay p i) x.az).getD v.toNat 0)
  | .cG l => .cG l x
section
variable {R : Mem} {L L' L2 : List HP} {M : Mem} {K : Value → Mem → Prop} {Kp : List PanicEntry → Mem → Prop} {pa : PA} {p : cf} {gg : List GA} {dr : Value} {b : Nat} {x : Wd} {g : Int} {i : cQ}
def sg (p : cf) (i : cQ) : Prop := 0 ≤ i.a ∧ 0 ≤ i.b ∧ i.a + i.b ≤ p.cases.length ∧ p.cases.length ≤ 1000
instance (p : cf) (i : cQ) : Decidable (sg p i) := by unfold sg; infer_instance
theorem BC (h : Hp R L M) [o : tj b L pa p gg dr x L'] (hp : mH R pa p) (hk : sg p i)
  (k : ∀ A c M', RS vF R A c (ay p i) → Hp R (ax (be pa p gg dr) b x :: L') M' → K (.slice A (ay p i).length c) M') :
  aa Tryz.prog 154 #[.pointer (some ⟨b, 0, none⟩), .agg #[.int .i64 i.op, .int .i64 i.a, .int .i64 i.b, .int .i64 i.c]] M K Kp := by
 refine nk ?_
 obtain ⟨a0, b0, hab, hl⟩ := hk
 have hcap := hp.cases.2
 refine aj h ?_
 clear h; intro kb M h
 have hC := h.drop.pick o.pick
 have h' := bU h (b := b)
 clear h
 obtain ⟨a, jW, h⟩ := h'
 refine bl h (aH h (aH h (aH h ?_)))
 rw [cD (by omega) (by omega)]
 refine ⟨by omega, by omega, by omega, by omega, by omega, by omega, ?_⟩
 have e : (ay p i).length = (i.a + i.b).toNat - i.a.toNat := by
  unfold ay
  rw [List.length_take, List.length_drop]; omega
 rw [← e]
 simp only [Int.toNat_natCast]
 exact k _ _ _ ((hp.cases.drop i.a.toNat (by omega)).take i.b.toNat) hC
theorem JA {bs j : Nat} {l : List e7} {f : e7} (hs : Src R L (some ⟨bs, 0, none⟩) (iM.cells l)) (hi : l[j]? = some f) : Src R L (kU (some ⟨bs, j * 11 + 2, none⟩) 0 8 1) (bN.cells (r9 f)) := by
 intro M h
 have e : kU (some ⟨bs, j * 11 + 2, none⟩) 0 8 1 = some ⟨bs, j * 11 + 2, none⟩ := by
  unfold kU; rw [if_neg (by omega)]; rfl
 rw [e]
 intro q hq
 have Zl : q < 8 := by simpa [bN, jv.cells, r9] using hq
 have e2 : j * 11 + 2 + q = 0 + (j * iM.z + (2 + q)) := by show _ = 0 + (j * 11 + (2 + q)); omega
 obtain rfl | rfl | rfl | rfl | rfl | rfl | rfl | rfl : q = 0 ∨ q = 1 ∨ q = 2 ∨ q = 3 ∨ q = 4 ∨ q = 5 ∨ q = 6 ∨ q = 7 := by omega
 all_goals exact Src.at hs h (i := j) hi rfl e2
theorem DB {bs c oo : Nat} {v : Int} {G : Mem → Prop} (h : Hp R L M) [o : tj b L pa p gg dr x L'] (hg : aS x g) (dJ : gg[g.toNat]? = some (some ⟨bs, 0, none⟩, c)) (e : oo = ((ae x g).fs.length - 1) * 11 + 1) (hv : v = (ae x g).top.pc + 1)
  (k : ∀ M', Hp R (ax (be pa p gg dr) b (x.next g) :: L') M' → G M') : aF M ⟨bs, oo, none⟩ (.int .i64 v) G := by
 subst hv
 obtain ⟨h0, h1, h2, h3⟩ := hg
 obtain ⟨a, gb, hl, eL, h4⟩ := fH h (b := b) h0 h1 dJ
 refine vU h4 (di h2) e fun M' h5 => ?_
 replace h5 := ck h5 gb hl eL dJ (by simp)
 exact k M' (aM (a := a) (p := p) (pa := pa) (dr := dr) (gg := gg) (x := x.next g) (cA hl) h5 b)
theorem DC {bs c oo : Nat} {G : Int → Prop} (h : Hp R L M) [o : tj b L pa p gg dr x L'] (hg : aS x g) (dJ : gg[g.toNat]? = some (some ⟨bs, 0, none⟩, c)) (e : oo = ((ae x g).fs.length - 1) * 11 + 1)
  (k : G (ae x g).top.pc) : aG (M.ld ⟨bs, oo, none⟩) .i64 G := by
 obtain ⟨h0, h1, h2, h3⟩ := hg
 obtain ⟨a, gb, hl, eL, h4⟩ := fH h (b := b) h0 h1 dJ
 exact vT h4 (di h2) e k
theorem wh (hg : aS x g) : ae (x.next g) g = (ae x g).bS (ae x g).top.next := fG hg.1 hg.2.1
theorem qy (hg : aS x g) : aS (x.next g) g := by
 have e := wh hg
 obtain ⟨h0, h1, h2, h3⟩ := hg
 refine ⟨h0, by simpa [Wd.next, Wd.aY] using h1, ?_, ?_⟩ <;> rw [e] <;> simpa [dD.bS]
theorem zN (hg : aS x g) : (ae (x.next g) g).fs.length = (ae x g).fs.length := by rw [wh hg]; simp [dD.bS]
theorem Gf {q v : Int} (hg : aS x g) : (ae (x.aX g q v) g).fs.length = (ae x g).fs.length := by rw [gF hg]; simp [dD.bS]
theorem LG (hs : x.Sm) : (x.next g).Sm := Ep hs
def BD (p : cf) (x : Wd) (g : Int) (i : cQ) (d : gU) : Prop := aS x g ∧ sg p i ∧ bn i.c ∧ x.Sm ∧ (ae x g).top.pc < 1000000000 ∧ 0 ≤ (ae x g).top.pc ∧ (∀ c ∈ ay p i, c.Ok x.az.length) ∧
 match enabled (ay p i) x.az, d with
 | [], _ => True
 | _, .cG _ => True
 | can, .num v => 0 ≤ v ∧ v < can.length ∧
  let k := can.getD v.toNat 0
  let c := (ay p i).getD k.toNat ⟨0, 0, 0⟩
  let x1 := x.next g
  0 ≤ k ∧ k < (ay p i).length ∧ bn c.bL ∧
  if c.way = 1 then l9 p x1 c.ch (aV x1 g c.bL) ∧ (match x1.put p c.ch (aV x1 g c.bL) with
   | .on (y, _) => aS y g ∧ (ae y g).fs.length = (ae x g).fs.length
   | _ => True)
  else r6 x1 c.ch ∧ aS (x1.get c.ch).1 g ∧ (ae (x1.get c.ch).1 g).fs.length = (ae x g).fs.length
theorem Gg {d : gU} (hp : mH R pa p) (hk : BD p x g i d) (hd : if enabled (ay p i) x.az = [] then L2 = L else gJ R dr 3 ((enabled (ay p i) x.az).length : Int) d L L2) :
  eR R pa p dr 122 x g i (x.choose p g i d) L L2 := by
 intro gg b bs c M K Kp Q h dJ k
 obtain ⟨hg, hcs, LH, hs, ug, LI, hok, hk⟩ := hk
 have zH := hg
 obtain ⟨h0, h1, h2, h3⟩ := zH
 have hs' := hs
 obtain ⟨s1, s2, s3, s4, s5, s6, s7, s8⟩ := hs'
 have PW : (ay p i).length ≤ 1000 := by
  obtain ⟨_, _, _, hl⟩ := hcs
  unfold ay
  rw [List.length_take, List.length_drop]; omega
 refine my ?_
 refine aj h ?_
 clear h; intro k1 M h
 refine aH h (aH h (aH h (aH h ?_)))
 refine BC (b := b) h hp hcs ?_
 clear h; intro A ca M hA h
 refine aW ?_
 unfold Wd.choose at k
 have Zr : ∀ {X : HP} {M : Mem} {L3 : List HP}, Hp R (ax (be pa p gg dr) b x :: L3) M → ∀ (K1 : Value → Mem → Prop), (∀ A' c' M', Hp R (jA A' c' (enabled (ay p i) x.az) :: ax (be pa p gg dr) b x :: L3) M' → K1 (.slice A' (enabled (ay p i) x.az).length c') M') →
   aC (M.ld ⟨b, 0 + 6, none⟩) fun w8 dx iB => aa Tryz.prog 155 #[.slice A (ay p i).length ca, .slice w8 dx iB] M K1 Kp := by
  intro X M L3 h K1 k1
  have h' := bU h (b := b)
  clear h
  obtain ⟨a, hl, h⟩ := h'
  have hl' := hl
  obtain ⟨l1, l2, l3, l4⟩ := hl'
  refine bl h ?_
  refine xC h (hA.src) (Src.row (A := a.ac)) rfl rfl (by omega) l3 hok ?_
  clear h; intro A' c' M h
  exact k1 _ _ _ ((aM (a := a) (p := p) (pa := pa) (dr := dr) (gg := gg) (x := x) hl h b).swap)
 refine Zr (X := Q) h _ ?_
 clear h Zr; intro A2 c2 M h
 refine aW ?_
 by_cases hcan : enabled (ay p i) x.az = []
 ·rw [if_pos hcan] at k hd
  subst hd
  rw [hcan] at h ⊢
  refine af ?_
  unfold Wd.qx at k
  dsimp only at k
  refine DC (b := b) h hg dJ rfl ?_
  rw [g7 LI (by omega)]
  refine DB (b := b) h hg dJ rfl rfl ?_
  clear h; intro M h
  have Gh := qy hg
  have Hx := zN hg
  refine CW h hA.src rfl (by omega) ?_
  clear h; intro M h
  refine ⟨_, _, rfl, ?_⟩
  cases he : els (ay p i) with
  | some q =>
   rw [he] at k
   dsimp only at k ⊢
   refine af ?_
   refine aH h ?_
   refine ⟨LH.1, LH.2, ?_⟩
   refine jJ (b := b) h Gh dJ LH (by rw [Hx]) ?_
   clear h; intro M h
   exact k _ _ (h.sub bQ)
  | none =>
   rw [he] at k
   dsimp only at k ⊢
   refine ai ⟨by decide, by decide, by decide, by decide, by decide, by decide, ?_⟩
   have w4 := Gh
   obtain ⟨g0, g1, g2, g3⟩ := w4
   have h' := fH h (b := b) g0 g1 dJ
   clear h
   obtain ⟨a, gb, hl, eL, h⟩ := h'
   have hl' := hl
   obtain ⟨l1, l2, l3, l4⟩ := hl'
   refine bl h ?_
   refine CY (eD := r9 (ae (x.next g) g).top) h hA.src (Src.row (A := a.ac)) ?_ rfl rfl rfl rfl (by omega) l3 hok (fun c hc => s1 c hc) ?_
   ·have e9 : ∀ {L9 : List HP}, Src R L9 (some ⟨bs, 0, none⟩) (iM.cells (ae (x.next g) g).fs) → Src R L9 (kU (some ⟨bs, ((ae x g).fs.length - 1) * 11 + 2, none⟩) 0 8 1) (bN.cells (r9 (ae (x.next g) g).top)) := fun hs => by
     have := JA hs (di g2)
     rwa [Hx] at this
    exact e9 Src.row
   clear h; intro M h
   refine ⟨rfl, ?_⟩
   refine aH h (aH h (aH h (aH h ?_)))
   replace h := ck h gb hl eL dJ
   have jW := cA (y := ae (x.next g) g) (g := g) hl
   have Yp : ∀ x' : Wd, x' = { (x.next g).aY g (ae (x.next g) g) with az := de g (r9 (ae (x.next g) g).top) (ay p i) x.az (ay p i).length } → dO gg a x' := by
    rintro _ rfl
    obtain ⟨m1, m2, m3, m4⟩ := jW
    exact ⟨m1, m2, by show _ = List.length _; rw [jh]; exact l3, m4⟩
   replace h := aM (a := a) (p := p) (pa := pa) (dr := dr) (gg := gg) (x := { (x.next g).aY g (ae (x.next g) g) with az := de g (r9 (ae (x.next g) g).top) (ay p i) x.az (ay p i).length }) (Yp _ rfl) h b
   rw [sx g0 g1] at h
   refine jI (b := b) (i := i) (x := { x.next g with az := de g (r9 (ae (x.next g) g).top) (ay p i) x.az (ay p i).length }) h g0 g1 ?_
   clear h; intro M h
   exact ⟨rfl, k _ _ (h.sub bQ)⟩
 rw [if_neg hcan] at k hd
 have SS : 0 < (enabled (ay p i) x.az).length := by
  cases hh : enabled (ay p i) x.az with
  | nil => exact absurd hh hcan
  | cons _ _ => simp
 refine CJ (by simp; omega) ?_
 have wg : M.ld ⟨b, 0 + 14, none⟩ = some dr := by
  obtain ⟨a, hl, h9⟩ := bU h (b := b)
  exact bz h9
 rw [wg]
 refine HN ?_
 have h5 : Hp R (sep [jA A2 c2 (enabled (ay p i) x.az), ax (be pa p gg dr) b x, pt k1 [.int .i64 i.op, .int .i64 i.a, .int .i64 i.b, .int .i64 i.c] 34, Q] :: L) M := Hp.aO.2 (h.sub bQ)
 refine hd _ _ _ _ h5 ?_
 clear h h5 wg
 cases d with
 | cG l =>
  dsimp only at k ⊢
  intro M h5
  have h : Hp R (jA A2 c2 (enabled (ay p i) x.az) :: ax (be pa p gg dr) b x :: pt k1 [.int .i64 i.op, .int .i64 i.a, .int .i64 i.b, .int .i64 i.c] 34 :: Q :: L2) M := Hp.aO.1 h5
  exact k _ _ (h.sub bQ)
 | num v =>
  dsimp only at k ⊢
  intro M h5
  have h : Hp R (jA A2 c2 (enabled (ay p i) x.az) :: ax (be pa p gg dr) b x :: pt k1 [.int .i64 i.op, .int .i64 i.a, .int .i64 i.b, .int .i64 i.c] 34 :: Q :: L2) M := Hp.aO.1 h5
  clear h5
  have Zs : 0 ≤ v ∧ v < (enabled (ay p i) x.az).length ∧
    0 ≤ (enabled (ay p i) x.az).getD v.toNat 0 ∧ (enabled (ay p i) x.az).getD v.toNat 0 < (ay p i).length ∧ bn ((ay p i).getD ((enabled (ay p i) x.az).getD v.toNat 0).toNat ⟨0, 0, 0⟩).bL ∧
    if ((ay p i).getD ((enabled (ay p i) x.az).getD v.toNat 0).toNat ⟨0, 0, 0⟩).way = 1 then l9 p (x.next g) ((ay p i).getD ((enabled (ay p i) x.az).getD v.toNat 0).toNat ⟨0, 0, 0⟩).ch (aV (x.next g) g ((ay p i).getD ((enabled (ay p i) x.az).getD v.toNat 0).toNat ⟨0, 0, 0⟩).bL) ∧
     (match (x.next g).put p ((ay p i).getD ((enabled (ay p i) x.az).getD v.toNat 0).toNat ⟨0, 0, 0⟩).ch (aV (x.next g) g ((ay p i).getD ((enabled (ay p i) x.az).getD v.toNat 0).toNat ⟨0, 0, 0⟩).bL) with
      | .on (y, _) => aS y g ∧ (ae y g).fs.length = (ae x g).fs.length
      | _ => True)
    else r6 (x.next g) ((ay p i).getD ((enabled (ay p i) x.az).getD v.toNat 0).toNat ⟨0, 0, 0⟩).ch ∧ aS ((x.next g).get ((ay p i).getD ((enabled (ay p i) x.az).getD v.toNat 0).toNat ⟨0, 0, 0⟩).ch).1 g ∧ (ae ((x.next g).get ((ay p i).getD ((enabled (ay p i) x.az).getD v.toNat 0).toNat ⟨0, 0, 0⟩).ch).1 g).fs.length = (ae x g).fs.length := by
   revert hk
   cases hh : enabled (ay p i) x.az with
   | nil => exact absurd hh hcan
   | cons a l => exact fun hk => hk
  clear hk hcan hd
  generalize Zt : enabled (ay p i) x.az = can at h k Zs SS ⊢
  obtain ⟨v0, v1, q0, q1, Nr, PZ⟩ := Zs
  refine cF ⟨v0, v1, ?_⟩
  obtain ⟨ab, rfl⟩ := h.bt (A := A2) SS (by decide)
  refine bp ?_
  obtain ⟨q, hq⟩ := aN (l := can) (i := v.toNat) (by omega)
  have hqe : can.getD v.toNat 0 = q := by simp [hq]
  rw [hqe] at k q0 q1 Nr PZ
  refine br (Src.at (h.src (A := some ⟨ab, 0, none⟩)) h (i := v.toNat) (j := 0) hq rfl (by simp [bN])) ?_
  unfold Wd.nK at k
  dsimp only at k
  obtain ⟨cc, QS⟩ := aN (l := ay p i) (i := q.toNat) (by omega)
  have hce : (ay p i).getD q.toNat ⟨0, 0, 0⟩ = cc := by simp [QS]
  rw [hce] at k Nr PZ
  refine DC (b := b) h hg dJ rfl ?_
  rw [g7 LI (by omega)]
  refine DB (b := b) h hg dJ rfl rfl ?_
  clear h; intro M h
  have Gh := qy hg
  have Hx := zN hg
  have sI : (x.next g).Sm := LG hs
  generalize zO : x.next g = x1 at h k PZ Gh Hx sI
  refine ⟨q0, q1, ?_⟩
  obtain ⟨cb, co, rfl⟩ := hA.some (by omega) (by decide)
  refine bp ?_
  refine br (Src.at (hA.src (L := _)) h (i := q.toNat) (j := 0) QS rfl (by simp [vF])) ?_
  refine br (Src.at (hA.src (L := _)) h (i := q.toNat) (j := 1) QS rfl (by show _ = co + (_ * 3 + 1); omega)) ?_
  refine br (Src.at (hA.src (L := _)) h (i := q.toNat) (j := 2) QS rfl (by show _ = co + (_ * 3 + 2); omega)) ?_
  refine aj h ?_
  clear h; intro kc M h
  refine aq h ?_
  clear h; intro M h
  refine aq h ?_
  clear h; intro M h
  refine aq h ?_
  clear h; intro M h
  refine aH h ?_
  refine bP.2 ⟨fun e1 => ?_, fun e1 => ?_⟩
  ·rw [if_pos e1] at k PZ
   obtain ⟨hput, hy⟩ := PZ
   refine aH h (aH h ⟨Nr.1, Nr.2, ?_⟩)
   refine Bt (b := b) h Gh dJ Nr (by rw [Hx]) ?_
   refine yC (b := b) h hp.cases hput sI ?_ ?_
   ·clear h
    intro y ok M e h
    rw [e] at k hy
    dsimp only at k hy
    refine lX ?_
    refine aH h ⟨LH.1, LH.2, ?_⟩
    refine jJ (b := b) h hy.1 dJ LH (by rw [hy.2]) ?_
    clear h; intro M h
    exact k _ _ (h.sub bQ)
   ·clear h
    intro y n M e h
    rw [e] at k
    exact k _ _ (h.sub bQ)
  ·rw [if_neg e1] at k PZ
   obtain ⟨PK, Ad, hfl⟩ := PZ
   refine aH h (aH h ?_)
   refine yD (b := b) h PK sI ?_
   clear h; intro M h
   generalize x1.get cc.ch = r at h k Ad hfl
   obtain ⟨y, w, sm, ok⟩ := r
   dsimp only at h k Ad hfl ⊢
   refine ⟨_, _, _, rfl, bz h, Nr.1, Nr.2, ?_⟩
   refine jJ (b := b) h Ad dJ Nr (by rw [hfl]) ?_
   clear h; intro M h
   refine ⟨bz h, aH h ⟨LH.1, LH.2, ?_⟩⟩
   refine jJ (b := b) h (gG Ad) dJ LH (by rw [Gf Ad, hfl]) ?_
   clear h; intro M h
   exact k _ _ (h.sub bQ)
end
def bh.before (a b : bh) : Bool := decide (a.t < b.t) || (a.t == b.t && decide (a.seq < b.seq))
def lQ (l : List bh) (i : Nat) : bh := l.getD i ⟨0, 0, 0⟩
def dK (l : List bh) (i j : Nat) : List bh := (l.set i (lQ l j)).set j (lQ l i)
def Gi : Nat → Nat → List bh → List bh
 | 0, _, l => l
 | f + 1, i, l => if 0 < i ∧ (lQ l i).before (lQ l ((i - 1) / 4)) = true then Gi f ((i - 1) / 4) (dK l i ((i - 1) / 4)) else l
def fy (l : List bh) : Nat → Nat → Nat → Nat
 | 0, _, out => out
 | n + 1, k, out => if k < l.length then fy l n (k + 1) (if (lQ l k).before (lQ l out) then k else out) else out
def fN (l : List bh) (i : Nat) : Nat := fy l 4 (4 * i + 1) i
def mb : Nat → Nat → List bh → List bh
 | 0, _, l => l
 | f + 1, i, l => if fN l i = i then l else mb f (fN l i) (dK l i (fN l i))
def pN (l : List bh) (x : bh) : List bh := Gi l.length l.length (l ++ [x])
def dk (l : List bh) (i : Nat) : List bh :=
 if i < l.length - 1 then Gi i i (mb l.length i ((dK l i (l.length - 1)).take (l.length - 1))) else (dK l i (l.length - 1)).take (l.length - 1)
def cU : Nat → List bh → Int → List bh × List bh
 | 0, l, _ => (l, [])
 | f + 1, l, now => if 0 < l.length ∧ (lQ l 0).t ≤ now then ((cU f (dk l 0) now).1, lQ l 0 :: (cU f (dk l 0) now).2) else (l, [])
theorem BE {f i : Nat} {l : List bh} : Gi (f + 1) i l = if 0 < i ∧ (lQ l i).before (lQ l ((i - 1) / 4)) = true then Gi f ((i - 1) / 4) (dK l i ((i - 1) / 4)) else l := rfl
theorem uG {l : List bh} {n k out : Nat} : fy l (n + 1) k out = if k < l.length then fy l n (k + 1) (if (lQ l k).before (lQ l out) then k else out) else out := rfl
theorem DD {f i : Nat} {l : List bh} : mb (f + 1) i l = if fN l i = i then l else mb f (fN l i) (dK l i (fN l i)) := rfl
theorem wj {f : Nat} {l : List bh} {now : Int} : cU (f + 1) l now = if 0 < l.length ∧ (lQ l 0).t ≤ now then ((cU f (dk l 0) now).1, lQ l 0 :: (cU f (dk l 0) now).2) else (l, []) := rfl
theorem ef {l : List bh} {i j : Nat} : (dK l i j).length = l.length := by simp [dK]
theorem zP : ∀ {f i : Nat} {l : List bh}, (Gi f i l).length = l.length
 | 0, _, _ => rfl
 | f + 1, i, l => by unfold Gi; split; rw [zP, ef]; rfl
theorem g8 : ∀ {f i : Nat} {l : List bh}, (mb f i l).length = l.length
 | 0, _, _ => rfl
 | f + 1, i, l => by unfold mb; split; rfl; rw [g8, ef]
theorem BF {l : List bh} {i : Nat} : (dk l i).length = l.length - 1 := by
 unfold dk; split
 ·rw [zP, g8, List.length_take, ef]; omega
 ·rw [List.length_take, ef]; omega
theorem Gj {l : List bh} {x : bh} : (pN l x).length = l.length + 1 := by unfold pN; rw [zP]; simp
theorem j1 {l : List bh} {i : Nat} (h : i < l.length) : l[i]? = some (lQ l i) := by
 unfold lQ; rw [List.getD_eq_getElem?_getD, List.getElem?_eq_getElem h]; rfl
theorem j2 {l : List bh} : ∀ (n k out : Nat), out < l.length → out < k → fy l n k out < l.length ∧ (out ≤ fy l n k out)
 | 0, _, _, h, _ => ⟨h, Nat.le_refl _⟩
 | n + 1, k, out, h, hk => by
  unfold fy; split
  ·rename_i hl
   split
   ·have := j2 n (k + 1) k hl (by omega); omega
   ·exact j2 n (k + 1) out h (by omega)
  ·exact ⟨h, Nat.le_refl _⟩
theorem yM {l : List bh} {i : Nat} (h : i < l.length) : fN l i < l.length ∧ i ≤ fN l i := j2 4 _ i h (by omega)
structure Ns (b o : Nat) (P : Option Addr → Nat → Nat → Int → HP) : Prop where
 Dt : ∀ (R : Mem) (L : List HP) (M : Mem) (A : Option Addr) (n c : Nat) (s : Int), Hp R (P A n c s :: L) M → M.ld ⟨b, o, none⟩ = some (.slice A n c)
 Yq : ∀ (R : Mem) (L : List HP) (M : Mem) (A : Option Addr) (n c : Nat) (s : Int), Hp R (P A n c s :: L) M → M.ld ⟨b, o + 1, none⟩ = some (.int .u64 s)
 SP : ∀ (R : Mem) (L : List HP) (M : Mem) (A A' : Option Addr) (n c n' c' : Nat) (s : Int) (G : Mem → Prop), Hp R (P A n c s :: L) M → (∀ M', Hp R (P A' n' c' s :: L) M' → G M') → aF M ⟨b, o, none⟩ (.slice A' n' c') G
 stI : ∀ (R : Mem) (L : List HP) (M : Mem) (A : Option Addr) (n c : Nat) (s s' : Int) (G : Mem → Prop), Hp R (P A n c s :: L) M → (∀ M', Hp R (P A n c s' :: L) M' → G M') → aF M ⟨b, o + 1, none⟩ (.int .u64 s') G
theorem ED : bu Tryz.prog 65 205 3 24 [.int .u64 0, .int .u64 0, .int .i64 0] := bu.mk' (zv := .agg #[.int .u64 0, .int .u64 0, .int .i64 0]) (by kernel_rfl) (by kernel_rfl) rfl (by omega)
section
variable {R : Mem} {L L' : List HP} {M : Mem} {K : Value → Mem → Prop} {Kp : List PanicEntry → Mem → Prop} {b o : Nat} {P : Option Addr → Nat → Nat → Int → HP} {A : Option Addr} {c : Nat} {s : Int} {l : List bh} {i j : Nat}
theorem jM {q o0 o1 o2 o3 : Nat} {x : bh} {G : Int → Int → Int → Prop} (h : Hp R L M) (hs : Src R L (some ⟨q, o0, none⟩) (rF.cells l)) (hi : l[i]? = some x) (e1 : o1 = o0 + i * 3) (e2 : o2 = o0 + i * 3 + 1) (e3 : o3 = o0 + i * 3 + 2) (g : G x.t x.seq x.id) :
  aG (M.ld ⟨q, o1, none⟩) .u64 fun a => aG (M.ld ⟨q, o2, none⟩) .u64 fun b => aG (M.ld ⟨q, o3, none⟩) .i64 fun d => G a b d := by
 refine br (Src.at hs h (i := i) (j := 0) hi rfl (by rw [e1]; rfl)) ?_
 refine br (Src.at hs h (i := i) (j := 1) hi rfl (by rw [e2]; show _ = o0 + (i * 3 + 1); omega)) ?_
 exact br (Src.at hs h (i := i) (j := 2) hi rfl (by rw [e3]; show _ = o0 + (i * 3 + 2); omega)) g
theorem EE {q o1 o2 o3 : Nat} {x y : bh} {G : Mem → Prop} (h : Hp R L M) [r : b9 (some ⟨q, 0, none⟩) L bh rF 205 c l L'] (hi : l[i]? = some x) (e1 : o1 = i * 3) (e2 : o2 = i * 3 + 1) (e3 : o3 = i * 3 + 2)
  (k : ∀ M', Hp R (eZ (some ⟨q, 0, none⟩) c (l.set i y) :: L') M' → G M') :
  aF M ⟨q, o1, none⟩ (.int .u64 y.t) fun M1 => aF M1 ⟨q, o2, none⟩ (.int .u64 y.seq) fun M2 => aF M2 ⟨q, o3, none⟩ (.int .i64 y.id) G := by
 have hl := (List.getElem?_eq_some_iff.1 hi).1
 refine gS (E := rF) (a := x) (a' := ⟨y.t, x.seq, x.id⟩) i 0 h hi (by decide) rfl e1 ?_
 clear h; intro M h
 refine gS (E := rF) (a := ⟨y.t, x.seq, x.id⟩) (a' := ⟨y.t, y.seq, x.id⟩) i 1 h (by simp [hl]) (by decide) rfl e2 ?_
 clear h; intro M h
 refine gS (E := rF) (a := ⟨y.t, y.seq, x.id⟩) (a' := y) i 2 h (by simp [hl]) (by decide) rfl e3 ?_
 clear h; intro M h
 rw [gE, gE] at h
 exact k _ h
theorem uj {x y : bh} (h : Hp R L M) (k : ∀ M', Hp R L M' → K (.bool (x.before y)) M') : aa Tryz.prog 186 #[.agg #[.int .u64 x.t, .int .u64 x.seq, .int .i64 x.id], .agg #[.int .u64 y.t, .int .u64 y.seq, .int .i64 y.id]] M K Kp := by
 refine vL ?_
 repeat (first|(refine aj h ?_;clear h;intro kb M h)|(refine aq h ?_;clear h;intro M h)|refine St.to h ?_|(apply Exists.intro;(repeat apply Exists.intro);refine And.intro rfl ?_)|refine au ?_|refine af ?_|refine ai ?_)
 unfold bh.before at k
 refine aL.2 ⟨fun h1 => ?_, fun h1 => ?_⟩
 ·have := k _ h.vz
  rwa [decide_eq_true h1, Bool.true_or] at this
 ·repeat (first|(refine aj h ?_;clear h;intro kb M h)|(refine aq h ?_;clear h;intro M h)|refine St.to h ?_|(apply Exists.intro;(repeat apply Exists.intro);refine And.intro rfl ?_)|refine au ?_|refine af ?_|refine ai ?_)
  refine bP.2 ⟨fun h2 => ?_, fun h2 => ?_⟩
  ·repeat (first|(refine aj h ?_;clear h;intro kb M h)|(refine aq h ?_;clear h;intro M h)|refine St.to h ?_|(apply Exists.intro;(repeat apply Exists.intro);refine And.intro rfl ?_)|refine au ?_|refine af ?_|refine ai ?_)
   have := k _ h.vz
   rwa [decide_eq_false h1, Bool.false_or, beq_iff_eq.2 h2, Bool.true_and] at this
  ·have := k _ h.vz
   rwa [decide_eq_false h1, Bool.false_or, show (x.t == y.t) = false from by simpa using h2, Bool.false_and] at this
theorem tw (D : Ns b o P) (h : Hp R (P A l.length c s :: eZ A c l :: L) M) (hi : i < l.length) (hj : j < l.length)
  (k : ∀ M', Hp R (P A l.length c s :: eZ A c (dK l i j) :: L) M' → K (.tuple #[]) M') : aa Tryz.prog 136 #[.pointer (some ⟨b, o, none⟩), .int .i64 (i : Int), .int .i64 (j : Int)] M K Kp := by
 refine rJ ?_
 obtain ⟨q, rfl⟩ := h.bt (A := A) (by omega) (by decide)
 have hs := h.src (A := some ⟨q, 0, none⟩)
 rw [D.Dt _ _ _ _ _ _ _ h]
 refine aW (aW (aW ⟨by omega, by omega, bp ?_⟩))
 refine jM h hs (j1 hj) (by simp) (by simp) (by simp) ?_
 refine aW ⟨by omega, by omega, bp ?_⟩
 refine jM h hs (j1 hi) (by simp) (by simp) (by simp) ?_
 clear hs
 refine ⟨by omega, by omega, bp ?_⟩
 refine EE (y := lQ l j) h (j1 hi) (by simp) (by simp) (by simp) ?_
 clear h; intro M h
 refine ⟨by omega, by omega, bp ?_⟩
 have Kh : (l.set i (lQ l j))[j]? = some (lQ l j) := by
  rw [List.getElem?_set]
  split
  ·rfl
  ·exact j1 hj
 refine EE (y := lQ l i) h Kh (by simp) (by simp) (by simp) ?_
 clear h; intro M h
 exact k _ (h.sub bQ)
theorem wk (D : Ns b o P) (h : Hp R (P A l.length c s :: eZ A c l :: L) M) (hi : i < l.length) (hl : l.length ≤ 1000000)
  (k : ∀ M', Hp R (P A l.length c s :: eZ A c l :: L) M' → K (.int .i64 (fN l i : Int)) M') : aa Tryz.prog 185 #[.pointer (some ⟨b, o, none⟩), .int .i64 (i : Int)] M K Kp := by
 refine qm ?_
 have e1 : IntKind.wrap .i64 (IntKind.wrap .i64 (4 * (i : Int)) + 1) = ((4 * i + 1 : Nat) : Int) := by
  rw [cD (z := 4 * (i : Int)) (by omega) (by omega), cD (by omega) (by omega)]; omega
 have e4 : IntKind.wrap .i64 (IntKind.wrap .i64 (4 * (i : Int)) + 4) = ((4 * i + 4 : Nat) : Int) := by
  rw [cD (z := 4 * (i : Int)) (by omega) (by omega), cD (by omega) (by omega)]; omega
 rw [e1, e4]
 refine ⟨fun d vs M => ∃ kk out : Nat, vs = [.int .i64 (out : Int), .int .i64 (kk : Int)] ∧ d = 4 * i + 5 - kk ∧ kk ≤ 4 * i + 5 ∧ out < l.length ∧ out < kk ∧ fy l (4 * i + 5 - kk) kk out = fN l i ∧ Hp R (P A l.length c s :: eZ A c l :: L) M,
  ⟨_, 4 * i + 1, i, rfl, rfl, by omega, hi, by omega, by rw [show 4 * i + 5 - (4 * i + 1) = 4 from by omega]; rfl, h⟩, ?_⟩
 clear h
 rintro d _ n5 n6 M ⟨kk, out, he, hd, hkk, ho, hok, hf, h⟩
 simp only [List.cons.injEq, Value.int.injEq, and_true, true_and] at he
 obtain ⟨rfl, rfl⟩ := he
 refine aL.2 ⟨fun hle => ?_, fun hgt => ?_⟩
 ·rw [D.Dt _ _ _ _ _ _ _ h]
  obtain ⟨n, hn⟩ : ∃ n, 4 * i + 5 - kk = n + 1 := ⟨4 * i + 4 - kk, by omega⟩
  rw [hn] at hf
  rw [uG] at hf
  refine aW ?_
  refine aL.2 ⟨fun hlt => ?_, fun hge => ?_⟩
  ·rw [if_pos (by omega)] at hf
   obtain ⟨q, rfl⟩ := h.bt (A := A) (by omega) (by decide)
   have hs := h.src (A := some ⟨q, 0, none⟩)
   refine aW ⟨by omega, by omega, bp ?_⟩
   refine jM h hs (j1 (i := kk) (by omega)) (by simp) (by simp) (by simp) ?_
   refine aW ⟨by omega, by omega, bp ?_⟩
   refine jM h hs (j1 (i := out) (by omega)) (by simp) (by simp) (by simp) ?_
   refine uj h ?_
   clear h hs; intro M h
   refine lX ?_
   have e : IntKind.wrap .i64 ((kk : Int) + 1) = ((kk + 1 : Nat) : Int) := by rw [cD (by omega) (by omega)]; omega
   rw [e]
   cases hb : (lQ l kk).before (lQ l out) with
   | true =>
    rw [hb] at hf
    exact af ⟨n, by omega, kk + 1, kk, rfl, by omega, by omega, by omega, by omega, by rw [show 4 * i + 5 - (kk + 1) = n from by omega]; exact hf, h⟩
   | false =>
    rw [hb] at hf
    exact ai ⟨n, by omega, kk + 1, out, rfl, by omega, by omega, by omega, by omega, by rw [show 4 * i + 5 - (kk + 1) = n from by omega]; exact hf, h⟩
  ·rw [if_neg (by omega)] at hf
   subst hf
   exact k _ h
 ·have : 4 * i + 5 - kk = 0 := by omega
  rw [this] at hf
  have Cw : out = fN l i := hf
  subst Cw
  exact k _ h
theorem Gk (D : Ns b o P) {f : Nat} (h : Hp R (P A l.length c s :: eZ A c l :: L) M) (hi : i < l.length) (hl : l.length ≤ 1000000) (hf : l.length ≤ f + i)
  (k : ∀ M', Hp R (P A l.length c s :: eZ A c (mb f i l) :: L) M' → K (.tuple #[]) M') : aa Tryz.prog 137 #[.pointer (some ⟨b, o, none⟩), .int .i64 (i : Int)] M K Kp := by
 refine rK ?_
 refine wk D h hi hl ?_
 clear h; intro M h
 refine cF ?_
 refine ⟨fun d vs M => ∃ (f' i' : Nat) (l' : List bh), vs = [.int .i64 (i' : Int), .int .i64 (fN l' i' : Int)] ∧ d = l.length - i' ∧ i' < l.length ∧ l'.length = l.length ∧ l.length ≤ f' + i' ∧ mb f' i' l' = mb f i l ∧ Hp R (P A l.length c s :: eZ A c l' :: L) M,
  ⟨_, f, i, l, rfl, rfl, hi, rfl, hf, rfl, h⟩, ?_⟩
 clear h
 rintro d _ n5 n6 M ⟨f', i', l', he, hd, hi', hl', Tx, yN, h⟩
 simp only [List.cons.injEq, Value.int.injEq, and_true, true_and] at he
 obtain ⟨rfl, rfl⟩ := he
 obtain ⟨g, rfl⟩ : ∃ g, f' = g + 1 := ⟨f' - 1, by omega⟩
 rw [DD] at yN
 obtain ⟨m1, m2⟩ := yM (l := l') (i := i') (by omega)
 rw [← hl'] at h
 refine eo.2 ⟨fun hne => ?_, fun heq => ?_⟩
 ·rw [if_neg (by intro e; apply hne; rw [e])] at yN
  refine tw D h (i := i') (j := fN l' i') (by omega) (by omega) ?_
  clear h; intro M h
  refine ⟨rfl, ?_⟩
  have QT : (dK l' i' (fN l' i')).length = l'.length := ef
  rw [← QT] at h
  refine wk D h (by omega) (by omega) ?_
  clear h; intro M h
  rw [QT] at h
  refine cF ?_
  exact ⟨l.length - fN l' i', by omega, g, fN l' i', _, rfl, rfl, by omega, by omega, by omega, yN, by rw [← hl']; exact h⟩
 ·rw [if_pos (by omega)] at yN
  subst yN
  rw [hl'] at h
  exact k _ h
theorem EF (D : Ns b o P) {f : Nat} (h : Hp R (P A l.length c s :: eZ A c l :: L) M) (hi : i < l.length) (hl : l.length ≤ 1000000) (hf : i ≤ f)
  (k : ∀ M', Hp R (P A l.length c s :: eZ A c (Gi f i l) :: L) M' → K (.tuple #[]) M') : aa Tryz.prog 138 #[.pointer (some ⟨b, o, none⟩), .int .i64 (i : Int)] M K Kp := by
 refine uA ?_
 refine ⟨fun d vs M => ∃ (f' i' : Nat) (l' : List bh), vs = [.int .i64 (i' : Int)] ∧ d = i' ∧ i' < l.length ∧ l'.length = l.length ∧ i' ≤ f' ∧ Gi f' i' l' = Gi f i l ∧ Hp R (P A l.length c s :: eZ A c l' :: L) M,
  ⟨_, f, i, l, rfl, rfl, hi, rfl, hf, rfl, h⟩, ?_⟩
 clear h
 rintro d _ n5 M ⟨f', i', l', he, hd, hi', hl', Tx, yN, h⟩
 simp only [List.cons.injEq, Value.int.injEq, and_true, true_and] at he
 subst he
 refine aL.2 ⟨fun hgt => ?_, fun hle => ?_⟩
 ·obtain ⟨g, rfl⟩ : ∃ g, f' = g + 1 := ⟨f' - 1, by omega⟩
  rw [BE] at yN
  have ep : IntKind.wrap .i64 (Int.tdiv (IntKind.wrap .i64 ((i' : Int) - 1)) 4) = (((i' - 1) / 4 : Nat) : Int) := by
   rw [cD (z := (i' : Int) - 1) (by omega) (by omega), show ((i' : Int) - 1) = ((i' - 1 : Nat) : Int) from by omega, show (4 : Int) = ((4 : Nat) : Int) from rfl, ← Int.ofNat_tdiv, cD (by omega) (by omega)]
  have hp : (i' - 1) / 4 < i' := by omega
  generalize hpe : (i' - 1) / 4 = p at ep yN hp
  rw [ep, D.Dt _ _ _ _ _ _ _ h]
  obtain ⟨q, rfl⟩ := h.bt (A := A) (by omega) (by decide)
  have hs := h.src (A := some ⟨q, 0, none⟩)
  refine ⟨by omega, aW ⟨by omega, by omega, bp ?_⟩⟩
  refine jM h hs (j1 (i := i') (by omega)) (by simp) (by simp) (by simp) ?_
  refine aW ⟨by omega, by omega, bp ?_⟩
  refine jM h hs (j1 (i := p) (by omega)) (by simp) (by simp) (by simp) ?_
  refine uj h ?_
  clear h hs; intro M h
  refine lX ?_
  cases hb : (lQ l' i').before (lQ l' p) with
  | true =>
   rw [if_pos ⟨by omega, hb⟩] at yN
   refine af ⟨by omega, ?_⟩
   rw [← hl'] at h
   refine tw D h (i := i') (j := p) (by omega) (by omega) ?_
   clear h; intro M h
   rw [hl'] at h
   exact ⟨rfl, by omega, p, by omega, g, p, _, rfl, rfl, by omega, by rw [ef]; exact hl', by omega, yN, h⟩
  | false =>
   rw [if_neg (by rintro ⟨_, h2⟩; rw [hb] at h2; cases h2)] at yN
   refine ai ?_
   subst yN
   exact k _ h
 ·have : Gi f' i' l' = l' := by
   have h0 : i' = 0 := by omega
   subst h0
   cases f' with
   | zero => rfl
   | succ g => rw [BE]; rw [if_neg (by omega)]
  rw [this] at yN
  subst yN
  exact k _ h
theorem Gl (D : Ns b o P) {t id : Int} (h : Hp R (P A l.length c s :: eZ A c l :: L) M) (hl : l.length < 1000000)
  (k : ∀ v A' c' M', Hp R (P A' (l.length + 1) c' (IntKind.wrap .u64 (s + 1)) :: eZ A' c' (pN l ⟨t, s, id⟩) :: L) M' → K (.int .u64 v) M') : aa Tryz.prog 214 #[.pointer (some ⟨b, o, none⟩), .int .u64 t, .int .i64 id] M K Kp := by
 refine rL ?_
 rw [D.Dt _ _ _ _ _ _ _ h, D.Yq _ _ _ _ _ _ _ h]
 refine aW (cF ?_)
 refine aj h ?_
 clear h; intro kb M h
 replace h : Hp R (P A l.length c s :: eZ A c l :: pt kb [.int .u64 t, .int .u64 s, .int .i64 id] 205 :: L) M := h.sub bQ
 refine h.bE (A := A) ED [(⟨t, s, id⟩ : bh)] rfl rfl (by simp only [List.length_singleton]; omega) ?_
 clear h; intro A' c' M h
 refine aW ?_
 have hlen : (l ++ [(⟨t, s, id⟩ : bh)]).length = l.length + 1 := by simp
 refine D.SP _ _ _ _ _ _ _ _ _ _ _ h.swap ?_
 clear h; intro M h
 rw [D.Yq _ _ _ _ _ _ _ h]
 refine cF ?_
 refine D.stI _ _ _ _ _ _ _ _ _ h ?_
 clear h; intro M h
 rw [D.Dt _ _ _ _ _ _ _ h]
 refine aW ?_
 have e : IntKind.wrap .i64 (((l ++ [(⟨t, s, id⟩ : bh)]).length : Int) - 1) = ((l.length : Nat) : Int) := by
  rw [cD (by omega) (by omega)]; omega
 rw [e]
 refine EF D (f := l.length) h (by omega) (by omega) (Nat.le_refl _) ?_
 clear h; intro M h
 refine ⟨rfl, ?_⟩
 rw [D.Yq _ _ _ _ _ _ _ h]
 refine cF ?_
 rw [hlen] at h
 exact k _ _ _ _ h
theorem BG (D : Ns b o P) (h : Hp R (P A l.length c s :: eZ A c l :: L) M) (hi : i < l.length) (hl : l.length ≤ 1000000)
  (k : ∀ M', Hp R (P A (l.length - 1) c s :: eZ A c (dk l i) :: L) M' → K (.agg #[.int .u64 (lQ l i).t, .int .u64 (lQ l i).seq, .int .i64 (lQ l i).id]) M') : aa Tryz.prog 106 #[.pointer (some ⟨b, o, none⟩), .int .i64 (i : Int)] M K Kp := by
 refine oS ?_
 have hcap := h.iz A
 obtain ⟨q, rfl⟩ := h.bt (A := A) (by omega) (by decide)
 refine aj h ?_
 clear h; intro k1 M h
 have hs := h.src (A := some ⟨q, 0, none⟩)
 replace h : Hp R (P (some ⟨q, 0, none⟩) l.length c s :: eZ (some ⟨q, 0, none⟩) c l :: pt k1 [.int .u64 0, .int .u64 0, .int .i64 0] 205 :: L) M := h.sub bQ
 replace hs := h.src (A := some ⟨q, 0, none⟩)
 rw [D.Dt _ _ _ _ _ _ _ h]
 refine aW ⟨by omega, by omega, bp ?_⟩
 refine jM h hs (j1 hi) (by simp) (by simp) (by simp) ?_
 clear hs
 generalize hx : lQ l i = x at k
 refine aj h ?_
 clear h; intro k2 M h
 refine aq h ?_
 clear h; intro M h
 refine aq h ?_
 clear h; intro M h
 refine aq h ?_
 clear h; intro M h
 replace h : Hp R (P (some ⟨q, 0, none⟩) l.length c s :: eZ (some ⟨q, 0, none⟩) c l :: pt k2 [.int .u64 x.t, .int .u64 x.seq, .int .i64 x.id] 205 :: pt k1 [.int .u64 0, .int .u64 0, .int .i64 0] 205 :: L) M := h.sub bQ
 rw [D.Dt _ _ _ _ _ _ _ h]
 have e : IntKind.wrap .i64 ((l.length : Int) - 1) = ((l.length - 1 : Nat) : Int) := by
  rw [cD (by omega) (by omega)]; omega
 refine aW ?_
 rw [e]
 refine tw D h hi (j := l.length - 1) (by omega) ?_
 clear h; intro M h
 refine ⟨rfl, ?_⟩
 rw [D.Dt _ _ _ _ _ _ _ h]
 refine aW ⟨by omega, by omega, by omega, by omega, by omega, by omega, ?_⟩
 have e2 : kU (some ⟨q, 0, none⟩) 0 (Int.toNat (c : Int)) 3 = some ⟨q, 0, none⟩ := by
  unfold kU; rw [if_neg (by simp; omega)]; rfl
 rw [e2]
 simp only [Int.toNat_natCast, Nat.sub_zero]
 refine D.SP _ _ _ _ _ _ _ _ _ _ _ h ?_
 clear h; intro M h
 have QT : ((dK l i (l.length - 1)).take (l.length - 1)).length = l.length - 1 := by rw [List.length_take, ef]; omega
 have fin : ∀ (M : Mem) (Q : List HP), Hp R (P (some ⟨q, 0, none⟩) (l.length - 1) c s :: eZ (some ⟨q, 0, none⟩) c (dk l i) :: pt k2 [.int .u64 x.t, .int .u64 x.seq, .int .i64 x.id] 205 :: pt k1 [.int .u64 0, .int .u64 0, .int .i64 0] 205 :: L) M →
   aG (Mem.ld M ⟨k2, 0, none⟩) .u64 fun AY => aG (Mem.ld M ⟨k2, (0 + 1), none⟩) .u64 fun Cg => aG (Mem.ld M ⟨k2, (0 + 2), none⟩) .i64 fun uS =>
   aF M ⟨k1, 0, none⟩ (.int .u64 AY) fun pK => aF pK ⟨k1, (0 + 1), none⟩ (.int .u64 Cg) fun Cd => aF Cd ⟨k1, (0 + 2), none⟩ (.int .i64 uS) fun sB =>
   aG (Mem.ld sB ⟨k1, 0, none⟩) .u64 fun GS => aG (Mem.ld sB ⟨k1, (0 + 1), none⟩) .u64 fun xF => aG (Mem.ld sB ⟨k1, (0 + 2), none⟩) .i64 fun Of =>
   K (.agg #[(.int .u64 GS), (.int .u64 xF), (.int .i64 Of)]) sB := by
  intro M _ h
  refine aH h (aH h (aH h ?_))
  refine aq h ?_
  clear h; intro M h
  refine aq h ?_
  clear h; intro M h
  refine aq h ?_
  clear h; intro M h
  refine aH h (aH h (aH h ?_))
  exact k _ (h.sub bQ)
 replace h : Hp R (P (some ⟨q, 0, none⟩) (l.length - 1) c s :: eZ (some ⟨q, 0, none⟩) c ((dK l i (l.length - 1)).take (l.length - 1)) :: pt k2 [.int .u64 x.t, .int .u64 x.seq, .int .i64 x.id] 205 :: pt k1 [.int .u64 0, .int .u64 0, .int .i64 0] 205 :: L) M := (h.swap.HR (l.length - 1)).swap
 unfold dk at fin
 refine aL.2 ⟨fun hlt => ?_, fun hge => ?_⟩
 ·rw [if_pos (by omega)] at fin
  have h' : Hp R (P (some ⟨q, 0, none⟩) ((dK l i (l.length - 1)).take (l.length - 1)).length c s :: eZ (some ⟨q, 0, none⟩) c ((dK l i (l.length - 1)).take (l.length - 1)) :: pt k2 [.int .u64 x.t, .int .u64 x.seq, .int .i64 x.id] 205 :: pt k1 [.int .u64 0, .int .u64 0, .int .i64 0] 205 :: L) M := by rw [QT]; exact h
  clear h
  have h := h'
  clear h'
  refine Gk D (f := l.length) h (by omega) (by omega) (by omega) ?_
  clear h; intro M h
  refine ⟨rfl, ?_⟩
  rw [show ((dK l i (l.length - 1)).take (l.length - 1)).length = (mb l.length i ((dK l i (l.length - 1)).take (l.length - 1))).length from g8.symm] at h
  refine EF D (f := i) h (by rw [g8]; omega) (by rw [g8]; omega) (Nat.le_refl _) ?_
  clear h; intro M h
  refine ⟨rfl, ?_⟩
  rw [g8, QT] at h
  exact fin M [] h
 ·rw [if_neg (by omega)] at fin
  exact fin M [] h
theorem Gm (D : Ns b o P) {now : Int} (h : Hp R (P A l.length c s :: eZ A c l :: L) M) (hl : l.length ≤ 1000000)
  (k : ∀ A' c' M', Hp R (P A (cU l.length l now).1.length c s :: eZ A c (cU l.length l now).1 :: eZ A' c' (cU l.length l now).2 :: L) M' → K (.slice A' (cU l.length l now).2.length c') M') :
  aa Tryz.prog 89 #[.pointer (some ⟨b, o, none⟩), .int .u64 now] M K Kp := by
 refine rG ?_
 have h0 := h.cw rF 205
 refine ⟨fun d vs M => ∃ (A' : Option Addr) (c' : Nat) (out l' : List bh), vs = [.slice A' out.length c'] ∧ d = l'.length ∧ l'.length + out.length = l.length ∧ (cU l'.length l' now).1 = (cU l.length l now).1 ∧ out ++ (cU l'.length l' now).2 = (cU l.length l now).2 ∧
   Hp R (P A l'.length c s :: eZ A c l' :: eZ A' c' out :: L) M, ⟨_, none, 0, [], l, rfl, rfl, rfl, rfl, rfl, h0.sub bQ⟩, ?_⟩
 clear h h0
 rintro d _ A' n' c' M ⟨A2, c2, out, l', he, hd, QT, e1, e2, h⟩
 simp only [List.cons.injEq, Value.slice.injEq, and_true, true_and] at he
 obtain ⟨rfl, rfl, rfl⟩ := he
 rw [D.Dt _ _ _ _ _ _ _ h]
 have stop : ¬ (0 < l'.length ∧ (lQ l' 0).t ≤ now) → K (.slice A' out.length c') M := by
  intro hn
  have e : cU l'.length l' now = (l', []) := by
   cases hl' : l'.length with
   | zero => rfl
   | succ m => rw [wj]; rw [if_neg hn]
  rw [e] at e1 e2
  dsimp only at e1 e2
  rw [List.append_nil] at e2
  subst e1; subst e2
  exact k _ _ _ h
 refine aW ?_
 refine aL.2 ⟨fun hgt => ?_, fun hle => stop (by omega)⟩
 have hcap := h.iz A
 obtain ⟨q, rfl⟩ := h.bt (A := A) (by omega) (by decide)
 have hs := h.src (A := some ⟨q, 0, none⟩)
 refine aW ⟨by omega, by omega, bp ?_⟩
 refine br (Src.at hs h (i := 0) (j := 0) (j1 (by omega)) rfl rfl) ?_
 clear hs
 refine aL.2 ⟨fun hle => ?_, fun Yr => stop (fun hn => Yr hn.2)⟩
 refine BG D h (i := 0) (by omega) (by omega) ?_
 clear h stop; intro M h
 refine ⟨_, _, _, rfl, ?_⟩
 refine aj h ?_
 clear h; intro kb M h
 refine h.bE (A := A') ED [lQ l' 0] rfl rfl (by simp only [List.length_singleton]; omega) ?_
 clear h; intro A3 c3 M h
 refine aW ?_
 have je : (dk l' 0).length = l'.length - 1 := BF
 have hw : cU l'.length l' now = ((cU (dk l' 0).length (dk l' 0) now).1, lQ l' 0 :: (cU (dk l' 0).length (dk l' 0) now).2) := by
  obtain ⟨m, hm⟩ : ∃ m, l'.length = m + 1 := ⟨l'.length - 1, by omega⟩
  rw [je, hm]
  show cU (m + 1) l' now = _
  rw [wj]
  rw [if_pos ⟨by omega, hle⟩]; rfl
 rw [hw] at e1 e2
 rw [← je] at h
 exact ⟨_, by omega, A3, c3, out ++ [lQ l' 0], dk l' 0, rfl, rfl, by simp; omega, e1, by rw [List.append_assoc]; exact e2, h.sub bQ⟩
end
def mI (x : Wd) (k : Int) : Lk := x.aP.getD k.toNat ⟨-1, []⟩
def Wd.fz (x : Wd) (k : Int) (c : Lk) : Wd := { x with aP := x.aP.set k.toNat c }
def Wd.lock (x : Wd) (g : Int) (i : cQ) : Wd := if ((mI x i.a).take g).2 then x.fz i.a ((mI x i.a).take g).1 else (x.fz i.a ((mI x i.a).take g).1).block g i
def Wd.unlock (x : Wd) (g : Int) (i : cQ) : Out Wd :=
 if ((mI x i.a).pH g).2.2 ≠ 0 then .dy (-3) (x.fz i.a ((mI x i.a).pH g).1)
 else if ((mI x i.a).pH g).2.1 ≠ -1 then .on ((x.fz i.a ((mI x i.a).pH g).1).dN ((mI x i.a).pH g).2.1) else .on (x.fz i.a ((mI x i.a).pH g).1)
def zQ (x : Wd) (k : Int) : Prop := 0 ≤ k ∧ k < x.aP.length
instance (x : Wd) (k : Int) : Decidable (zQ x k) := by unfold zQ; infer_instance
def kG (x : Wd) (g : Int) (i : cQ) : Prop := zQ x i.a ∧ (((mI x i.a).pH g).2.1 ≠ -1 → 0 ≤ ((mI x i.a).pH g).2.1 ∧ ((mI x i.a).pH g).2.1 < x.gs.length)
instance (x : Wd) (g : Int) (i : cQ) : Decidable (kG x g i) := by unfold kG; infer_instance
def Wd.rand (x : Wd) (g : Int) (i : cQ) : gU → Out Wd
 | .num d => .on ((x.next g).aX g i.a d)
 | .cG l => .cG l x
def nL (x : Wd) (g : Int) (i : cQ) : Int := if 1048576 < aV x g i.a then 1048576 else aV x g i.a
def Wd.sleep (x : Wd) (g : Int) (i : cQ) : Wd :=
 if 0 < nL x g i then { x.aY g { ae x g with st := 3 } with hl := pN x.hl ⟨IntKind.wrap .u64 (x.clock + IntKind.wrap .u64 (nL x g i)), x.kz, g⟩, kz := IntKind.wrap .u64 (x.kz + 1) } else x
def Wd.tick (x : Wd) : Wd := if x.end_ ≠ 0 then { x with ready := [] } else
 let r := cU x.hl.length x.hl (IntKind.wrap .u64 (x.clock + 1))
 (r.2.map (·.id)).foldl Wd.dN { x with clock := IntKind.wrap .u64 (x.clock + 1), hl := r.1, ready := [] }
section
variable {R : Mem} {L L' L2 : List HP} {M : Mem} {K : Value → Mem → Prop} {Kp : List PanicEntry → Mem → Prop} {pa : PA} {p : cf} {gg : List GA} {dr : Value} {b : Nat} {x : Wd} {g : Int} {i : cQ}
theorem LJ (hg : aS x g) (hb : bn i.b) : eR R pa p dr 161 x g i (x.call g i) L L := by
 intro gg b bs c M K Kp Q h dJ k
 refine oT ?_
 have zH := hg
 obtain ⟨h0, h1, h2, h3⟩ := zH
 unfold Wd.call at k
 refine aj h ?_
 clear h
 intro kb M h
 have hC := h
 have h' := fH h (b := b) h0 h1 dJ
 clear h
 obtain ⟨a, gb, hl, eL, h⟩ := h'
 have hl' := hl
 obtain ⟨l1, l2, l3, l4⟩ := hl'
 repeat (first|(refine aj h ?_;clear h;intro kb M h)|(refine aq h ?_;clear h;intro M h)|refine St.to h ?_|(apply Exists.intro;(repeat apply Exists.intro);refine And.intro rfl ?_)|refine au ?_|refine af ?_|refine ai ?_)
 refine sC h eL fun q hq => ?_
 repeat (first|(refine aj h ?_;clear h;intro kb M h)|(refine aq h ?_;clear h;intro M h)|refine St.to h ?_|(apply Exists.intro;(repeat apply Exists.intro);refine And.intro rfl ?_)|refine au ?_|refine af ?_|refine ai ?_)
 refine ⟨hb.1, hb.2, rX h (di h2) hb rfl ?_⟩
 repeat (first|(refine aj h ?_;clear h;intro kb M h)|(refine aq h ?_;clear h;intro M h)|refine St.to h ?_|(apply Exists.intro;(repeat apply Exists.intro);refine And.intro rfl ?_)|refine au ?_|refine af ?_|refine ai ?_)
 refine Dg h h2 ?_ ?_
 ·intro qv
  rw [if_pos (by omega)] at k
  refine ⟨_, _, _, _, rfl, af ?_⟩
  exact k _ _ (hC.sub bQ)
 ·intro hlt b' c' M' h'
  clear h hC
  have h := h'
  clear h'
  rw [if_neg (by omega)] at k
  refine ⟨_, _, _, _, rfl, ai ?_⟩
  repeat (first|(refine aj h ?_;clear h;intro kb M h)|(refine aq h ?_;clear h;intro M h)|refine St.to h ?_|(apply Exists.intro;(repeat apply Exists.intro);refine And.intro rfl ?_)|refine au ?_|refine af ?_|refine ai ?_)
  refine sC h eL fun q2 oB => ?_
  repeat (first|(refine aj h ?_;clear h;intro kb M h)|(refine aq h ?_;clear h;intro M h)|refine St.to h ?_|(apply Exists.intro;(repeat apply Exists.intro);refine And.intro rfl ?_)|refine au ?_|refine af ?_|refine ai ?_)
  have hlen : (ae x g).fs.length + 1 = ((ae x g).fs ++ [(⟨i.a, 0, [aV x g i.b, 0, 0, 0, 0, 0, 0, 0], i.c⟩ : e7)]).length := by simp
  have h5 := kF (A := some ⟨b', 0, none⟩) (fs := (ae x g).fs ++ [⟨i.a, 0, [aV x g i.b, 0, 0, 0, 0, 0, 0, 0], i.c⟩]) h gb hlen
  have hi := (List.getElem?_eq_some_iff.1 eL).1
  have h6 := h5.cY eP gb eL (by rw [List.length_zip]; omega)
  rw [vZ] at h6
  have jW : dO (gg.set g.toNat (some ⟨b', 0, none⟩, c')) a (x.aY g ⟨(ae x g).st, (ae x g).fs ++ [⟨i.a, 0, [aV x g i.b, 0, 0, 0, 0, 0, 0, 0], i.c⟩], (ae x g).wt⟩) := ⟨by simpa [Wd.aY] using l1, by simpa [Wd.aY] using l2, l3, l4⟩
  have h7 := aM (a := a) (p := p) (pa := pa) (dr := dr) (gg := gg.set g.toNat (some ⟨b', 0, none⟩, c')) (x := x.aY g ⟨(ae x g).st, (ae x g).fs ++ [⟨i.a, 0, [aV x g i.b, 0, 0, 0, 0, 0, 0, 0], i.c⟩], (ae x g).wt⟩) jW h6 b
  exact k _ _ (h7.sub bQ)
theorem EG {a : WA} {k : Int} {c : Lk} (hl : dO gg a x) : dO gg a (x.fz k c) := by
 obtain ⟨l1, l2, l3, l4⟩ := hl
 exact ⟨l1, l2, l3, by simpa [Wd.fz] using l4⟩
theorem LK (hg : aS x g) (hk : zQ x i.a) (hs : x.Sm) : eR R pa p dr 169 x g i (.on (x.lock g i)) L L := by
 intro gg b bs c M K Kp Q h dJ k
 refine oY ?_
 replace k : ∀ jK M', Hp R (ax (be pa p jK dr) b (x.lock g i) :: Q :: L) M' → K (.tuple #[]) M' := k
 unfold Wd.lock at k
 obtain ⟨s1, s2, s3, s4, s5, s6, s7, s8⟩ := hs
 obtain ⟨k0, k1⟩ := hk
 refine aj h ?_
 clear h
 intro kb M h
 have h' := bU h (b := b)
 clear h
 obtain ⟨a, hl, h⟩ := h'
 have hl' := hl
 obtain ⟨l1, l2, l3, l4⟩ := hl'
 refine bl h (aH h ⟨k0, by omega, ?_⟩)
 obtain ⟨lb, hlb⟩ := aN (l := a.lb) (i := i.a.toNat) (by omega)
 refine sC h hlb fun q hq => ?_
 obtain ⟨y, hy⟩ := aN (l := x.aP) (i := i.a.toNat) (by omega)
 have e : mI x i.a = y := by simp [mI, hy]
 rw [e] at k
 replace h := h.cz eK hlb hy
 refine Dh h (Nat.le_trans (s6 y (List.mem_of_getElem? hy)) (by decide)) ?_
 clear h; intro M h
 replace h := h.cY eK lb hlb (by omega)
 replace h := aM (a := a) (p := p) (pa := pa) (dr := dr) (gg := gg) (x := x.fz i.a (y.take g).1) (EG hl) h b
 refine lX ?_
 cases ht : (y.take g).2 with
 | true =>
  rw [ht] at k
  simp only [if_true] at k
  refine ai ?_
  exact k _ _ (h.sub bQ)
 | false =>
  rw [ht] at k
  simp only [Bool.false_eq_true, if_false] at k
  refine af ?_
  refine aH h (aH h (aH h (aH h ?_)))
  refine jI (b := b) (i := i) h hg.1 (show g < (x.fz i.a (y.take g).1).gs.length from hg.2.1) ?_
  clear h; intro M h
  exact ⟨rfl, k _ _ (h.sub bQ)⟩
theorem Gn (hk : kG x g i) (hs : x.Sm) : eR R pa p dr 170 x g i (x.unlock g i) L L := by
 intro gg b bs c M K Kp Q h dJ k
 refine mz ?_
 unfold Wd.unlock at k
 obtain ⟨s1, s2, s3, s4, s5, s6, s7, s8⟩ := hs
 obtain ⟨⟨k0, k1⟩, hw⟩ := hk
 refine aj h ?_
 clear h
 intro kb M h
 have h' := bU h (b := b)
 clear h
 obtain ⟨a, hl, h⟩ := h'
 have hl' := hl
 obtain ⟨l1, l2, l3, l4⟩ := hl'
 refine bl h (aH h ⟨k0, by omega, ?_⟩)
 obtain ⟨lb, hlb⟩ := aN (l := a.lb) (i := i.a.toNat) (by omega)
 refine sC h hlb fun q hq => ?_
 obtain ⟨y, hy⟩ := aN (l := x.aP) (i := i.a.toNat) (by omega)
 have e : mI x i.a = y := by simp [mI, hy]
 rw [e] at k hw
 replace h := h.cz eK hlb hy
 refine Di h (Nat.le_trans (s6 y (List.mem_of_getElem? hy)) (by decide)) ?_
 clear h; intro M h
 replace h := h.cY eK lb hlb (by omega)
 replace h := aM (a := a) (p := p) (pa := pa) (dr := dr) (gg := gg) (x := x.fz i.a (y.pH g).1) (EG hl) h b
 refine ⟨_, _, rfl, ?_⟩
 refine eo.2 ⟨fun hn => ?_, fun hn => ?_⟩
 ·rw [if_pos hn] at k
  exact k _ _ (h.sub bQ)
 rw [if_neg (by simpa using hn)] at k
 refine eo.2 ⟨fun vg => ?_, fun vg => ?_⟩
 ·rw [if_pos vg] at k
  obtain ⟨w0, w1⟩ := hw vg
  refine fY (b := b) h w0 (show _ < ((x.fz i.a (y.pH g).1).gs.length : Int) from w1) (by show x.ready.length ≤ _; omega) ?_
  clear h; intro M h
  exact ⟨rfl, k _ _ (h.sub bQ)⟩
 ·rw [if_neg (by simpa using vg)] at k
  exact k _ _ (h.sub bQ)
theorem LM : eR R pa p dr 172 x g i (.dy i.a x) L L := by
 intro gg b bs c M K Kp Q h dJ k
 refine o5 ?_
 refine aj h ?_
 clear h
 intro kb M h
 refine aH h ?_
 exact k _ _ (h.sub bQ)
theorem JB : eR R pa p dr 164 x g i (.on x) L L := by
 intro gg b bs c M K Kp Q h dJ k
 refine nt ?_
 refine aj h ?_
 clear h
 intro kb M h
 exact k _ _ (h.sub bQ)
theorem LN {d : gU} (hg : aS x g) (ha : bn i.a) (ug : 0 ≤ (ae x g).top.pc ∧ (ae x g).top.pc < 1000000000) (hd : gJ R dr 4 i.b d L L2) : eR R pa p dr 123 x g i (x.rand g i d) L L2 := by
 intro gg b bs c M K Kp Q h dJ k
 refine oR ?_
 refine aj h ?_
 clear h
 intro kb M h
 have wg : M.ld ⟨b, 0 + 14, none⟩ = some dr := by
  obtain ⟨a, hl, h9⟩ := bU h (b := b)
  exact bz h9
 rw [wg]
 refine HN (aH h ?_)
 have h5 : Hp R (sep [ax (be pa p gg dr) b x, pt kb [.int .i64 i.op, .int .i64 i.a, .int .i64 i.b, .int .i64 i.c] 34, Q] :: L) M := Hp.aO.2 (h.sub bQ)
 refine hd _ _ _ _ h5 ?_
 clear h h5 wg
 cases d with
 | cG l =>
  dsimp only at k ⊢
  intro M h5
  have h : Hp R (ax (be pa p gg dr) b x :: pt kb [.int .i64 i.op, .int .i64 i.a, .int .i64 i.b, .int .i64 i.c] 34 :: Q :: L2) M := Hp.aO.1 h5
  exact k _ _ (h.sub bQ)
 | num v =>
  dsimp only at k ⊢
  intro M h5
  have h : Hp R (ax (be pa p gg dr) b x :: pt kb [.int .i64 i.op, .int .i64 i.a, .int .i64 i.b, .int .i64 i.c] 34 :: Q :: L2) M := Hp.aO.1 h5
  clear h5
  refine cF ?_
  refine DC (b := b) h hg dJ rfl ?_
  rw [g7 ug.1 (by omega)]
  refine DB (b := b) h hg dJ rfl rfl ?_
  clear h; intro M h
  refine aH h ⟨ha.1, ha.2, ?_⟩
  refine jJ (b := b) h (qy hg) dJ ha (by rw [zN hg]) ?_
  clear h; intro M h
  exact k _ _ (h.sub bQ)
abbrev zR (pa : PA) (p : cf) (dr : Value) (a : WA) (x : Wd) (nr : Nat) (A : Option Addr) (n c : Nat) (s : Int) : List Value :=
 [.slice pa.f p.funcs.length pa.fc, .slice pa.c p.oA.length pa.cc, .int .i64 p.aP, .slice pa.k p.cases.length pa.kc, .slice a.ag a.gb.length a.cg, .int .u64 x.clock,
  .slice a.ac a.cb.length a.cc, .slice a.al a.lb.length a.cl, .slice A n c, .int .u64 s, .slice a.ao x.out.length a.co, .int .i64 x.end_, .int .i64 x.code, .slice a.ar nr a.cr, dr]
theorem Nt {a : WA} {nr T : Nat} : Ns b (0 + 8) (fun A n c s => pt b (zR pa p dr a x nr A n c s) T) :=
 ⟨fun R L M A n c s h => bz h, fun R L M A n c s h => bz h, fun R L M A A' n c n' c' s G h k => aq h k, fun R L M A n c s s' G h k => aq h k⟩
theorem JC (hg : aS x g) (ha : bn i.a) (hs : x.hl.length < 1000000) : eR R pa p dr 168 x g i (.on (x.sleep g i)) L L := by
 intro gg b bs c M K Kp Q h dJ k
 refine nu ?_
 replace k : ∀ jK M', Hp R (ax (be pa p jK dr) b (x.sleep g i) :: Q :: L) M' → K (.tuple #[]) M' := k
 have zH := hg
 obtain ⟨h0, h1, h2, h3⟩ := zH
 unfold Wd.sleep at k
 refine aj h ?_
 clear h
 intro kb M h
 refine aH h ⟨ha.1, ha.2, ?_⟩
 refine Bt (b := b) h hg dJ ha rfl ?_
 have hC := h
 have h' := bU h (b := b)
 clear h
 obtain ⟨a, hl, h⟩ := h'
 have hl' := hl
 obtain ⟨l1, l2, l3, l4⟩ := hl'
 have e : (if (1048576 : Int) < aV x g i.a then 1048576 else aV x g i.a) = nL x g i := rfl
 rw [e]
 refine aL.2 ⟨fun hn => ?_, fun hn => ?_⟩
 ·rw [if_pos (by omega)] at k
  refine aH h ?_
  clear hC
  replace h : Hp R (pt b (zR pa p dr a x x.ready.length a.ah x.hl.length a.ch x.kz) 164 :: eZ a.ah a.ch x.hl :: aR eP a.gb (x.gs.zip gg) :: vV a.ag a.cg a.gb :: vW a.ac a.cc a.cb :: aR bq a.cb x.az :: vX a.al a.cl a.lb :: aR eK a.lb x.aP :: ry a.ao a.co x.out :: jA a.ar a.cr x.ready :: Q :: L) M := h.sub bQ
  refine Gl (Nt (a := a) (x := x)) h hs ?_
  clear h; intro v A' c' M h
  refine cF ?_
  have h9 : Hp R (ax (be pa p gg dr) b { x with hl := pN x.hl ⟨IntKind.wrap .u64 (x.clock + IntKind.wrap .u64 (nL x g i)), x.kz, g⟩, kz := IntKind.wrap .u64 (x.kz + 1) } :: Q :: L) M := by
   have := Gj (l := x.hl) (x := ⟨IntKind.wrap .u64 (x.clock + IntKind.wrap .u64 (nL x g i)), x.kz, g⟩)
   rw [← this] at h
   exact ig (a := { a with ah := A', ch := c' }) (x := { x with hl := pN x.hl ⟨IntKind.wrap .u64 (x.clock + IntKind.wrap .u64 (nL x g i)), x.kz, g⟩, kz := IntKind.wrap .u64 (x.kz + 1) }) ⟨l1, l2, l3, l4⟩ (h.sub bQ)
  clear h hl l1 l2 l3 l4
  have h := h9
  clear h9
  have h' := fH (x := { x with hl := pN x.hl ⟨IntKind.wrap .u64 (x.clock + IntKind.wrap .u64 (nL x g i)), x.kz, g⟩, kz := IntKind.wrap .u64 (x.kz + 1) }) h (b := b) h0 h1 dJ
  clear h
  obtain ⟨a2, gb, hl, eL, h⟩ := h'
  have hl' := hl
  obtain ⟨l1, l2, l3, l4⟩ := hl'
  refine bl h ⟨h0, by dsimp only at l1; omega, ?_⟩
  refine sC h eL fun q hq => ?_
  refine bp ?_
  refine aq h ?_
  clear h; intro M h
  replace h := ck h gb hl eL dJ
  have jW := cA (y := { ae x g with st := 3 }) (g := g) hl
  replace h := aM (a := a2) (p := p) (pa := pa) (dr := dr) (gg := gg) (x := { x.aY g { ae x g with st := 3 } with hl := pN x.hl ⟨IntKind.wrap .u64 (x.clock + IntKind.wrap .u64 (nL x g i)), x.kz, g⟩, kz := IntKind.wrap .u64 (x.kz + 1) }) jW h b
  exact k _ _ (h.sub bQ)
 ·rw [if_neg (by omega)] at k
  exact k _ _ (hC.sub bQ)
theorem LO {l : List Int} : ∀ {x : Wd}, (l.foldl Wd.dN x).gs.length = x.gs.length := by
 induction l with
 | nil => intro x; rfl
 | cons a l ih => intro x; rw [List.foldl_cons, ih]; simp [Wd.dN, Wd.aY]
theorem DE {l : List Int} : ∀ {x : Wd}, (l.foldl Wd.dN x).ready = x.ready ++ l := by
 induction l with
 | nil => intro x; simp
 | cons a l ih => intro x; rw [List.foldl_cons, ih]; simp [Wd.dN]
theorem DF (h : Hp R L M) [o : EC b L pa p x L'] (hs : x.hl.length ≤ 1000000) (hw : ∀ y ∈ (cU x.hl.length x.hl (IntKind.wrap .u64 (x.clock + 1))).2, 0 ≤ y.id ∧ y.id < x.gs.length)
  (k : ∀ R' A c M', R.le R' → RS bN R' A c x.tick.ready → Hp R' (ax (bx pa p) b x.tick :: L') M' → K (.slice A x.tick.ready.length c) M') :
  aa Tryz.prog 43 #[.pointer (some ⟨b, 0, none⟩)] M K Kp := by
 refine oO ?_
 have h' := dF h (b := b)
 clear h
 obtain ⟨a, gg, dr, n, hl, h⟩ := h'
 have hl' := hl
 obtain ⟨l1, l2, l3, l4⟩ := hl'
 unfold Wd.tick at k
 dsimp only at k
 refine aH h ?_
 refine eo.2 ⟨fun he => ?_, fun he => ?_⟩
 ·rw [if_pos he] at k
  exact k R none 0 M (Mem.le_refl _) (RS.nil _ _) (jL (a := a) (gg := gg) (dr := dr) (n := n) (x := { x with ready := [] }) hl h)
 rw [if_neg (by simpa using he)] at k
 refine aH h ?_
 refine aq h ?_
 clear h; intro M h
 refine aq h ?_
 clear h; intro M h
 refine aH h ?_
 replace h : Hp R (pt b (zR pa p dr { a with ar := none, cr := 0 } { x with clock := IntKind.wrap .u64 (x.clock + 1) } 0 a.ah x.hl.length a.ch x.kz) 164 :: eZ a.ah a.ch x.hl :: aR eP a.gb (x.gs.zip gg) :: vV a.ag a.cg a.gb :: vW a.ac a.cc a.cb :: aR bq a.cb x.az :: vX a.al a.cl a.lb :: aR eK a.lb x.aP :: ry a.ao a.co x.out :: L') M := h.sub (by repeat (first | exact .refl | refine .cons (by repeat (first | exact .here | apply cu.there)) ?_ | apply Sub.drop))
 refine Gm (Nt (a := { a with ar := none, cr := 0 }) (x := { x with clock := IntKind.wrap .u64 (x.clock + 1) })) h hs ?_
 clear h; intro A' c' M h
 have hlen : (cU x.hl.length x.hl (IntKind.wrap .u64 (x.clock + 1))).2.length ≤ x.hl.length := by
  have : ∀ (f : Nat) (l : List bh) (now : Int), (cU f l now).2.length ≤ f := by
   intro f
   induction f with
   | zero => intro l now; exact Nat.le_refl _
   | succ f ih =>
    intro l now; unfold cU; split
    ·have := ih (dk l 0) now; simp; exact this
    ·exact Nat.zero_le _
  exact this _ _ _
 generalize cU x.hl.length x.hl (IntKind.wrap .u64 (x.clock + 1)) = r at h k hw hlen
 refine aW ?_
 have h0 := h.cw bN 3
 have hW : Hp R (ax (be pa p gg dr) b { x with clock := IntKind.wrap .u64 (x.clock + 1), hl := r.1, ready := [] } :: eZ A' c' r.2 :: L') M :=
  ig (a := { a with ar := none, cr := 0 }) (x := { x with clock := IntKind.wrap .u64 (x.clock + 1), hl := r.1, ready := [] }) ⟨l1, l2, l3, l4⟩ (h0.sub (by repeat (first | exact .refl | refine .cons (by repeat (first | exact .here | apply cu.there)) ?_ | apply Sub.drop)))
 clear h h0
 generalize zO : ({ x with clock := IntKind.wrap .u64 (x.clock + 1), hl := r.1, ready := [] } : Wd) = x1 at hW k
 have Ko : x1.gs.length = x.gs.length := by rw [← zO]
 have hrd : x1.ready = [] := by rw [← zO]
 refine ⟨fun d vs M => ∃ j : Nat, vs = [.int .i64 (j : Int)] ∧ d = r.2.length - j ∧ j ≤ r.2.length ∧ Hp R (ax (be pa p gg dr) b (((r.2.take j).map (·.id)).foldl Wd.dN x1) :: eZ A' c' r.2 :: L') M, ⟨_, 0, rfl, rfl, by omega, hW⟩, ?_⟩
 clear hW
 rintro d _ nn M ⟨j, uf, hd, hj, h⟩
 simp only [List.cons.injEq, Value.int.injEq, and_true, true_and] at uf
 subst uf
 refine aL.2 ⟨fun hlt => ?_, fun hge => ?_⟩
 ·obtain ⟨w, Ys⟩ := aN (l := r.2) (i := j) (by omega)
  have Zu := hw w (List.mem_of_getElem? Ys)
  obtain ⟨q, rfl⟩ := h.bt (A := A') (by omega) (by decide)
  have QU := h.src (A := some ⟨q, 0, none⟩)
  refine ⟨by omega, hlt, bp ?_⟩
  refine jM h QU Ys (by simp) (by simp) (by simp) ?_
  clear QU
  refine aj h ?_
  clear h; intro kw M h
  refine aq h ?_
  clear h; intro M h
  refine aq h ?_
  clear h; intro M h
  refine aq h ?_
  clear h; intro M h
  refine aH h ?_
  refine fY (b := b) h Zu.1 (by rw [LO, Ko]; exact Zu.2) (by rw [DE, hrd]; simp; omega) ?_
  clear h; intro M h
  refine ⟨rfl, r.2.length - (j + 1), by omega, j + 1, by rw [bk (by omega)], rfl, by omega, ?_⟩
  rw [dB Ys, List.map_append, List.foldl_append]
  exact h.sub (by repeat (first | exact .refl | refine .cons (by repeat (first | exact .here | apply cu.there)) ?_ | apply Sub.drop))
 ·have GW : j = r.2.length := by omega
  subst GW
  rw [List.take_length] at h
  generalize hz : (r.2.map (·.id)).foldl Wd.dN x1 = z at h k
  have h' := bU h (b := b)
  clear h
  obtain ⟨a2, jW, h⟩ := h'
  refine bl h ?_
  obtain ⟨R', hle, uh, h6⟩ := h.iK a2.ar
  exact k R' _ _ _ hle uh (jL (a := a2) (n := z.ready.length) (gg := gg) (dr := dr) jW (h6.sub (by repeat (first | exact .refl | refine .cons (by repeat (first | exact .here | apply cu.there)) ?_ | apply Sub.drop))))
end
def si (x : Wd) (g : Int) (i : cQ) : Out (Wd × Bool) → Prop
 | .on (y, false) => aS y g ∧ (ae y g).fs.length = (ae x g).fs.length ∧ vY y i.a
 | .on (_, true) => True
 | .dy _ _ => True
 | .cG _ _ => True
instance (x : Wd) (g : Int) (i : cQ) (r : Out (Wd × Bool)) : Decidable (si x g i r) := match r with
 | .on (y, false) => by unfold si; infer_instance
 | .on (_, true) => isTrue trivial
 | .dy _ _ => isTrue trivial
 | .cG _ _ => isTrue trivial
theorem Gp {p : cf} {x : Wd} {g : Int} {i : cQ} (h : aS x g ∧ bn i.b ∧ l9 p x i.a (aV x g i.b) ∧ si x g i (x.put p i.a (aV x g i.b))) : Dl p x g i := by
 obtain ⟨h1, h2, h3, h4⟩ := h
 refine ⟨h1, h2, h3, ?_⟩
 generalize x.put p i.a (aV x g i.b) = r at h4
 match r, h4 with
 | .on (y, false), h4 => exact h4
 | .on (y, true), _ => trivial
 | .dy _ _, _ => trivial
 | .cG _ _, _ => trivial
instance (x : Wd) (g : Int) (i : cQ) : Decidable (tq x g i) := by unfold tq; infer_instance
instance (p : cf) (x : Wd) (i : cQ) : Decidable (lO p x i) := by unfold lO; infer_instance
def wm (p : cf) (x : Wd) (g : Int) (i : cQ) (k : Int) : Prop :=
 let c := (ay p i).getD k.toNat ⟨0, 0, 0⟩
 let x1 := x.next g
 0 ≤ k ∧ k < (ay p i).length ∧ bn c.bL ∧
  if c.way = 1 then l9 p x1 c.ch (aV x1 g c.bL) ∧ (match x1.put p c.ch (aV x1 g c.bL) with
   | .on (y, _) => aS y g ∧ (ae y g).fs.length = (ae x g).fs.length
   | _ => True)
  else r6 x1 c.ch ∧ aS (x1.get c.ch).1 g ∧ (ae (x1.get c.ch).1 g).fs.length = (ae x g).fs.length
instance (g : Int) (n : Nat) (r : Out (Wd × Bool)) : Decidable (match r with
   | .on (y, _) => aS y g ∧ (ae y g).fs.length = n
   | _ => True) := match r with
 | .on (y, _) => by dsimp only; infer_instance
 | .dy _ _ => isTrue trivial
 | .cG _ _ => isTrue trivial
instance (p : cf) (x : Wd) (g : Int) (i : cQ) (k : Int) : Decidable (wm p x g i k) := by unfold wm; infer_instance
def kH (p : cf) (x : Wd) (g : Int) (i : cQ) (d : gU) : Bool :=
 decide (aS x g ∧ sg p i ∧ bn i.c ∧ x.Sm ∧ (ae x g).top.pc < 1000000000 ∧ 0 ≤ (ae x g).top.pc ∧ (∀ c ∈ ay p i, c.Ok x.az.length)) &&
 (match d with
  | .cG _ => true
  | .num v => (enabled (ay p i) x.az).isEmpty || decide (0 ≤ v ∧ v < (enabled (ay p i) x.az).length ∧ wm p x g i ((enabled (ay p i) x.az).getD v.toNat 0)))
theorem BH {p : cf} {x : Wd} {g : Int} {i : cQ} {d : gU} (h : kH p x g i d = true) : BD p x g i d := by
 unfold kH at h
 rw [Bool.and_eq_true] at h
 obtain ⟨h1, h2⟩ := h
 obtain ⟨a1, a2, a3, a4, a5, a6, a7⟩ := of_decide_eq_true h1
 refine ⟨a1, a2, a3, a4, a5, a6, a7, ?_⟩
 cases d with
 | cG l => split <;> trivial
 | num v =>
  dsimp only at h2
  cases he : enabled (ay p i) x.az with
  | nil => trivial
  | cons q l =>
   rw [he] at h2
   rw [List.isEmpty_cons, Bool.false_or] at h2
   have h3 := of_decide_eq_true h2
   exact h3
def iq (p : cf) (x : Wd) (g : Int) (i : cQ) : Option (Out Wd) :=
 if i.op = 10 then (if aS x g ∧ bn i.a ∧ bn (ae x g).top.eE then some (.on (x.back g i)) else none)
 else if i.op = 11 then (if aS x g ∧ bn i.b ∧ bn i.c ∧ x.Sm then some (x.spawn g i) else none)
 else if i.op = 13 then (if (aS x g ∧ bn i.b ∧ l9 p x i.a (aV x g i.b) ∧ si x g i (x.put p i.a (aV x g i.b))) ∧ x.Sm then some (x.send p g i) else none)
 else if i.op = 14 then (if tq x g i ∧ x.Sm then some (.on (x.recv g i)) else none)
 else if i.op = 15 then (if lO p x i ∧ x.Sm then some (x.shut p i) else none)
 else if i.op = 20 then (if aS x g ∧ bn i.a ∧ x.Sm then some (x.emit g i) else none)
 else if i.op = 9 then (if aS x g ∧ bn i.b then some (x.call g i) else none)
 else if i.op = 12 then some (.on x)
 else if i.op = 17 then (if aS x g ∧ bn i.a ∧ x.hl.length < 1000000 then some (.on (x.sleep g i)) else none)
 else if i.op = 18 then (if aS x g ∧ zQ x i.a ∧ x.Sm then some (.on (x.lock g i)) else none)
 else if i.op = 19 then (if kG x g i ∧ x.Sm then some (x.unlock g i) else none)
 else if i.op = 22 then some (.dy i.a x)
 else none
def jN (p : cf) (x : Wd) (g : Int) : Option cQ := match p.funcs[(ae x g).top.fn.toNat]? with
 | none => none
 | some code => code[(ae x g).top.pc.toNat]?
def me (x : Wd) (g : Int) : Prop := 0 ≤ g ∧ g < x.gs.length ∧ x.end_ = 0 ∧ (ae x g).st = 1
instance (x : Wd) (g : Int) : Decidable (me x g) := by unfold me; infer_instance
def asks (p : cf) (x : Wd) (g : Int) : Option (Int × Int) :=
 if me x g then match jN p x g with
  | none => none
  | some i => if i.op = 21 then some (4, i.b) else if i.op = 16 then (if enabled (ay p i) x.az = [] then none else some (3, (enabled (ay p i) x.az).length)) else none
 else none
def jO (p : cf) (x0 : Wd) (g : Int) (d : gU) : Option (Out Wd × Bool) :=
 let x := { x0 with ready := [] }
 if me x g then
  if aS x g ∧ 0 ≤ (ae x g).top.fn ∧ 0 ≤ (ae x g).top.pc ∧ (ae x g).top.pc < 1000000000 then
   match p.funcs[(ae x g).top.fn.toNat]? with
   | none => none
   | some code => match code[(ae x g).top.pc.toNat]? with
    | none => some (.dy (-7) x, false)
    | some i =>
     if 0 ≤ i.op ∧ i.op ≤ 8 then (if i.jZ then some (.on (x.aY g ((ae x g).bS ((ae x g).top.next.pure i))), false) else none)
     else if i.op = 16 then (if kH p x g i d = true then (if g < (x.choose p g i d).fin.gs.length then some (x.choose p g i d, false) else none) else none)
     else if i.op = 21 then (if bn i.a then (if g < (x.rand g i d).fin.gs.length then some (x.rand g i d, false) else none) else none)
     else match iq p (x.next g) g i with
      | none => none
      | some r => if g < r.fin.gs.length then some (r, wc i.op r) else none
  else none
 else some (.on x, true)
def exec (p : cf) (x : Wd) (g : Int) (d : gU) : Option (Wd × Bool) := match jO p x g d with
 | some (.on y, rest) => some (y, dg y g rest)
 | some (.dy n y, rest) => some ({ y with end_ := 2, code := n }, dg { y with end_ := 2, code := n } g rest)
 | _ => none
section
variable {R : Mem} {L L' L2 : List HP} {M : Mem} {K : Value → Mem → Prop} {Kp : List PanicEntry → Mem → Prop} {pa : PA} {p : cf} {gg : List GA} {dr : Value} {b : Nat} {x : Wd} {g : Int}
theorem bY {α : Type} {c : Prop} [Decidable c] {a b : α} (h : (if c then some a else none) = some b) : c ∧ b = a := by
 split at h
 ·rename_i hc; cases h; exact ⟨hc, rfl⟩
 ·cases h
theorem Gq {i : cQ} {r : Out Wd} (hp : mH R pa p) (h : iq p x g i = some r) : ∃ fn, xK PS i.op = some (.func (.func fn) #[] #[]) ∧ (1 < fn ∧ fn < 228) ∧ i.op ≠ 16 ∧ i.op ≠ 21 ∧ 8 < i.op ∧ ∀ L, eR R pa p dr fn x g i r L L := by
 unfold iq at h
 by_cases e : i.op = 10
 ·rw [if_pos e] at h
  obtain ⟨hc, rfl⟩ := bY h
  exact ⟨162, by rw [e]; rfl, by decide, by omega, by omega, by omega, fun L => LF hc.1 hc.2.1 hc.2.2⟩
 rw [if_neg e] at h
 clear e
 by_cases e : i.op = 11
 ·rw [if_pos e] at h
  obtain ⟨hc, rfl⟩ := bY h
  exact ⟨163, by rw [e]; rfl, by decide, by omega, by omega, by omega, fun L => Jv hc.1 hc.2.1 hc.2.2.1 hc.2.2.2⟩
 rw [if_neg e] at h
 clear e
 by_cases e : i.op = 13
 ·rw [if_pos e] at h
  obtain ⟨hc, rfl⟩ := bY h
  exact ⟨165, by rw [e]; rfl, by decide, by omega, by omega, by omega, fun L => LA hp (Gp hc.1) hc.2⟩
 rw [if_neg e] at h
 clear e
 by_cases e : i.op = 14
 ·rw [if_pos e] at h
  obtain ⟨hc, rfl⟩ := bY h
  exact ⟨166, by rw [e]; rfl, by decide, by omega, by omega, by omega, fun L => LB hc.1 hc.2⟩
 rw [if_neg e] at h
 clear e
 by_cases e : i.op = 15
 ·rw [if_pos e] at h
  obtain ⟨hc, rfl⟩ := bY h
  exact ⟨167, by rw [e]; rfl, by decide, by omega, by omega, by omega, fun L => LD hp hc.1 hc.2⟩
 rw [if_neg e] at h
 clear e
 by_cases e : i.op = 20
 ·rw [if_pos e] at h
  obtain ⟨hc, rfl⟩ := bY h
  exact ⟨171, by rw [e]; rfl, by decide, by omega, by omega, by omega, fun L => LC hc.1 hc.2.1 hc.2.2⟩
 rw [if_neg e] at h
 clear e
 by_cases e : i.op = 9
 ·rw [if_pos e] at h
  obtain ⟨hc, rfl⟩ := bY h
  exact ⟨161, by rw [e]; rfl, by decide, by omega, by omega, by omega, fun L => LJ hc.1 hc.2⟩
 rw [if_neg e] at h
 clear e
 by_cases e : i.op = 12
 ·rw [if_pos e] at h
  cases h
  exact ⟨164, by rw [e]; rfl, by decide, by omega, by omega, by omega, fun L => JB⟩
 rw [if_neg e] at h
 clear e
 by_cases e : i.op = 17
 ·rw [if_pos e] at h
  obtain ⟨hc, rfl⟩ := bY h
  exact ⟨168, by rw [e]; rfl, by decide, by omega, by omega, by omega, fun L => JC hc.1 hc.2.1 hc.2.2⟩
 rw [if_neg e] at h
 clear e
 by_cases e : i.op = 18
 ·rw [if_pos e] at h
  obtain ⟨hc, rfl⟩ := bY h
  exact ⟨169, by rw [e]; rfl, by decide, by omega, by omega, by omega, fun L => LK hc.1 hc.2.1 hc.2.2⟩
 rw [if_neg e] at h
 clear e
 by_cases e : i.op = 19
 ·rw [if_pos e] at h
  obtain ⟨hc, rfl⟩ := bY h
  exact ⟨170, by rw [e]; rfl, by decide, by omega, by omega, by omega, fun L => Gn hc.1 hc.2⟩
 rw [if_neg e] at h
 clear e
 by_cases e : i.op = 22
 ·rw [if_pos e] at h
  cases h
  exact ⟨172, by rw [e]; rfl, by decide, by omega, by omega, by omega, fun L => LM⟩
 rw [if_neg e] at h
 clear e
 cases h
theorem DG {l : List Int} (h : Hp R (ax (bx pa p) b x :: L) M) : Hp R (ax (bx pa p) b { x with ready := l } :: L) M := by
 obtain ⟨a, gg, dr, n, hl, h⟩ := dF h (b := b)
 exact jL (a := a) (gg := gg) (dr := dr) (n := n) (x := { x with ready := l }) hl h
theorem gJ.cons {kind n : Int} {d : gU} {Q : HP} (h : gJ R dr kind n d L L2) : gJ R dr kind n d (Q :: L) (Q :: L2) := by
 intro Q' M K Kp hM k
 refine h (sep [Q', Q]) M K Kp (Hp.aO.2 hM) ?_
 cases d with
 | num v => exact fun M' h' => k M' (Hp.aO.1 h')
 | cG l => exact fun M' h' => k M' (Hp.aO.1 h')
theorem Gr {d : gU} {r : Out Wd} {rest : Bool} (h : Hp R L M) [o : EC b L pa p x L'] (hp : mH R pa p) (wg : ∃ f c d, dr = .func f c d) (he : jO p x g d = some (r, rest))
  (hd : match asks p { x with ready := [] } g with | none => L2 = L' | some (kd, n) => gJ R dr kd n d L' L2) (k : oG R pa p b g L2 K Kp r rest) :
  aa Tryz.prog 41 #[.pointer (some ⟨b, 0, none⟩), .int .i64 g, dr] M K Kp := by
 unfold jO at he
 dsimp only at he
 split at he
 ·rename_i hg
  have zH := hg
  obtain ⟨h0, h1, Yt, we⟩ := zH
  split at he
  ·rename_i ug
   obtain ⟨JD, hf0, Zv, QN⟩ := ug
   split at he
   ·cases he
   ·rename_i code ik
    have done : ∀ (r : Out Wd) (rest : Bool), oG R pa p b g L2 K Kp r rest → (∀ Q, Step R pa p dr { x with ready := [] } g code r rest (Q :: L') (Q :: L2)) → g < r.fin.gs.length → aa Tryz.prog 41 #[.pointer (some ⟨b, 0, none⟩), .int .i64 g, dr] M K Kp := by
     intro r rest k hs hl
     exact Dz (x := x) h hp (show aS x g from JD) Yt we hf0 ik ⟨Zv, QN⟩ wg hs hl k
    have uH : ∀ i, code[(ae x g).top.pc.toNat]? = some i → asks p { x with ready := [] } g = if i.op = 21 then some (4, i.b) else if i.op = 16 then (if enabled (ay p i) x.az = [] then none else some (3, ((enabled (ay p i) x.az).length : Int))) else none := by
     intro i hi
     unfold asks
     rw [if_pos hg]
     unfold jN
     rw [show p.funcs[(ae { x with ready := [] } g).top.fn.toNat]? = some code from ik]
     dsimp only
     rw [show code[(ae { x with ready := [] } g).top.pc.toNat]? = some i from hi]
    split at he
    ·rename_i hnone
     cases he
     have e : asks p { x with ready := [] } g = none := by
      unfold asks
      rw [if_pos hg]
      unfold jN
      rw [show p.funcs[(ae { x with ready := [] } g).top.fn.toNat]? = some code from ik]
      dsimp only
      rw [hnone]
     rw [e] at hd
     dsimp only at hd
     subst hd
     refine done (.dy (-7) { x with ready := [] }) false k (fun Q => .out ?_) h1
     have := List.getElem?_eq_none_iff.1 hnone
     omega
    ·rename_i i hi
     have e := uH i hi
     rw [e] at hd
     clear e uH
     split at he
     ·rename_i h8
      split at he
      ·rename_i hok
       cases he
       rw [if_neg (by omega), if_neg (by omega)] at hd
       dsimp only at hd
       subst hd
       exact done (.on _) false k (fun Q => .pure i hi h8.1 h8.2 hok) (by simpa [Out.fin, Wd.aY] using h1)
      ·cases he
     split at he
     ·rename_i Er
      split at he
      ·rename_i hok
       split at he
       ·rename_i hl
        cases he
        rw [if_neg (by omega), if_pos Er] at hd
        refine done _ false k (fun Q => .zK i hi Er (Gg hp (BH hok) ?_)) hl
        split at hd
        ·rename_i hq
         split at hq
         ·rename_i oB
          rw [if_pos (by exact oB), hd]
         ·cases hq
        ·rename_i kd n hq
         split at hq
         ·cases hq
         ·rename_i oB
          cases hq
          rw [if_neg (by exact oB)]
          exact hd.cons
       ·cases he
      ·cases he
     split at he
     ·rename_i QO
      split at he
      ·rename_i hok
       split at he
       ·rename_i hl
        cases he
        rw [if_pos QO] at hd
        exact done _ false k (fun Q => .PT i hi QO (LN JD hok ⟨Zv, QN⟩ (gJ.cons hd))) hl
       ·cases he
      ·cases he
     split at he
     ·cases he
     ·rename_i Er QO _ r' uk
      split at he
      ·rename_i hl
       cases he
       rw [if_neg QO, if_neg Er] at hd
       dsimp only at hd
       subst hd
       obtain ⟨fn, f1, f2, f3, f4, f5, f6⟩ := Gq (R := R) (pa := pa) (dr := dr) hp uk
       exact done _ _ k (fun Q => .dflt i fn hi f5 f3 f4 f1 f2 (f6 _)) hl
      ·cases he
  ·cases he
 ·rename_i hr
  cases he
  have e : asks p { x with ready := [] } g = none := by
   unfold asks
   rw [if_neg hr]
  rw [e] at hd
  dsimp only at hd
  subst hd
  refine iF ?_
  refine aj h ?_
  clear h
  intro kb M h
  have hC := h
  have h' := dF h (b := b)
  clear h
  obtain ⟨a, gg, dr0, n0, hl, h⟩ := h'
  have hl' := hl
  obtain ⟨l1, l2, l3, l4⟩ := hl'
  have fin : aF M ⟨kb, 0, none⟩ (.bool false) fun sB => aF sB ⟨kb, (0 + 1), none⟩ (.slice none 0 0) fun xH =>
    c6 (Mem.ld xH ⟨kb, 0, none⟩) fun t36 => aC (Mem.ld xH ⟨kb, (0 + 1), none⟩) fun K9 ia vK => K (.agg #[(.bool t36), (.slice K9 ia vK)]) xH := by
   have h := hC
   clear hC
   refine aq h ?_
   clear h; intro M h
   refine aq h ?_
   clear h; intro M h
   refine Ea h (bl h ?_)
   have k2 := k R none 0 M (Mem.le_refl _) (RS.nil _ _) (DG (h.drop.pick o.pick))
   exact k2
  refine aL.2 ⟨fun hn => fin, fun h0 => ?_⟩
  refine bl h ?_
  refine aL.2 ⟨fun hn => fin, fun h1 => ?_⟩
  refine aH h ?_
  refine eo.2 ⟨fun hn => fin, fun he0 => ?_⟩
  refine bl h ?_
  refine ⟨by omega, by omega, ?_⟩
  obtain ⟨gb, eL⟩ := aN (l := a.gb) (i := g.toNat) (by omega)
  refine sC h eL fun q hq => ?_
  obtain ⟨ga, PX⟩ := aN (l := gg) (i := g.toNat) (by omega)
  obtain ⟨z, hy⟩ := aN (l := x.gs) (i := g.toNat) (by omega)
  have ey : ae x g = z := by simp [ae, hy]
  refine bp ?_
  have Jx : M.ld ⟨gb, 0, none⟩ = some (.int .i64 z.st) := by
   have h9 := kD (b := gb) (h.cz eP eL (lN hy PX))
   exact bz h9
  rw [Jx]
  refine cF ?_
  refine eo.2 ⟨fun hn => fin, fun hn => ?_⟩
  exact absurd ⟨by omega, by show g < (x.gs.length : Int); omega, he0, by show (ae x g).st = 1; rw [ey]; exact hn⟩ hr
end
def BI (y : dD) : Bool := y.st == 1 || y.st == 3
def Wd.stuck (x : Wd) : Bool := x.end_ == 0 && !(x.gs.any BI)
section
variable {R : Mem} {L L' L2 : List HP} {M : Mem} {K : Value → Mem → Prop} {Kp : List PanicEntry → Mem → Prop} {pa : PA} {p : cf} {b : Nat} {x : Wd} {g : Int}
theorem BJ (h : Hp R L M) [o : EC b L pa p x L'] (hs : x.gs.length ≤ 1000000) (k : K (.bool x.stuck) M) : aa Tryz.prog 44 #[.pointer (some ⟨b, 0, none⟩)] M K Kp := by
 refine nv ?_
 unfold Wd.stuck at k
 have h' := dF h (b := b)
 clear h
 obtain ⟨a, gg, dr, n, hl, h⟩ := h'
 have hl' := hl
 obtain ⟨l1, l2, l3, l4⟩ := hl'
 refine aH h ?_
 refine eo.2 ⟨fun he => ?_, fun he => ?_⟩
 ·rw [show (x.end_ == 0) = false from by simpa using he, Bool.false_and] at k
  exact k
 rw [show (x.end_ == 0) = true from by simpa using he, Bool.true_and] at k
 refine bl h ?_
 refine ⟨fun d vs M' => ∃ j : Nat, vs = [.int .i64 (j : Int)] ∧ d = x.gs.length - j ∧ j ≤ x.gs.length ∧ (x.gs.take j).any BI = false ∧ M' = M, ⟨_, 0, rfl, rfl, by omega, rfl, rfl⟩, ?_⟩
 rintro d _ nn M' ⟨j, uf, hd, hj, ha, rfl⟩
 simp only [List.cons.injEq, Value.int.injEq, and_true, true_and] at uf
 subst uf
 refine aL.2 ⟨fun hlt => ?_, fun hge => ?_⟩
 ·obtain ⟨gb, eL⟩ := aN (l := a.gb) (i := j) (by omega)
  obtain ⟨ga, PX⟩ := aN (l := gg) (i := j) (by omega)
  obtain ⟨y, hy⟩ := aN (l := x.gs) (i := j) (by omega)
  have Jx : M'.ld ⟨gb, 0, none⟩ = some (.int .i64 y.st) := by
   have h9 := kD (b := gb) (h.cz eP eL (lN hy PX))
   exact bz h9
  refine ⟨by omega, by omega, ?_⟩
  refine sC h eL fun q hq => ?_
  refine bp ?_
  rw [Jx]
  refine cF ?_
  have Zw := List.mem_of_getElem? hy
  refine bP.2 ⟨fun e1 => ?_, fun e1 => ?_⟩
  ·have : x.gs.any BI = true := List.any_eq_true.2 ⟨y, Zw, by simp [BI, e1]⟩
   rw [this] at k
   exact k
  refine bp ?_
  rw [Jx]
  refine cF ?_
  refine bP.2 ⟨fun e3 => ?_, fun e3 => ?_⟩
  ·have : x.gs.any BI = true := List.any_eq_true.2 ⟨y, Zw, by simp [BI, e3]⟩
   rw [this] at k
   exact k
  refine ⟨x.gs.length - (j + 1), by omega, j + 1, by rw [bk (by omega)], rfl, by omega, ?_, rfl⟩
  rw [dB hy, List.any_append, ha]
  simp [BI, e1, e3]
 ·have GW : j = x.gs.length := by omega
  subst GW
  rw [List.take_length] at ha
  rw [ha] at k
  exact k
end
def LP : jv (Int × Int) := ⟨2, fun w => [.int .i64 w.1, .int .u64 w.2], fun _ => rfl, fun w v hv => by
 simp only [List.mem_cons, List.not_mem_nil, or_false] at hv; obtain rfl | rfl := hv <;> rfl⟩
inductive gv where
 | qz (l : List Int) (at_ : Nat)
 | tape (l : List (Int × Int)) (at_ : Nat)
structure kI where
 k : gv
 taken : List (Int × Int)
def Gs : List PanicEntry := [{ v := .iface 227 (.agg #[]), recovered := false }]
def QV (at_ kind n k v : Int) : List PanicEntry := [{ v := .iface 155 (.agg #[.int .i64 at_, .int .i64 kind, .int .i64 n, .int .i64 k, .int .u64 v]), recovered := false }]
def j3 (n : Int) : Int := if 1 > n then 1 else n
def gv.next (k : gv) (kind m : Int) : gv × gU := match k with
 | .qz l i => match l[i]? with
  | none => (.qz l i, .cG Gs)
  | some v => (.qz l (i + 1), .num (Int.tmod v m))
 | .tape l i => match l[i]? with
  | none => (.tape l i, .cG Gs)
  | some (q, v) => if q ≠ kind then (.tape l i, .cG (QV i kind m q v)) else if v ≥ m then (.tape l i, .cG (QV i kind m q v)) else (.tape l (i + 1), .num v)
def kI.draw (x : kI) (kind n : Int) : kI × gU := match x.k.next kind (j3 n) with
 | (k', .num v) => (⟨k', x.taken ++ [(kind, v)]⟩, .num v)
 | (k', .cG l) => (⟨k', x.taken⟩, .cG l)
def gv.Ok : gv → Prop
 | .qz l i => l.length ≤ 1000000000 ∧ i ≤ l.length ∧ ∀ v ∈ l, 0 ≤ v ∧ v < 18446744073709551616
 | .tape l i => l.length ≤ 1000000000 ∧ i ≤ l.length ∧ ∀ v ∈ l, 0 ≤ v.2 ∧ v.2 < 18446744073709551616
def kI.Ok (x : kI) : Prop := x.k.Ok ∧ x.taken.length ≤ 1000000000
abbrev qA (A : Option Addr) (c : Nat) (l : List (Int × Int)) : HP := ct LP 153 A c l
abbrev SU (A : Option Addr) (c : Nat) (l : List Int) : HP := ct CK 36 A c l
def kR : qH gv := ⟨fun b k => match k with
 | .qz l i => exs fun A : Option Addr => exs fun c : Nat => sep [pt b [.slice A l.length c, .int .i64 (i : Int)] 147, SU A c l]
 | .tape l i => exs fun A : Option Addr => exs fun c : Nat => sep [pt b [.slice A l.length c, .int .i64 (i : Int)] 175, qA A c l]⟩
def um : gv → Nat → Value
 | .qz _ _, b => .func (.func 54) #[.pointer (some ⟨b, 0, none⟩)] #[]
 | .tape _ _, b => .func (.func 66) #[.pointer (some ⟨b, 0, none⟩)] #[]
def wq : gv → Nat → Value
 | .qz _ _, b => .func (.func 55) #[.pointer (some ⟨b, 0, none⟩)] #[]
 | .tape _ _, b => .func (.func 67) #[.pointer (some ⟨b, 0, none⟩)] #[]
def cn (Nu : Value) : qH kI := ⟨fun b x => exs fun A : Option Addr => exs fun c : Nat => exs fun kb : Nat =>
 sep [pt b [um x.k kb, wq x.k kb, .slice A x.taken.length c, Nu] 151, qA A c x.taken, ax kR kb x.k]⟩
theorem P0 : bu Tryz.prog 97 153 2 16 [.int .i64 0, .int .u64 0] := bu.mk' (zv := .agg #[.int .i64 0, .int .u64 0]) (by kernel_rfl) (by kernel_rfl) rfl (by omega)
theorem DH : bu Tryz.prog 35 36 1 8 [.int .u64 0] := bu.mk' (zv := .int .u64 0) (by kernel_rfl) (by kernel_rfl) rfl (by omega)
theorem nN {C : Ctx} {g : Nat} {first : Array Value} {args : List Value} {M : Mem} {K : Value → Mem → Prop} {Kp : List PanicEntry → Mem → Prop} (hg : 1 < g ∧ g < C.ok) (h : aa C.P g (first.toList ++ args).toArray M K Kp) : gy C (.func (.func g) first #[]) args M K Kp := by
 unfold gy
 simp only
 rw [if_pos hg]
 simpa using h
theorem wu (n : Int) : 1 ≤ j3 n := by unfold j3; split <;> omega
theorem BK {z : Int} (h0 : 0 ≤ z) (h : z < 18446744073709551616) : IntKind.wrap .u64 z = z := by
 obtain ⟨n, rfl⟩ := Int.eq_ofNat_of_zero_le h0
 rw [IntKind.wrap_u64]; omega
section
variable {R : Mem} {L L' L2 : List HP} {M : Mem} {K : Value → Mem → Prop} {Kp : List PanicEntry → Mem → Prop} {b : Nat} {x : kI} {Nu : Value}
theorem wv {k : gv} {kind m : Int} (hok : k.Ok) (hm : 1 ≤ m) {k' : gv} {v : Int} (h : k.next kind m = (k', .num v)) : 0 ≤ v ∧ v < m := by
 cases k with
 | qz l i =>
  unfold gv.next at h
  dsimp only at h
  split at h
  ·cases h
  ·rename_i w hw
   cases h
   have := hok.2.2 w (List.mem_of_getElem? hw)
   exact ⟨Int.tmod_nonneg _ this.1, Int.tmod_lt_of_pos _ (by omega)⟩
 | tape l i =>
  unfold gv.next at h
  dsimp only at h
  split at h
  ·cases h
  ·rename_i q w hw
   have := hok.2.2 _ (List.mem_of_getElem? hw)
   split at h
   ·cases h
   ·split at h
    ·cases h
    ·cases h
     exact ⟨this.1, by omega⟩
theorem LQ {k : gv} {kind m : Int} (hok : k.Ok) : (k.next kind m).1.Ok := by
 cases k with
 | qz l i =>
  unfold gv.next
  dsimp only
  split
  ·exact hok
  ·rename_i w hw
   have := (List.getElem?_eq_some_iff.1 hw).1
   exact ⟨hok.1, by omega, hok.2.2⟩
 | tape l i =>
  unfold gv.next
  dsimp only
  split
  ·exact hok
  ·rename_i q w hw
   have := (List.getElem?_eq_some_iff.1 hw).1
   split
   ·exact hok
   ·split
    ·exact hok
    ·exact ⟨hok.1, by omega, hok.2.2⟩
theorem DI {k : gv} {kind m : Int} {kb : Nat} : um (k.next kind m).1 kb = um k kb ∧ wq (k.next kind m).1 kb = wq k kb := by
 cases k with
 | qz l i => unfold gv.next; dsimp only; split <;> exact ⟨rfl, rfl⟩
 | tape l i =>
  unfold gv.next; dsimp only; split
  ·exact ⟨rfl, rfl⟩
  ·split
   ·exact ⟨rfl, rfl⟩
   ·split <;> exact ⟨rfl, rfl⟩
theorem P2 {k : gv} {kb : Nat} {kind m : Int} (h : Hp R (ax kR kb k :: L) M) (hok : k.Ok) (hm : 1 ≤ m) (SW : m < 9223372036854775808)
  (g : match (k.next kind m).2 with
   | .num v => ∀ M', Hp R (ax kR kb (k.next kind m).1 :: L) M' → K (.int .u64 v) M'
   | .cG l => ∀ M', Hp R (ax kR kb (k.next kind m).1 :: L) M' → Kp l M') :
  gy Cx (um k kb) [.int .i64 kind, .int .i64 m] M K Kp := by
 cases k with
 | qz l i =>
  refine nN ⟨by decide, by show _ < 228; decide⟩ ?_
  refine mD ?_
  obtain ⟨o1, o2, o3⟩ := hok
  unfold gv.next at g
  dsimp only at g
  have h2 := h.obj kR kb
  simp only [kR, Hp.cX, Hp.aO, List.cons_append, List.nil_append] at h2
  obtain ⟨A, c, h2⟩ := h2
  clear h
  have h := h2
  clear h2
  have mk : ∀ {M : Mem} {i : Nat}, Hp R (pt kb [.slice A l.length c, .int .i64 (i : Int)] 147 :: SU A c l :: L) M → Hp R (ax kR kb (.qz l i) :: L) M := by
   intro M i h
   refine Hp.uu ?_
   simp only [kR, Hp.cX, Hp.aO, List.cons_append, List.nil_append]
   exact ⟨_, _, h⟩
  refine aH h (bl h ?_)
  refine aL.2 ⟨fun hge => ?_, fun hlt => ?_⟩
  ·have e : l[i]? = none := List.getElem?_eq_none_iff.2 (by omega)
   rw [e] at g
   exact g _ (mk h)
  ·obtain ⟨w, hw⟩ := aN (l := l) (i := i) (by omega)
   rw [hw] at g
   have Zx := o3 w (List.mem_of_getElem? hw)
   refine aH h ?_
   rw [bk (by omega)]
   refine aq h ?_
   clear h; intro M h
   refine bl h (aH h ?_)
   have e : IntKind.wrap .i64 (((i + 1 : Nat) : Int) - 1) = (i : Int) := by rw [cD (by omega) (by omega)]; omega
   rw [e]
   obtain ⟨q, rfl⟩ := h.bt (A := A) (by omega) (by decide)
   refine ⟨by omega, by omega, bp ?_⟩
   refine br (Src.at (h.src (A := some ⟨q, 0, none⟩)) h (i := i) (j := 0) hw rfl (by simp [CK])) ?_
   rw [BK (by omega) (by omega)]
   exact ⟨by omega, g _ (mk h)⟩
 | tape l i =>
  refine nN ⟨by decide, by show _ < 228; decide⟩ ?_
  refine po ?_
  obtain ⟨o1, o2, o3⟩ := hok
  unfold gv.next at g
  dsimp only at g
  have h2 := h.obj kR kb
  simp only [kR, Hp.cX, Hp.aO, List.cons_append, List.nil_append] at h2
  obtain ⟨A, c, h2⟩ := h2
  clear h
  have h := h2
  clear h2
  have mk : ∀ {M : Mem} {i : Nat}, Hp R (pt kb [.slice A l.length c, .int .i64 (i : Int)] 175 :: qA A c l :: L) M → Hp R (ax kR kb (.tape l i) :: L) M := by
   intro M i h
   refine Hp.uu ?_
   simp only [kR, Hp.cX, Hp.aO, List.cons_append, List.nil_append]
   exact ⟨_, _, h⟩
  refine aH h (bl h ?_)
  refine aL.2 ⟨fun hge => ?_, fun hlt => ?_⟩
  ·have e : l[i]? = none := List.getElem?_eq_none_iff.2 (by omega)
   rw [e] at g
   exact g _ (mk h)
  ·obtain ⟨⟨q, w⟩, hw⟩ := aN (l := l) (i := i) (by omega)
   rw [hw] at g
   dsimp only at g
   have Zx := o3 _ (List.mem_of_getElem? hw)
   dsimp only at Zx
   refine bl h (aH h ?_)
   obtain ⟨q0, rfl⟩ := h.bt (A := A) (by omega) (by decide)
   refine ⟨by omega, by omega, bp ?_⟩
   refine br (Src.at (h.src (A := some ⟨q0, 0, none⟩)) h (i := i) (j := 0) hw rfl (by simp [LP])) ?_
   refine br (Src.at (h.src (A := some ⟨q0, 0, none⟩)) h (i := i) (j := 1) hw rfl (by simp [LP])) ?_
   refine aj h ?_
   clear h; intro kk M h
   refine aq h ?_
   clear h; intro M h
   refine aq h ?_
   clear h; intro M h
   refine aH h ?_
   refine eo.2 ⟨fun hne => ?_, fun heq => ?_⟩
   ·rw [if_pos hne] at g
    refine aH h (aH h (aH h ?_))
    exact g _ (mk (h.sub (by repeat (first | exact .refl | refine .cons (by repeat (first | exact .here | apply cu.there)) ?_ | apply Sub.drop))))
   ·rw [if_neg (by simpa using heq)] at g
    refine aH h ?_
    rw [BK (by omega) (by omega)]
    refine aL.2 ⟨fun hge => ?_, fun Yu => ?_⟩
    ·rw [if_pos hge] at g
     refine aH h (aH h (aH h ?_))
     exact g _ (mk (h.sub (by repeat (first | exact .refl | refine .cons (by repeat (first | exact .here | apply cu.there)) ?_ | apply Sub.drop))))
    ·rw [if_neg Yu] at g
     refine aH h ?_
     rw [bk (by omega)]
     refine aq h ?_
     clear h; intro M h
     refine aH h ?_
     exact g _ (mk (h.sub (by repeat (first | exact .refl | refine .cons (by repeat (first | exact .here | apply cu.there)) ?_ | apply Sub.drop))))
theorem JE (h : Hp R L M) [o : bW (cn Nu) b L x L'] : ∃ A c kb, Hp R (pt b [um x.k kb, wq x.k kb, .slice A x.taken.length c, Nu] 151 :: qA A c x.taken :: ax kR kb x.k :: L') M := by
 have := h.obj (cn Nu) b
 simpa only [cn, Hp.cX, Hp.aO, List.cons_append, List.nil_append] using this
theorem DJ {A : Option Addr} {c kb : Nat} (h : Hp R (pt b [um x.k kb, wq x.k kb, .slice A x.taken.length c, Nu] 151 :: qA A c x.taken :: ax kR kb x.k :: L) M) : Hp R (ax (cn Nu) b x :: L) M := by
 refine Hp.uu ?_
 simp only [cn, Hp.cX, Hp.aO, List.cons_append, List.nil_append]
 exact ⟨_, _, _, h⟩
theorem nO {kind n : Int} (h : Hp R L M) [o : bW (cn .nilFunc) b L x L'] (hok : x.Ok) (hn : n < 9223372036854775808) (ht : x.taken.length < 100000000)
  (g : match (x.draw kind n).2 with
   | .num v => ∀ M', Hp R (ax (cn .nilFunc) b (x.draw kind n).1 :: L') M' → K (.int .i64 v) M'
   | .cG l => ∀ M', Hp R (ax (cn .nilFunc) b (x.draw kind n).1 :: L') M' → Kp l M') :
  aa Tryz.prog 98 #[.pointer (some ⟨b, 0, none⟩), .int .i64 kind, .int .i64 n] M K Kp := by
 refine mE ?_
 have h' := JE (Nu := .nilFunc) h (b := b)
 clear h
 obtain ⟨A, c, kb, h⟩ := h'
 refine HK h ?_
 have em : (if (1 : Int) > n then 1 else n) = j3 n := rfl
 rw [em]
 have Zy := wu n
 have SW : j3 n < 9223372036854775808 := by unfold j3; split <;> omega
 have hnv := DI (k := x.k) (kind := kind) (m := j3 n) (kb := kb)
 obtain ⟨Jn, vg⟩ := hnv
 have DK := fun k' v => wv (k := x.k) (kind := kind) hok.1 Zy (k' := k') (v := v)
 unfold kI.draw at g
 replace h : Hp R (ax kR kb x.k :: pt b [um x.k kb, wq x.k kb, .slice A x.taken.length c, .nilFunc] 151 :: qA A c x.taken :: L') M := h.sub bQ
 refine P2 (kind := kind) h hok.1 Zy SW ?_
 clear h
 generalize hr : x.k.next kind (j3 n) = r at g Jn vg DK
 obtain ⟨k', d⟩ := r
 dsimp only at Jn vg ⊢
 rw [← Jn, ← vg]
 cases d with
 | cG l =>
  dsimp only at g ⊢
  intro M h
  exact g _ (DJ (x := ⟨k', x.taken⟩) (h.sub bQ))
 | num v =>
  dsimp only at g ⊢
  obtain ⟨v0, v1⟩ := DK k' v rfl
  intro M h
  refine cF ?_
  refine aj h ?_
  clear h; intro k5 M h
  refine aq h ?_
  clear h; intro M h
  refine aq h ?_
  clear h; intro M h
  refine bl h (aH h (aH h ?_))
  refine aj h ?_
  clear h; intro iB M h
  refine h.bE (A := A) P0 [(kind, v)] rfl rfl (by simp only [List.length_singleton]; omega) ?_
  clear h; intro A' c' M h
  refine aW ?_
  refine aq h ?_
  clear h; intro M h
  refine HK h ?_
  unfold D0
  dsimp only
  refine ai (aH h ?_)
  rw [cD (by omega) (by omega)]
  exact g _ (DJ (x := ⟨k', x.taken ++ [(kind, v)]⟩) (h.sub bQ))
theorem hO {B : Option Addr} {m cb : Nat} {l : List Int} (h : Hp R L M) (hB : Src R L B (CK.cells l)) (hm : m = l.length) (hl : l.length ≤ 1000000000)
  (g : ∀ b M', Hp R (ax (cn .nilFunc) b ⟨.qz l 0, []⟩ :: L) M' → K (.pointer (some ⟨b, 0, none⟩)) M') :
  aa Tryz.prog 17 #[.slice B m cb] M K Kp := by
 refine s9 ?_
 refine aj h ?_
 clear h; intro k1 M h
 refine h.lB CK DH l hB.cons hm (by omega) ?_
 clear h; intro A' c' M h
 refine aW ?_
 refine aj h ?_
 clear h; intro k8 M h
 refine aj h ?_
 clear h; intro eM M h
 have h2 := h.cw LP 153
 refine g eM _ (DJ (x := ⟨.qz l 0, []⟩) (A := none) (c := 0) (kb := k8) ?_)
 have h3 : Hp R (ax kR k8 (.qz l 0) :: qA none 0 [] :: pt eM [um (.qz l 0) k8, wq (.qz l 0) k8, .slice none 0 0, .nilFunc] 151 :: L) M := by
  refine Hp.uu ?_
  simp only [kR, Hp.cX, Hp.aO, List.cons_append, List.nil_append]
  exact ⟨A', c', h2.sub bQ⟩
 exact h3.sub bQ
theorem Gt {kind n : Int} (hok : x.Ok) (hn : n < 9223372036854775808) (ht : x.taken.length < 100000000) :
  gJ R (.func (.func 98) #[.pointer (some ⟨b, 0, none⟩)] #[]) kind n (x.draw kind n).2 (ax (cn .nilFunc) b x :: L) (ax (cn .nilFunc) b (x.draw kind n).1 :: L) := by
 intro Q M K Kp h k
 refine nN ⟨by decide, by show _ < 228; decide⟩ ?_
 refine nO h hok hn ht ?_
 cases hd : (x.draw kind n).2 with
 | num v => rw [hd] at k; exact fun M' h' => k M' h'.swap
 | cG l => rw [hd] at k; exact fun M' h' => k M' h'.swap
end
structure cV where
 q : Loc
 turns : Int
 fS : Int
structure xl where
 p : Int
 g : Int
 left : Int
 deriving DecidableEq
structure Nv where
 P : Int
 M : Int
 R : Int
 S : Int
structure Sc where
 w : Wd
 c : Nv
 ps : List cV
 ms : List xl
 gl : List Int
 d : kI
 steps : Int
structure Ev where
 kind : Int
 m : Int
 g : Int
 ready : List Int
def nQ : jv (Nat × Int × Int) := ⟨3, fun w => [.pointer (some ⟨w.1, 0, none⟩), .int .i64 w.2.1, .int .i64 w.2.2], fun _ => rfl, fun w v hv => by
 simp only [List.mem_cons, List.not_mem_nil, or_false] at hv; obtain rfl | rfl | rfl := hv <;> rfl⟩
def jP : jv xl := ⟨3, fun w => [.int .i64 w.p, .int .i64 w.g, .int .i64 w.left], fun _ => rfl, fun w v hv => by
 simp only [List.mem_cons, List.not_mem_nil, or_false] at hv; obtain rfl | rfl | rfl := hv <;> rfl⟩
def bF (bs : List Nat) (ps : List cV) : List (Nat × Int × Int) := List.zipWith (fun b (p : cV) => (b, p.turns, p.fS)) bs ps
def av (x : Sc) (m : Int) : xl := x.ms.getD m.toNat ⟨-1, -1, 0⟩
def aB (x : Sc) (i : Int) : cV := x.ps.getD i.toNat ⟨⟨-1, 0, []⟩, 0, -1⟩
def Sc.eT (x : Sc) (m : Int) (y : xl) : Sc := { x with ms := x.ms.set m.toNat y }
def Sc.b7 (x : Sc) (i : Int) (y : cV) : Sc := { x with ps := x.ps.set i.toNat y }
structure SA where
 ap : Option Addr
 cp : Nat
 lb : List Nat
 am : Option Addr
 cm : Nat
abbrev bR (A : Option Addr) (c : Nat) (l : List (Nat × Int × Int)) : HP := ct nQ 141 A c l
abbrev bV (A : Option Addr) (c : Nat) (l : List xl) : HP := ct jP 143 A c l
abbrev dm (wb db : Nat) (a : SA) (x : Sc) (A : Option Addr) (n c : Nat) : List Value :=
 [.pointer (some ⟨wb, 0, none⟩), .int .i64 x.c.P, .int .i64 x.c.M, .int .i64 x.c.R, .int .i64 x.c.S, .slice a.ap x.ps.length a.cp, .slice a.am x.ms.length a.cm, .slice A n c, .pointer (some ⟨db, 0, none⟩), .int .i64 x.steps]
abbrev c9 (b wb db : Nat) (a : SA) (x : Sc) : Option Addr → Nat → Nat → HP := fun A n c => pt b (dm wb db a x A n c) 137
theorem wz {b wb db : Nat} {a : SA} {x : Sc} : Nl b (0 + 7) (c9 b wb db a x) :=
 ⟨fun R L M A n c h => bz h, fun R L M A A' n c n' c' G h k => aq h k⟩
abbrev gK (a : SA) (x : Sc) (L : List HP) : List HP := bR a.ap a.cp (bF a.lb x.ps) :: aR bA a.lb (x.ps.map cV.q) :: bV a.am a.cm x.ms :: L
def fA (pa : PA) (p : cf) (wb db : Nat) : qH Sc := ⟨fun b x => exs fun a : SA =>
 sep (fI (c9 b wb db a x) x.gl :: ax (bx pa p) wb x.w :: ax (cn .nilFunc) db x.d :: fact (a.lb.length = x.ps.length) :: gK a x [])⟩
class nR (b : Nat) (L : List HP) (pa : outParam PA) (p : outParam cf) (wb db : outParam Nat) (x : outParam Sc) (L' : outParam (List HP)) : Prop where
 pick : cu L (ax (fA pa p wb db) b x) L'
instance nR.here {pa : PA} {p : cf} {wb db b : Nat} {x : Sc} {L : List HP} : nR b (ax (fA pa p wb db) b x :: L) pa p wb db x L := ⟨.here⟩
instance (priority := low) nR.there {pa : PA} {p : cf} {wb db b : Nat} {x : Sc} {Q : HP} {L L' : List HP} [h : nR b L pa p wb db x L'] : nR b (Q :: L) pa p wb db x (Q :: L') := ⟨.there h.pick⟩
section
variable {R : Mem} {L L' L2 : List HP} {M : Mem} {K : Value → Mem → Prop} {Kp : List PanicEntry → Mem → Prop} {pa : PA} {p : cf} {b wb db : Nat} {x : Sc} {m i : Int}
theorem fB (h : Hp R L M) [o : nR b L pa p wb db x L'] : ∃ a : SA, a.lb.length = x.ps.length ∧ Hp R (fI (c9 b wb db a x) x.gl :: ax (bx pa p) wb x.w :: ax (cn .nilFunc) db x.d :: gK a x L') M := by
 have := h.pick o.pick
 unfold ax at this
 simp only [fA, gK, Hp.cX, Hp.aO, List.cons_append, List.nil_append] at this
 obtain ⟨a, h⟩ := this
 refine ⟨a, ?_⟩
 have h2 := h.pick (P := fact (a.lb.length = x.ps.length)) (.there (.there (.there .here)))
 obtain ⟨e, h3⟩ := Hp.eJ.1 h2
 exact ⟨e, h3⟩
theorem g9 {a : SA} (hl : a.lb.length = x.ps.length) (h : Hp R (fI (c9 b wb db a x) x.gl :: ax (bx pa p) wb x.w :: ax (cn .nilFunc) db x.d :: gK a x L) M) : Hp R (ax (fA pa p wb db) b x :: L) M := by
 refine Hp.uu ?_
 simp only [fA, gK, Hp.cX, Hp.aO, List.cons_append, List.nil_append]
 refine ⟨a, ?_⟩
 have h2 : Hp R (fact (a.lb.length = x.ps.length) :: fI (c9 b wb db a x) x.gl :: ax (bx pa p) wb x.w :: ax (cn .nilFunc) db x.d :: gK a x L) M := Hp.eJ.2 ⟨hl, h⟩
 exact h2.lu (.there (.there (.there .here)))
theorem lR {a : SA} (h : Hp R (fI (c9 b wb db a x) x.gl :: L) M) : ∃ A c, Hp R (pt b (dm wb db a x A x.gl.length c) 137 :: jA A c x.gl :: L) M := hJ (P := c9 b wb db a x) h
theorem uW {a : SA} {A : Option Addr} {c n : Nat} {l : List Int} (h : Hp R (pt b (dm wb db a x A n c) 137 :: jA A c l :: L) M) (e : n = l.length := by first | rfl | simp) : Hp R (fI (c9 b wb db a x) l :: L) M := Ey (P := c9 b wb db a x) h e
theorem LR {bs : List Nat} {ps : List cV} {i lb : Nat} {pr : cV} (h1 : bs[i]? = some lb) (h2 : ps[i]? = some pr) : (bF bs ps)[i]? = some (lb, pr.turns, pr.fS) := CU h1 h2
theorem wA {bs : List Nat} {ps : List cV} {i lb : Nat} {pr : cV} (h1 : bs[i]? = some lb) : (bF bs ps).set i (lb, pr.turns, pr.fS) = bF bs (ps.set i pr) := lG (f := fun b (p : cV) => (b, p.turns, p.fS)) h1
theorem jl {bs : List Nat} {ps : List cV} (h : bs.length = ps.length) : (bF bs ps).length = ps.length := by simp [bF, h]
theorem BL (h : Hp R L M) [o : nR b L pa p wb db x L'] (k : K (.pointer (some ⟨wb, 0, none⟩)) M) : aa Tryz.prog 21 #[.pointer (some ⟨b, 0, none⟩)] M K Kp := by
 refine nB ?_
 obtain ⟨a, hl, h⟩ := fB h (b := b)
 obtain ⟨A, c, h⟩ := lR h
 exact vv h k
theorem BM (h : Hp R L M) [o : nR b L pa p wb db x L'] (k : K (.int .i64 x.steps) M) : aa Tryz.prog 33 #[.pointer (some ⟨b, 0, none⟩)] M K Kp := by
 refine nC ?_
 obtain ⟨a, hl, h⟩ := fB h (b := b)
 obtain ⟨A, c, h⟩ := lR h
 exact aH h k
def Sc.status (x : Sc) : Int := if x.w.end_ = 1 then 1 else if x.w.end_ = 2 then 2 else if x.w.stuck then 3 else 0
theorem lS (h : Hp R L M) [o : nR b L pa p wb db x L'] (hs : x.w.gs.length ≤ 1000000) (k : K (.int .i64 x.status) M) : aa Tryz.prog 23 #[.pointer (some ⟨b, 0, none⟩)] M K Kp := by
 refine mF ?_
 have h' := fB h (b := b)
 clear h
 obtain ⟨a, hl, h⟩ := h'
 have h' := lR h
 clear h
 obtain ⟨A, c, h⟩ := h'
 unfold Sc.status at k
 refine vv h ?_
 refine Gc h ?_
 refine ⟨_, _, rfl, ?_⟩
 refine bP.2 ⟨fun e => ?_, fun e => ?_⟩
 ·rw [if_pos e] at k; exact k
 rw [if_neg e] at k
 refine bP.2 ⟨fun e => ?_, fun e => ?_⟩
 ·rw [if_pos e] at k; exact k
 rw [if_neg e] at k
 refine vv h ?_
 refine BJ h hs ?_
 refine lX ?_
 cases hst : x.w.stuck with
 | true => rw [hst] at k; exact af k
 | false => rw [hst] at k; exact ai k
def Sc.tick (x : Sc) : Sc × Ev := ({ x with w := x.w.tick, gl := x.gl ++ x.w.tick.ready }, ⟨1, -1, -1, x.w.tick.ready⟩)
def DL (e : Ev) (A : Option Addr) (c : Nat) : Value := .agg #[.int .i64 e.kind, .int .i64 e.m, .int .i64 e.g, .slice A e.ready.length c]
theorem jm {k1 T n : Nat} {v1 v2 v3 v4 : Value} {e1 e2 e3 : Int} {A : Option Addr} {c : Nat} {G : Mem → Prop} (h : Hp R L M) [q : jx k1 L [v1, v2, v3, v4] T L']
  (k : ∀ M', Hp R (pt k1 [.int .i64 e1, .int .i64 e2, .int .i64 e3, .slice A n c] T :: L') M' → G M') :
  aF M ⟨k1, 0, none⟩ (.int .i64 e1) fun M1 => aF M1 ⟨k1, (0 + 1), none⟩ (.int .i64 e2) fun M2 => aF M2 ⟨k1, (0 + 2), none⟩ (.int .i64 e3) fun M3 => aF M3 ⟨k1, (0 + 3), none⟩ (.slice A n c) G := by
 have h := h.pick q.pick
 refine aq h ?_
 clear h; intro M h
 refine aq h ?_
 clear h; intro M h
 refine aq h ?_
 clear h; intro M h
 refine aq h ?_
 clear h; intro M h
 exact k _ h
theorem nS {k1 T n : Nat} {e1 e2 e3 : Int} {A : Option Addr} {c : Nat} {G : Int → Int → Int → Option Addr → Nat → Nat → Prop} (h : Hp R L M) [q : jx k1 L [.int .i64 e1, .int .i64 e2, .int .i64 e3, .slice A n c] T L'] (g : G e1 e2 e3 A n c) :
  aG (Mem.ld M ⟨k1, 0, none⟩) .i64 fun n1 => aG (Mem.ld M ⟨k1, (0 + 1), none⟩) .i64 fun n2 => aG (Mem.ld M ⟨k1, (0 + 2), none⟩) .i64 fun n3 => aC (Mem.ld M ⟨k1, (0 + 3), none⟩) fun A k l => G n1 n2 n3 A k l := by
 have h := h.pick q.pick
 exact aH h (aH h (aH h (bl h g)))
def wB (x : Sc) : Prop := x.w.hl.length ≤ 1000000 ∧ (∀ y ∈ (cU x.w.hl.length x.w.hl (IntKind.wrap .u64 (x.w.clock + 1))).2, 0 ≤ y.id ∧ y.id < x.w.gs.length) ∧ x.gl.length + x.w.tick.ready.length ≤ 1000000
instance (x : Sc) : Decidable (wB x) := by unfold wB; infer_instance
theorem DM (h : Hp R L M) [o : nR b L pa p wb db x L'] (hk : wB x)
  (k : ∀ R' A c M', R.le R' → RS bN R' A c x.tick.2.ready → Hp R' (ax (fA pa p wb db) b x.tick.1 :: L') M' → K (DL x.tick.2 A c) M') : aa Tryz.prog 99 #[.pointer (some ⟨b, 0, none⟩)] M K Kp := by
 refine pD ?_
 refine aj h ?_
 clear h
 intro k1 M h
 have h' := fB h (b := b)
 clear h
 obtain ⟨a, hl, h⟩ := h'
 have h' := lR h
 clear h
 obtain ⟨A, c, h⟩ := h'
 refine vv h ?_
 refine DF h hk.1 hk.2.1 ?_
 clear h; intro R2 Ar cr M hle uh h
 refine aW ?_
 replace h : Hp R2 (pt b (dm wb db a x A x.gl.length c) 137 :: jA A c x.gl :: ax (bx pa p) wb x.w.tick :: ax (cn .nilFunc) db x.d :: bR a.ap a.cp (bF a.lb x.ps) :: aR bA a.lb (x.ps.map cV.q) :: bV a.am a.cm x.ms :: pt k1 [.int .i64 0, .int .i64 0, .int .i64 0, .slice none 0 0] 47 :: L') M := h.sub bQ
 replace h := uW h
 refine lP (P := c9 b wb db a x) wz h (uh.src) rfl (by have := hk.2.2; omega) ?_
 clear h; intro M h
 refine ⟨rfl, ?_⟩
 refine jm h ?_
 clear h; intro M h
 refine nS h ?_
 exact k R2 Ar cr _ hle uh (g9 (a := a) (x := x.tick.1) hl (h.sub bQ))
end
def nT (q : Loc) : Bool := q.next != -1 || !q.l.isEmpty
def fZ (q : Loc) (turns : Int) (gl : List Int) : Loc × List Int × Int × Bool :=
 let a := q.cZ gl
 if Int.tmod turns 7 = 6 ∧ 0 < a.2.1.length then (a.1, a.2.1.drop 1, a.2.1.headD 0, true)
 else if nT a.1 then (a.1.get.1, a.2.1, a.1.get.2, true)
 else ((a.1.get.1.dn a.2.1 0).1, (a.1.get.1.dn a.2.1 0).2.1, (a.1.get.1.dn a.2.1 0).2.2, !a.2.1.isEmpty)
def ir (f : Loc) (v : Int) : Bool := v != -1 || !f.l.isEmpty
theorem JF {q : Loc} {gl : List Int} : (q.cZ gl).2.1.length ≤ gl.length + q.l.length + 1 := by
 unfold Loc.cZ
 split
 ·simp; omega
 ·unfold Loc.put
  split
  ·simp; omega
  ·simp; omega
section
variable {R : Mem} {L L' L2 : List HP} {M : Mem} {K : Value → Mem → Prop} {Kp : List PanicEntry → Mem → Prop} {pa : PA} {p : cf} {b wb db : Nat} {x : Sc} {m i : Int}
def Sc.hold (x : Sc) (m : Int) : Sc × Ev := match x.ps.findIdx? (fun pr => pr.fS == -1) with
 | some i => (((x.b7 (i : Int) { aB x (i : Int) with fS := m }).eT m { av x m with p := (i : Int) }), ⟨2, m, -1, []⟩)
 | none => (x, ⟨3, m, -1, []⟩)
theorem wC {a : SA} {y : cV} : c9 b wb db a (x.b7 i y) = c9 b wb db a x := by
 unfold c9 dm Sc.b7; simp
theorem wD {a : SA} {y : xl} : c9 b wb db a (x.eT i y) = c9 b wb db a x := by
 unfold c9 dm Sc.eT; simp
theorem nU {a : SA} (hl : a.lb.length = x.ps.length) (h0 : 0 ≤ i) (h1 : i < x.ps.length) : ∃ lb, a.lb[i.toNat]? = some lb ∧ x.ps[i.toNat]? = some (aB x i) ∧ (bF a.lb x.ps)[i.toNat]? = some (lb, (aB x i).turns, (aB x i).fS) := by
 obtain ⟨lb, hlb⟩ := aN (l := a.lb) (i := i.toNat) (by omega)
 obtain ⟨y, hy⟩ := aN (l := x.ps) (i := i.toNat) (by omega)
 have e : aB x i = y := by simp [aB, hy]
 rw [e]
 exact ⟨lb, hlb, hy, LR hlb hy⟩
theorem nV (h0 : 0 ≤ m) (h1 : m < x.ms.length) : x.ms[m.toNat]? = some (av x m) := by
 obtain ⟨y, hy⟩ := aN (l := x.ms) (i := m.toNat) (by omega)
 have e : av x m = y := by simp [av, hy]
 rw [e]; exact hy
theorem tx {ps : List cV} {j : Nat} {pr y : cV} (h : ps[j]? = some pr) (e : y.q = pr.q) : (ps.set j y).map cV.q = ps.map cV.q := by
 obtain ⟨hj, rfl⟩ := List.getElem?_eq_some_iff.1 h
 rw [List.map_set, e]
 have h2 : (ps.map cV.q)[j]'(by simpa using hj) = ps[j].q := by simp
 rw [← h2]
 exact List.set_getElem_self _
theorem tB {a : SA} {A : Option Addr} {c : Nat} {cs : List Value} {l : List Int} {pw : List (Nat × Int × Int)} {qs : List Loc} {ms : List xl} {L0 L1 L2 L3 L4 L5 L6 : List HP} (h : Hp R L M) (b : Nat)
  [p0 : jx b L cs 137 L0] [p1 : b9 A L0 Int bN 3 c l L1] [p2 : EC wb L1 pa p x.w L2] [p3 : bW (cn .nilFunc) db L2 x.d L3] [p4 : b9 a.ap L3 (Nat × Int × Int) nQ 141 a.cp pw L4]
  [p5 : eC bA L4 a.lb qs L5] [p6 : b9 a.am L5 xl jP 143 a.cm ms L6] (hc : cs = dm wb db a x A x.gl.length c) (hg : l = x.gl) (hl : a.lb.length = x.ps.length) (hp : pw = bF a.lb x.ps) (hq : x.ps.map cV.q = qs) (hm : ms = x.ms) : Hp R (ax (fA pa p wb db) b x :: L6) M := by
 subst hc; subst hg; subst hp; subst hq; subst hm
 have h2 : Hp R (pt b (dm wb db a x A x.gl.length c) 137 :: jA A c x.gl :: ax (bx pa p) wb x.w :: ax (cn .nilFunc) db x.d :: gK a x L6) M :=
  h.sub (.cons p0.pick (.cons p1.pick (.cons p2.pick (.cons p3.pick (.cons p4.pick (.cons p5.pick (.cons p6.pick .refl)))))))
 exact g9 (a := a) hl (uW h2)
theorem DN (h : Hp R L M) [o : nR b L pa p wb db x L'] (h0 : 0 ≤ m) (h1 : m < x.ms.length) (hs : x.ps.length ≤ 1000000)
  (k : ∀ M', Hp R (ax (fA pa p wb db) b (x.hold m).1 :: L') M' → K (DL (x.hold m).2 none 0) M') : aa Tryz.prog 100 #[.pointer (some ⟨b, 0, none⟩), .int .i64 m] M K Kp := by
 refine pE ?_
 refine aj h ?_
 clear h
 intro k1 M h
 have h' := fB h (b := b)
 clear h
 obtain ⟨a, hl, h⟩ := h'
 have h' := lR h
 clear h
 obtain ⟨A, c, h⟩ := h'
 refine bl h ?_
 unfold Sc.hold at k
 have Yv := jl hl
 refine ⟨fun d vs M => ∃ j : Nat, vs = [.int .i64 (j : Int)] ∧ d = x.ps.length - j ∧ j ≤ x.ps.length ∧ (∀ q pr, q < j → x.ps[q]? = some pr → pr.fS ≠ -1) ∧
   Hp R (pt b (dm wb db a x A x.gl.length c) 137 :: jA A c x.gl :: pt k1 [.int .i64 0, .int .i64 0, .int .i64 0, .slice none 0 0] 47 :: ax (bx pa p) wb x.w :: ax (cn .nilFunc) db x.d :: gK a x L') M,
  ⟨_, 0, rfl, rfl, by omega, fun q pr hq => by omega, h.sub bQ⟩, ?_⟩
 clear h
 rintro d _ nn M ⟨j, he, hd, hj, hp, h⟩
 simp only [List.cons.injEq, Value.int.injEq, and_true, true_and] at he
 subst he
 refine aL.2 ⟨fun hlt => ?_, fun hge => ?_⟩
 ·obtain ⟨lb, hlb, kJ, hrow⟩ := nU (i := (j : Int)) hl (by omega) hlt
  simp only [Int.toNat_natCast] at hlb kJ hrow
  obtain ⟨q, hq⟩ := h.bt (A := a.ap) (l := bF a.lb x.ps) (by omega) (by decide)
  have QU := h.src (A := a.ap)
  rw [hq] at QU
  refine bl h ⟨by omega, hlt, ?_⟩
  rw [hq]
  refine bp ?_
  refine br (Src.at QU h (i := j) (j := 2) hrow rfl (by show _ = 0 + (j * 3 + 2); simp)) ?_
  refine bP.2 ⟨fun e => ?_, fun e => ?_⟩
  ·have RD : x.ps.findIdx? (fun pr => pr.fS == -1) = some j := by
    refine List.findIdx?_eq_some_iff_getElem.2 ⟨by omega, ?_, fun q hq => ?_⟩
    ·have := (List.getElem?_eq_some_iff.1 kJ).2
     rw [this]; simpa using e
    ·have := hp q _ hq (List.getElem?_eq_getElem (by omega))
     simpa using this
   rw [RD] at k
   dsimp only at k
   clear QU
   obtain ⟨q2, oB⟩ := h.bt (A := a.am) (l := x.ms) (by omega) (by decide)
   have ea := bz h (b := b) (o := 0 + 5) (v := .slice a.ap x.ps.length a.cp)
   rw [hq] at ea
   refine (show ∀ {G}, G (some ⟨q, 0, none⟩) x.ps.length a.cp → aC (M.ld ⟨b, 0 + 5, none⟩) G from fun g => by rw [ea]; exact aW g) ?_
   refine bl h ⟨by omega, hlt, bp ?_⟩
   have hap : a.ap = some ⟨q, 0, none⟩ := hq
   have EH : a.am = some ⟨q2, 0, none⟩ := oB
   obtain ⟨ap, cp, sD, am, cm⟩ := a
   dsimp only at hap EH hrow hlb hl Yv h
   subst hap; subst EH
   refine gS (E := nQ) (a' := (lb, (aB x (j : Int)).turns, m)) j 2 h hrow (by decide) rfl (by show _ = j * 3 + 2; simp) ?_
   clear h; intro M h
   refine ⟨h0, h1, bp ?_⟩
   refine gS (E := jP) (a' := { av x m with p := (j : Int) }) m.toNat 0 h (nV h0 h1) (by decide) rfl (by show _ = m.toNat * 3 + 0; simp) ?_
   clear h; intro M h
   refine jm h ?_
   clear h; intro M h
   refine nS h ?_
   rw [wA (pr := { aB x (j : Int) with fS := m }) hlb] at h
   have e3 := tx (y := { aB x (j : Int) with fS := m }) kJ rfl
   exact k _ (Hp.bM (tB (A := A) (c := c) (a := ⟨some ⟨q, 0, none⟩, cp, sD, some ⟨q2, 0, none⟩, cm⟩) (x := (x.b7 (j : Int) { aB x (j : Int) with fS := m }).eT m { av x m with p := (j : Int) }) h b (by simp [Sc.b7, Sc.eT, dm]) (by rfl) (by simpa [Sc.b7, Sc.eT] using hl) (by rfl) (by exact e3) (by rfl)))
  ·refine ⟨x.ps.length - (j + 1), by omega, j + 1, by rw [bk (by omega)], rfl, by omega, fun q' Nw hq' P3 => ?_, h⟩
   rcases Nat.lt_or_ge q' j with h8 | h8
   ·exact hp q' Nw h8 P3
   ·have : q' = j := by omega
    subst this
    rw [kJ] at P3; cases P3; exact e
 ·have RD : x.ps.findIdx? (fun pr => pr.fS == -1) = none := by
   refine List.findIdx?_eq_none_iff.2 fun pr kJ => ?_
   obtain ⟨q, hq, e⟩ := List.getElem_of_mem kJ
   have := hp q pr (by omega) (by rw [← e]; exact List.getElem?_eq_getElem hq)
   simpa using this
  rw [RD] at k
  dsimp only at k
  refine jm h ?_
  clear h; intro M h
  refine nS h ?_
  refine k _ (g9 (a := a) hl ?_)
  have h2 := uW (h.sub (show Sub _ (pt b (dm wb db a x A x.gl.length c) 137 :: jA A c x.gl :: ax (bx pa p) wb x.w :: ax (cn .nilFunc) db x.d :: gK a x L') from bQ))
  exact h2
theorem wE {bs : List Nat} {ps : List cV} {j : Nat} {pr y : cV} (h : ps[j]? = some pr) (e1 : y.turns = pr.turns) (e2 : y.fS = pr.fS) : bF bs (ps.set j y) = bF bs ps := by
 obtain ⟨hj, rfl⟩ := List.getElem?_eq_some_iff.1 h
 unfold bF
 refine List.ext_getElem (by simp) fun n h1 h2 => ?_
 simp only [List.getElem_zipWith, List.getElem_set]
 split
 ·rename_i he
  subst he
  rw [e1, e2]
 ·rfl
def Sc.own (x : Sc) (i : Int) : Sc × Int × Bool :=
 let r := fZ (aB x i).q (aB x i).turns x.gl
 ({ x.b7 i { aB x i with q := r.1 } with gl := r.2.1 }, r.2.2.1, r.2.2.2)
theorem Gu {q : Nat} {a : SA} (h : Hp R L M) [o : qw (c9 b wb db a x) L x.gl L'] [o2 : b9 (some ⟨q, 0, none⟩) L' (Nat × Int × Int) nQ 141 a.cp (bF a.lb x.ps) L2] {L3 : List HP} [o3 : eC bA L2 a.lb (x.ps.map cV.q) L3]
  (hap : a.ap = some ⟨q, 0, none⟩) (hl : a.lb.length = x.ps.length) (h0 : 0 ≤ i) (h1 : i < x.ps.length) (hs : x.gl.length ≤ 1000000) (ht : 0 ≤ (aB x i).turns)
  (k : ∀ M', Hp R (fI (c9 b wb db a x) (x.own i).1.gl :: bR (some ⟨q, 0, none⟩) a.cp (bF a.lb x.ps) :: aR bA a.lb ((x.own i).1.ps.map cV.q) :: L3) M' → K (.tuple #[.int .i64 (x.own i).2.1, .bool (x.own i).2.2]) M') :
  aa Tryz.prog 132 #[.pointer (some ⟨b, 0, none⟩), .pointer (some ⟨q, i.toNat * 3, none⟩)] M K Kp := by
 refine qq ?_
 obtain ⟨lb, hlb, kJ, hrow⟩ := nU (i := i) hl h0 h1
 have h2 : Hp R (fI (c9 b wb db a x) x.gl :: bR (some ⟨q, 0, none⟩) a.cp (bF a.lb x.ps) :: aR bA a.lb (x.ps.map cV.q) :: L3) M := h.sub (.cons o.pick (.cons o2.pick (.cons o3.pick .refl)))
 clear h
 have h := h2
 clear h2
 have hq : (x.ps.map cV.q)[i.toNat]? = some (aB x i).q := by rw [List.getElem?_map, kJ]; rfl
 unfold Sc.own at k
 dsimp only at k
 have vS : ∀ q', (x.b7 i { aB x i with q := q' }).ps.map cV.q = (x.ps.map cV.q).set i.toNat q' := fun q' => by simp [Sc.b7, List.map_set]
 simp only [vS] at k
 unfold fZ at k
 dsimp only at k
 refine kq (Src.at (Src.row (A := some ⟨q, 0, none⟩) : Src R _ _ (nQ.cells (bF a.lb x.ps))) h (i := i.toNat) (j := 0) hrow rfl (by show _ = 0 + (i.toNat * 3 + 0); simp)) ?_
 replace h := h.cz bA hlb hq
 replace h : Hp R (ax bA lb (aB x i).q :: fI (c9 b wb db a x) x.gl :: jH bA a.lb (x.ps.map cV.q) i.toNat :: bR (some ⟨q, 0, none⟩) a.cp (bF a.lb x.ps) :: L3) M := h.sub bQ
 have hbd := tu h (b := lb)
 refine Dw (P := c9 b wb db a x) wz h (by omega) ?_
 clear h; intro M h
 have TX := JF (q := (aB x i).q) (gl := x.gl)
 refine cF ?_
 generalize htr : (aB x i).q.cZ x.gl = r at h k TX
 obtain ⟨q1, g1, n1⟩ := r
 dsimp only at h k TX
 have Gh : g1.length ≤ 100000000 := by obtain ⟨a1, a2, a3⟩ := hbd; omega
 refine br (Src.at (h.src (A := some ⟨q, 0, none⟩)) h (i := i.toNat) (j := 1) hrow rfl (by show _ = 0 + (i.toNat * 3 + 1); omega)) ?_
 refine ⟨by decide, ?_⟩
 have rest : ∀ {M : Mem}, (Hp R (ax bA lb q1 :: fI (c9 b wb db a x) g1 :: jH bA a.lb (x.ps.map cV.q) i.toNat :: bR (some ⟨q, 0, none⟩) a.cp (bF a.lb x.ps) :: L3) M) → ¬ (Int.tmod (aB x i).turns 7 = 6 ∧ 0 < g1.length) →
   cj (Mem.ld M ⟨q, i.toNat * 3, none⟩) fun mP =>
    aa Tryz.prog 131 #[(.pointer mP)] M (fun CV eF =>
    ∃ jY : Int, ∃ t18 : Bool, (CV = (.tuple #[(.int .i64 jY), (.bool t18)])) ∧
    aQ t18
     (K (.tuple #[(.int .i64 jY), (.bool true)]) eF)
     (cj (Mem.ld eF ⟨q, i.toNat * 3, none⟩) fun Eg =>
     aa Tryz.prog 179 #[(.pointer Eg), (.pointer (some ⟨b, (0 + 7), none⟩)), (.int .i64 0)] eF (fun v20 tS =>
     ∃ ux : Int, ∃ t23 : Bool, (v20 = (.tuple #[(.int .i64 ux), (.bool t23)])) ∧
     K (.tuple #[(.int .i64 ux), (.bool t23)]) tS) Kp)) Kp := by
  intro M h hno
  rw [if_neg hno] at k
  refine kq (Src.at (h.src (A := some ⟨q, 0, none⟩)) h (i := i.toNat) (j := 0) hrow rfl (by show _ = 0 + (i.toNat * 3 + 0); simp)) ?_
  refine yJ h (b := lb) ?_
  clear h; intro t M T0 T3 h
  refine ⟨_, _, rfl, ?_⟩
  by_cases hh : nT q1 = true
  ·rw [if_pos hh] at k
   have : t = true := T3 (by unfold nT at hh; simpa using hh)
   subst this
   refine af ?_
   replace h := h.cY bA lb hlb (by rw [List.length_map]; omega)
   exact k _ (h.sub bQ)
  ·rw [if_neg hh] at k
   have hn : q1.next = -1 ∧ q1.l = [] := by
    unfold nT at hh
    rw [Bool.or_eq_true] at hh
    constructor
    ·exact Decidable.byContradiction fun e => hh (.inl (by simpa using e))
    ·cases SX : q1.l with
     | nil => rfl
     | cons _ _ => exact absurd (.inr (by rw [SX]; rfl)) hh
   have hg : q1.get.2 = -1 := by unfold Loc.get; rw [if_neg (by simpa using hn.1), hn.2]
   have : t = false := T0 hg hn.1 hn.2
   subst this
   refine ai ?_
   refine kq (Src.at (h.src (A := some ⟨q, 0, none⟩)) h (i := i.toNat) (j := 0) hrow rfl (by show _ = 0 + (i.toNat * 3 + 0); simp)) ?_
   replace h : Hp R (ax bA lb q1.get.1 :: fI (c9 b wb db a x) g1 :: jH bA a.lb (x.ps.map cV.q) i.toNat :: bR (some ⟨q, 0, none⟩) a.cp (bF a.lb x.ps) :: L3) M := h.sub bQ
   refine By (P := c9 b wb db a x) wz h Gh (by decide) ?_
   clear h; intro t2 M ht3 ht4 h
   refine ⟨_, _, rfl, ?_⟩
   have ht5 : t2 = !g1.isEmpty := by
    cases g1 with
    | nil => exact ht3 (by unfold Loc.dn; simp) rfl
    | cons _ _ => exact ht4 (by simp)
   subst ht5
   replace h := h.cY bA lb hlb (by rw [List.length_map]; omega)
   exact k _ (h.sub bQ)
 refine bP.2 ⟨fun e6 => ?_, fun e6 => ?_⟩
 ·replace h : Hp R (fI (c9 b wb db a x) g1 :: ax bA lb q1 :: jH bA a.lb (x.ps.map cV.q) i.toNat :: bR (some ⟨q, 0, none⟩) a.cp (bF a.lb x.ps) :: L3) M := h.sub bQ
  refine nJ (P := c9 b wb db a x) (n := 1) wz h (by omega) ?_
  clear h; intro A2 c2 M h
  refine aW ?_
  have e1 : (1 : Int).toNat = 1 := rfl
  rw [e1] at h ⊢
  by_cases hg : 0 < g1.length
  ·rw [if_pos ⟨e6, hg⟩] at k
   have hlen : (g1.take 1).length = 1 := by rw [List.length_take]; omega
   rw [hlen]
   refine af ⟨by omega, by omega, ?_⟩
   obtain ⟨q9, rfl⟩ := h.bt (A := A2) (by omega) (by decide)
   refine bp ?_
   obtain ⟨v, hv⟩ := aN (l := g1) (i := 0) hg
   have MG : (g1.take 1)[0]? = some v := by rw [List.getElem?_take, if_pos (by omega)]; exact hv
   refine br (Src.at (h.src (A := some ⟨q9, 0, none⟩)) h (i := 0) (j := 0) MG rfl rfl) ?_
   have hvd : g1.headD 0 = v := by
    cases g1 with
    | nil => simp at hg
    | cons w _ => simp at hv; simpa using hv
   rw [hvd] at k
   replace h : Hp R (ax bA lb q1 :: jH bA a.lb (x.ps.map cV.q) i.toNat :: fI (c9 b wb db a x) (g1.drop 1) :: bR (some ⟨q, 0, none⟩) a.cp (bF a.lb x.ps) :: L3) M := h.sub bQ
   replace h := h.cY bA lb hlb (by rw [List.length_map]; omega)
   exact k _ (h.sub bQ)
  ·have Lw : g1 = [] := List.eq_nil_of_length_eq_zero (by omega)
   subst Lw
   refine ai ?_
   exact rest (h.sub bQ) (fun hc => by simp at hc)
 ·exact rest (h.sub bQ) (fun hc => e6 hc.1)
end
inductive kK where
 | ev (e : Ev)
 | cG (l : List PanicEntry)
def Sc.bJ (x : Sc) (m i kind g : Int) (ok : Bool) : Sc × Ev :=
 if ok then ((x.b7 i { aB x i with turns := (aB x i).turns + 1 }).eT m ⟨(av x m).p, g, x.c.S⟩, ⟨kind, m, g, []⟩)
 else ((x.b7 i { aB x i with fS := -1 }).eT m ⟨-1, -1, 0⟩, ⟨6, m, -1, []⟩)
def Sc.find (x : Sc) (m : Int) : Sc × kK :=
 let i := (av x m).p
 if 0 < (av x m).left ∧ (aB x i).q.next ≠ -1 then
  ((x.b7 i { aB x i with q := (aB x i).q.get.1 }).eT m { av x m with g := (aB x i).q.get.2 }, .ev ⟨4, m, (aB x i).q.get.2, []⟩)
 else
  let y := (x.own i).1
  if (x.own i).2.2 = false ∧ 1 < x.c.P then match y.d.draw 2 x.c.P with
   | (d', .cG l) => ({ y with d := d' }, .cG l)
   | (d', .num v) =>
    let y := { y with d := d' }
    if v = i then ((y.bJ m i 5 (-1) false).1, .ev (y.bJ m i 5 (-1) false).2)
    else
     let s := (aB y i).q.cT (aB y v).q
     let z := (y.b7 i { aB y i with q := s.1 }).b7 v { aB y v with q := s.2.1 }
     ((z.bJ m i 5 s.2.2 (ir (aB y v).q s.2.2)).1, .ev (z.bJ m i 5 s.2.2 (ir (aB y v).q s.2.2)).2)
  else ((y.bJ m i 4 (x.own i).2.1 (x.own i).2.2).1, .ev (y.bJ m i 4 (x.own i).2.1 (x.own i).2.2).2)
section
variable {R : Mem} {L L' L2 : List HP} {M : Mem} {K : Value → Mem → Prop} {Kp : List PanicEntry → Mem → Prop} {pa : PA} {p : cf} {b wb db : Nat} {x : Sc} {m i : Int}
theorem tC {lb : Nat} (k : K (.tuple #[.int .i64 (-1), .bool false]) M) : aa Tryz.prog 133 #[.pointer (some ⟨lb, 0, none⟩), .pointer (some ⟨lb, 0, none⟩)] M K Kp := by
 refine ie ?_
 exact ⟨fun _ => af k, fun hne => absurd rfl hne⟩
theorem nW {y : cV} : (x.b7 i y).ps.length = x.ps.length := by simp [Sc.b7]
theorem Gv {a : SA} {q q2 k1 : Nat} {kind g : Int} {t : Bool}
  (h : Hp R (fI (c9 b wb db a x) x.gl :: ax (bx pa p) wb x.w :: ax (cn .nilFunc) db x.d :: bR (some ⟨q, 0, none⟩) a.cp (bF a.lb x.ps) :: aR bA a.lb (x.ps.map cV.q) :: bV (some ⟨q2, 0, none⟩) a.cm x.ms :: pt k1 [.int .i64 0, .int .i64 0, .int .i64 0, .slice none 0 0] 47 :: L') M)
  (hap : a.ap = some ⟨q, 0, none⟩) (EH : a.am = some ⟨q2, 0, none⟩) (hl : a.lb.length = x.ps.length) (m0 : 0 ≤ m) (m1 : m < x.ms.length) (i0 : 0 ≤ i) (i1 : i < x.ps.length) (ht : 0 ≤ (aB x i).turns ∧ (aB x i).turns < 1000000000)
  (k : ∀ M', Hp R (ax (fA pa p wb db) b (x.bJ m i kind g t).1 :: L') M' → K (DL (x.bJ m i kind g t).2 none 0) M') :
  aQ (!t)
   (aC (Mem.ld M ⟨b, (0 + 6), none⟩) fun OF Kn Sh =>
   aF M ⟨q, ((i.toNat * 3) + 2), none⟩ (.int .i64 (-1)) fun FN =>
   ((0 : Int) ≤ m) ∧
   ((m : Int) < ((Kn : Nat) : Int)) ∧
   aD OF fun IM FT =>
   aF FN ⟨IM, (FT + ((Int.toNat m) * 3)), none⟩ (.int .i64 (-1)) fun IN =>
   aF IN ⟨IM, ((FT + ((Int.toNat m) * 3)) + 1), none⟩ (.int .i64 (-1)) fun Sq =>
   aF Sq ⟨IM, ((FT + ((Int.toNat m) * 3)) + 2), none⟩ (.int .i64 0) fun Aa =>
   aF Aa ⟨k1, 0, none⟩ (.int .i64 6) fun Sr =>
   aF Sr ⟨k1, (0 + 1), none⟩ (.int .i64 m) fun pX =>
   aF pX ⟨k1, (0 + 2), none⟩ (.int .i64 (-1)) fun Nh =>
   aF Nh ⟨k1, (0 + 3), none⟩ (.slice none 0 0) fun Bi =>
   aG (Mem.ld Bi ⟨k1, 0, none⟩) .i64 fun On =>
   aG (Mem.ld Bi ⟨k1, (0 + 1), none⟩) .i64 fun K0 =>
   aG (Mem.ld Bi ⟨k1, (0 + 2), none⟩) .i64 fun Oo =>
   aC (Mem.ld Bi ⟨k1, (0 + 3), none⟩) fun Su Ni ON =>
   K (.agg #[(.int .i64 On), (.int .i64 K0), (.int .i64 Oo), (.slice Su Ni ON)]) Bi)
   (aG (Mem.ld M ⟨q, ((i.toNat * 3) + 1), none⟩) .i64 fun ru =>
   aF M ⟨q, ((i.toNat * 3) + 1), none⟩ (.int .i64 (IntKind.wrap .i64 (ru + 1))) fun pG =>
   aC (Mem.ld pG ⟨b, (0 + 6), none⟩) fun zB uD FU =>
   aC (Mem.ld pG ⟨b, (0 + 6), none⟩) fun zC uB FV =>
   aG (Mem.ld pG ⟨b, ((0 + 1) + 3), none⟩) .i64 fun C0 =>
   ((0 : Int) ≤ m) ∧
   ((m : Int) < ((uD : Nat) : Int)) ∧
   aD zB fun IP C8 =>
   aF pG ⟨IP, ((C8 + ((Int.toNat m) * 3)) + 1), none⟩ (.int .i64 g) fun lK =>
   ((0 : Int) ≤ m) ∧
   ((m : Int) < ((uB : Nat) : Int)) ∧
   aD zC fun IQ IS =>
   aF lK ⟨IQ, ((IS + ((Int.toNat m) * 3)) + 2), none⟩ (.int .i64 C0) fun IU =>
   aF IU ⟨k1, 0, none⟩ (.int .i64 kind) fun IV =>
   aF IV ⟨k1, (0 + 1), none⟩ (.int .i64 m) fun C1 =>
   aF C1 ⟨k1, (0 + 2), none⟩ (.int .i64 g) fun xI =>
   aF xI ⟨k1, (0 + 3), none⟩ (.slice none 0 0) fun lJ =>
   aG (Mem.ld lJ ⟨k1, 0, none⟩) .i64 fun IW =>
   aG (Mem.ld lJ ⟨k1, (0 + 1), none⟩) .i64 fun C2 =>
   aG (Mem.ld lJ ⟨k1, (0 + 2), none⟩) .i64 fun C3 =>
   aC (Mem.ld lJ ⟨k1, (0 + 3), none⟩) fun IX IY C4 =>
   K (.agg #[(.int .i64 IW), (.int .i64 C2), (.int .i64 C3), (.slice IX IY C4)]) lJ) := by
 obtain ⟨lb, hlb, kJ, hrow⟩ := nU (i := i) hl i0 i1
 have kL := nV m0 m1
 have m2 : m.toNat < x.ms.length := by omega
 obtain ⟨ap, cp, sD, am, cm⟩ := a
 dsimp only at hap EH hl hlb hrow h
 subst hap; subst EH
 obtain ⟨A, c, h2⟩ := lR h
 clear h
 have h := h2
 clear h2
 unfold Sc.bJ at k
 cases t with
 | false =>
  simp only [Bool.false_eq_true, if_false] at k
  refine af ?_
  refine bl h ?_
  refine gS (E := nQ) (a' := (lb, (aB x i).turns, -1)) i.toNat 2 h hrow (by decide) rfl rfl ?_
  clear h; intro M h
  refine ⟨m0, m1, bp ?_⟩
  refine gS (E := jP) (a' := ⟨-1, (av x m).g, (av x m).left⟩) m.toNat 0 h kL (by decide) rfl (by show _ = m.toNat * 3 + 0; omega) ?_
  clear h; intro M h
  refine gS (E := jP) (a := ⟨-1, (av x m).g, (av x m).left⟩) (a' := ⟨-1, -1, (av x m).left⟩) m.toNat 1 h (by simp [m2]) (by decide) rfl (by show _ = m.toNat * 3 + 1; omega) ?_
  clear h; intro M h
  refine gS (E := jP) (a := ⟨-1, -1, (av x m).left⟩) (a' := ⟨-1, -1, 0⟩) m.toNat 2 h (by simp [m2]) (by decide) rfl (by show _ = m.toNat * 3 + 2; omega) ?_
  clear h; intro M h
  rw [gE, gE, wA (pr := { aB x i with fS := -1 }) hlb] at h
  refine jm h ?_
  clear h; intro M h
  refine nS h ?_
  have e3 := tx (y := { aB x i with fS := -1 }) kJ rfl
  exact k _ (Hp.bM (tB (A := A) (c := c) (a := ⟨some ⟨q, 0, none⟩, cp, sD, some ⟨q2, 0, none⟩, cm⟩) (x := (x.b7 i { aB x i with fS := -1 }).eT m ⟨-1, -1, 0⟩) h b (by simp [Sc.b7, Sc.eT, dm]) (by rfl) (by simpa [Sc.b7, Sc.eT] using hl) (by rfl) (by exact e3) (by rfl)))
 | true =>
  simp only [if_true] at k
  refine ai ?_
  refine br (Src.at (h.src (A := some ⟨q, 0, none⟩)) h (i := i.toNat) (j := 1) hrow rfl (by show _ = 0 + (i.toNat * 3 + 1); omega)) ?_
  rw [g7 ht.1 (by omega)]
  refine gS (E := nQ) (a' := (lb, (aB x i).turns + 1, (aB x i).fS)) i.toNat 1 h hrow (by decide) rfl rfl ?_
  clear h; intro M h
  refine bl h (bl h (aH h ⟨m0, m1, bp ?_⟩))
  refine gS (E := jP) (a' := ⟨(av x m).p, g, (av x m).left⟩) m.toNat 1 h kL (by decide) rfl (by show _ = m.toNat * 3 + 1; omega) ?_
  clear h; intro M h
  refine ⟨m0, m1, bp ?_⟩
  refine gS (E := jP) (a := ⟨(av x m).p, g, (av x m).left⟩) (a' := ⟨(av x m).p, g, x.c.S⟩) m.toNat 2 h (by simp [m2]) (by decide) rfl (by show _ = m.toNat * 3 + 2; omega) ?_
  clear h; intro M h
  rw [gE, wA (pr := { aB x i with turns := (aB x i).turns + 1 }) hlb] at h
  refine jm h ?_
  clear h; intro M h
  refine nS h ?_
  have e3 := tx (y := { aB x i with turns := (aB x i).turns + 1 }) kJ rfl
  exact k _ (Hp.bM (tB (A := A) (c := c) (a := ⟨some ⟨q, 0, none⟩, cp, sD, some ⟨q2, 0, none⟩, cm⟩) (x := (x.b7 i { aB x i with turns := (aB x i).turns + 1 }).eT m ⟨(av x m).p, g, x.c.S⟩) h b (by simp [Sc.b7, Sc.eT, dm]) (by rfl) (by simpa [Sc.b7, Sc.eT] using hl) (by rfl) (by exact e3) (by rfl)))
def tD (x : Sc) (m : Int) : Prop := 0 ≤ m ∧ m < x.ms.length ∧ 0 ≤ (av x m).p ∧ (av x m).p < x.ps.length ∧ x.gl.length ≤ 1000000 ∧ 0 ≤ (aB x (av x m).p).turns ∧ (aB x (av x m).p).turns < 1000000000 ∧ x.d.taken.length < 100000000 ∧ x.c.P ≤ x.ps.length ∧ x.c.P < 1000000
instance (x : Sc) (m : Int) : Decidable (tD x m) := by unfold tD; infer_instance
theorem Gw {j : Int} (h0 : 0 ≤ i) (hi : i < x.ps.length) (hj : 0 ≤ j) : (aB (x.own i).1 j).turns = (aB x j).turns := by
 unfold Sc.own Sc.b7 aB
 dsimp only
 by_cases e : i.toNat = j.toNat
 ·rw [e]
  rw [List.getD_eq_getElem?_getD, List.getElem?_set_self (by omega)]; rfl
 ·rw [List.getD_eq_getElem?_getD, List.getElem?_set_ne e, ← List.getD_eq_getElem?_getD]
end
section
variable {R : Mem} {L L' L2 : List HP} {M : Mem} {K : Value → Mem → Prop} {Kp : List PanicEntry → Mem → Prop} {pa : PA} {p : cf} {b wb db : Nat} {x : Sc} {m i : Int} {a : SA} {g : List Int}
theorem JG (h : Hp R (fI (c9 b wb db a x) g :: L) M) : M.ld ⟨b, 0 + 5, none⟩ = some (.slice a.ap x.ps.length a.cp) := by
 obtain ⟨A, c, h9⟩ := hJ (P := c9 b wb db a x) h; exact bz h9
theorem wF (h : Hp R (fI (c9 b wb db a x) g :: L) M) : M.ld ⟨b, 0 + 6, none⟩ = some (.slice a.am x.ms.length a.cm) := by
 obtain ⟨A, c, h9⟩ := hJ (P := c9 b wb db a x) h; exact bz h9
theorem Yw (h : Hp R (fI (c9 b wb db a x) g :: L) M) : M.ld ⟨b, 0 + 1, none⟩ = some (.int .i64 x.c.P) := by
 obtain ⟨A, c, h9⟩ := hJ (P := c9 b wb db a x) h; exact bz h9
theorem SY (h : Hp R (fI (c9 b wb db a x) g :: L) M) : M.ld ⟨b, (0 + 1) + 1, none⟩ = some (.int .i64 x.c.M) := by
 obtain ⟨A, c, h9⟩ := hJ (P := c9 b wb db a x) h; exact bz h9
theorem P4 (h : Hp R (fI (c9 b wb db a x) g :: L) M) : M.ld ⟨b, 0 + 8, none⟩ = some (.pointer (some ⟨db, 0, none⟩)) := by
 obtain ⟨A, c, h9⟩ := hJ (P := c9 b wb db a x) h; exact bz h9
theorem SZ (h : Hp R (fI (c9 b wb db a x) g :: L) M) : M.ld ⟨b, 0, none⟩ = some (.pointer (some ⟨wb, 0, none⟩)) := by
 obtain ⟨A, c, h9⟩ := hJ (P := c9 b wb db a x) h; exact bz h9
theorem LS : c9 b wb db a (x.own i).1 = c9 b wb db a x := by
 unfold Sc.own c9 dm Sc.b7; simp
def T4 (R : Mem) (pa : PA) (p : cf) (b wb db : Nat) (a : SA) (L' : List HP) (K : Value → Mem → Prop) (m i : Int) (q q2 k1 : Nat) (z : Sc) (kind g : Int) (t : Bool) (M : Mem) : Prop :=
 Hp R (fI (c9 b wb db a z) z.gl :: ax (bx pa p) wb z.w :: ax (cn .nilFunc) db z.d :: bR (some ⟨q, 0, none⟩) a.cp (bF a.lb z.ps) :: aR bA a.lb (z.ps.map cV.q) :: bV (some ⟨q2, 0, none⟩) a.cm z.ms :: pt k1 [.int .i64 0, .int .i64 0, .int .i64 0, .slice none 0 0] 47 :: L') M ∧
 a.lb.length = z.ps.length ∧ m < z.ms.length ∧ i < z.ps.length ∧ (0 ≤ (aB z i).turns ∧ (aB z i).turns < 1000000000) ∧
 (∀ M', Hp R (ax (fA pa p wb db) b (z.bJ m i kind g t).1 :: L') M' → K (DL (z.bJ m i kind g t).2 none 0) M')
theorem BN {y : cV} {j : Int} (hi : 0 ≤ i) (h1 : i < x.ps.length) (hj : 0 ≤ j) : aB (x.b7 i y) j = if i = j then y else aB x j := by
 unfold aB Sc.b7
 dsimp only
 by_cases e : i = j
 ·subst e
  rw [if_pos rfl, List.getD_eq_getElem?_getD, List.getElem?_set_self (by omega)]; rfl
 ·rw [if_neg e, List.getD_eq_getElem?_getD, List.getElem?_set_ne (by omega), ← List.getD_eq_getElem?_getD]
theorem yO {q q2 k1 : Nat}
  (h : Hp R (fI (c9 b wb db a x) x.gl :: ax (bx pa p) wb x.w :: ax (cn .nilFunc) db x.d :: bR (some ⟨q, 0, none⟩) a.cp (bF a.lb x.ps) :: aR bA a.lb (x.ps.map cV.q) :: bV (some ⟨q2, 0, none⟩) a.cm x.ms :: pt k1 [.int .i64 0, .int .i64 0, .int .i64 0, .slice none 0 0] 47 :: L') M)
  (hap : a.ap = some ⟨q, 0, none⟩) (EH : a.am = some ⟨q2, 0, none⟩) (hl : a.lb.length = x.ps.length) (hk : tD x m) (hi : i = (av x m).p) (hd : x.d.Ok)
  (k : let y := (x.own i).1
   if (x.own i).2.2 = false ∧ 1 < x.c.P then match y.d.draw 2 x.c.P with
    | (d', .cG l) => ∀ M', Hp R (ax (fA pa p wb db) b { y with d := d' } :: L') M' → Kp l M'
    | (d', .num v) =>
     let y := { y with d := d' }
     let s := (aB y i).q.cT (aB y v).q
     let z := if v = i then y else (y.b7 i { aB y i with q := s.1 }).b7 v { aB y v with q := s.2.1 }
     let r := if v = i then (-1, false) else (s.2.2, ir (aB y v).q s.2.2)
     ∀ M', Hp R (ax (fA pa p wb db) b (z.bJ m i 5 r.1 r.2).1 :: L') M' → K (DL (z.bJ m i 5 r.1 r.2).2 none 0) M'
   else ∀ M', Hp R (ax (fA pa p wb db) b (y.bJ m i 4 (x.own i).2.1 (x.own i).2.2).1 :: L') M' → K (DL (y.bJ m i 4 (x.own i).2.1 (x.own i).2.2).2 none 0) M') :
  aa Tryz.prog 132 #[(.pointer (some ⟨b, 0, none⟩)), (.pointer (some ⟨q, (i.toNat * 3), none⟩))] M (fun Lh xh =>
 ∃ Li : Int, ∃ t57 : Bool, (Lh = (.tuple #[(.int .i64 Li), (.bool t57)])) ∧
 aQ (!t57)
  (aG (Mem.ld xh ⟨b, (0 + 1), none⟩) .i64 fun Ib =>
  ∃ OL : List Value → Mem → Prop, (aQ (decide ((Ib : Int) > 1))
   (cj (Mem.ld xh ⟨b, (0 + 8), none⟩) fun Wg =>
    aG (Mem.ld xh ⟨b, (0 + 1), none⟩) .i64 fun Ie =>
    aa Tryz.prog 98 #[(.pointer Wg), (.int .i64 2), (.int .i64 Ie)] xh (fun OA zk =>
    aG (some OA) .i64 fun n64 =>
    cj (Mem.ld zk ⟨q, (i.toNat * 3), none⟩) fun QK =>
    aC (Mem.ld zk ⟨b, (0 + 5), none⟩) fun IL yw ud =>
    ((0 : Int) ≤ n64) ∧
    ((n64 : Int) < ((yw : Nat) : Int)) ∧
    aD IL fun Wh IG =>
    cj (Mem.ld zk ⟨Wh, (IG + ((Int.toNat n64) * 3)), none⟩) fun Sf =>
    aa Tryz.prog 133 #[(.pointer QK), (.pointer Sf)] zk (fun Wi Bh =>
    ∃ Lg : Int, ∃ t75 : Bool, (Wi = (.tuple #[(.int .i64 Lg), (.bool t75)])) ∧
    OL [(.int .i64 5), (.int .i64 Lg), (.bool t75)] Bh) Kp) Kp)
   (OL [(.int .i64 4), (.int .i64 Li), (.bool t57)] xh)) ∧
  ∀ OM : Nat → Value, ∀ sU : Int, ∀ uE : Int, ∀ t79 : Bool, ∀ zx : Mem, (OL [(.int .i64 sU), (.int .i64 uE), (.bool t79)] zx) → aQ (!t79)
   (aC (Mem.ld zx ⟨b, (0 + 6), none⟩) fun OF Kn Sh =>
   aF zx ⟨q, ((i.toNat * 3) + 2), none⟩ (.int .i64 (-1)) fun FN =>
   ((0 : Int) ≤ m) ∧
   ((m : Int) < ((Kn : Nat) : Int)) ∧
   aD OF fun IM FT =>
   aF FN ⟨IM, (FT + ((Int.toNat m) * 3)), none⟩ (.int .i64 (-1)) fun IN =>
   aF IN ⟨IM, ((FT + ((Int.toNat m) * 3)) + 1), none⟩ (.int .i64 (-1)) fun Sq =>
   aF Sq ⟨IM, ((FT + ((Int.toNat m) * 3)) + 2), none⟩ (.int .i64 0) fun Aa =>
   aF Aa ⟨k1, 0, none⟩ (.int .i64 6) fun Sr =>
   aF Sr ⟨k1, (0 + 1), none⟩ (.int .i64 m) fun pX =>
   aF pX ⟨k1, (0 + 2), none⟩ (.int .i64 (-1)) fun Nh =>
   aF Nh ⟨k1, (0 + 3), none⟩ (.slice none 0 0) fun Bi =>
   aG (Mem.ld Bi ⟨k1, 0, none⟩) .i64 fun On =>
   aG (Mem.ld Bi ⟨k1, (0 + 1), none⟩) .i64 fun K0 =>
   aG (Mem.ld Bi ⟨k1, (0 + 2), none⟩) .i64 fun Oo =>
   aC (Mem.ld Bi ⟨k1, (0 + 3), none⟩) fun Su Ni ON =>
   K (.agg #[(.int .i64 On), (.int .i64 K0), (.int .i64 Oo), (.slice Su Ni ON)]) Bi)
   (aG (Mem.ld zx ⟨q, ((i.toNat * 3) + 1), none⟩) .i64 fun ru =>
   aF zx ⟨q, ((i.toNat * 3) + 1), none⟩ (.int .i64 (IntKind.wrap .i64 (ru + 1))) fun pG =>
   aC (Mem.ld pG ⟨b, (0 + 6), none⟩) fun zB uD FU =>
   aC (Mem.ld pG ⟨b, (0 + 6), none⟩) fun zC uB FV =>
   aG (Mem.ld pG ⟨b, ((0 + 1) + 3), none⟩) .i64 fun C0 =>
   ((0 : Int) ≤ m) ∧
   ((m : Int) < ((uD : Nat) : Int)) ∧
   aD zB fun IP C8 =>
   aF pG ⟨IP, ((C8 + ((Int.toNat m) * 3)) + 1), none⟩ (.int .i64 uE) fun lK =>
   ((0 : Int) ≤ m) ∧
   ((m : Int) < ((uB : Nat) : Int)) ∧
   aD zC fun IQ IS =>
   aF lK ⟨IQ, ((IS + ((Int.toNat m) * 3)) + 2), none⟩ (.int .i64 C0) fun IU =>
   aF IU ⟨k1, 0, none⟩ (.int .i64 sU) fun IV =>
   aF IV ⟨k1, (0 + 1), none⟩ (.int .i64 m) fun C1 =>
   aF C1 ⟨k1, (0 + 2), none⟩ (.int .i64 uE) fun xI =>
   aF xI ⟨k1, (0 + 3), none⟩ (.slice none 0 0) fun lJ =>
   aG (Mem.ld lJ ⟨k1, 0, none⟩) .i64 fun IW =>
   aG (Mem.ld lJ ⟨k1, (0 + 1), none⟩) .i64 fun C2 =>
   aG (Mem.ld lJ ⟨k1, (0 + 2), none⟩) .i64 fun C3 =>
   aC (Mem.ld lJ ⟨k1, (0 + 3), none⟩) fun IX IY C4 =>
   K (.agg #[(.int .i64 IW), (.int .i64 C2), (.int .i64 C3), (.slice IX IY C4)]) lJ))
  (∃ IZ : List Value → Mem → Prop, (IZ [(.int .i64 4), (.int .i64 Li), (.bool t57)] xh) ∧
  ∀ Lj : Nat → Value, ∀ uF : Int, ∀ tf : Int, ∀ t129 : Bool, ∀ vM : Mem, (IZ [(.int .i64 uF), (.int .i64 tf), (.bool t129)] vM) → aQ (!t129)
   (aC (Mem.ld vM ⟨b, (0 + 6), none⟩) fun FO FP FQ =>
   aF vM ⟨q, ((i.toNat * 3) + 2), none⟩ (.int .i64 (-1)) fun C5 =>
   ((0 : Int) ≤ m) ∧
   ((m : Int) < ((FP : Nat) : Int)) ∧
   aD FO fun C9 Da =>
   aF C5 ⟨C9, (Da + ((Int.toNat m) * 3)), none⟩ (.int .i64 (-1)) fun FR =>
   aF FR ⟨C9, ((Da + ((Int.toNat m) * 3)) + 1), none⟩ (.int .i64 (-1)) fun FW =>
   aF FW ⟨C9, ((Da + ((Int.toNat m) * 3)) + 2), none⟩ (.int .i64 0) fun zA =>
   aF zA ⟨k1, 0, none⟩ (.int .i64 6) fun OO =>
   aF OO ⟨k1, (0 + 1), none⟩ (.int .i64 m) fun I0 =>
   aF I0 ⟨k1, (0 + 2), none⟩ (.int .i64 (-1)) fun OP =>
   aF OP ⟨k1, (0 + 3), none⟩ (.slice none 0 0) fun vN =>
   aG (Mem.ld vN ⟨k1, 0, none⟩) .i64 fun OQ =>
   aG (Mem.ld vN ⟨k1, (0 + 1), none⟩) .i64 fun OR =>
   aG (Mem.ld vN ⟨k1, (0 + 2), none⟩) .i64 fun OS =>
   aC (Mem.ld vN ⟨k1, (0 + 3), none⟩) fun OT OU OV =>
   K (.agg #[(.int .i64 OQ), (.int .i64 OR), (.int .i64 OS), (.slice OT OU OV)]) vN)
   (aG (Mem.ld vM ⟨q, ((i.toNat * 3) + 1), none⟩) .i64 fun C7 =>
   aF vM ⟨q, ((i.toNat * 3) + 1), none⟩ (.int .i64 (IntKind.wrap .i64 (C7 + 1))) fun zD =>
   aC (Mem.ld zD ⟨b, (0 + 6), none⟩) fun OW OX OK =>
   aC (Mem.ld zD ⟨b, (0 + 6), none⟩) fun OY OZ Wj =>
   aG (Mem.ld zD ⟨b, ((0 + 1) + 3), none⟩) .i64 fun O0 =>
   ((0 : Int) ≤ m) ∧
   ((m : Int) < ((OX : Nat) : Int)) ∧
   aD OW fun O1 O2 =>
   aF zD ⟨O1, ((O2 + ((Int.toNat m) * 3)) + 1), none⟩ (.int .i64 tf) fun O3 =>
   ((0 : Int) ≤ m) ∧
   ((m : Int) < ((OZ : Nat) : Int)) ∧
   aD OY fun O4 O5 =>
   aF O3 ⟨O4, ((O5 + ((Int.toNat m) * 3)) + 2), none⟩ (.int .i64 O0) fun O6 =>
   aF O6 ⟨k1, 0, none⟩ (.int .i64 uF) fun O7 =>
   aF O7 ⟨k1, (0 + 1), none⟩ (.int .i64 m) fun O8 =>
   aF O8 ⟨k1, (0 + 2), none⟩ (.int .i64 tf) fun O9 =>
   aF O9 ⟨k1, (0 + 3), none⟩ (.slice none 0 0) fun vO =>
   aG (Mem.ld vO ⟨k1, 0, none⟩) .i64 fun Pa =>
   aG (Mem.ld vO ⟨k1, (0 + 1), none⟩) .i64 fun Pb =>
   aG (Mem.ld vO ⟨k1, (0 + 2), none⟩) .i64 fun Pc =>
   aC (Mem.ld vO ⟨k1, (0 + 3), none⟩) fun Pd Pe Pf =>
   K (.agg #[(.int .i64 Pa), (.int .i64 Pb), (.int .i64 Pc), (.slice Pd Pe Pf)]) vO))) Kp := by
 obtain ⟨m0, m1, i0, i1, QW, Yx, T0, P5, hP, hP2⟩ := hk
 rw [← hi] at i0 i1 Yx T0
 have go : ∀ (z : Sc) (kind g : Int) (t : Bool) (M : Mem), T4 R pa p b wb db a L' K m i q q2 k1 z kind g t M → _ := fun z kind g t M ⟨h, a1, a2, a3, a4, a5⟩ => Gv h hap EH a1 m0 a2 i0 a3 a4 a5
 refine Gu (i := i) (q := q) (a := a) (x := x) (b := b) (wb := wb) (db := db) h hap hl i0 i1 QW Yx ?_
 clear h; intro M h
 refine ⟨_, _, rfl, ?_⟩
 dsimp only at k
 have ey : c9 b wb db a (x.own i).1 = c9 b wb db a x := LS
 have ep : bF a.lb (x.own i).1.ps = bF a.lb x.ps := by
  obtain ⟨lb, hlb, kJ, hrow⟩ := nU (i := i) hl i0 i1
  exact wE kJ rfl rfl
 have el : (x.own i).1.ps.length = x.ps.length := by simp [Sc.own, Sc.b7]
 have et : ∀ j, 0 ≤ j → (aB (x.own i).1 j).turns = (aB x j).turns := fun j hj => Gw i0 i1 hj
 have em : (x.own i).1.ms = x.ms := rfl
 have ew : (x.own i).1.w = x.w := rfl
 have ed : (x.own i).1.d = x.d := rfl
 rw [← ey, ← ep] at h
 have hR : Hp R (fI (c9 b wb db a (x.own i).1) (x.own i).1.gl :: ax (bx pa p) wb (x.own i).1.w :: ax (cn .nilFunc) db (x.own i).1.d :: bR (some ⟨q, 0, none⟩) a.cp (bF a.lb (x.own i).1.ps) :: aR bA a.lb ((x.own i).1.ps.map cV.q) :: bV (some ⟨q2, 0, none⟩) a.cm (x.own i).1.ms :: pt k1 [.int .i64 0, .int .i64 0, .int .i64 0, .slice none 0 0] 47 :: L') M := h.sub bQ
 clear h
 have h := hR
 clear hR
 have ec : (x.own i).1.c = x.c := rfl
 generalize hy : x.own i = r at h k ey ep el et em ew ed ec
 obtain ⟨y, v1, t1⟩ := r
 dsimp only at h k ey ep el et em ew ed ec ⊢
 have TW := et i i0
 have Nx : ∀ M, Hp R (fI (c9 b wb db a y) y.gl :: ax (bx pa p) wb y.w :: ax (cn .nilFunc) db y.d :: bR (some ⟨q, 0, none⟩) a.cp (bF a.lb y.ps) :: aR bA a.lb (y.ps.map cV.q) :: bV (some ⟨q2, 0, none⟩) a.cm y.ms :: pt k1 [.int .i64 0, .int .i64 0, .int .i64 0, .slice none 0 0] 47 :: L') M → ¬ (t1 = false ∧ 1 < x.c.P) → T4 R pa p b wb db a L' K m i q q2 k1 y 4 v1 t1 M := by
  intro M h hno
  rw [if_neg hno] at k
  exact ⟨h, by omega, by rw [em]; exact m1, by omega, by omega, k⟩
 cases t1 with
 | true =>
  refine ai ?_
  refine ⟨fun vs M => ∃ (z : Sc) (kind g : Int) (t : Bool), vs = [.int .i64 kind, .int .i64 g, .bool t] ∧ T4 R pa p b wb db a L' K m i q q2 k1 z kind g t M, ⟨y, 4, v1, true, rfl, Nx M h (fun hc => by cases hc.1)⟩, ?_⟩
  clear h
  rintro _ n1 n2 t3 M ⟨z, kind, g, t, he, hz⟩
  simp only [List.cons.injEq, Value.int.injEq, Value.bool.injEq, and_true, true_and] at he
  obtain ⟨rfl, rfl, rfl⟩ := he
  exact go z n1 n2 t3 M hz
 | false =>
  refine af ?_
  rw [Yw h]
  refine cF ?_
  refine ⟨fun vs M => ∃ (z : Sc) (kind g : Int) (t : Bool), vs = [.int .i64 kind, .int .i64 g, .bool t] ∧ T4 R pa p b wb db a L' K m i q q2 k1 z kind g t M, ?_, ?_⟩
  ·rw [ec]
   refine aL.2 ⟨fun hgt => ?_, fun hle => ?_⟩
   ·rw [if_pos ⟨rfl, hgt⟩] at k
    rw [P4 h]
    refine fR ?_
    refine cF ?_
    rw [ed] at k h
    replace h : Hp R (ax (cn .nilFunc) db x.d :: fI (c9 b wb db a y) y.gl :: ax (bx pa p) wb y.w :: bR (some ⟨q, 0, none⟩) a.cp (bF a.lb y.ps) :: aR bA a.lb (y.ps.map cV.q) :: bV (some ⟨q2, 0, none⟩) a.cm y.ms :: pt k1 [.int .i64 0, .int .i64 0, .int .i64 0, .slice none 0 0] 47 :: L') M := h.sub bQ
    refine nO h hd (by omega) P5 ?_
    clear h
    have DK := fun k' v => wv (k := x.d.k) (kind := 2) hd.1 (wu x.c.P) (k' := k') (v := v)
    have wg : ∀ v, (x.d.draw 2 x.c.P).2 = .num v → 0 ≤ v ∧ v < x.c.P := by
     intro v hv
     unfold kI.draw at hv
     split at hv
     ·rename_i k' v' hn
      cases hv
      have := DK k' _ hn
      have e : j3 x.c.P = x.c.P := by unfold j3; rw [if_neg (by omega)]
      rw [e] at this
      exact this
     ·cases hv
    generalize uk : x.d.draw 2 x.c.P = dd at k wg
    obtain ⟨d', o⟩ := dd
    cases o with
    | cG l =>
     dsimp only at k wg ⊢
     intro M h
     have hsc : c9 b wb db a y = c9 b wb db a { y with d := d' } := rfl
     rw [hsc] at h
     have h9 : Hp R (fI (c9 b wb db a { y with d := d' }) y.gl :: ax (bx pa p) wb y.w :: ax (cn .nilFunc) db d' :: bR a.ap a.cp (bF a.lb y.ps) :: aR bA a.lb (y.ps.map cV.q) :: bV a.am a.cm y.ms :: pt k1 [.int .i64 0, .int .i64 0, .int .i64 0, .slice none 0 0] 47 :: L') M := by
      rw [show bR a.ap a.cp (bF a.lb y.ps) = bR (some ⟨q, 0, none⟩) a.cp (bF a.lb y.ps) from by rw [hap], show bV a.am a.cm y.ms = bV (some ⟨q2, 0, none⟩) a.cm y.ms from by rw [EH]]
      exact h.sub bQ
     exact k M (Hp.bM (g9 (a := a) (x := { y with d := d' }) (by rw [el]; exact hl) h9))
    | num v =>
     dsimp only at k wg ⊢
     obtain ⟨v0, v1'⟩ := wg v rfl
     intro M h
     refine cF ?_
     have hsc : c9 b wb db a y = c9 b wb db a { y with d := d' } := rfl
     rw [hsc] at h
     generalize hyz : ({ y with d := d' } : Sc) = y2 at h k
     have p1 : y2.ps = y.ps := by rw [← hyz]
     have p2 : y2.ms = y.ms := by rw [← hyz]
     have p3 : y2.gl = y.gl := by rw [← hyz]
     have p4 : y2.w = y.w := by rw [← hyz]
     have p5 : y2.d = d' := by rw [← hyz]
     rw [← p1, ← p2, ← p3, ← p4, ← p5] at h
     replace h : Hp R (fI (c9 b wb db a y2) y2.gl :: ax (bx pa p) wb y2.w :: ax (cn .nilFunc) db y2.d :: bR (some ⟨q, 0, none⟩) a.cp (bF a.lb y2.ps) :: aR bA a.lb (y2.ps.map cV.q) :: bV (some ⟨q2, 0, none⟩) a.cm y2.ms :: pt k1 [.int .i64 0, .int .i64 0, .int .i64 0, .slice none 0 0] 47 :: L') M := h.sub bQ
     have jW : a.lb.length = y2.ps.length := by rw [p1, el]; exact hl
     have Jf : i < y2.ps.length := by rw [p1, el]; exact i1
     have MG : v < y2.ps.length := by rw [p1, el]; omega
     have SW : m < y2.ms.length := by rw [p2, em]; exact m1
     have T3 : ∀ j, aB y2 j = aB y j := fun j => by unfold aB; rw [p1]
     obtain ⟨lbi, S0, S3, S4⟩ := nU (i := i) jW i0 Jf
     obtain ⟨lbv, P6, JH, S5⟩ := nU (i := v) jW v0 MG
     refine kq (Src.at (Src.row (A := some ⟨q, 0, none⟩) : Src R _ _ (nQ.cells (bF a.lb y2.ps))) h (i := i.toNat) (j := 0) S4 rfl (by show _ = 0 + (i.toNat * 3 + 0); simp)) ?_
     rw [JG h]
     refine aW ⟨v0, MG, ?_⟩
     rw [hap]
     refine bp ?_
     rw [Nat.zero_add]
     refine kq (Src.at (Src.row (A := some ⟨q, 0, none⟩) : Src R _ _ (nQ.cells (bF a.lb y2.ps))) h (i := v.toNat) (j := 0) S5 rfl (by show _ = 0 + (v.toNat * 3 + 0); simp)) ?_
     by_cases T5 : v = i
     ·subst T5
      rw [S0] at P6
      cases P6
      refine tC ?_
      refine ⟨_, _, rfl, ?_⟩
      simp only [if_true] at k
      exact ⟨y2, 5, -1, false, rfl, h, jW, SW, Jf, by rw [T3]; omega, k⟩
     ·simp only [if_neg T5] at k
      have T6 : (y2.ps.map cV.q)[i.toNat]? = some (aB y2 i).q := by rw [List.getElem?_map, S3]; rfl
      have hqv : (y2.ps.map cV.q)[v.toNat]? = some (aB y2 v).q := by rw [List.getElem?_map, JH]; rfl
      obtain ⟨X, hX, yP⟩ := h.Je bA (i := i.toNat) (j := v.toNat) (by omega) S0 T6 P6 hqv
      clear h
      refine Bz hX ?_
      clear hX; intro t M g1 g2 h
      refine ⟨_, _, rfl, ?_⟩
      have hte : t = ir (aB y2 v).q ((aB y2 i).q.cT (aB y2 v).q).2.2 := by
       unfold ir
       by_cases hc : ((aB y2 i).q.cT (aB y2 v).q).2.2 ≠ -1 ∨ (aB y2 v).q.l ≠ []
       ·rw [g2 hc]
        rcases hc with hc | hc
        ·simp [hc]
        ·cases hq : (aB y2 v).q.l with
         | nil => exact absurd hq hc
         | cons _ _ => simp
       ·have Zz : ((aB y2 i).q.cT (aB y2 v).q).2.2 = -1 := Decidable.byContradiction fun e => hc (.inl e)
        have MW : (aB y2 v).q.l = [] := by
         cases hq : (aB y2 v).q.l with
         | nil => rfl
         | cons _ _ => exact absurd (.inr (by rw [hq]; simp)) hc
        rw [g1 Zz MW, Zz, MW]; rfl
      subst hte
      replace h := yP (L2 := _) h
      generalize hs : (aB y2 i).q.cT (aB y2 v).q = s at h k ⊢
      obtain ⟨s1, s2, s3⟩ := s
      dsimp only at h k ⊢
      have e1 : bF a.lb ((y2.b7 i { aB y2 i with q := s1 }).b7 v { aB y2 v with q := s2 }).ps = bF a.lb y2.ps := by
       show bF a.lb ((y2.ps.set i.toNat _).set v.toNat _) = _
       rw [wE (ps := y2.ps.set i.toNat { aB y2 i with q := s1 }) (j := v.toNat) (pr := aB y2 v) (y := { aB y2 v with q := s2 }) (by rw [List.getElem?_set_ne (by omega)]; exact JH) rfl rfl]
       exact wE S3 rfl rfl
      have e2 : ((y2.b7 i { aB y2 i with q := s1 }).b7 v { aB y2 v with q := s2 }).ps.map cV.q = ((y2.ps.map cV.q).set i.toNat s1).set v.toNat s2 := by
       simp [Sc.b7, List.map_set]
      have e3 : c9 b wb db a ((y2.b7 i { aB y2 i with q := s1 }).b7 v { aB y2 v with q := s2 }) = c9 b wb db a y2 := by rw [wC, wC]
      rw [← e1, ← e2, ← e3] at h
      have e4 : (aB ((y2.b7 i { aB y2 i with q := s1 }).b7 v { aB y2 v with q := s2 }) i).turns = (aB y2 i).turns := by
       rw [BN v0 (by rw [nW]; exact MG) i0, if_neg T5, BN i0 Jf i0, if_pos rfl]
      refine ⟨(y2.b7 i { aB y2 i with q := s1 }).b7 v { aB y2 v with q := s2 }, 5, s3, _, rfl, h.sub bQ, ?_, SW, ?_, ?_, k⟩
      ·rw [nW, nW]; exact jW
      ·rw [nW, nW]; exact Jf
      ·rw [e4, T3]; omega
   ·exact ⟨y, 4, v1, false, rfl, Nx M h (fun hc => hle hc.2)⟩
  ·clear h
   rintro _ n1 n2 t3 M ⟨z, kind, g, t, he, hz⟩
   simp only [List.cons.injEq, Value.int.injEq, Value.bool.injEq, and_true, true_and] at he
   obtain ⟨rfl, rfl, rfl⟩ := he
   exact go z n1 n2 t3 M hz
end
def uI (l : List PanicEntry) : List PanicEntry := l ++ l.map fun e => { e with recovered := true }
theorem yQ : yL Gs (uI Gs) := fun b v M K Kp h => F3 h
theorem BO {a k n q v : Int} : yL (QV a k n q v) (uI (QV a k n q v)) := fun b w M K Kp h => zE h
theorem JI {k k' : gv} {kind m : Int} {l : List PanicEntry} (h : k.next kind m = (k', .cG l)) : k' = k ∧ yL l (uI l) := by
 cases k with
 | qz l i =>
  unfold gv.next at h
  dsimp only at h
  split at h
  ·cases h; exact ⟨rfl, yQ⟩
  ·cases h
 | tape l i =>
  unfold gv.next at h
  dsimp only at h
  split at h
  ·cases h; exact ⟨rfl, yQ⟩
  ·split at h
   ·cases h; exact ⟨rfl, BO⟩
   ·split at h
    ·cases h; exact ⟨rfl, BO⟩
    ·cases h
theorem BP {x x' : kI} {kind n : Int} {l : List PanicEntry} (h : x.draw kind n = (x', .cG l)) : x' = x ∧ yL l (uI l) := by
 unfold kI.draw at h
 split at h
 ·cases h
 ·rename_i k' l' hn
  cases h
  obtain ⟨e, h2⟩ := JI hn
  subst e
  exact ⟨rfl, h2⟩
theorem lT {x : kI} {kind n : Int} (h : x.k.Ok) : (x.draw kind n).1.k.Ok := by
 unfold kI.draw
 have := LQ (kind := kind) (m := j3 n) h
 split
 ·rename_i k' v hn; rw [hn] at this; exact this
 ·rename_i k' v hn; rw [hn] at this; exact this
theorem nX {x x' : kI} {kind n v : Int} (hok : x.k.Ok) (h : x.draw kind n = (x', .num v)) : 0 ≤ v ∧ v < j3 n ∧ x'.taken = x.taken ++ [(kind, v)] := by
 unfold kI.draw at h
 split at h
 ·rename_i k' v' hn
  cases h
  have := wv hok (wu n) hn
  exact ⟨this.1, this.2, rfl⟩
 ·cases h
def aI (m : Int) (x : Sc) (r : Int) : Sc :=
 let i := (av x m).p
 { x.b7 i { aB x i with q := ((aB x i).q.ready r x.gl).1 } with gl := ((aB x i).q.ready r x.gl).2.1 }
def Sc.nY (x : Sc) (m g : Int) (keep : Bool) (ready : List Int) : Sc × Ev :=
 if keep = true ∧ (av x m).left - 1 ≠ 0 then (x.eT m { av x m with left := (av x m).left - 1 }, ⟨7, m, g, ready⟩)
 else ({ x.eT m { av x m with left := (av x m).left - 1, g := -1 } with gl := if (ae x.w g).st = 1 then x.gl ++ [g] else x.gl }, ⟨7, m, g, ready⟩)
def wG (p : cf) (x : Sc) (m : Int) : Prop := 0 ≤ m ∧ m < x.ms.length ∧ 0 ≤ (av x m).p ∧ (av x m).p < x.ps.length ∧ x.gl.length ≤ 1000000 ∧ x.d.taken.length < 100000000 ∧ 1 ≤ (av x m).left ∧ (av x m).left < 1000000000 ∧ 0 ≤ (av x m).g
instance (p : cf) (x : Sc) (m : Int) : Decidable (wG p x m) := by unfold wG; infer_instance
def JJ : Option (Int × Int) → Bool
 | none => true
 | some (_, n) => decide (n < 9223372036854775808)
def gL (x : Sc) (m g : Int) (d : kI) (y : Wd) (rest : Bool) : Option (Sc × kK) :=
 if y.ready.length ≤ 10000 ∧ g < y.gs.length then
  some (((y.ready.foldl (aI m) { x with w := y, d := d }).nY m g (dg y g rest) y.ready).1, .ev ((y.ready.foldl (aI m) { x with w := y, d := d }).nY m g (dg y g rest) y.ready).2)
 else none
def dU (d : kI) : Option (Int × Int) → kI × gU
 | none => (d, .num 0)
 | some (k, n) => d.draw k n
def Sc.run (p : cf) (x : Sc) (m : Int) : Option (Sc × kK) :=
 if wG p x m then
  if JJ (asks p { x.w with ready := [] } (av x m).g) then
   match jO p x.w (av x m).g (dU x.d (asks p { x.w with ready := [] } (av x m).g)).2 with
   | none => none
   | some (.cG l y, _) => some ({ x with w := y, d := (dU x.d (asks p { x.w with ready := [] } (av x m).g)).1 }, .cG (uI l))
   | some (.on y, rest) => gL x m (av x m).g (dU x.d (asks p { x.w with ready := [] } (av x m).g)).1 y rest
   | some (.dy n y, rest) => gL x m (av x m).g (dU x.d (asks p { x.w with ready := [] } (av x m).g)).1 { y with end_ := 2, code := n } rest
  else none
 else none
def xL : Sc × kK → Sc × kK
 | (x, .ev e) => ({ x with steps := x.steps + 1 }, .ev e)
 | (x, .cG l) => (x, .cG l)
def uX (x : Sc) : Prop := x.w.gs.length ≤ 1000000 ∧ x.c.M = x.ms.length ∧ x.ps.length ≤ 1000000 ∧ x.ms.length ≤ 1000000 ∧ x.d.taken.length < 10000000 ∧ 0 ≤ x.steps ∧ x.steps < 1000000000
instance (x : Sc) : Decidable (uX x) := by unfold uX; infer_instance
def Sc.act (p : cf) (x : Sc) (m : Int) : Option (Sc × kK) :=
 if m = x.c.M then (if wB x then some (x.tick.1, .ev x.tick.2) else none)
 else if (av x m).p = -1 then some ((x.hold m).1, .ev (x.hold m).2)
 else if (av x m).g = -1 then (if tD x m then some (x.find m) else none)
 else x.run p m
def Sc.step (p : cf) (x : Sc) : Option (Sc × kK) :=
 if uX x then
  if x.status ≠ 0 then some (x, .ev ⟨0, 0, 0, []⟩)
  else match x.d.draw 1 (x.c.M + 1) with
   | (d', .cG l) => some ({ x with d := d' }, .cG l)
   | (d', .num m) => (Sc.act p { x with d := d' } m).map xL
 else none
section
variable {R : Mem} {L L' L2 : List HP} {M : Mem} {K : Value → Mem → Prop} {Kp : List PanicEntry → Mem → Prop} {pa : PA} {p : cf} {b wb db : Nat} {x : Sc} {m i : Int}
theorem DO (h : Hp R L M) [o : nR b L pa p wb db x L'] (hk : tD x m) (hd : x.d.k.Ok)
  (k : match (x.find m).2 with
   | .ev e => ∀ M', Hp R (ax (fA pa p wb db) b (x.find m).1 :: L') M' → K (DL e none 0) M'
   | .cG l => ∀ M', Hp R (ax (fA pa p wb db) b (x.find m).1 :: L') M' → Kp l M') : aa Tryz.prog 101 #[.pointer (some ⟨b, 0, none⟩), .int .i64 m] M K Kp := by
 refine pF ?_
 have hk' := hk
 obtain ⟨m0, m1, i0, i1, QW, Yx, T0, P5, hP, hP2⟩ := hk'
 have wH : x.d.Ok := ⟨hd, by omega⟩
 refine aj h ?_
 clear h
 intro k1 M h
 have h' := fB h (b := b)
 clear h
 obtain ⟨a, hl, h⟩ := h'
 obtain ⟨lb, hlb, kJ, hrow⟩ := nU (i := (av x m).p) hl i0 i1
 have kL := nV m0 m1
 have m2 : m.toNat < x.ms.length := by omega
 obtain ⟨q, hq⟩ := h.bt (A := a.ap) (l := bF a.lb x.ps) (by rw [jl hl]; omega) (by decide)
 obtain ⟨q2, oB⟩ := h.bt (A := a.am) (l := x.ms) (by omega) (by decide)
 replace h : Hp R (fI (c9 b wb db a x) x.gl :: ax (bx pa p) wb x.w :: ax (cn .nilFunc) db x.d :: bR (some ⟨q, 0, none⟩) a.cp (bF a.lb x.ps) :: aR bA a.lb (x.ps.map cV.q) :: bV (some ⟨q2, 0, none⟩) a.cm x.ms :: pt k1 [.int .i64 0, .int .i64 0, .int .i64 0, .slice none 0 0] 47 :: L') M := by
  unfold gK at h
  rw [show bR a.ap a.cp (bF a.lb x.ps) = bR (some ⟨q, 0, none⟩) a.cp (bF a.lb x.ps) from by rw [hq], show bV a.am a.cm x.ms = bV (some ⟨q2, 0, none⟩) a.cm x.ms from by rw [oB]] at h
  exact h.sub (by repeat (first | exact .refl | refine .cons (by repeat (first | exact .here | apply cu.there)) ?_ | apply Sub.drop))
 rw [JG h]
 refine aW ?_
 rw [wF h]
 refine aW ⟨m0, m1, ?_⟩
 rw [oB]
 refine bp ?_
 refine br (Src.at (h.src (A := some ⟨q2, 0, none⟩)) h (i := m.toNat) (j := 0) kL rfl (by show _ = 0 + (m.toNat * 3 + 0); simp)) ?_
 refine ⟨i0, i1, ?_⟩
 rw [hq]
 refine bp ?_
 refine aW ⟨m0, m1, bp ?_⟩
 refine br (Src.at (h.src (A := some ⟨q2, 0, none⟩)) h (i := m.toNat) (j := 2) kL rfl (by show _ = 0 + (m.toNat * 3 + 2); omega)) ?_
 simp only [Nat.zero_add]
 have hno : ¬ (0 < (av x m).left ∧ (aB x (av x m).p).q.next ≠ -1) → (let y := (x.own (av x m).p).1
   if (x.own (av x m).p).2.2 = false ∧ 1 < x.c.P then match y.d.draw 2 x.c.P with
    | (d', .cG l) => ∀ M', Hp R (ax (fA pa p wb db) b { y with d := d' } :: L') M' → Kp l M'
    | (d', .num v) =>
     let y := { y with d := d' }
     let s := (aB y (av x m).p).q.cT (aB y v).q
     let z := if v = (av x m).p then y else (y.b7 (av x m).p { aB y (av x m).p with q := s.1 }).b7 v { aB y v with q := s.2.1 }
     let r := if v = (av x m).p then (-1, false) else (s.2.2, ir (aB y v).q s.2.2)
     ∀ M', Hp R (ax (fA pa p wb db) b (z.bJ m (av x m).p 5 r.1 r.2).1 :: L') M' → K (DL (z.bJ m (av x m).p 5 r.1 r.2).2 none 0) M'
   else ∀ M', Hp R (ax (fA pa p wb db) b (y.bJ m (av x m).p 4 (x.own (av x m).p).2.1 (x.own (av x m).p).2.2).1 :: L') M' → K (DL (y.bJ m (av x m).p 4 (x.own (av x m).p).2.1 (x.own (av x m).p).2.2).2 none 0) M') := by
  intro hn
  unfold Sc.find at k
  dsimp only at k ⊢
  rw [if_neg hn] at k
  split
  ·rename_i hc
   rw [if_pos hc] at k
   split
   ·rename_i d' l uk
    rw [uk] at k
    exact k
   ·rename_i d' v uk
    rw [uk] at k
    dsimp only at k ⊢
    by_cases hv : v = (av x m).p
    ·simp only [if_pos hv] at k ⊢
     exact k
    ·simp only [if_neg hv] at k ⊢
     exact k
  ·rename_i hc
   rw [if_neg hc] at k
   exact k
 refine aL.2 ⟨fun hgt => ?_, fun hle => ?_⟩
 ·refine kq (Src.at (h.src (A := some ⟨q, 0, none⟩)) h (i := (av x m).p.toNat) (j := 0) hrow rfl (by show _ = 0 + ((av x m).p.toNat * 3 + 0); simp)) ?_
  have T6 : (x.ps.map cV.q)[(av x m).p.toNat]? = some (aB x (av x m).p).q := by rw [List.getElem?_map, kJ]; rfl
  have h3 := h.cz bA hlb T6
  refine Du h3 ?_
  refine cF ?_
  refine ⟨fun vs M => vs = [] ∧ (aB x (av x m).p).q.next = -1 ∧ Hp R (fI (c9 b wb db a x) x.gl :: ax (bx pa p) wb x.w :: ax (cn .nilFunc) db x.d :: bR (some ⟨q, 0, none⟩) a.cp (bF a.lb x.ps) :: aR bA a.lb (x.ps.map cV.q) :: bV (some ⟨q2, 0, none⟩) a.cm x.ms :: pt k1 [.int .i64 0, .int .i64 0, .int .i64 0, .slice none 0 0] 47 :: L') M, ?_, ?_⟩
  ·refine eo.2 ⟨fun hne => ?_, fun heq => ⟨rfl, by simpa using heq, h⟩⟩
   clear h3
   unfold Sc.find at k
   dsimp only at k
   rw [if_pos ⟨by omega, hne⟩] at k
   dsimp only at k
   refine kq (Src.at (h.src (A := some ⟨q, 0, none⟩)) h (i := (av x m).p.toNat) (j := 0) hrow rfl (by show _ = 0 + ((av x m).p.toNat * 3 + 0); simp)) ?_
   rw [show M.ld ⟨b, 6, none⟩ = some (.slice a.am x.ms.length a.cm) from wF h]
   refine aW ?_
   replace h := h.cz bA hlb T6
   refine yJ h (b := lb) ?_
   clear h; intro t M _ _ h
   refine ⟨_, _, rfl, ?_⟩
   replace h := h.cY bA lb hlb (by rw [List.length_map]; omega)
   replace h : Hp R (fI (c9 b wb db a x) x.gl :: ax (bx pa p) wb x.w :: ax (cn .nilFunc) db x.d :: bR (some ⟨q, 0, none⟩) a.cp (bF a.lb x.ps) :: aR bA a.lb ((x.ps.map cV.q).set (av x m).p.toNat (aB x (av x m).p).q.get.1) :: bV (some ⟨q2, 0, none⟩) a.cm x.ms :: pt k1 [.int .i64 0, .int .i64 0, .int .i64 0, .slice none 0 0] 47 :: L') M := h.sub (by repeat (first | exact .refl | refine .cons (by repeat (first | exact .here | apply cu.there)) ?_ | apply Sub.drop))
   refine ⟨wF h, m0, m1, ?_⟩
   rw [oB]
   refine bp ?_
   refine gS (E := jP) (a' := ⟨(av x m).p, (aB x (av x m).p).q.get.2, (av x m).left⟩) m.toNat 1 h kL (by decide) rfl (by show _ = m.toNat * 3 + 1; omega) ?_
   clear h; intro M h
   replace h : Hp R (fI (c9 b wb db a x) x.gl :: ax (bx pa p) wb x.w :: ax (cn .nilFunc) db x.d :: bR (some ⟨q, 0, none⟩) a.cp (bF a.lb x.ps) :: aR bA a.lb ((x.ps.map cV.q).set (av x m).p.toNat (aB x (av x m).p).q.get.1) :: bV (some ⟨q2, 0, none⟩) a.cm (x.ms.set m.toNat ⟨(av x m).p, (aB x (av x m).p).q.get.2, (av x m).left⟩) :: pt k1 [.int .i64 0, .int .i64 0, .int .i64 0, .slice none 0 0] 47 :: L') M := h.sub (by repeat (first | exact .refl | refine .cons (by repeat (first | exact .here | apply cu.there)) ?_ | apply Sub.drop))
   refine ⟨by have := wF h; rw [oB] at this; exact this, ?_⟩
   rw [show M.ld ⟨b, 6, none⟩ = some (.slice a.am x.ms.length a.cm) from wF h, oB]
   refine aW ⟨m0, m1, bp ?_⟩
   refine br (Src.at (h.src (A := some ⟨q2, 0, none⟩)) h (i := m.toNat) (j := 1) (a := ⟨(av x m).p, (aB x (av x m).p).q.get.2, (av x m).left⟩) (by simp [m2]) rfl (by show _ = 0 + (m.toNat * 3 + 1); omega)) ?_
   dsimp only
   refine jm h ?_
   clear h; intro M h
   refine nS h ?_
   have e1 : bF a.lb (x.b7 (av x m).p { aB x (av x m).p with q := (aB x (av x m).p).q.get.1 }).ps = bF a.lb x.ps := wE kJ rfl rfl
   have e2 : ((x.b7 (av x m).p { aB x (av x m).p with q := (aB x (av x m).p).q.get.1 }).ps).map cV.q = (x.ps.map cV.q).set (av x m).p.toNat (aB x (av x m).p).q.get.1 := by simp [Sc.b7, List.map_set]
   have h9 : Hp R (fI (c9 b wb db a ((x.b7 (av x m).p { aB x (av x m).p with q := (aB x (av x m).p).q.get.1 }).eT m { av x m with g := (aB x (av x m).p).q.get.2 })) x.gl :: ax (bx pa p) wb x.w :: ax (cn .nilFunc) db x.d :: bR a.ap a.cp (bF a.lb ((x.b7 (av x m).p { aB x (av x m).p with q := (aB x (av x m).p).q.get.1 }).eT m { av x m with g := (aB x (av x m).p).q.get.2 }).ps) :: aR bA a.lb (((x.b7 (av x m).p { aB x (av x m).p with q := (aB x (av x m).p).q.get.1 }).eT m { av x m with g := (aB x (av x m).p).q.get.2 }).ps.map cV.q) :: bV a.am a.cm (x.ms.set m.toNat ⟨(av x m).p, (aB x (av x m).p).q.get.2, (av x m).left⟩) :: L') M := by
    rw [wD, wC]
    show Hp R (_ :: _ :: _ :: bR a.ap a.cp (bF a.lb (x.b7 (av x m).p { aB x (av x m).p with q := (aB x (av x m).p).q.get.1 }).ps) :: aR bA a.lb ((x.b7 (av x m).p { aB x (av x m).p with q := (aB x (av x m).p).q.get.1 }).ps.map cV.q) :: _) M
    rw [e1, e2, hq, oB]
    exact h.sub (by repeat (first | exact .refl | refine .cons (by repeat (first | exact .here | apply cu.there)) ?_ | apply Sub.drop))
   exact k _ (g9 (a := a) (x := (x.b7 (av x m).p { aB x (av x m).p with q := (aB x (av x m).p).q.get.1 }).eT m { av x m with g := (aB x (av x m).p).q.get.2 }) (by simpa [Sc.b7, Sc.eT] using hl) h9)
  ·clear h h3
   rintro _ M ⟨_, Ny, h⟩
   exact yO h hq oB hl hk rfl wH (hno (fun hc => hc.2 Ny))
 ·refine ⟨fun vs M => vs = [] ∧ Hp R (fI (c9 b wb db a x) x.gl :: ax (bx pa p) wb x.w :: ax (cn .nilFunc) db x.d :: bR (some ⟨q, 0, none⟩) a.cp (bF a.lb x.ps) :: aR bA a.lb (x.ps.map cV.q) :: bV (some ⟨q2, 0, none⟩) a.cm x.ms :: pt k1 [.int .i64 0, .int .i64 0, .int .i64 0, .slice none 0 0] 47 :: L') M, ⟨rfl, h⟩, ?_⟩
  clear h
  rintro _ M ⟨_, h⟩
  exact yO h hq oB hl hk rfl wH (hno (fun hc => hle (by omega)))
end
theorem yR {p : cf} {x : Wd} {k v : Int} {l : List PanicEntry} {y : Wd} : x.put p k v ≠ .cG l y := by
 unfold Wd.put; dsimp only; split <;> simp
theorem DP {p : cf} {x : Wd} {g : Int} {i : cQ} {l : List PanicEntry} {y : Wd} (h : iq p x g i = some (.cG l y)) : False := by
 unfold iq at h
 by_cases e : i.op = 10
 ·rw [if_pos e] at h; obtain ⟨_, h⟩ := bY h; cases h
 rw [if_neg e] at h; clear e
 by_cases e : i.op = 11
 ·rw [if_pos e] at h; obtain ⟨_, h⟩ := bY h; unfold Wd.spawn at h; split at h <;> cases h
 rw [if_neg e] at h; clear e
 by_cases e : i.op = 13
 ·rw [if_pos e] at h; obtain ⟨_, h⟩ := bY h
  unfold Wd.send at h
  split at h
  ·cases h
  ·rename_i hp; exact yR hp
  ·cases h
  ·cases h
 rw [if_neg e] at h; clear e
 by_cases e : i.op = 14
 ·rw [if_pos e] at h; obtain ⟨_, h⟩ := bY h; cases h
 rw [if_neg e] at h; clear e
 by_cases e : i.op = 15
 ·rw [if_pos e] at h; obtain ⟨_, h⟩ := bY h; unfold Wd.shut at h; dsimp only at h; split at h
  ·cases h
  ·split at h <;> cases h
 rw [if_neg e] at h; clear e
 by_cases e : i.op = 20
 ·rw [if_pos e] at h; obtain ⟨_, h⟩ := bY h; unfold Wd.emit at h; split at h <;> cases h
 rw [if_neg e] at h; clear e
 by_cases e : i.op = 9
 ·rw [if_pos e] at h; obtain ⟨_, h⟩ := bY h; unfold Wd.call at h; split at h <;> cases h
 rw [if_neg e] at h; clear e
 by_cases e : i.op = 12
 ·rw [if_pos e] at h; cases h
 rw [if_neg e] at h; clear e
 by_cases e : i.op = 17
 ·rw [if_pos e] at h; obtain ⟨_, h⟩ := bY h; cases h
 rw [if_neg e] at h; clear e
 by_cases e : i.op = 18
 ·rw [if_pos e] at h; obtain ⟨_, h⟩ := bY h; cases h
 rw [if_neg e] at h; clear e
 by_cases e : i.op = 19
 ·rw [if_pos e] at h; obtain ⟨_, h⟩ := bY h; unfold Wd.unlock at h; split at h
  ·cases h
  ·split at h <;> cases h
 rw [if_neg e] at h; clear e
 by_cases e : i.op = 22
 ·rw [if_pos e] at h; cases h
 rw [if_neg e] at h; cases h
theorem yS {p : cf} {x : Wd} {g : Int} {d : gU} {l : List PanicEntry} {y : Wd} {rest : Bool} (h : jO p x g d = some (.cG l y, rest)) : d = .cG l ∧ y = { x with ready := [] } := by
 unfold jO at h
 dsimp only at h
 split at h
 ·split at h
  ·split at h
   ·cases h
   ·split at h
    ·cases h
    ·split at h
     ·split at h <;> cases h
     ·split at h
      ·split at h
       ·split at h
        ·rename_i hc
         simp only [Option.some.injEq, Prod.mk.injEq] at h
         obtain ⟨h, _⟩ := h
         unfold Wd.choose at h
         split at h
         ·cases h
         ·cases d with
          | cG l' => cases h; exact ⟨rfl, rfl⟩
          | num v =>
           dsimp only at h
           unfold Wd.nK at h
           dsimp only at h
           split at h
           ·split at h
            ·cases h
            ·rename_i hp; exact absurd hp yR
            ·cases h
           ·cases h
        ·cases h
       ·cases h
      ·split at h
       ·split at h
        ·split at h
         ·simp only [Option.some.injEq, Prod.mk.injEq] at h
          obtain ⟨h, _⟩ := h
          cases d with
          | cG l' => cases h; exact ⟨rfl, rfl⟩
          | num v => cases h
         ·cases h
        ·cases h
       ·split at h
        ·cases h
        ·rename_i r hd
         split at h
         ·simp only [Option.some.injEq, Prod.mk.injEq] at h
          obtain ⟨h, _⟩ := h
          subst h
          exact (DP hd).elim
         ·cases h
  ·cases h
 ·cases h
theorem Gx {q : Loc} {r : Int} {gl : List Int} : (q.ready r gl).2.1.length ≤ gl.length + q.l.length + 1 := by
 unfold Loc.ready
 split
 ·dsimp only; omega
 ·unfold Loc.put
  dsimp only
  split
  ·dsimp only; omega
  ·dsimp only; simp; omega
section
variable {R : Mem} {L L' L2 : List HP} {M : Mem} {K : Value → Mem → Prop} {Kp : List PanicEntry → Mem → Prop} {pa : PA} {p : cf} {b wb db : Nat} {x : Sc} {m i : Int} {a : SA}
abbrev wI (eG : Nat) (kp : Bool) (A : Option Addr) (n c : Nat) : HP := pt eG [.bool kp, .slice A n c] 120
theorem BQ {q2 k1 eG c : Nat} {g : Int} {kp : Bool} {A : Option Addr} {rd : List Int}
  (h : Hp R (fI (c9 b wb db a x) x.gl :: ax (bx pa p) wb x.w :: ax (cn .nilFunc) db x.d :: bR a.ap a.cp (bF a.lb x.ps) :: aR bA a.lb (x.ps.map cV.q) :: bV (some ⟨q2, 0, none⟩) a.cm (x.ms.set m.toNat { av x m with left := (av x m).left - 1 }) :: wI eG kp A rd.length c :: pt k1 [.int .i64 0, .int .i64 0, .int .i64 0, .slice none 0 0] 47 :: L') M)
  (EH : a.am = some ⟨q2, 0, none⟩) (hl : a.lb.length = x.ps.length) (m0 : 0 ≤ m) (m1 : m < x.ms.length) (g0 : 0 ≤ g) (g1 : g < x.w.gs.length) (QW : x.gl.length ≤ 100000000)
  (k : ∀ M', Hp R (ax (fA pa p wb db) b { x.eT m { av x m with left := (av x m).left - 1, g := -1 } with gl := if (ae x.w g).st = 1 then x.gl ++ [g] else x.gl } :: L') M' → K (DL ⟨7, m, g, rd⟩ A c) M') :
  aF M ⟨q2, ((m.toNat * 3) + 1), none⟩ (.int .i64 (-1)) fun vH =>
  cj (Mem.ld vH ⟨b, 0, none⟩) fun Le =>
  aa Tryz.prog 65 #[(.pointer Le), (.int .i64 g)] vH (fun H9 w5 =>
  aG (some H9) .i64 fun Ip =>
  aQ (Ip == 1)
   (bg w5 (.cells #[(.int .i64 g)] 3 (0, 0)) fun sA Iv =>
   aa Tryz.prog 53 #[(.pointer (some ⟨b, (0 + 7), none⟩)), (.slice (some ⟨sA, 0, none⟩) 1 1)] Iv (fun Lh xh =>
   (Lh = (.tuple #[])) ∧
   aC (Mem.ld xh ⟨eG, (0 + 1), none⟩) fun Pt xg FE =>
   aF xh ⟨k1, 0, none⟩ (.int .i64 7) fun yx =>
   aF yx ⟨k1, (0 + 1), none⟩ (.int .i64 m) fun AV =>
   aF AV ⟨k1, (0 + 2), none⟩ (.int .i64 g) fun CO =>
   aF CO ⟨k1, (0 + 3), none⟩ (.slice Pt xg FE) fun qJ =>
   aG (Mem.ld qJ ⟨k1, 0, none⟩) .i64 fun GP =>
   aG (Mem.ld qJ ⟨k1, (0 + 1), none⟩) .i64 fun n64 =>
   aG (Mem.ld qJ ⟨k1, (0 + 2), none⟩) .i64 fun yo =>
   aC (Mem.ld qJ ⟨k1, (0 + 3), none⟩) fun IL yw ud =>
   K (.agg #[(.int .i64 GP), (.int .i64 n64), (.int .i64 yo), (.slice IL yw ud)]) qJ) Kp)
   (aC (Mem.ld w5 ⟨eG, (0 + 1), none⟩) fun SC IG Km =>
   aF w5 ⟨k1, 0, none⟩ (.int .i64 7) fun z8 =>
   aF z8 ⟨k1, (0 + 1), none⟩ (.int .i64 m) fun Bh =>
   aF Bh ⟨k1, (0 + 2), none⟩ (.int .i64 g) fun Bf =>
   aF Bf ⟨k1, (0 + 3), none⟩ (.slice SC IG Km) fun uc =>
   aG (Mem.ld uc ⟨k1, 0, none⟩) .i64 fun KZ =>
   aG (Mem.ld uc ⟨k1, (0 + 1), none⟩) .i64 fun sU =>
   aG (Mem.ld uc ⟨k1, (0 + 2), none⟩) .i64 fun uE =>
   aC (Mem.ld uc ⟨k1, (0 + 3), none⟩) fun OJ Ld uU =>
   K (.agg #[(.int .i64 KZ), (.int .i64 sU), (.int .i64 uE), (.slice OJ Ld uU)]) uc)) Kp := by
 have kL := nV m0 m1
 have m2 : m.toNat < x.ms.length := by omega
 refine gS (E := jP) (a := { av x m with left := (av x m).left - 1 }) (a' := ⟨(av x m).p, -1, (av x m).left - 1⟩) m.toNat 1 h (by simp [m2]) (by decide) rfl (by show _ = m.toNat * 3 + 1; omega) ?_
 clear h; intro M h
 rw [gE] at h
 replace h : Hp R (fI (c9 b wb db a x) x.gl :: ax (bx pa p) wb x.w :: ax (cn .nilFunc) db x.d :: bR a.ap a.cp (bF a.lb x.ps) :: aR bA a.lb (x.ps.map cV.q) :: bV (some ⟨q2, 0, none⟩) a.cm (x.ms.set m.toNat ⟨(av x m).p, -1, (av x m).left - 1⟩) :: wI eG kp A rd.length c :: pt k1 [.int .i64 0, .int .i64 0, .int .i64 0, .slice none 0 0] 47 :: L') M := h.sub bQ
 rw [SZ h]
 refine fR ?_
 refine zM h g0 g1 ?_
 refine cF ?_
 have fin : ∀ (Gy : List Int) (M : Mem), Gy = (if (ae x.w g).st = 1 then x.gl ++ [g] else x.gl) → Hp R (fI (c9 b wb db a x) Gy :: ax (bx pa p) wb x.w :: ax (cn .nilFunc) db x.d :: bR a.ap a.cp (bF a.lb x.ps) :: aR bA a.lb (x.ps.map cV.q) :: bV (some ⟨q2, 0, none⟩) a.cm (x.ms.set m.toNat ⟨(av x m).p, -1, (av x m).left - 1⟩) :: wI eG kp A rd.length c :: pt k1 [.int .i64 0, .int .i64 0, .int .i64 0, .slice none 0 0] 47 :: L') M →
   aC (Mem.ld M ⟨eG, (0 + 1), none⟩) fun Pt xg FE => aF M ⟨k1, 0, none⟩ (.int .i64 7) fun yx => aF yx ⟨k1, (0 + 1), none⟩ (.int .i64 m) fun AV => aF AV ⟨k1, (0 + 2), none⟩ (.int .i64 g) fun CO => aF CO ⟨k1, (0 + 3), none⟩ (.slice Pt xg FE) fun qJ =>
   aG (Mem.ld qJ ⟨k1, 0, none⟩) .i64 fun GP => aG (Mem.ld qJ ⟨k1, (0 + 1), none⟩) .i64 fun n64 => aG (Mem.ld qJ ⟨k1, (0 + 2), none⟩) .i64 fun yo => aC (Mem.ld qJ ⟨k1, (0 + 3), none⟩) fun IL yw ud =>
   K (.agg #[(.int .i64 GP), (.int .i64 n64), (.int .i64 yo), (.slice IL yw ud)]) qJ := by
  intro Gy M Yy h
  refine bl h ?_
  refine jm h ?_
  clear h; intro M h
  refine nS h ?_
  refine k _ (g9 (a := a) (x := { x.eT m { av x m with left := (av x m).left - 1, g := -1 } with gl := if (ae x.w g).st = 1 then x.gl ++ [g] else x.gl }) hl ?_)
  rw [← Yy]
  have e1 : c9 b wb db a { x.eT m { av x m with left := (av x m).left - 1, g := -1 } with gl := Gy } = c9 b wb db a x := wD (x := x)
  rw [e1]
  show Hp R (_ :: _ :: _ :: _ :: _ :: bV a.am a.cm (x.ms.set m.toNat ⟨(av x m).p, -1, (av x m).left - 1⟩) :: _) M
  rw [EH]
  exact h.sub bQ
 refine bP.2 ⟨fun e1 => ?_, fun e1 => ?_⟩
 ·refine aj h ?_
  clear h; intro sA M h
  replace h := (h.pt sA).gZ (E := bN) (l := [g]) rfl
  replace h : Hp R (fI (c9 b wb db a x) x.gl :: jA (some ⟨sA, 0, none⟩) 1 [g] :: ax (bx pa p) wb x.w :: ax (cn .nilFunc) db x.d :: bR a.ap a.cp (bF a.lb x.ps) :: aR bA a.lb (x.ps.map cV.q) :: bV (some ⟨q2, 0, none⟩) a.cm (x.ms.set m.toNat ⟨(av x m).p, -1, (av x m).left - 1⟩) :: wI eG kp A rd.length c :: pt k1 [.int .i64 0, .int .i64 0, .int .i64 0, .slice none 0 0] 47 :: L') M := h.sub bQ
  refine lP (P := c9 b wb db a x) wz h (Src.row (A := some ⟨sA, 0, none⟩)) rfl (by simp; omega) ?_
  clear h; intro M h
  refine ⟨rfl, ?_⟩
  exact fin _ M (by rw [if_pos e1]) (h.sub bQ)
 ·exact fin _ M (by rw [if_neg e1]) h
theorem gd {m : Int} : ∀ (l : List Int) (z : Sc), 0 ≤ (av z m).p → (av z m).p < z.ps.length → (l.foldl (aI m) z).ms = z.ms ∧ (l.foldl (aI m) z).ps.length = z.ps.length ∧ (l.foldl (aI m) z).w = z.w ∧ (l.foldl (aI m) z).d = z.d ∧ (l.foldl (aI m) z).c = z.c ∧ (l.foldl (aI m) z).steps = z.steps ∧ ∀ bs, bF bs (l.foldl (aI m) z).ps = bF bs z.ps
 | [], z, _, _ => ⟨rfl, rfl, rfl, rfl, rfl, rfl, fun _ => rfl⟩
 | r :: l, z, h0, h1 => by
  have hp : z.ps[(av z m).p.toNat]? = some (aB z (av z m).p) := by
   obtain ⟨y, hy⟩ := aN (l := z.ps) (i := (av z m).p.toNat) (by omega)
   have e : aB z (av z m).p = y := by simp [aB, hy]
   rw [e]; exact hy
  have hms : (aI m z r).ms = z.ms := rfl
  have hps : (aI m z r).ps.length = z.ps.length := by simp [aI, Sc.b7]
  have kL : av (aI m z r) m = av z m := rfl
  obtain ⟨a1, a2, a3, a4, a5, a6, a7⟩ := gd l (aI m z r) (by rw [kL]; exact h0) (by rw [kL, hps]; exact h1)
  refine ⟨a1, by rw [List.foldl_cons, a2, hps], a3, a4, a5, a6, fun bs => ?_⟩
  rw [List.foldl_cons, a7]
  exact wE hp rfl rfl
end
end Go.Proofs
