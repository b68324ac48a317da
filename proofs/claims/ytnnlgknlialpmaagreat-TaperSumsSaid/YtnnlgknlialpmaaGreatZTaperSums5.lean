/- A part of proofs about one program. -/
import Derived.Test.YtnnlgknlialpmaaGreatZTaperSums4
set_option linter.unusedVariables false
namespace Go.Proofs
open Go.AF
set_option maxRecDepth 100000
set_option maxHeartbeats 1000000
attribute [local irreducible] aK dH fz cv az fC aE aN aW aX bL aQ
def Uv : fP (Int × Int) := ⟨2, fun w => [.int .i64 w.1, .int .u64 w.2], fun _ => rfl, fun w v hv => by
 simp only [List.mem_cons, List.not_mem_nil, or_false] at hv; obtain rfl | rfl := hv <;> rfl⟩
inductive iQ where
 | yY (l : List Int) (at_ : Nat)
 | tape (l : List (Int × Int)) (at_ : Nat)
structure nW where
 k : iQ
 taken : List (Int × Int)
def NK : List PanicEntry := [{ v := .iface 240 (.agg #[]), recovered := false }]
def ZB (at_ kind n k v : Int) : List PanicEntry := [{ v := .iface 97 (.agg #[.int .i64 at_, .int .i64 kind, .int .i64 n, .int .i64 k, .int .u64 v]), recovered := false }]
def kP (n : Int) : Int := if 1 > n then 1 else n
def iQ.next (k : iQ) (kind m : Int) : iQ × kF := match k with
 | .yY l i => match l[i]? with
  | none => (.yY l i, .dF NK)
  | some v => (.yY l (i + 1), .num (Int.tmod v m))
 | .tape l i => match l[i]? with
  | none => (.tape l i, .dF NK)
  | some (q, v) => if q ≠ kind then (.tape l i, .dF (ZB i kind m q v)) else if v ≥ m then (.tape l i, .dF (ZB i kind m q v)) else (.tape l (i + 1), .num v)
def nW.draw (x : nW) (kind n : Int) : nW × kF := match x.k.next kind (kP n) with
 | (k', .num v) => (⟨k', x.taken ++ [(kind, v)]⟩, .num v)
 | (k', .dF l) => (⟨k', x.taken⟩, .dF l)
def iQ.Ok : iQ → Prop
 | .yY l i => l.length ≤ 1000000000 ∧ i ≤ l.length ∧ ∀ v ∈ l, 0 ≤ v ∧ v < 18446744073709551616
 | .tape l i => l.length ≤ 1000000000 ∧ i ≤ l.length ∧ ∀ v ∈ l, 0 ≤ v.2 ∧ v.2 < 18446744073709551616
def nW.Ok (x : nW) : Prop := x.k.Ok ∧ x.taken.length ≤ 1000000000
abbrev uZ (A : Option Addr) (c : Nat) (l : List (Int × Int)) : HP := bE Uv 95 A c l
abbrev rowU (A : Option Addr) (c : Nat) (l : List Int) : HP := bE D9 32 A c l
def kR : ug iQ := ⟨fun b k => match k with
 | .yY l i => exs fun A : Option Addr => exs fun c : Nat => sep [pt b [.slice A l.length c, .int .i64 (i : Int)] 147, rowU A c l]
 | .tape l i => exs fun A : Option Addr => exs fun c : Nat => sep [pt b [.slice A l.length c, .int .i64 (i : Int)] 354, uZ A c l]⟩
def yZ : iQ → Nat → Value
 | .yY _ _, b => .func (.func 59) #[.pointer (some ⟨b, 0, none⟩)] #[]
 | .tape _ _, b => .func (.func 198) #[.pointer (some ⟨b, 0, none⟩)] #[]
def BA : iQ → Nat → Value
 | .yY _ _, b => .func (.func 60) #[.pointer (some ⟨b, 0, none⟩)] #[]
 | .tape _ _, b => .func (.func 199) #[.pointer (some ⟨b, 0, none⟩)] #[]
def cI (VD : Value) : ug nW := ⟨fun b x => exs fun A : Option Addr => exs fun c : Nat => exs fun kb : Nat =>
 sep [pt b [yZ x.k kb, BA x.k kb, .slice A x.taken.length c, VD] 152, uZ A c x.taken, ax kR kb x.k]⟩
theorem YJ : bg Tryz.prog 149 95 2 16 [.int .i64 0, .int .u64 0] := bg.mk' (zv := .agg #[.int .i64 0, .int .u64 0]) (by kernel_rfl) (by kernel_rfl) rfl (by omega)
theorem Ri : bg Tryz.prog 31 32 1 8 [.int .u64 0] := bg.mk' (zv := .int .u64 0) (by kernel_rfl) (by kernel_rfl) rfl (by omega)
theorem iK {C : Ctx} {g : Nat} {first : Array Value} {args : List Value} {M : Mem} {K : Value → Mem → Prop} {Kp : List PanicEntry → Mem → Prop} (hg : 1 < g ∧ g < C.ok) (h : aa C.P g (first.toList ++ args).toArray M K Kp) : gf C (.func (.func g) first #[]) args M K Kp := by
 unfold gf
 simp only
 rw [if_pos hg]
 simpa using h
theorem BB (n : Int) : 1 ≤ kP n := by unfold kP; split <;> omega
theorem Hs {z : Int} (h0 : 0 ≤ z) (h : z < 18446744073709551616) : IntKind.wrap .u64 z = z := by
 obtain ⟨n, rfl⟩ := Int.eq_ofNat_of_zero_le h0
 rw [IntKind.wrap_u64]; omega
section
variable {R : Mem} {L L' L2 : List HP} {M : Mem} {K : Value → Mem → Prop} {Kp : List PanicEntry → Mem → Prop} {b : Nat} {x : nW} {VD : Value}
theorem BC {k : iQ} {kind m : Int} (hok : k.Ok) (hm : 1 ≤ m) {k' : iQ} {v : Int} (h : k.next kind m = (k', .num v)) : 0 ≤ v ∧ v < m := by
 cases k with
 | yY l i =>
  unfold iQ.next at h
  dsimp only at h
  split at h
  ·cases h
  ·rename_i w hw
   cases h
   have := hok.2.2 w (List.mem_of_getElem? hw)
   exact ⟨Int.tmod_nonneg _ this.1, Int.tmod_lt_of_pos _ (by omega)⟩
 | tape l i =>
  unfold iQ.next at h
  dsimp only at h
  split at h
  ·cases h
  ·rename_i q w hw
   have := hok.2.2 _ (List.mem_of_getElem? hw)
   split at h
   ·cases h
   ·split at h
    ·cases h
    ·cases h
     exact ⟨this.1, by omega⟩
theorem Uw {k : iQ} {kind m : Int} (hok : k.Ok) : (k.next kind m).1.Ok := by
 cases k with
 | yY l i =>
  unfold iQ.next
  dsimp only
  split
  ·exact hok
  ·rename_i w hw
   have := (List.getElem?_eq_some_iff.1 hw).1
   exact ⟨hok.1, by omega, hok.2.2⟩
 | tape l i =>
  unfold iQ.next
  dsimp only
  split
  ·exact hok
  ·rename_i q w hw
   have := (List.getElem?_eq_some_iff.1 hw).1
   split
   ·exact hok
   ·split
    ·exact hok
    ·exact ⟨hok.1, by omega, hok.2.2⟩
theorem J2 {k : iQ} {kind m : Int} {kb : Nat} : yZ (k.next kind m).1 kb = yZ k kb ∧ BA (k.next kind m).1 kb = BA k kb := by
 cases k with
 | yY l i => unfold iQ.next; dsimp only; split <;> exact ⟨rfl, rfl⟩
 | tape l i =>
  unfold iQ.next; dsimp only; split
  ·exact ⟨rfl, rfl⟩
  ·split
   ·exact ⟨rfl, rfl⟩
   ·split <;> exact ⟨rfl, rfl⟩
theorem YK {k : iQ} {kb : Nat} {kind m : Int} (h : Hp R (ax kR kb k :: L) M) (hok : k.Ok) (hm : 1 ≤ m) (hm2 : m < 9223372036854775808)
  (g : match (k.next kind m).2 with
   | .num v => ∀ M', Hp R (ax kR kb (k.next kind m).1 :: L) M' → K (.int .u64 v) M'
   | .dF l => ∀ M', Hp R (ax kR kb (k.next kind m).1 :: L) M' → Kp l M') :
  gf Cx (yZ k kb) [.int .i64 kind, .int .i64 m] M K Kp := by
 cases k with
 | yY l i =>
  refine iK ⟨by decide, by show _ < 255; decide⟩ ?_
  refine pC ?_
  obtain ⟨o1, o2, o3⟩ := hok
  unfold iQ.next at g
  dsimp only at g
  have h2 := h.obj kR kb
  simp only [kR, Hp.dN, Hp.bk, List.cons_append, List.nil_append] at h2
  obtain ⟨A, c, h2⟩ := h2
  clear h
  have h := h2
  clear h2
  have mk : ∀ {M : Mem} {i : Nat}, Hp R (pt kb [.slice A l.length c, .int .i64 (i : Int)] 147 :: rowU A c l :: L) M → Hp R (ax kR kb (.yY l i) :: L) M := by
   intro M i h
   refine Hp.xj ?_
   simp only [kR, Hp.dN, Hp.bk, List.cons_append, List.nil_append]
   exact ⟨_, _, h⟩
  refine ay h (aF h ?_)
  refine aJ.2 ⟨fun hge => ?_, fun hlt => ?_⟩
  ·have e : l[i]? = none := List.getElem?_eq_none_iff.2 (by omega)
   rw [e] at g
   exact g _ (mk h)
  ·obtain ⟨w, hw⟩ := aM (l := l) (i := i) (by omega)
   rw [hw] at g
   have hwb := o3 w (List.mem_of_getElem? hw)
   refine ay h ?_
   rw [aP (by omega)]
   refine au h ?_
   clear h; intro M h
   refine aF h (ay h ?_)
   have e : IntKind.wrap .i64 (((i + 1 : Nat) : Int) - 1) = (i : Int) := by rw [dc (by omega) (by omega)]; omega
   rw [e]
   obtain ⟨q, rfl⟩ := h.bF (A := A) (by omega) (by decide)
   refine ⟨by omega, by omega, aY ?_⟩
   refine aR (Src.at (h.src (A := some ⟨q, 0, none⟩)) h (i := i) (j := 0) hw rfl (by simp [D9])) ?_
   rw [Hs (by omega) (by omega)]
   exact ⟨by omega, g _ (mk h)⟩
 | tape l i =>
  refine iK ⟨by decide, by show _ < 255; decide⟩ ?_
  refine s9 ?_
  obtain ⟨o1, o2, o3⟩ := hok
  unfold iQ.next at g
  dsimp only at g
  have h2 := h.obj kR kb
  simp only [kR, Hp.dN, Hp.bk, List.cons_append, List.nil_append] at h2
  obtain ⟨A, c, h2⟩ := h2
  clear h
  have h := h2
  clear h2
  have mk : ∀ {M : Mem} {i : Nat}, Hp R (pt kb [.slice A l.length c, .int .i64 (i : Int)] 354 :: uZ A c l :: L) M → Hp R (ax kR kb (.tape l i) :: L) M := by
   intro M i h
   refine Hp.xj ?_
   simp only [kR, Hp.dN, Hp.bk, List.cons_append, List.nil_append]
   exact ⟨_, _, h⟩
  refine ay h (aF h ?_)
  refine aJ.2 ⟨fun hge => ?_, fun hlt => ?_⟩
  ·have e : l[i]? = none := List.getElem?_eq_none_iff.2 (by omega)
   rw [e] at g
   exact g _ (mk h)
  ·obtain ⟨⟨q, w⟩, hw⟩ := aM (l := l) (i := i) (by omega)
   rw [hw] at g
   dsimp only at g
   have hwb := o3 _ (List.mem_of_getElem? hw)
   dsimp only at hwb
   refine aF h (ay h ?_)
   obtain ⟨q0, rfl⟩ := h.bF (A := A) (by omega) (by decide)
   refine ⟨by omega, by omega, aY ?_⟩
   refine aR (Src.at (h.src (A := some ⟨q0, 0, none⟩)) h (i := i) (j := 0) hw rfl (by simp [Uv])) ?_
   refine aR (Src.at (h.src (A := some ⟨q0, 0, none⟩)) h (i := i) (j := 1) hw rfl (by simp [Uv])) ?_
   refine aj h ?_
   clear h; intro kk M h
   refine au h ?_
   clear h; intro M h
   refine au h ?_
   clear h; intro M h
   refine ay h ?_
   refine fy.2 ⟨fun hne => ?_, fun heq => ?_⟩
   ·rw [if_pos hne] at g
    refine ay h (ay h (ay h ?_))
    exact g _ (mk (h.sub bp))
   ·rw [if_neg (by simpa using heq)] at g
    refine ay h ?_
    rw [Hs (by omega) (by omega)]
    refine aJ.2 ⟨fun hge => ?_, fun GU => ?_⟩
    ·rw [if_pos hge] at g
     refine ay h (ay h (ay h ?_))
     exact g _ (mk (h.sub bp))
    ·rw [if_neg GU] at g
     refine ay h ?_
     rw [aP (by omega)]
     refine au h ?_
     clear h; intro M h
     refine ay h ?_
     exact g _ (mk (h.sub bp))
theorem Rj (h : Hp R L M) [o : bZ (cI VD) b L x L'] : ∃ A c kb, Hp R (pt b [yZ x.k kb, BA x.k kb, .slice A x.taken.length c, VD] 152 :: uZ A c x.taken :: ax kR kb x.k :: L') M := by
 have := h.obj (cI VD) b
 simpa only [cI, Hp.dN, Hp.bk, List.cons_append, List.nil_append] using this
theorem J3 {A : Option Addr} {c kb : Nat} (h : Hp R (pt b [yZ x.k kb, BA x.k kb, .slice A x.taken.length c, VD] 152 :: uZ A c x.taken :: ax kR kb x.k :: L) M) : Hp R (ax (cI VD) b x :: L) M := by
 refine Hp.xj ?_
 simp only [cI, Hp.dN, Hp.bk, List.cons_append, List.nil_append]
 exact ⟨_, _, _, h⟩
theorem qU {kind n : Int} (h : Hp R L M) [o : bZ (cI .nilFunc) b L x L'] (hok : x.Ok) (hn : n < 9223372036854775808) (ht : x.taken.length < 100000000)
  (g : match (x.draw kind n).2 with
   | .num v => ∀ M', Hp R (ax (cI .nilFunc) b (x.draw kind n).1 :: L') M' → K (.int .i64 v) M'
   | .dF l => ∀ M', Hp R (ax (cI .nilFunc) b (x.draw kind n).1 :: L') M' → Kp l M') :
  aa Tryz.prog 107 #[.pointer (some ⟨b, 0, none⟩), .int .i64 kind, .int .i64 n] M K Kp := by
 refine pD ?_
 have h' := Rj (VD := .nilFunc) h (b := b)
 clear h
 obtain ⟨A, c, kb, h⟩ := h'
 refine OV h ?_
 have em : (if (1 : Int) > n then 1 else n) = kP n := rfl
 rw [em]
 have hm1 := BB n
 have hm2 : kP n < 9223372036854775808 := by unfold kP; split <;> omega
 have hnv := J2 (k := x.k) (kind := kind) (m := kP n) (kb := kb)
 obtain ⟨TP, BU⟩ := hnv
 have J4 := fun k' v => BC (k := x.k) (kind := kind) hok.1 hm1 (k' := k') (v := v)
 unfold nW.draw at g
 replace h : Hp R (ax kR kb x.k :: pt b [yZ x.k kb, BA x.k kb, .slice A x.taken.length c, .nilFunc] 152 :: uZ A c x.taken :: L') M := h.sub bp
 refine YK (kind := kind) h hok.1 hm1 hm2 ?_
 clear h
 generalize hr : x.k.next kind (kP n) = r at g TP BU J4
 obtain ⟨k', d⟩ := r
 dsimp only at TP BU ⊢
 rw [← TP, ← BU]
 cases d with
 | dF l =>
  dsimp only at g ⊢
  intro M h
  exact g _ (J3 (x := ⟨k', x.taken⟩) (h.sub bp))
 | num v =>
  dsimp only at g ⊢
  obtain ⟨v0, v1⟩ := J4 k' v rfl
  intro M h
  refine bW ?_
  refine aj h ?_
  clear h; intro k5 M h
  refine au h ?_
  clear h; intro M h
  refine au h ?_
  clear h; intro M h
  refine aF h (ay h (ay h ?_))
  refine aj h ?_
  clear h; intro eX M h
  refine h.bJ (A := A) YJ [(kind, v)] rfl rfl (by simp only [List.length_singleton]; omega) ?_
  clear h; intro A' c' M h
  refine aO ?_
  refine au h ?_
  clear h; intro M h
  refine OV h ?_
  unfold Ko
  dsimp only
  refine ai (ay h ?_)
  rw [dc (by omega) (by omega)]
  exact g _ (J3 (x := ⟨k', x.taken ++ [(kind, v)]⟩) (h.sub bp))
theorem tV {B : Option Addr} {m cb : Nat} {l : List Int} (h : Hp R L M) (hB : Src R L B (D9.cells l)) (hm : m = l.length) (hl : l.length ≤ 1000000000)
  (g : ∀ b M', Hp R (ax (cI .nilFunc) b ⟨.yY l 0, []⟩ :: L) M' → K (.pointer (some ⟨b, 0, none⟩)) M') :
  aa Tryz.prog 16 #[.slice B m cb] M K Kp := by
 refine xE ?_
 refine aj h ?_
 clear h; intro k1 M h
 refine h.fV D9 Ri l hB.cons hm (by omega) ?_
 clear h; intro A' c' M h
 refine aO ?_
 refine aj h ?_
 clear h; intro k8 M h
 refine aj h ?_
 clear h; intro c6 M h
 have h2 := h.bR Uv 95
 refine g c6 _ (J3 (x := ⟨.yY l 0, []⟩) (A := none) (c := 0) (kb := k8) ?_)
 have h3 : Hp R (ax kR k8 (.yY l 0) :: uZ none 0 [] :: pt c6 [yZ (.yY l 0) k8, BA (.yY l 0) k8, .slice none 0 0, .nilFunc] 152 :: L) M := by
  refine Hp.xj ?_
  simp only [kR, Hp.dN, Hp.bk, List.cons_append, List.nil_append]
  exact ⟨A', c', h2.sub bp⟩
 exact h3.sub bp
theorem NL {kind n : Int} (hok : x.Ok) (hn : n < 9223372036854775808) (ht : x.taken.length < 100000000) :
  jh R (.func (.func 107) #[.pointer (some ⟨b, 0, none⟩)] #[]) kind n (x.draw kind n).2 (ax (cI .nilFunc) b x :: L) (ax (cI .nilFunc) b (x.draw kind n).1 :: L) := by
 intro Q M K Kp h k
 refine iK ⟨by decide, by show _ < 255; decide⟩ ?_
 refine qU h hok hn ht ?_
 cases hd : (x.draw kind n).2 with
 | num v => rw [hd] at k; exact fun M' h' => k M' h'.swap
 | dF l => rw [hd] at k; exact fun M' h' => k M' h'.swap
end
structure dG where
 q : Loc
 turns : Int
 hO : Int
structure zY where
 p : Int
 g : Int
 left : Int
 deriving DecidableEq
structure Se where
 P : Int
 M : Int
 R : Int
 S : Int
structure Sc where
 w : Wd
 c : Se
 ps : List dG
 ms : List zY
 gl : List Int
 d : nW
 steps : Int
structure Ev where
 kind : Int
 m : Int
 g : Int
 ready : List Int
def nI : fP (Nat × Int × Int) := ⟨3, fun w => [.pointer (some ⟨w.1, 0, none⟩), .int .i64 w.2.1, .int .i64 w.2.2], fun _ => rfl, fun w v hv => by
 simp only [List.mem_cons, List.not_mem_nil, or_false] at hv; obtain rfl | rfl | rfl := hv <;> rfl⟩
def gp : fP zY := ⟨3, fun w => [.int .i64 w.p, .int .i64 w.g, .int .i64 w.left], fun _ => rfl, fun w v hv => by
 simp only [List.mem_cons, List.not_mem_nil, or_false] at hv; obtain rfl | rfl | rfl := hv <;> rfl⟩
def bT (bs : List Nat) (ps : List dG) : List (Nat × Int × Int) := List.zipWith (fun b (p : dG) => (b, p.turns, p.hO)) bs ps
def aC (x : Sc) (m : Int) : zY := x.ms.getD m.toNat ⟨-1, -1, 0⟩
def aL (x : Sc) (i : Int) : dG := x.ps.getD i.toNat ⟨⟨-1, 0, []⟩, 0, -1⟩
def Sc.jD (x : Sc) (m : Int) (y : zY) : Sc := { x with ms := x.ms.set m.toNat y }
def Sc.de (x : Sc) (i : Int) (y : dG) : Sc := { x with ps := x.ps.set i.toNat y }
structure SA where
 ap : Option Addr
 cp : Nat
 lb : List Nat
 am : Option Addr
 cm : Nat
abbrev cq (A : Option Addr) (c : Nat) (l : List (Nat × Int × Int)) : HP := bE nI 141 A c l
abbrev cz (A : Option Addr) (c : Nat) (l : List zY) : HP := bE gp 143 A c l
abbrev eN (wb db : Nat) (a : SA) (x : Sc) (A : Option Addr) (n c : Nat) : List Value :=
 [.pointer (some ⟨wb, 0, none⟩), .int .i64 x.c.P, .int .i64 x.c.M, .int .i64 x.c.R, .int .i64 x.c.S, .slice a.ap x.ps.length a.cp, .slice a.am x.ms.length a.cm, .slice A n c, .pointer (some ⟨db, 0, none⟩), .int .i64 x.steps]
abbrev eo (b wb db : Nat) (a : SA) (x : Sc) : Option Addr → Nat → Nat → HP := fun A n c => pt b (eN wb db a x A n c) 137
theorem y3 {b wb db : Nat} {a : SA} {x : Sc} : TN b (0 + 7) (eo b wb db a x) :=
 ⟨fun R L M A n c h => bD h, fun R L M A A' n c n' c' G h k => au h k⟩
abbrev fN (a : SA) (x : Sc) (L : List HP) : List HP := cq a.ap a.cp (bT a.lb x.ps) :: bl bM a.lb (x.ps.map dG.q) :: cz a.am a.cm x.ms :: L
def fO (pa : PA) (p : cu) (wb db : Nat) : ug Sc := ⟨fun b x => exs fun a : SA =>
 sep (gz (eo b wb db a x) x.gl :: ax (bj pa p) wb x.w :: ax (cI .nilFunc) db x.d :: fact (a.lb.length = x.ps.length) :: fN a x [])⟩
class mo (b : Nat) (L : List HP) (pa : outParam PA) (p : outParam cu) (wb db : outParam Nat) (x : outParam Sc) (L' : outParam (List HP)) : Prop where
 pick : cW L (ax (fO pa p wb db) b x) L'
instance mo.here {pa : PA} {p : cu} {wb db b : Nat} {x : Sc} {L : List HP} : mo b (ax (fO pa p wb db) b x :: L) pa p wb db x L := ⟨.here⟩
instance (priority := low) mo.there {pa : PA} {p : cu} {wb db b : Nat} {x : Sc} {Q : HP} {L L' : List HP} [h : mo b L pa p wb db x L'] : mo b (Q :: L) pa p wb db x (Q :: L') := ⟨.there h.pick⟩
section
variable {R : Mem} {L L' L2 : List HP} {M : Mem} {K : Value → Mem → Prop} {Kp : List PanicEntry → Mem → Prop} {pa : PA} {p : cu} {b wb db : Nat} {x : Sc} {m i : Int}
theorem eu (h : Hp R L M) [o : mo b L pa p wb db x L'] : ∃ a : SA, a.lb.length = x.ps.length ∧ Hp R (gz (eo b wb db a x) x.gl :: ax (bj pa p) wb x.w :: ax (cI .nilFunc) db x.d :: fN a x L') M := by
 have := h.pick o.pick
 unfold ax at this
 simp only [fO, fN, Hp.dN, Hp.bk, List.cons_append, List.nil_append] at this
 obtain ⟨a, h⟩ := this
 refine ⟨a, ?_⟩
 have h2 := h.pick (P := fact (a.lb.length = x.ps.length)) (.there (.there (.there .here)))
 obtain ⟨e, h3⟩ := Hp.gi.1 h2
 exact ⟨e, h3⟩
theorem gO {a : SA} (hl : a.lb.length = x.ps.length) (h : Hp R (gz (eo b wb db a x) x.gl :: ax (bj pa p) wb x.w :: ax (cI .nilFunc) db x.d :: fN a x L) M) : Hp R (ax (fO pa p wb db) b x :: L) M := by
 refine Hp.xj ?_
 simp only [fO, fN, Hp.dN, Hp.bk, List.cons_append, List.nil_append]
 refine ⟨a, ?_⟩
 have h2 : Hp R (fact (a.lb.length = x.ps.length) :: gz (eo b wb db a x) x.gl :: ax (bj pa p) wb x.w :: ax (cI .nilFunc) db x.d :: fN a x L) M := Hp.gi.2 ⟨hl, h⟩
 exact h2.oh (.there (.there (.there .here)))
theorem oN {a : SA} (h : Hp R (gz (eo b wb db a x) x.gl :: L) M) : ∃ A c, Hp R (pt b (eN wb db a x A x.gl.length c) 137 :: iZ A c x.gl :: L) M := jc (P := eo b wb db a x) h
theorem zZ {a : SA} {A : Option Addr} {c n : Nat} {l : List Int} (h : Hp R (pt b (eN wb db a x A n c) 137 :: iZ A c l :: L) M) (e : n = l.length := by first | rfl | simp) : Hp R (gz (eo b wb db a x) l :: L) M := GW (P := eo b wb db a x) h e
theorem LA {bs : List Nat} {ps : List dG} {i lb : Nat} {pr : dG} (h1 : bs[i]? = some lb) (h2 : ps[i]? = some pr) : (bT bs ps)[i]? = some (lb, pr.turns, pr.hO) := IQ h1 h2
theorem BD {bs : List Nat} {ps : List dG} {i lb : Nat} {pr : dG} (h1 : bs[i]? = some lb) : (bT bs ps).set i (lb, pr.turns, pr.hO) = bT bs (ps.set i pr) := oy (f := fun b (p : dG) => (b, p.turns, p.hO)) h1
theorem jX {bs : List Nat} {ps : List dG} (h : bs.length = ps.length) : (bT bs ps).length = ps.length := by simp [bT, h]
theorem qV (h : Hp R L M) [o : mo b L pa p wb db x L'] (k : K (.pointer (some ⟨wb, 0, none⟩)) M) : aa Tryz.prog 18 #[.pointer (some ⟨b, 0, none⟩)] M K Kp := by
 refine qB ?_
 obtain ⟨a, hl, h⟩ := eu h (b := b)
 obtain ⟨A, c, h⟩ := oN h
 exact cK h k
theorem qW (h : Hp R L M) [o : mo b L pa p wb db x L'] (k : K (.int .i64 x.steps) M) : aa Tryz.prog 35 #[.pointer (some ⟨b, 0, none⟩)] M K Kp := by
 refine qC ?_
 obtain ⟨a, hl, h⟩ := eu h (b := b)
 obtain ⟨A, c, h⟩ := oN h
 exact ay h k
theorem EV (h : Hp R L M) [o : mo b L pa p wb db x L'] (hs : x.gl.length ≤ 1000000) (k : ∀ A c M', Hp R (iZ A c x.gl :: ax (fO pa p wb db) b x :: L') M' → K (.slice A x.gl.length c) M') : aa Tryz.prog 20 #[.pointer (some ⟨b, 0, none⟩)] M K Kp := by
 refine pF ?_
 have h' := eu h (b := b)
 clear h
 obtain ⟨a, hl, h⟩ := h'
 refine GX (P := eo b wb db a x) y3 h (by omega) ?_
 clear h; intro A c M h
 refine aO ?_
 exact k _ _ _ ((gO hl (h.sub bp)).swap)
def Sc.status (x : Sc) : Int := if x.w.end_ = 1 then 1 else if x.w.end_ = 2 then 2 else if x.w.stuck then 3 else 0
theorem kQ (h : Hp R L M) [o : mo b L pa p wb db x L'] (hs : x.w.gs.length ≤ 1000000) (k : K (.int .i64 x.status) M) : aa Tryz.prog 22 #[.pointer (some ⟨b, 0, none⟩)] M K Kp := by
 refine pE ?_
 have h' := eu h (b := b)
 clear h
 obtain ⟨a, hl, h⟩ := h'
 have h' := oN h
 clear h
 obtain ⟨A, c, h⟩ := h'
 unfold Sc.status at k
 refine cK h ?_
 refine ya h ?_
 refine ⟨_, _, rfl, ?_⟩
 refine aV.2 ⟨fun e => ?_, fun e => ?_⟩
 ·rw [if_pos e] at k; exact k
 rw [if_neg e] at k
 refine aV.2 ⟨fun e => ?_, fun e => ?_⟩
 ·rw [if_pos e] at k; exact k
 rw [if_neg e] at k
 refine cK h ?_
 refine Ho h hs ?_
 refine oS ?_
 cases hst : x.w.stuck with
 | true => rw [hst] at k; exact ae k
 | false => rw [hst] at k; exact ai k
def Sc.tick (x : Sc) : Sc × Ev := ({ x with w := x.w.tick, gl := x.gl ++ x.w.tick.ready }, ⟨1, -1, -1, x.w.tick.ready⟩)
def Og (e : Ev) (A : Option Addr) (c : Nat) : Value := .agg #[.int .i64 e.kind, .int .i64 e.m, .int .i64 e.g, .slice A e.ready.length c]
theorem qX {k1 T n : Nat} {v1 v2 v3 v4 : Value} {e1 e2 e3 : Int} {A : Option Addr} {c : Nat} {G : Mem → Prop} (h : Hp R L M) [q : kL k1 L [v1, v2, v3, v4] T L']
  (k : ∀ M', Hp R (pt k1 [.int .i64 e1, .int .i64 e2, .int .i64 e3, .slice A n c] T :: L') M' → G M') :
  aN M ⟨k1, 0, none⟩ (.int .i64 e1) fun M1 => aN M1 ⟨k1, (0 + 1), none⟩ (.int .i64 e2) fun M2 => aN M2 ⟨k1, (0 + 2), none⟩ (.int .i64 e3) fun M3 => aN M3 ⟨k1, (0 + 3), none⟩ (.slice A n c) G := by
 have h := h.pick q.pick
 refine au h ?_
 clear h; intro M h
 refine au h ?_
 clear h; intro M h
 refine au h ?_
 clear h; intro M h
 refine au h ?_
 clear h; intro M h
 exact k _ h
theorem qY {k1 T n : Nat} {e1 e2 e3 : Int} {A : Option Addr} {c : Nat} {G : Int → Int → Int → Option Addr → Nat → Nat → Prop} (h : Hp R L M) [q : kL k1 L [.int .i64 e1, .int .i64 e2, .int .i64 e3, .slice A n c] T L'] (g : G e1 e2 e3 A n c) :
  aK (Mem.ld M ⟨k1, 0, none⟩) .i64 fun n1 => aK (Mem.ld M ⟨k1, (0 + 1), none⟩) .i64 fun n2 => aK (Mem.ld M ⟨k1, (0 + 2), none⟩) .i64 fun n3 => az (Mem.ld M ⟨k1, (0 + 3), none⟩) fun A k l => G n1 n2 n3 A k l := by
 have h := h.pick q.pick
 exact ay h (ay h (ay h (aF h g)))
def BE (x : Sc) : Prop := x.w.hl.length ≤ 1000000 ∧ (∀ y ∈ (en x.w.hl.length x.w.hl (IntKind.wrap .u64 (x.w.clock + 1))).2, 0 ≤ y.id ∧ y.id < x.w.gs.length) ∧ x.gl.length + x.w.tick.ready.length ≤ 1000000
instance (x : Sc) : Decidable (BE x) := by unfold BE; infer_instance
theorem J5 (h : Hp R L M) [o : mo b L pa p wb db x L'] (hk : BE x)
  (k : ∀ R' A c M', R.le R' → RS br R' A c x.tick.2.ready → Hp R' (ax (fO pa p wb db) b x.tick.1 :: L') M' → K (Og x.tick.2 A c) M') : aa Tryz.prog 108 #[.pointer (some ⟨b, 0, none⟩)] M K Kp := by
 refine tp ?_
 refine aj h ?_
 clear h
 intro k1 M h
 have h' := eu h (b := b)
 clear h
 obtain ⟨a, hl, h⟩ := h'
 have h' := oN h
 clear h
 obtain ⟨A, c, h⟩ := h'
 refine cK h ?_
 refine JW h hk.1 hk.2.1 ?_
 clear h; intro R2 Ar cr M hle zy h
 refine aO ?_
 replace h : Hp R2 (pt b (eN wb db a x A x.gl.length c) 137 :: iZ A c x.gl :: ax (bj pa p) wb x.w.tick :: ax (cI .nilFunc) db x.d :: cq a.ap a.cp (bT a.lb x.ps) :: bl bM a.lb (x.ps.map dG.q) :: cz a.am a.cm x.ms :: pt k1 [.int .i64 0, .int .i64 0, .int .i64 0, .slice none 0 0] 43 :: L') M := h.sub bp
 replace h := zZ h
 refine oJ (P := eo b wb db a x) y3 h (zy.src) rfl (by have := hk.2.2; omega) ?_
 clear h; intro M h
 refine ⟨rfl, ?_⟩
 refine qX h ?_
 clear h; intro M h
 refine qY h ?_
 exact k R2 Ar cr _ hle zy (gO (a := a) (x := x.tick.1) hl (h.sub bp))
end
def u5 (q : Loc) : Bool := q.next != -1 || !q.l.isEmpty
def nJ (q : Loc) (turns : Int) (gl : List Int) : Loc × List Int × Int × Bool :=
 let a := q.fk gl
 if Int.tmod turns 7 = 6 ∧ 0 < a.2.1.length then (a.1, a.2.1.drop 1, a.2.1.headD 0, true)
 else if u5 a.1 then (a.1.get.1, a.2.1, a.1.get.2, true)
 else ((a.1.get.1.eR a.2.1 0).1, (a.1.get.1.eR a.2.1 0).2.1, (a.1.get.1.eR a.2.1 0).2.2, !a.2.1.isEmpty)
def jY (f : Loc) (v : Int) : Bool := v != -1 || !f.l.isEmpty
theorem Rk {q : Loc} {gl : List Int} : (q.fk gl).2.1.length ≤ gl.length + q.l.length + 1 := by
 unfold Loc.fk
 split
 ·simp; omega
 ·unfold Loc.put
  split
  ·simp; omega
  ·simp; omega
section
variable {R : Mem} {L L' L2 : List HP} {M : Mem} {K : Value → Mem → Prop} {Kp : List PanicEntry → Mem → Prop} {pa : PA} {p : cu} {b wb db : Nat} {x : Sc} {m i : Int}
def Sc.hold (x : Sc) (m : Int) : Sc × Ev := match x.ps.findIdx? (fun pr => pr.hO == -1) with
 | some i => (((x.de (i : Int) { aL x (i : Int) with hO := m }).jD m { aC x m with p := (i : Int) }), ⟨2, m, -1, []⟩)
 | none => (x, ⟨3, m, -1, []⟩)
theorem BF {a : SA} {y : dG} : eo b wb db a (x.de i y) = eo b wb db a x := by
 unfold eo eN Sc.de; simp
theorem BG {a : SA} {y : zY} : eo b wb db a (x.jD i y) = eo b wb db a x := by
 unfold eo eN Sc.jD; simp
theorem Ux {q o0 o1 o2 o3 j lb : Nat} {pr : dG} {bs : List Nat} {ps : List dG} {G : Option Addr → Int → Int → Prop} (h : Hp R L M) (hs : Src R L (some ⟨q, o0, none⟩) (nI.cells (bT bs ps))) (h1 : bs[j]? = some lb) (h2 : ps[j]? = some pr)
  (e1 : o1 = o0 + j * 3) (e2 : o2 = o0 + j * 3 + 1) (e3 : o3 = o0 + j * 3 + 2) (g : G (some ⟨lb, 0, none⟩) pr.turns pr.hO) :
  cv (M.ld ⟨q, o1, none⟩) fun A => aK (M.ld ⟨q, o2, none⟩) .i64 fun n => aK (M.ld ⟨q, o3, none⟩) .i64 fun d => G A n d := by
 have h3 := LA h1 h2
 refine gH (Src.at hs h (i := j) (j := 0) h3 rfl (by rw [e1]; rfl)) ?_
 refine aR (Src.at hs h (i := j) (j := 1) h3 rfl (by rw [e2]; show _ = o0 + (j * 3 + 1); omega)) ?_
 exact aR (Src.at hs h (i := j) (j := 2) h3 rfl (by rw [e3]; show _ = o0 + (j * 3 + 2); omega)) g
theorem qZ {a : SA} (hl : a.lb.length = x.ps.length) (h0 : 0 ≤ i) (h1 : i < x.ps.length) : ∃ lb, a.lb[i.toNat]? = some lb ∧ x.ps[i.toNat]? = some (aL x i) ∧ (bT a.lb x.ps)[i.toNat]? = some (lb, (aL x i).turns, (aL x i).hO) := by
 obtain ⟨lb, hlb⟩ := aM (l := a.lb) (i := i.toNat) (by omega)
 obtain ⟨y, hy⟩ := aM (l := x.ps) (i := i.toNat) (by omega)
 have e : aL x i = y := by simp [aL, hy]
 rw [e]
 exact ⟨lb, hlb, hy, LA hlb hy⟩
theorem rh (h0 : 0 ≤ m) (h1 : m < x.ms.length) : x.ms[m.toNat]? = some (aC x m) := by
 obtain ⟨y, hy⟩ := aM (l := x.ms) (i := m.toNat) (by omega)
 have e : aC x m = y := by simp [aC, hy]
 rw [e]; exact hy
theorem yf {ps : List dG} {j : Nat} {pr y : dG} (h : ps[j]? = some pr) (e : y.q = pr.q) : (ps.set j y).map dG.q = ps.map dG.q := by
 obtain ⟨hj, rfl⟩ := List.getElem?_eq_some_iff.1 h
 rw [List.map_set, e]
 have h2 : (ps.map dG.q)[j]'(by simpa using hj) = ps[j].q := by simp
 rw [← h2]
 exact List.set_getElem_self _
theorem yg {a : SA} {A : Option Addr} {c : Nat} {cs : List Value} {l : List Int} {pw : List (Nat × Int × Int)} {qs : List Loc} {ms : List zY} {L0 L1 L2 L3 L4 L5 L6 : List HP} (h : Hp R L M) (b : Nat)
  [p0 : kL b L cs 137 L0] [p1 : cG A L0 Int br 3 c l L1] [p2 : CE wb L1 pa p x.w L2] [p3 : bZ (cI .nilFunc) db L2 x.d L3] [p4 : cG a.ap L3 (Nat × Int × Int) nI 141 a.cp pw L4]
  [p5 : fX bM L4 a.lb qs L5] [p6 : cG a.am L5 zY gp 143 a.cm ms L6] (hc : cs = eN wb db a x A x.gl.length c) (hg : l = x.gl) (hl : a.lb.length = x.ps.length) (hp : pw = bT a.lb x.ps) (hq : x.ps.map dG.q = qs) (hm : ms = x.ms) : Hp R (ax (fO pa p wb db) b x :: L6) M := by
 subst hc; subst hg; subst hp; subst hq; subst hm
 have h2 : Hp R (pt b (eN wb db a x A x.gl.length c) 137 :: iZ A c x.gl :: ax (bj pa p) wb x.w :: ax (cI .nilFunc) db x.d :: fN a x L6) M :=
  h.sub (.cons p0.pick (.cons p1.pick (.cons p2.pick (.cons p3.pick (.cons p4.pick (.cons p5.pick (.cons p6.pick .refl)))))))
 exact gO (a := a) hl (zZ h2)
theorem J6 (h : Hp R L M) [o : mo b L pa p wb db x L'] (h0 : 0 ≤ m) (h1 : m < x.ms.length) (hs : x.ps.length ≤ 1000000)
  (k : ∀ M', Hp R (ax (fO pa p wb db) b (x.hold m).1 :: L') M' → K (Og (x.hold m).2 none 0) M') : aa Tryz.prog 109 #[.pointer (some ⟨b, 0, none⟩), .int .i64 m] M K Kp := by
 refine tq ?_
 refine aj h ?_
 clear h
 intro k1 M h
 have h' := eu h (b := b)
 clear h
 obtain ⟨a, hl, h⟩ := h'
 have h' := oN h
 clear h
 obtain ⟨A, c, h⟩ := h'
 refine aF h ?_
 unfold Sc.hold at k
 have hprl := jX hl
 refine ⟨fun d vs M => ∃ j : Nat, vs = [.int .i64 (j : Int)] ∧ d = x.ps.length - j ∧ j ≤ x.ps.length ∧ (∀ q pr, q < j → x.ps[q]? = some pr → pr.hO ≠ -1) ∧
   Hp R (pt b (eN wb db a x A x.gl.length c) 137 :: iZ A c x.gl :: pt k1 [.int .i64 0, .int .i64 0, .int .i64 0, .slice none 0 0] 43 :: ax (bj pa p) wb x.w :: ax (cI .nilFunc) db x.d :: fN a x L') M,
  ⟨_, 0, rfl, rfl, by omega, fun q pr hq => by omega, h.sub bp⟩, ?_⟩
 clear h
 rintro d _ nn M ⟨j, he, hd, hj, hp, h⟩
 simp only [List.cons.injEq, Value.int.injEq, and_true, true_and] at he
 subst he
 refine aJ.2 ⟨fun hlt => ?_, fun hge => ?_⟩
 ·obtain ⟨lb, hlb, j7, hrow⟩ := qZ (i := (j : Int)) hl (by omega) hlt
  simp only [Int.toNat_natCast] at hlb j7 hrow
  obtain ⟨q, hq⟩ := h.bF (A := a.ap) (l := bT a.lb x.ps) (by omega) (by decide)
  have ZA := h.src (A := a.ap)
  rw [hq] at ZA
  refine aF h ⟨by omega, hlt, ?_⟩
  rw [hq]
  refine aY ?_
  refine aR (Src.at ZA h (i := j) (j := 2) hrow rfl (by show _ = 0 + (j * 3 + 2); simp)) ?_
  refine aV.2 ⟨fun e => ?_, fun e => ?_⟩
  ·have hfi : x.ps.findIdx? (fun pr => pr.hO == -1) = some j := by
    refine List.findIdx?_eq_some_iff_getElem.2 ⟨by omega, ?_, fun q hq => ?_⟩
    ·have := (List.getElem?_eq_some_iff.1 j7).2
     rw [this]; simpa using e
    ·have := hp q _ hq (List.getElem?_eq_getElem (by omega))
     simpa using this
   rw [hfi] at k
   dsimp only at k
   clear ZA
   obtain ⟨q2, nV⟩ := h.bF (A := a.am) (l := x.ms) (by omega) (by decide)
   have ea := bD h (b := b) (o := 0 + 5) (v := .slice a.ap x.ps.length a.cp)
   rw [hq] at ea
   refine (show ∀ {G}, G (some ⟨q, 0, none⟩) x.ps.length a.cp → az (M.ld ⟨b, 0 + 5, none⟩) G from fun g => by rw [ea]; exact aO g) ?_
   refine aF h ⟨by omega, hlt, aY ?_⟩
   have hap : a.ap = some ⟨q, 0, none⟩ := hq
   have LB : a.am = some ⟨q2, 0, none⟩ := nV
   obtain ⟨ap, cp, wW, am, cm⟩ := a
   dsimp only at hap LB hrow hlb hl hprl h
   subst hap; subst LB
   refine iE (E := nI) (a' := (lb, (aL x (j : Int)).turns, m)) j 2 h hrow (by decide) rfl (by show _ = j * 3 + 2; simp) ?_
   clear h; intro M h
   refine ⟨h0, h1, aY ?_⟩
   refine iE (E := gp) (a' := { aC x m with p := (j : Int) }) m.toNat 0 h (rh h0 h1) (by decide) rfl (by show _ = m.toNat * 3 + 0; simp) ?_
   clear h; intro M h
   refine qX h ?_
   clear h; intro M h
   refine qY h ?_
   rw [BD (pr := { aL x (j : Int) with hO := m }) hlb] at h
   have e3 := yf (y := { aL x (j : Int) with hO := m }) j7 rfl
   exact k _ (Hp.cj (yg (A := A) (c := c) (a := ⟨some ⟨q, 0, none⟩, cp, wW, some ⟨q2, 0, none⟩, cm⟩) (x := (x.de (j : Int) { aL x (j : Int) with hO := m }).jD m { aC x m with p := (j : Int) }) h b (by simp [Sc.de, Sc.jD, eN]) (by rfl) (by simpa [Sc.de, Sc.jD] using hl) (by rfl) (by exact e3) (by rfl)))
  ·refine ⟨x.ps.length - (j + 1), by omega, j + 1, by rw [aP (by omega)], rfl, by omega, fun q' VE hq' YL => ?_, h⟩
   rcases Nat.lt_or_ge q' j with h8 | h8
   ·exact hp q' VE h8 YL
   ·have : q' = j := by omega
    subst this
    rw [j7] at YL; cases YL; exact e
 ·have hfi : x.ps.findIdx? (fun pr => pr.hO == -1) = none := by
   refine List.findIdx?_eq_none_iff.2 fun pr j7 => ?_
   obtain ⟨q, hq, e⟩ := List.getElem_of_mem j7
   have := hp q pr (by omega) (by rw [← e]; exact List.getElem?_eq_getElem hq)
   simpa using this
  rw [hfi] at k
  dsimp only at k
  refine qX h ?_
  clear h; intro M h
  refine qY h ?_
  refine k _ (gO (a := a) hl ?_)
  have h2 := zZ (h.sub (show Sub _ (pt b (eN wb db a x A x.gl.length c) 137 :: iZ A c x.gl :: ax (bj pa p) wb x.w :: ax (cI .nilFunc) db x.d :: fN a x L') from bp))
  exact h2
theorem BH {bs : List Nat} {ps : List dG} {j : Nat} {pr y : dG} (h : ps[j]? = some pr) (e1 : y.turns = pr.turns) (e2 : y.hO = pr.hO) : bT bs (ps.set j y) = bT bs ps := by
 obtain ⟨hj, rfl⟩ := List.getElem?_eq_some_iff.1 h
 unfold bT
 refine List.ext_getElem (by simp) fun n h1 h2 => ?_
 simp only [List.getElem_zipWith, List.getElem_set]
 split
 ·rename_i he
  subst he
  rw [e1, e2]
 ·rfl
def Sc.own (x : Sc) (i : Int) : Sc × Int × Bool :=
 let r := nJ (aL x i).q (aL x i).turns x.gl
 ({ x.de i { aL x i with q := r.1 } with gl := r.2.1 }, r.2.2.1, r.2.2.2)
theorem NM {q : Nat} {a : SA} (h : Hp R L M) [o : tJ (eo b wb db a x) L x.gl L'] [o2 : cG (some ⟨q, 0, none⟩) L' (Nat × Int × Int) nI 141 a.cp (bT a.lb x.ps) L2] {L3 : List HP} [o3 : fX bM L2 a.lb (x.ps.map dG.q) L3]
  (hap : a.ap = some ⟨q, 0, none⟩) (hl : a.lb.length = x.ps.length) (h0 : 0 ≤ i) (h1 : i < x.ps.length) (hs : x.gl.length ≤ 1000000) (ht : 0 ≤ (aL x i).turns)
  (k : ∀ M', Hp R (gz (eo b wb db a x) (x.own i).1.gl :: cq (some ⟨q, 0, none⟩) a.cp (bT a.lb x.ps) :: bl bM a.lb ((x.own i).1.ps.map dG.q) :: L3) M' → K (.tuple #[.int .i64 (x.own i).2.1, .bool (x.own i).2.2]) M') :
  aa Tryz.prog 150 #[.pointer (some ⟨b, 0, none⟩), .pointer (some ⟨q, i.toNat * 3, none⟩)] M K Kp := by
 refine uN ?_
 obtain ⟨lb, hlb, j7, hrow⟩ := qZ (i := i) hl h0 h1
 have h2 : Hp R (gz (eo b wb db a x) x.gl :: cq (some ⟨q, 0, none⟩) a.cp (bT a.lb x.ps) :: bl bM a.lb (x.ps.map dG.q) :: L3) M := h.sub (.cons o.pick (.cons o2.pick (.cons o3.pick .refl)))
 clear h
 have h := h2
 clear h2
 have hq : (x.ps.map dG.q)[i.toNat]? = some (aL x i).q := by rw [List.getElem?_map, j7]; rfl
 unfold Sc.own at k
 dsimp only at k
 have Ba : ∀ q', (x.de i { aL x i with q := q' }).ps.map dG.q = (x.ps.map dG.q).set i.toNat q' := fun q' => by simp [Sc.de, List.map_set]
 simp only [Ba] at k
 unfold nJ at k
 dsimp only at k
 refine gH (Src.at (Src.row (A := some ⟨q, 0, none⟩) : Src R _ _ (nI.cells (bT a.lb x.ps))) h (i := i.toNat) (j := 0) hrow rfl (by show _ = 0 + (i.toNat * 3 + 0); simp)) ?_
 replace h := h.cH bM hlb hq
 replace h : Hp R (ax bM lb (aL x i).q :: gz (eo b wb db a x) x.gl :: mz bM a.lb (x.ps.map dG.q) i.toNat :: cq (some ⟨q, 0, none⟩) a.cp (bT a.lb x.ps) :: L3) M := h.sub bp
 have hbd := xZ h (b := lb)
 refine JH (P := eo b wb db a x) y3 h (by omega) ?_
 clear h; intro M h
 have htl := Rk (q := (aL x i).q) (gl := x.gl)
 refine bW ?_
 generalize htr : (aL x i).q.fk x.gl = r at h k htl
 obtain ⟨q1, g1, n1⟩ := r
 dsimp only at h k htl
 have Nu : g1.length ≤ 100000000 := by obtain ⟨a1, a2, a3⟩ := hbd; omega
 refine aR (Src.at (h.src (A := some ⟨q, 0, none⟩)) h (i := i.toNat) (j := 1) hrow rfl (by show _ = 0 + (i.toNat * 3 + 1); omega)) ?_
 refine ⟨by decide, ?_⟩
 have rest : ∀ {M : Mem}, (Hp R (ax bM lb q1 :: gz (eo b wb db a x) g1 :: mz bM a.lb (x.ps.map dG.q) i.toNat :: cq (some ⟨q, 0, none⟩) a.cp (bT a.lb x.ps) :: L3) M) → ¬ (Int.tmod (aL x i).turns 7 = 6 ∧ 0 < g1.length) →
   cv (Mem.ld M ⟨q, i.toNat * 3, none⟩) fun jo =>
    aa Tryz.prog 149 #[(.pointer jo)] M (fun vK eB =>
    ∃ fK : Int, ∃ t18 : Bool, (vK = (.tuple #[(.int .i64 fK), (.bool t18)])) ∧
    aQ t18
     (K (.tuple #[(.int .i64 fK), (.bool true)]) eB)
     (cv (Mem.ld eB ⟨q, i.toNat * 3, none⟩) fun Cd =>
     aa Tryz.prog 180 #[(.pointer Cd), (.pointer (some ⟨b, (0 + 7), none⟩)), (.int .i64 0)] eB (fun v20 jG =>
     ∃ mP : Int, ∃ t23 : Bool, (v20 = (.tuple #[(.int .i64 mP), (.bool t23)])) ∧
     K (.tuple #[(.int .i64 mP), (.bool t23)]) jG) Kp)) Kp := by
  intro M h hno
  rw [if_neg hno] at k
  refine gH (Src.at (h.src (A := some ⟨q, 0, none⟩)) h (i := i.toNat) (j := 0) hrow rfl (by show _ = 0 + (i.toNat * 3 + 0); simp)) ?_
  refine Du h (b := lb) ?_
  clear h; intro t M ht1 ht2 h
  refine ⟨_, _, rfl, ?_⟩
  by_cases hh : u5 q1 = true
  ·rw [if_pos hh] at k
   have : t = true := ht2 (by unfold u5 at hh; simpa using hh)
   subst this
   refine ae ?_
   replace h := h.eA bM lb hlb (by rw [List.length_map]; omega)
   exact k _ (h.sub bp)
  ·rw [if_neg hh] at k
   have hn : q1.next = -1 ∧ q1.l = [] := by
    unfold u5 at hh
    rw [Bool.or_eq_true] at hh
    constructor
    ·exact Decidable.byContradiction fun e => hh (.inl (by simpa using e))
    ·cases hq1 : q1.l with
     | nil => rfl
     | cons _ _ => exact absurd (.inr (by rw [hq1]; rfl)) hh
   have hg : q1.get.2 = -1 := by unfold Loc.get; rw [if_neg (by simpa using hn.1), hn.2]
   have : t = false := ht1 hg hn.1 hn.2
   subst this
   refine ai ?_
   refine gH (Src.at (h.src (A := some ⟨q, 0, none⟩)) h (i := i.toNat) (j := 0) hrow rfl (by show _ = 0 + (i.toNat * 3 + 0); simp)) ?_
   replace h : Hp R (ax bM lb q1.get.1 :: gz (eo b wb db a x) g1 :: mz bM a.lb (x.ps.map dG.q) i.toNat :: cq (some ⟨q, 0, none⟩) a.cp (bT a.lb x.ps) :: L3) M := h.sub bp
   refine G0 (P := eo b wb db a x) y3 h Nu (by decide) ?_
   clear h; intro t2 M ht3 ht4 h
   refine ⟨_, _, rfl, ?_⟩
   have ht5 : t2 = !g1.isEmpty := by
    cases g1 with
    | nil => exact ht3 (by unfold Loc.eR; simp) rfl
    | cons _ _ => exact ht4 (by simp)
   subst ht5
   replace h := h.eA bM lb hlb (by rw [List.length_map]; omega)
   exact k _ (h.sub bp)
 refine aV.2 ⟨fun e6 => ?_, fun e6 => ?_⟩
 ·replace h : Hp R (gz (eo b wb db a x) g1 :: ax bM lb q1 :: mz bM a.lb (x.ps.map dG.q) i.toNat :: cq (some ⟨q, 0, none⟩) a.cp (bT a.lb x.ps) :: L3) M := h.sub bp
  refine qN (P := eo b wb db a x) (n := 1) y3 h (by omega) ?_
  clear h; intro A2 c2 M h
  refine aO ?_
  have e1 : (1 : Int).toNat = 1 := rfl
  rw [e1] at h ⊢
  by_cases hg : 0 < g1.length
  ·rw [if_pos ⟨e6, hg⟩] at k
   have hlen : (g1.take 1).length = 1 := by rw [List.length_take]; omega
   rw [hlen]
   refine ae ⟨by omega, by omega, ?_⟩
   obtain ⟨q9, rfl⟩ := h.bF (A := A2) (by omega) (by decide)
   refine aY ?_
   obtain ⟨v, hv⟩ := aM (l := g1) (i := 0) hg
   have HM : (g1.take 1)[0]? = some v := by rw [List.getElem?_take, if_pos (by omega)]; exact hv
   refine aR (Src.at (h.src (A := some ⟨q9, 0, none⟩)) h (i := 0) (j := 0) HM rfl rfl) ?_
   have hvd : g1.headD 0 = v := by
    cases g1 with
    | nil => simp at hg
    | cons w _ => simp at hv; simpa using hv
   rw [hvd] at k
   replace h : Hp R (ax bM lb q1 :: mz bM a.lb (x.ps.map dG.q) i.toNat :: gz (eo b wb db a x) (g1.drop 1) :: cq (some ⟨q, 0, none⟩) a.cp (bT a.lb x.ps) :: L3) M := h.sub bp
   replace h := h.eA bM lb hlb (by rw [List.length_map]; omega)
   exact k _ (h.sub bp)
  ·have TQ : g1 = [] := List.eq_nil_of_length_eq_zero (by omega)
   subst TQ
   refine ai ?_
   exact rest (h.sub bp) (fun hc => by simp at hc)
 ·exact rest (h.sub bp) (fun hc => e6 hc.1)
end
inductive tK where
 | ev (e : Ev)
 | dF (l : List PanicEntry)
def Sc.bX (x : Sc) (m i kind g : Int) (ok : Bool) : Sc × Ev :=
 if ok then ((x.de i { aL x i with turns := (aL x i).turns + 1 }).jD m ⟨(aC x m).p, g, x.c.S⟩, ⟨kind, m, g, []⟩)
 else ((x.de i { aL x i with hO := -1 }).jD m ⟨-1, -1, 0⟩, ⟨6, m, -1, []⟩)
def Sc.find (x : Sc) (m : Int) : Sc × tK :=
 let i := (aC x m).p
 if 0 < (aC x m).left ∧ (aL x i).q.next ≠ -1 then
  ((x.de i { aL x i with q := (aL x i).q.get.1 }).jD m { aC x m with g := (aL x i).q.get.2 }, .ev ⟨4, m, (aL x i).q.get.2, []⟩)
 else
  let y := (x.own i).1
  if (x.own i).2.2 = false ∧ 1 < x.c.P then match y.d.draw 2 x.c.P with
   | (d', .dF l) => ({ y with d := d' }, .dF l)
   | (d', .num v) =>
    let y := { y with d := d' }
    if v = i then ((y.bX m i 5 (-1) false).1, .ev (y.bX m i 5 (-1) false).2)
    else
     let s := (aL y i).q.ej (aL y v).q
     let z := (y.de i { aL y i with q := s.1 }).de v { aL y v with q := s.2.1 }
     ((z.bX m i 5 s.2.2 (jY (aL y v).q s.2.2)).1, .ev (z.bX m i 5 s.2.2 (jY (aL y v).q s.2.2)).2)
  else ((y.bX m i 4 (x.own i).2.1 (x.own i).2.2).1, .ev (y.bX m i 4 (x.own i).2.1 (x.own i).2.2).2)
section
variable {R : Mem} {L L' L2 : List HP} {M : Mem} {K : Value → Mem → Prop} {Kp : List PanicEntry → Mem → Prop} {pa : PA} {p : cu} {b wb db : Nat} {x : Sc} {m i : Int}
theorem yh {lb : Nat} (k : K (.tuple #[.int .i64 (-1), .bool false]) M) : aa Tryz.prog 151 #[.pointer (some ⟨lb, 0, none⟩), .pointer (some ⟨lb, 0, none⟩)] M K Kp := by
 refine jR ?_
 exact ⟨fun _ => ae k, fun hne => absurd rfl hne⟩
theorem ri {y : dG} : (x.de i y).ps.length = x.ps.length := by simp [Sc.de]
theorem NN {a : SA} {q q2 k1 : Nat} {kind g : Int} {t : Bool}
  (h : Hp R (gz (eo b wb db a x) x.gl :: ax (bj pa p) wb x.w :: ax (cI .nilFunc) db x.d :: cq (some ⟨q, 0, none⟩) a.cp (bT a.lb x.ps) :: bl bM a.lb (x.ps.map dG.q) :: cz (some ⟨q2, 0, none⟩) a.cm x.ms :: pt k1 [.int .i64 0, .int .i64 0, .int .i64 0, .slice none 0 0] 43 :: L') M)
  (hap : a.ap = some ⟨q, 0, none⟩) (LB : a.am = some ⟨q2, 0, none⟩) (hl : a.lb.length = x.ps.length) (m0 : 0 ≤ m) (m1 : m < x.ms.length) (i0 : 0 ≤ i) (i1 : i < x.ps.length) (ht : 0 ≤ (aL x i).turns ∧ (aL x i).turns < 1000000000)
  (k : ∀ M', Hp R (ax (fO pa p wb db) b (x.bX m i kind g t).1 :: L') M' → K (Og (x.bX m i kind g t).2 none 0) M') :
  aQ (!t)
   (az (Mem.ld M ⟨b, (0 + 6), none⟩) fun Wv Gh zQ =>
   aN M ⟨q, ((i.toNat * 3) + 2), none⟩ (.int .i64 (-1)) fun SZ =>
   ((0 : Int) ≤ m) ∧
   ((m : Int) < ((Gh : Nat) : Int)) ∧
   aE Wv fun K0 PK =>
   aN SZ ⟨K0, (PK + ((Int.toNat m) * 3)), none⟩ (.int .i64 (-1)) fun K3 =>
   aN K3 ⟨K0, ((PK + ((Int.toNat m) * 3)) + 1), none⟩ (.int .i64 (-1)) fun WS =>
   aN WS ⟨K0, ((PK + ((Int.toNat m) * 3)) + 2), none⟩ (.int .i64 0) fun Gi =>
   aN Gi ⟨k1, 0, none⟩ (.int .i64 6) fun M90 =>
   aN M90 ⟨k1, (0 + 1), none⟩ (.int .i64 m) fun my =>
   aN my ⟨k1, (0 + 2), none⟩ (.int .i64 (-1)) fun WT =>
   aN WT ⟨k1, (0 + 3), none⟩ (.slice none 0 0) fun Ew =>
   aK (Mem.ld Ew ⟨k1, 0, none⟩) .i64 fun KP =>
   aK (Mem.ld Ew ⟨k1, (0 + 1), none⟩) .i64 fun Fg =>
   aK (Mem.ld Ew ⟨k1, (0 + 2), none⟩) .i64 fun HU =>
   az (Mem.ld Ew ⟨k1, (0 + 3), none⟩) fun Vj Vk S7 =>
   K (.agg #[(.int .i64 KP), (.int .i64 Fg), (.int .i64 HU), (.slice Vj Vk S7)]) Ew)
   (aK (Mem.ld M ⟨q, ((i.toNat * 3) + 1), none⟩) .i64 fun vM =>
   aN M ⟨q, ((i.toNat * 3) + 1), none⟩ (.int .i64 (IntKind.wrap .i64 (vM + 1))) fun iP =>
   az (Mem.ld iP ⟨b, (0 + 6), none⟩) fun AQ nx Gq =>
   az (Mem.ld iP ⟨b, (0 + 6), none⟩) fun AR sW Gr =>
   aK (Mem.ld iP ⟨b, ((0 + 1) + 3), none⟩) .i64 fun zn =>
   ((0 : Int) ≤ m) ∧
   ((m : Int) < ((nx : Nat) : Int)) ∧
   aE AQ fun Co Cp =>
   aN iP ⟨Co, ((Cp + ((Int.toNat m) * 3)) + 1), none⟩ (.int .i64 g) fun oD =>
   ((0 : Int) ≤ m) ∧
   ((m : Int) < ((sW : Nat) : Int)) ∧
   aE AR fun PL Ey =>
   aN oD ⟨PL, ((Ey + ((Int.toNat m) * 3)) + 2), none⟩ (.int .i64 zn) fun Cq =>
   aN Cq ⟨k1, 0, none⟩ (.int .i64 kind) fun Jh =>
   aN Jh ⟨k1, (0 + 1), none⟩ (.int .i64 m) fun zo =>
   aN zo ⟨k1, (0 + 2), none⟩ (.int .i64 g) fun Jc =>
   aN Jc ⟨k1, (0 + 3), none⟩ (.slice none 0 0) fun oC =>
   aK (Mem.ld oC ⟨k1, 0, none⟩) .i64 fun Ji =>
   aK (Mem.ld oC ⟨k1, (0 + 1), none⟩) .i64 fun qD =>
   aK (Mem.ld oC ⟨k1, (0 + 2), none⟩) .i64 fun uL =>
   az (Mem.ld oC ⟨k1, (0 + 3), none⟩) fun PM Cr Es =>
   K (.agg #[(.int .i64 Ji), (.int .i64 qD), (.int .i64 uL), (.slice PM Cr Es)]) oC) := by
 obtain ⟨lb, hlb, j7, hrow⟩ := qZ (i := i) hl i0 i1
 have nK := rh m0 m1
 have m2 : m.toNat < x.ms.length := by omega
 obtain ⟨ap, cp, wW, am, cm⟩ := a
 dsimp only at hap LB hl hlb hrow h
 subst hap; subst LB
 obtain ⟨A, c, h2⟩ := oN h
 clear h
 have h := h2
 clear h2
 unfold Sc.bX at k
 cases t with
 | false =>
  simp only [Bool.false_eq_true, if_false] at k
  refine ae ?_
  refine aF h ?_
  refine iE (E := nI) (a' := (lb, (aL x i).turns, -1)) i.toNat 2 h hrow (by decide) rfl rfl ?_
  clear h; intro M h
  refine ⟨m0, m1, aY ?_⟩
  refine iE (E := gp) (a' := ⟨-1, (aC x m).g, (aC x m).left⟩) m.toNat 0 h nK (by decide) rfl (by show _ = m.toNat * 3 + 0; omega) ?_
  clear h; intro M h
  refine iE (E := gp) (a := ⟨-1, (aC x m).g, (aC x m).left⟩) (a' := ⟨-1, -1, (aC x m).left⟩) m.toNat 1 h (by simp [m2]) (by decide) rfl (by show _ = m.toNat * 3 + 1; omega) ?_
  clear h; intro M h
  refine iE (E := gp) (a := ⟨-1, -1, (aC x m).left⟩) (a' := ⟨-1, -1, 0⟩) m.toNat 2 h (by simp [m2]) (by decide) rfl (by show _ = m.toNat * 3 + 2; omega) ?_
  clear h; intro M h
  rw [iY, iY, BD (pr := { aL x i with hO := -1 }) hlb] at h
  refine qX h ?_
  clear h; intro M h
  refine qY h ?_
  have e3 := yf (y := { aL x i with hO := -1 }) j7 rfl
  exact k _ (Hp.cj (yg (A := A) (c := c) (a := ⟨some ⟨q, 0, none⟩, cp, wW, some ⟨q2, 0, none⟩, cm⟩) (x := (x.de i { aL x i with hO := -1 }).jD m ⟨-1, -1, 0⟩) h b (by simp [Sc.de, Sc.jD, eN]) (by rfl) (by simpa [Sc.de, Sc.jD] using hl) (by rfl) (by exact e3) (by rfl)))
 | true =>
  simp only [if_true] at k
  refine ai ?_
  refine aR (Src.at (h.src (A := some ⟨q, 0, none⟩)) h (i := i.toNat) (j := 1) hrow rfl (by show _ = 0 + (i.toNat * 3 + 1); omega)) ?_
  rw [jA ht.1 (by omega)]
  refine iE (E := nI) (a' := (lb, (aL x i).turns + 1, (aL x i).hO)) i.toNat 1 h hrow (by decide) rfl rfl ?_
  clear h; intro M h
  refine aF h (aF h (ay h ⟨m0, m1, aY ?_⟩))
  refine iE (E := gp) (a' := ⟨(aC x m).p, g, (aC x m).left⟩) m.toNat 1 h nK (by decide) rfl (by show _ = m.toNat * 3 + 1; omega) ?_
  clear h; intro M h
  refine ⟨m0, m1, aY ?_⟩
  refine iE (E := gp) (a := ⟨(aC x m).p, g, (aC x m).left⟩) (a' := ⟨(aC x m).p, g, x.c.S⟩) m.toNat 2 h (by simp [m2]) (by decide) rfl (by show _ = m.toNat * 3 + 2; omega) ?_
  clear h; intro M h
  rw [iY, BD (pr := { aL x i with turns := (aL x i).turns + 1 }) hlb] at h
  refine qX h ?_
  clear h; intro M h
  refine qY h ?_
  have e3 := yf (y := { aL x i with turns := (aL x i).turns + 1 }) j7 rfl
  exact k _ (Hp.cj (yg (A := A) (c := c) (a := ⟨some ⟨q, 0, none⟩, cp, wW, some ⟨q2, 0, none⟩, cm⟩) (x := (x.de i { aL x i with turns := (aL x i).turns + 1 }).jD m ⟨(aC x m).p, g, x.c.S⟩) h b (by simp [Sc.de, Sc.jD, eN]) (by rfl) (by simpa [Sc.de, Sc.jD] using hl) (by rfl) (by exact e3) (by rfl)))
def yj (x : Sc) (m : Int) : Prop := 0 ≤ m ∧ m < x.ms.length ∧ 0 ≤ (aC x m).p ∧ (aC x m).p < x.ps.length ∧ x.gl.length ≤ 1000000 ∧ 0 ≤ (aL x (aC x m).p).turns ∧ (aL x (aC x m).p).turns < 1000000000 ∧ x.d.taken.length < 100000000 ∧ x.c.P ≤ x.ps.length ∧ x.c.P < 1000000
instance (x : Sc) (m : Int) : Decidable (yj x m) := by unfold yj; infer_instance
theorem NO {j : Int} (h0 : 0 ≤ i) (hi : i < x.ps.length) (hj : 0 ≤ j) : (aL (x.own i).1 j).turns = (aL x j).turns := by
 unfold Sc.own Sc.de aL
 dsimp only
 by_cases e : i.toNat = j.toNat
 ·rw [e]
  rw [List.getD_eq_getElem?_getD, List.getElem?_set_self (by omega)]; rfl
 ·rw [List.getD_eq_getElem?_getD, List.getElem?_set_ne e, ← List.getD_eq_getElem?_getD]
end
section
variable {R : Mem} {L L' L2 : List HP} {M : Mem} {K : Value → Mem → Prop} {Kp : List PanicEntry → Mem → Prop} {pa : PA} {p : cu} {b wb db : Nat} {x : Sc} {m i : Int} {a : SA} {g : List Int}
theorem LC (h : Hp R (gz (eo b wb db a x) g :: L) M) : M.ld ⟨b, 0 + 5, none⟩ = some (.slice a.ap x.ps.length a.cp) := by
 obtain ⟨A, c, h9⟩ := jc (P := eo b wb db a x) h; exact bD h9
theorem y4 (h : Hp R (gz (eo b wb db a x) g :: L) M) : M.ld ⟨b, 0 + 6, none⟩ = some (.slice a.am x.ms.length a.cm) := by
 obtain ⟨A, c, h9⟩ := jc (P := eo b wb db a x) h; exact bD h9
theorem sc_P (h : Hp R (gz (eo b wb db a x) g :: L) M) : M.ld ⟨b, 0 + 1, none⟩ = some (.int .i64 x.c.P) := by
 obtain ⟨A, c, h9⟩ := jc (P := eo b wb db a x) h; exact bD h9
theorem sc_M (h : Hp R (gz (eo b wb db a x) g :: L) M) : M.ld ⟨b, (0 + 1) + 1, none⟩ = some (.int .i64 x.c.M) := by
 obtain ⟨A, c, h9⟩ := jc (P := eo b wb db a x) h; exact bD h9
theorem YM (h : Hp R (gz (eo b wb db a x) g :: L) M) : M.ld ⟨b, 0 + 8, none⟩ = some (.pointer (some ⟨db, 0, none⟩)) := by
 obtain ⟨A, c, h9⟩ := jc (P := eo b wb db a x) h; exact bD h9
theorem sc_w (h : Hp R (gz (eo b wb db a x) g :: L) M) : M.ld ⟨b, 0, none⟩ = some (.pointer (some ⟨wb, 0, none⟩)) := by
 obtain ⟨A, c, h9⟩ := jc (P := eo b wb db a x) h; exact bD h9
theorem Uy : eo b wb db a (x.own i).1 = eo b wb db a x := by
 unfold Sc.own eo eN Sc.de; simp
def Rdy (R : Mem) (pa : PA) (p : cu) (b wb db : Nat) (a : SA) (L' : List HP) (K : Value → Mem → Prop) (m i : Int) (q q2 k1 : Nat) (z : Sc) (kind g : Int) (t : Bool) (M : Mem) : Prop :=
 Hp R (gz (eo b wb db a z) z.gl :: ax (bj pa p) wb z.w :: ax (cI .nilFunc) db z.d :: cq (some ⟨q, 0, none⟩) a.cp (bT a.lb z.ps) :: bl bM a.lb (z.ps.map dG.q) :: cz (some ⟨q2, 0, none⟩) a.cm z.ms :: pt k1 [.int .i64 0, .int .i64 0, .int .i64 0, .slice none 0 0] 43 :: L') M ∧
 a.lb.length = z.ps.length ∧ m < z.ms.length ∧ i < z.ps.length ∧ (0 ≤ (aL z i).turns ∧ (aL z i).turns < 1000000000) ∧
 (∀ M', Hp R (ax (fO pa p wb db) b (z.bX m i kind g t).1 :: L') M' → K (Og (z.bX m i kind g t).2 none 0) M')
theorem Ht {y : dG} {j : Int} (hi : 0 ≤ i) (h1 : i < x.ps.length) (hj : 0 ≤ j) : aL (x.de i y) j = if i = j then y else aL x j := by
 unfold aL Sc.de
 dsimp only
 by_cases e : i = j
 ·subst e
  rw [if_pos rfl, List.getD_eq_getElem?_getD, List.getElem?_set_self (by omega)]; rfl
 ·rw [if_neg e, List.getD_eq_getElem?_getD, List.getElem?_set_ne (by omega), ← List.getD_eq_getElem?_getD]
theorem DJ {q q2 k1 : Nat}
  (h : Hp R (gz (eo b wb db a x) x.gl :: ax (bj pa p) wb x.w :: ax (cI .nilFunc) db x.d :: cq (some ⟨q, 0, none⟩) a.cp (bT a.lb x.ps) :: bl bM a.lb (x.ps.map dG.q) :: cz (some ⟨q2, 0, none⟩) a.cm x.ms :: pt k1 [.int .i64 0, .int .i64 0, .int .i64 0, .slice none 0 0] 43 :: L') M)
  (hap : a.ap = some ⟨q, 0, none⟩) (LB : a.am = some ⟨q2, 0, none⟩) (hl : a.lb.length = x.ps.length) (hk : yj x m) (hi : i = (aC x m).p) (hd : x.d.Ok)
  (k : let y := (x.own i).1
   if (x.own i).2.2 = false ∧ 1 < x.c.P then match y.d.draw 2 x.c.P with
    | (d', .dF l) => ∀ M', Hp R (ax (fO pa p wb db) b { y with d := d' } :: L') M' → Kp l M'
    | (d', .num v) =>
     let y := { y with d := d' }
     let s := (aL y i).q.ej (aL y v).q
     let z := if v = i then y else (y.de i { aL y i with q := s.1 }).de v { aL y v with q := s.2.1 }
     let r := if v = i then (-1, false) else (s.2.2, jY (aL y v).q s.2.2)
     ∀ M', Hp R (ax (fO pa p wb db) b (z.bX m i 5 r.1 r.2).1 :: L') M' → K (Og (z.bX m i 5 r.1 r.2).2 none 0) M'
   else ∀ M', Hp R (ax (fO pa p wb db) b (y.bX m i 4 (x.own i).2.1 (x.own i).2.2).1 :: L') M' → K (Og (y.bX m i 4 (x.own i).2.1 (x.own i).2.2).2 none 0) M') :
  aa Tryz.prog 150 #[(.pointer (some ⟨b, 0, none⟩)), (.pointer (some ⟨q, (i.toNat * 3), none⟩))] M (fun Jg l8 =>
 ∃ Gp : Int, ∃ t57 : Bool, (Jg = (.tuple #[(.int .i64 Gp), (.bool t57)])) ∧
 aQ (!t57)
  (aK (Mem.ld l8 ⟨b, (0 + 1), none⟩) .i64 fun KN =>
  ∃ WQ : List Value → Mem → Prop, (aQ (decide ((KN : Int) > 1))
   (cv (Mem.ld l8 ⟨b, (0 + 8), none⟩) fun A60 =>
    aK (Mem.ld l8 ⟨b, (0 + 1), none⟩) .i64 fun De =>
    aa Tryz.prog 107 #[(.pointer A60), (.int .i64 2), (.int .i64 De)] l8 (fun Pr zf =>
    aK (some Pr) .i64 fun n64 =>
    cv (Mem.ld zf ⟨q, (i.toNat * 3), none⟩) fun Vi =>
    az (Mem.ld zf ⟨b, (0 + 5), none⟩) fun PJ xD KZ =>
    ((0 : Int) ≤ n64) ∧
    ((n64 : Int) < ((xD : Nat) : Int)) ∧
    aE PJ fun k69 KX =>
    cv (Mem.ld zf ⟨k69, (KX + ((Int.toNat n64) * 3)), none⟩) fun WG =>
    aa Tryz.prog 151 #[(.pointer Vi), (.pointer WG)] zf (fun v72 Fl =>
    ∃ S1 : Int, ∃ t75 : Bool, (v72 = (.tuple #[(.int .i64 S1), (.bool t75)])) ∧
    WQ [(.int .i64 5), (.int .i64 S1), (.bool t75)] Fl) Kp) Kp)
   (WQ [(.int .i64 4), (.int .i64 Gp), (.bool t57)] l8)) ∧
  ∀ WR : Nat → Value, ∀ zh : Int, ∀ AP : Int, ∀ t79 : Bool, ∀ En : Mem, (WQ [(.int .i64 zh), (.int .i64 AP), (.bool t79)] En) → aQ (!t79)
   (az (Mem.ld En ⟨b, (0 + 6), none⟩) fun Wv Gh zQ =>
   aN En ⟨q, ((i.toNat * 3) + 2), none⟩ (.int .i64 (-1)) fun SZ =>
   ((0 : Int) ≤ m) ∧
   ((m : Int) < ((Gh : Nat) : Int)) ∧
   aE Wv fun K0 PK =>
   aN SZ ⟨K0, (PK + ((Int.toNat m) * 3)), none⟩ (.int .i64 (-1)) fun K3 =>
   aN K3 ⟨K0, ((PK + ((Int.toNat m) * 3)) + 1), none⟩ (.int .i64 (-1)) fun WS =>
   aN WS ⟨K0, ((PK + ((Int.toNat m) * 3)) + 2), none⟩ (.int .i64 0) fun Gi =>
   aN Gi ⟨k1, 0, none⟩ (.int .i64 6) fun M90 =>
   aN M90 ⟨k1, (0 + 1), none⟩ (.int .i64 m) fun my =>
   aN my ⟨k1, (0 + 2), none⟩ (.int .i64 (-1)) fun WT =>
   aN WT ⟨k1, (0 + 3), none⟩ (.slice none 0 0) fun Ew =>
   aK (Mem.ld Ew ⟨k1, 0, none⟩) .i64 fun KP =>
   aK (Mem.ld Ew ⟨k1, (0 + 1), none⟩) .i64 fun Fg =>
   aK (Mem.ld Ew ⟨k1, (0 + 2), none⟩) .i64 fun HU =>
   az (Mem.ld Ew ⟨k1, (0 + 3), none⟩) fun Vj Vk S7 =>
   K (.agg #[(.int .i64 KP), (.int .i64 Fg), (.int .i64 HU), (.slice Vj Vk S7)]) Ew)
   (aK (Mem.ld En ⟨q, ((i.toNat * 3) + 1), none⟩) .i64 fun vM =>
   aN En ⟨q, ((i.toNat * 3) + 1), none⟩ (.int .i64 (IntKind.wrap .i64 (vM + 1))) fun iP =>
   az (Mem.ld iP ⟨b, (0 + 6), none⟩) fun AQ nx Gq =>
   az (Mem.ld iP ⟨b, (0 + 6), none⟩) fun AR sW Gr =>
   aK (Mem.ld iP ⟨b, ((0 + 1) + 3), none⟩) .i64 fun zn =>
   ((0 : Int) ≤ m) ∧
   ((m : Int) < ((nx : Nat) : Int)) ∧
   aE AQ fun Co Cp =>
   aN iP ⟨Co, ((Cp + ((Int.toNat m) * 3)) + 1), none⟩ (.int .i64 AP) fun oD =>
   ((0 : Int) ≤ m) ∧
   ((m : Int) < ((sW : Nat) : Int)) ∧
   aE AR fun PL Ey =>
   aN oD ⟨PL, ((Ey + ((Int.toNat m) * 3)) + 2), none⟩ (.int .i64 zn) fun Cq =>
   aN Cq ⟨k1, 0, none⟩ (.int .i64 zh) fun Jh =>
   aN Jh ⟨k1, (0 + 1), none⟩ (.int .i64 m) fun zo =>
   aN zo ⟨k1, (0 + 2), none⟩ (.int .i64 AP) fun Jc =>
   aN Jc ⟨k1, (0 + 3), none⟩ (.slice none 0 0) fun oC =>
   aK (Mem.ld oC ⟨k1, 0, none⟩) .i64 fun Ji =>
   aK (Mem.ld oC ⟨k1, (0 + 1), none⟩) .i64 fun qD =>
   aK (Mem.ld oC ⟨k1, (0 + 2), none⟩) .i64 fun uL =>
   az (Mem.ld oC ⟨k1, (0 + 3), none⟩) fun PM Cr Es =>
   K (.agg #[(.int .i64 Ji), (.int .i64 qD), (.int .i64 uL), (.slice PM Cr Es)]) oC))
  (∃ PN : List Value → Mem → Prop, (PN [(.int .i64 4), (.int .i64 Gp), (.bool t57)] l8) ∧
  ∀ S8 : Nat → Value, ∀ xJ : Int, ∀ zq : Int, ∀ t129 : Bool, ∀ tu : Mem, (PN [(.int .i64 xJ), (.int .i64 zq), (.bool t129)] tu) → aQ (!t129)
   (az (Mem.ld tu ⟨b, (0 + 6), none⟩) fun Gn xI MG =>
   aN tu ⟨q, ((i.toNat * 3) + 2), none⟩ (.int .i64 (-1)) fun Cn =>
   ((0 : Int) ≤ m) ∧
   ((m : Int) < ((xI : Nat) : Int)) ∧
   aE Gn fun Cs tv =>
   aN Cn ⟨Cs, (tv + ((Int.toNat m) * 3)), none⟩ (.int .i64 (-1)) fun MH =>
   aN MH ⟨Cs, ((tv + ((Int.toNat m) * 3)) + 1), none⟩ (.int .i64 (-1)) fun WU =>
   aN WU ⟨Cs, ((tv + ((Int.toNat m) * 3)) + 2), none⟩ (.int .i64 0) fun Eu =>
   aN Eu ⟨k1, 0, none⟩ (.int .i64 6) fun WW =>
   aN WW ⟨k1, (0 + 1), none⟩ (.int .i64 m) fun MI =>
   aN MI ⟨k1, (0 + 2), none⟩ (.int .i64 (-1)) fun PO =>
   aN PO ⟨k1, (0 + 3), none⟩ (.slice none 0 0) fun AS =>
   aK (Mem.ld AS ⟨k1, 0, none⟩) .i64 fun PR =>
   aK (Mem.ld AS ⟨k1, (0 + 1), none⟩) .i64 fun PS =>
   aK (Mem.ld AS ⟨k1, (0 + 2), none⟩) .i64 fun PT =>
   az (Mem.ld AS ⟨k1, (0 + 3), none⟩) fun WX PU WY =>
   K (.agg #[(.int .i64 PR), (.int .i64 PS), (.int .i64 PT), (.slice WX PU WY)]) AS)
   (aK (Mem.ld tu ⟨q, ((i.toNat * 3) + 1), none⟩) .i64 fun Je =>
   aN tu ⟨q, ((i.toNat * 3) + 1), none⟩ (.int .i64 (IntKind.wrap .i64 (Je + 1))) fun AT =>
   az (Mem.ld AT ⟨b, (0 + 6), none⟩) fun PV PW Jf =>
   az (Mem.ld AT ⟨b, (0 + 6), none⟩) fun WZ W0 PX =>
   aK (Mem.ld AT ⟨b, ((0 + 1) + 3), none⟩) .i64 fun W1 =>
   ((0 : Int) ≤ m) ∧
   ((m : Int) < ((PW : Nat) : Int)) ∧
   aE PV fun W2 W3 =>
   aN AT ⟨W2, ((W3 + ((Int.toNat m) * 3)) + 1), none⟩ (.int .i64 zq) fun xK =>
   ((0 : Int) ≤ m) ∧
   ((m : Int) < ((W0 : Nat) : Int)) ∧
   aE WZ fun PY PZ =>
   aN xK ⟨PY, ((PZ + ((Int.toNat m) * 3)) + 2), none⟩ (.int .i64 W1) fun P0 =>
   aN P0 ⟨k1, 0, none⟩ (.int .i64 xJ) fun P2 =>
   aN P2 ⟨k1, (0 + 1), none⟩ (.int .i64 m) fun P3 =>
   aN P3 ⟨k1, (0 + 2), none⟩ (.int .i64 zq) fun Gs =>
   aN Gs ⟨k1, (0 + 3), none⟩ (.slice none 0 0) fun AU =>
   aK (Mem.ld AU ⟨k1, 0, none⟩) .i64 fun P4 =>
   aK (Mem.ld AU ⟨k1, (0 + 1), none⟩) .i64 fun P5 =>
   aK (Mem.ld AU ⟨k1, (0 + 2), none⟩) .i64 fun Gt =>
   az (Mem.ld AU ⟨k1, (0 + 3), none⟩) fun W4 MJ W5 =>
   K (.agg #[(.int .i64 P4), (.int .i64 P5), (.int .i64 Gt), (.slice W4 MJ W5)]) AU))) Kp := by
 obtain ⟨m0, m1, i0, i1, YN, ht0, ht1, yl, hP, hP2⟩ := hk
 rw [← hi] at i0 i1 ht0 ht1
 have go : ∀ (z : Sc) (kind g : Int) (t : Bool) (M : Mem), Rdy R pa p b wb db a L' K m i q q2 k1 z kind g t M → _ := fun z kind g t M ⟨h, a1, a2, a3, a4, a5⟩ => NN h hap LB a1 m0 a2 i0 a3 a4 a5
 refine NM (i := i) (q := q) (a := a) (x := x) (b := b) (wb := wb) (db := db) h hap hl i0 i1 YN ht0 ?_
 clear h; intro M h
 refine ⟨_, _, rfl, ?_⟩
 dsimp only at k
 have ey : eo b wb db a (x.own i).1 = eo b wb db a x := Uy
 have ep : bT a.lb (x.own i).1.ps = bT a.lb x.ps := by
  obtain ⟨lb, hlb, j7, hrow⟩ := qZ (i := i) hl i0 i1
  exact BH j7 rfl rfl
 have el : (x.own i).1.ps.length = x.ps.length := by simp [Sc.own, Sc.de]
 have et : ∀ j, 0 ≤ j → (aL (x.own i).1 j).turns = (aL x j).turns := fun j hj => NO i0 i1 hj
 have em : (x.own i).1.ms = x.ms := rfl
 have ew : (x.own i).1.w = x.w := rfl
 have ed : (x.own i).1.d = x.d := rfl
 rw [← ey, ← ep] at h
 have hR : Hp R (gz (eo b wb db a (x.own i).1) (x.own i).1.gl :: ax (bj pa p) wb (x.own i).1.w :: ax (cI .nilFunc) db (x.own i).1.d :: cq (some ⟨q, 0, none⟩) a.cp (bT a.lb (x.own i).1.ps) :: bl bM a.lb ((x.own i).1.ps.map dG.q) :: cz (some ⟨q2, 0, none⟩) a.cm (x.own i).1.ms :: pt k1 [.int .i64 0, .int .i64 0, .int .i64 0, .slice none 0 0] 43 :: L') M := h.sub bp
 clear h
 have h := hR
 clear hR
 have ec : (x.own i).1.c = x.c := rfl
 generalize hy : x.own i = r at h k ey ep el et em ew ed ec
 obtain ⟨y, v1, t1⟩ := r
 dsimp only at h k ey ep el et em ew ed ec ⊢
 have hti := et i i0
 have VF : ∀ M, Hp R (gz (eo b wb db a y) y.gl :: ax (bj pa p) wb y.w :: ax (cI .nilFunc) db y.d :: cq (some ⟨q, 0, none⟩) a.cp (bT a.lb y.ps) :: bl bM a.lb (y.ps.map dG.q) :: cz (some ⟨q2, 0, none⟩) a.cm y.ms :: pt k1 [.int .i64 0, .int .i64 0, .int .i64 0, .slice none 0 0] 43 :: L') M → ¬ (t1 = false ∧ 1 < x.c.P) → Rdy R pa p b wb db a L' K m i q q2 k1 y 4 v1 t1 M := by
  intro M h hno
  rw [if_neg hno] at k
  exact ⟨h, by omega, by rw [em]; exact m1, by omega, by omega, k⟩
 cases t1 with
 | true =>
  refine ai ?_
  refine ⟨fun vs M => ∃ (z : Sc) (kind g : Int) (t : Bool), vs = [.int .i64 kind, .int .i64 g, .bool t] ∧ Rdy R pa p b wb db a L' K m i q q2 k1 z kind g t M, ⟨y, 4, v1, true, rfl, VF M h (fun hc => by cases hc.1)⟩, ?_⟩
  clear h
  rintro _ n1 n2 t3 M ⟨z, kind, g, t, he, hz⟩
  simp only [List.cons.injEq, Value.int.injEq, Value.bool.injEq, and_true, true_and] at he
  obtain ⟨rfl, rfl, rfl⟩ := he
  exact go z n1 n2 t3 M hz
 | false =>
  refine ae ?_
  rw [sc_P h]
  refine bW ?_
  refine ⟨fun vs M => ∃ (z : Sc) (kind g : Int) (t : Bool), vs = [.int .i64 kind, .int .i64 g, .bool t] ∧ Rdy R pa p b wb db a L' K m i q q2 k1 z kind g t M, ?_, ?_⟩
  ·rw [ec]
   refine aJ.2 ⟨fun hgt => ?_, fun hle => ?_⟩
   ·rw [if_pos ⟨rfl, hgt⟩] at k
    rw [YM h]
    refine gY ?_
    refine bW ?_
    rw [ed] at k h
    replace h : Hp R (ax (cI .nilFunc) db x.d :: gz (eo b wb db a y) y.gl :: ax (bj pa p) wb y.w :: cq (some ⟨q, 0, none⟩) a.cp (bT a.lb y.ps) :: bl bM a.lb (y.ps.map dG.q) :: cz (some ⟨q2, 0, none⟩) a.cm y.ms :: pt k1 [.int .i64 0, .int .i64 0, .int .i64 0, .slice none 0 0] 43 :: L') M := h.sub bp
    refine qU h hd (by omega) yl ?_
    clear h
    have J4 := fun k' v => BC (k := x.d.k) (kind := 2) hd.1 (BB x.c.P) (k' := k') (v := v)
    have CF : ∀ v, (x.d.draw 2 x.c.P).2 = .num v → 0 ≤ v ∧ v < x.c.P := by
     intro v hv
     unfold nW.draw at hv
     split at hv
     ·rename_i k' v' hn
      cases hv
      have := J4 k' _ hn
      have e : kP x.c.P = x.c.P := by unfold kP; rw [if_neg (by omega)]
      rw [e] at this
      exact this
     ·cases hv
    generalize yc : x.d.draw 2 x.c.P = dd at k CF
    obtain ⟨d', o⟩ := dd
    cases o with
    | dF l =>
     dsimp only at k CF ⊢
     intro M h
     have hsc : eo b wb db a y = eo b wb db a { y with d := d' } := rfl
     rw [hsc] at h
     have h9 : Hp R (gz (eo b wb db a { y with d := d' }) y.gl :: ax (bj pa p) wb y.w :: ax (cI .nilFunc) db d' :: cq a.ap a.cp (bT a.lb y.ps) :: bl bM a.lb (y.ps.map dG.q) :: cz a.am a.cm y.ms :: pt k1 [.int .i64 0, .int .i64 0, .int .i64 0, .slice none 0 0] 43 :: L') M := by
      rw [show cq a.ap a.cp (bT a.lb y.ps) = cq (some ⟨q, 0, none⟩) a.cp (bT a.lb y.ps) from by rw [hap], show cz a.am a.cm y.ms = cz (some ⟨q2, 0, none⟩) a.cm y.ms from by rw [LB]]
      exact h.sub bp
     exact k M (Hp.cj (gO (a := a) (x := { y with d := d' }) (by rw [el]; exact hl) h9))
    | num v =>
     dsimp only at k CF ⊢
     obtain ⟨v0, v1'⟩ := CF v rfl
     intro M h
     refine bW ?_
     have hsc : eo b wb db a y = eo b wb db a { y with d := d' } := rfl
     rw [hsc] at h
     generalize hyz : ({ y with d := d' } : Sc) = y2 at h k
     have p1 : y2.ps = y.ps := by rw [← hyz]
     have p2 : y2.ms = y.ms := by rw [← hyz]
     have p3 : y2.gl = y.gl := by rw [← hyz]
     have p4 : y2.w = y.w := by rw [← hyz]
     have p5 : y2.d = d' := by rw [← hyz]
     rw [← p1, ← p2, ← p3, ← p4, ← p5] at h
     replace h : Hp R (gz (eo b wb db a y2) y2.gl :: ax (bj pa p) wb y2.w :: ax (cI .nilFunc) db y2.d :: cq (some ⟨q, 0, none⟩) a.cp (bT a.lb y2.ps) :: bl bM a.lb (y2.ps.map dG.q) :: cz (some ⟨q2, 0, none⟩) a.cm y2.ms :: pt k1 [.int .i64 0, .int .i64 0, .int .i64 0, .slice none 0 0] 43 :: L') M := h.sub bp
     have kj : a.lb.length = y2.ps.length := by rw [p1, el]; exact hl
     have Qk : i < y2.ps.length := by rw [p1, el]; exact i1
     have HM : v < y2.ps.length := by rw [p1, el]; omega
     have hm2 : m < y2.ms.length := by rw [p2, em]; exact m1
     have ht2 : ∀ j, aL y2 j = aL y j := fun j => by unfold aL; rw [p1]
     obtain ⟨lbi, hlbi, hpri, hrowi⟩ := qZ (i := i) kj i0 Qk
     obtain ⟨lbv, YO, Rl, hrowv⟩ := qZ (i := v) kj v0 HM
     refine gH (Src.at (Src.row (A := some ⟨q, 0, none⟩) : Src R _ _ (nI.cells (bT a.lb y2.ps))) h (i := i.toNat) (j := 0) hrowi rfl (by show _ = 0 + (i.toNat * 3 + 0); simp)) ?_
     rw [LC h]
     refine aO ⟨v0, HM, ?_⟩
     rw [hap]
     refine aY ?_
     rw [Nat.zero_add]
     refine gH (Src.at (Src.row (A := some ⟨q, 0, none⟩) : Src R _ _ (nI.cells (bT a.lb y2.ps))) h (i := v.toNat) (j := 0) hrowv rfl (by show _ = 0 + (v.toNat * 3 + 0); simp)) ?_
     by_cases hvi : v = i
     ·subst hvi
      rw [hlbi] at YO
      cases YO
      refine yh ?_
      refine ⟨_, _, rfl, ?_⟩
      simp only [if_true] at k
      exact ⟨y2, 5, -1, false, rfl, h, kj, hm2, Qk, by rw [ht2]; omega, k⟩
     ·simp only [if_neg hvi] at k
      have hqi : (y2.ps.map dG.q)[i.toNat]? = some (aL y2 i).q := by rw [List.getElem?_map, hpri]; rfl
      have hqv : (y2.ps.map dG.q)[v.toNat]? = some (aL y2 v).q := by rw [List.getElem?_map, Rl]; rfl
      obtain ⟨X, hX, DK⟩ := h.Qj bM (i := i.toNat) (j := v.toNat) (by omega) hlbi hqi YO hqv
      clear h
      refine G1 hX ?_
      clear hX; intro t M g1 g2 h
      refine ⟨_, _, rfl, ?_⟩
      have hte : t = jY (aL y2 v).q ((aL y2 i).q.ej (aL y2 v).q).2.2 := by
       unfold jY
       by_cases hc : ((aL y2 i).q.ej (aL y2 v).q).2.2 ≠ -1 ∨ (aL y2 v).q.l ≠ []
       ·rw [g2 hc]
        rcases hc with hc | hc
        ·simp [hc]
        ·cases hq : (aL y2 v).q.l with
         | nil => exact absurd hq hc
         | cons _ _ => simp
       ·have ZC : ((aL y2 i).q.ej (aL y2 v).q).2.2 = -1 := Decidable.byContradiction fun e => hc (.inl e)
        have RT : (aL y2 v).q.l = [] := by
         cases hq : (aL y2 v).q.l with
         | nil => rfl
         | cons _ _ => exact absurd (.inr (by rw [hq]; simp)) hc
        rw [g1 ZC RT, ZC, RT]; rfl
      subst hte
      replace h := DK (L2 := _) h
      generalize hs : (aL y2 i).q.ej (aL y2 v).q = s at h k ⊢
      obtain ⟨s1, s2, s3⟩ := s
      dsimp only at h k ⊢
      have e1 : bT a.lb ((y2.de i { aL y2 i with q := s1 }).de v { aL y2 v with q := s2 }).ps = bT a.lb y2.ps := by
       show bT a.lb ((y2.ps.set i.toNat _).set v.toNat _) = _
       rw [BH (ps := y2.ps.set i.toNat { aL y2 i with q := s1 }) (j := v.toNat) (pr := aL y2 v) (y := { aL y2 v with q := s2 }) (by rw [List.getElem?_set_ne (by omega)]; exact Rl) rfl rfl]
       exact BH hpri rfl rfl
      have e2 : ((y2.de i { aL y2 i with q := s1 }).de v { aL y2 v with q := s2 }).ps.map dG.q = ((y2.ps.map dG.q).set i.toNat s1).set v.toNat s2 := by
       simp [Sc.de, List.map_set]
      have e3 : eo b wb db a ((y2.de i { aL y2 i with q := s1 }).de v { aL y2 v with q := s2 }) = eo b wb db a y2 := by rw [BF, BF]
      rw [← e1, ← e2, ← e3] at h
      have e4 : (aL ((y2.de i { aL y2 i with q := s1 }).de v { aL y2 v with q := s2 }) i).turns = (aL y2 i).turns := by
       rw [Ht v0 (by rw [ri]; exact HM) i0, if_neg hvi, Ht i0 Qk i0, if_pos rfl]
      refine ⟨(y2.de i { aL y2 i with q := s1 }).de v { aL y2 v with q := s2 }, 5, s3, _, rfl, h.sub bp, ?_, hm2, ?_, ?_, k⟩
      ·rw [ri, ri]; exact kj
      ·rw [ri, ri]; exact Qk
      ·rw [e4, ht2]; omega
   ·exact ⟨y, 4, v1, false, rfl, VF M h (fun hc => hle hc.2)⟩
  ·clear h
   rintro _ n1 n2 t3 M ⟨z, kind, g, t, he, hz⟩
   simp only [List.cons.injEq, Value.int.injEq, Value.bool.injEq, and_true, true_and] at he
   obtain ⟨rfl, rfl, rfl⟩ := he
   exact go z n1 n2 t3 M hz
end
def zB (l : List PanicEntry) : List PanicEntry := l ++ l.map fun e => { e with recovered := true }
theorem DL : Dy NK (zB NK) := fun b v M K Kp h => Nd h
theorem Hu {a k n q v : Int} : Dy (ZB a k n q v) (zB (ZB a k n q v)) := fun b w M K Kp h => EB h
theorem Rn {k k' : iQ} {kind m : Int} {l : List PanicEntry} (h : k.next kind m = (k', .dF l)) : k' = k ∧ Dy l (zB l) := by
 cases k with
 | yY l i =>
  unfold iQ.next at h
  dsimp only at h
  split at h
  ·cases h; exact ⟨rfl, DL⟩
  ·cases h
 | tape l i =>
  unfold iQ.next at h
  dsimp only at h
  split at h
  ·cases h; exact ⟨rfl, DL⟩
  ·split at h
   ·cases h; exact ⟨rfl, Hu⟩
   ·split at h
    ·cases h; exact ⟨rfl, Hu⟩
    ·cases h
theorem Hv {x x' : nW} {kind n : Int} {l : List PanicEntry} (h : x.draw kind n = (x', .dF l)) : x' = x ∧ Dy l (zB l) := by
 unfold nW.draw at h
 split at h
 ·cases h
 ·rename_i k' l' hn
  cases h
  obtain ⟨e, h2⟩ := Rn hn
  subst e
  exact ⟨rfl, h2⟩
theorem wO {x : nW} {kind n : Int} (h : x.k.Ok) : (x.draw kind n).1.k.Ok := by
 unfold nW.draw
 have := Uw (kind := kind) (m := kP n) h
 split
 ·rename_i k' v hn; rw [hn] at this; exact this
 ·rename_i k' v hn; rw [hn] at this; exact this
theorem lR {x x' : nW} {kind n v : Int} (hok : x.k.Ok) (h : x.draw kind n = (x', .num v)) : 0 ≤ v ∧ v < kP n ∧ x'.taken = x.taken ++ [(kind, v)] := by
 unfold nW.draw at h
 split at h
 ·rename_i k' v' hn
  cases h
  have := BC hok (BB n) hn
  exact ⟨this.1, this.2, rfl⟩
 ·cases h
def aT (m : Int) (x : Sc) (r : Int) : Sc :=
 let i := (aC x m).p
 { x.de i { aL x i with q := ((aL x i).q.ready r x.gl).1 } with gl := ((aL x i).q.ready r x.gl).2.1 }
def Sc.u6 (x : Sc) (m g : Int) (keep : Bool) (ready : List Int) : Sc × Ev :=
 if keep = true ∧ (aC x m).left - 1 ≠ 0 then (x.jD m { aC x m with left := (aC x m).left - 1 }, ⟨7, m, g, ready⟩)
 else ({ x.jD m { aC x m with left := (aC x m).left - 1, g := -1 } with gl := if (aq x.w g).st = 1 then x.gl ++ [g] else x.gl }, ⟨7, m, g, ready⟩)
def BI (p : cu) (x : Sc) (m : Int) : Prop := 0 ≤ m ∧ m < x.ms.length ∧ 0 ≤ (aC x m).p ∧ (aC x m).p < x.ps.length ∧ x.gl.length ≤ 1000000 ∧ x.d.taken.length < 100000000 ∧ 1 ≤ (aC x m).left ∧ (aC x m).left < 1000000000 ∧ 0 ≤ (aC x m).g
instance (p : cu) (x : Sc) (m : Int) : Decidable (BI p x m) := by unfold BI; infer_instance
def VG : Option (Int × Int) → Bool
 | none => true
 | some (_, n) => decide (n < 9223372036854775808)
def ji (x : Sc) (m g : Int) (d : nW) (y : Wd) (rest : Bool) : Option (Sc × tK) :=
 if y.ready.length ≤ 10000 ∧ g < y.gs.length then
  some (((y.ready.foldl (aT m) { x with w := y, d := d }).u6 m g (jg y g rest) y.ready).1, .ev ((y.ready.foldl (aT m) { x with w := y, d := d }).u6 m g (jg y g rest) y.ready).2)
 else none
def fH (d : nW) : Option (Int × Int) → nW × kF
 | none => (d, .num 0)
 | some (k, n) => d.draw k n
def Sc.run (p : cu) (x : Sc) (m : Int) : Option (Sc × tK) :=
 if BI p x m then
  if VG (asks p { x.w with ready := [] } (aC x m).g) then
   match yW p x.w (aC x m).g (fH x.d (asks p { x.w with ready := [] } (aC x m).g)).2 with
   | none => none
   | some (.dF l y, _) => some ({ x with w := y, d := (fH x.d (asks p { x.w with ready := [] } (aC x m).g)).1 }, .dF (zB l))
   | some (.on y, rest) => ji x m (aC x m).g (fH x.d (asks p { x.w with ready := [] } (aC x m).g)).1 y rest
   | some (.eV n y, rest) => ji x m (aC x m).g (fH x.d (asks p { x.w with ready := [] } (aC x m).g)).1 { y with end_ := 2, code := n } rest
  else none
 else none
def EW : Sc × tK → Sc × tK
 | (x, .ev e) => ({ x with steps := x.steps + 1 }, .ev e)
 | (x, .dF l) => (x, .dF l)
def z0 (x : Sc) : Prop := x.w.gs.length ≤ 1000000 ∧ x.c.M = x.ms.length ∧ x.ps.length ≤ 1000000 ∧ x.ms.length ≤ 1000000 ∧ x.d.taken.length < 10000000 ∧ 0 ≤ x.steps ∧ x.steps < 1000000000
instance (x : Sc) : Decidable (z0 x) := by unfold z0; infer_instance
def Sc.act (p : cu) (x : Sc) (m : Int) : Option (Sc × tK) :=
 if m = x.c.M then (if BE x then some (x.tick.1, .ev x.tick.2) else none)
 else if (aC x m).p = -1 then some ((x.hold m).1, .ev (x.hold m).2)
 else if (aC x m).g = -1 then (if yj x m then some (x.find m) else none)
 else x.run p m
def Sc.step (p : cu) (x : Sc) : Option (Sc × tK) :=
 if z0 x then
  if x.status ≠ 0 then some (x, .ev ⟨0, 0, 0, []⟩)
  else match x.d.draw 1 (x.c.M + 1) with
   | (d', .dF l) => some ({ x with d := d' }, .dF l)
   | (d', .num m) => (Sc.act p { x with d := d' } m).map EW
 else none
section
variable {R : Mem} {L L' L2 : List HP} {M : Mem} {K : Value → Mem → Prop} {Kp : List PanicEntry → Mem → Prop} {pa : PA} {p : cu} {b wb db : Nat} {x : Sc} {m i : Int}
theorem J7 (h : Hp R L M) [o : mo b L pa p wb db x L'] (hk : yj x m) (hd : x.d.k.Ok)
  (k : match (x.find m).2 with
   | .ev e => ∀ M', Hp R (ax (fO pa p wb db) b (x.find m).1 :: L') M' → K (Og e none 0) M'
   | .dF l => ∀ M', Hp R (ax (fO pa p wb db) b (x.find m).1 :: L') M' → Kp l M') : aa Tryz.prog 110 #[.pointer (some ⟨b, 0, none⟩), .int .i64 m] M K Kp := by
 refine tr ?_
 have hk' := hk
 obtain ⟨m0, m1, i0, i1, YN, ht0, ht1, yl, hP, hP2⟩ := hk'
 have BJ : x.d.Ok := ⟨hd, by omega⟩
 refine aj h ?_
 clear h
 intro k1 M h
 have h' := eu h (b := b)
 clear h
 obtain ⟨a, hl, h⟩ := h'
 obtain ⟨lb, hlb, j7, hrow⟩ := qZ (i := (aC x m).p) hl i0 i1
 have nK := rh m0 m1
 have m2 : m.toNat < x.ms.length := by omega
 obtain ⟨q, hq⟩ := h.bF (A := a.ap) (l := bT a.lb x.ps) (by rw [jX hl]; omega) (by decide)
 obtain ⟨q2, nV⟩ := h.bF (A := a.am) (l := x.ms) (by omega) (by decide)
 replace h : Hp R (gz (eo b wb db a x) x.gl :: ax (bj pa p) wb x.w :: ax (cI .nilFunc) db x.d :: cq (some ⟨q, 0, none⟩) a.cp (bT a.lb x.ps) :: bl bM a.lb (x.ps.map dG.q) :: cz (some ⟨q2, 0, none⟩) a.cm x.ms :: pt k1 [.int .i64 0, .int .i64 0, .int .i64 0, .slice none 0 0] 43 :: L') M := by
  unfold fN at h
  rw [show cq a.ap a.cp (bT a.lb x.ps) = cq (some ⟨q, 0, none⟩) a.cp (bT a.lb x.ps) from by rw [hq], show cz a.am a.cm x.ms = cz (some ⟨q2, 0, none⟩) a.cm x.ms from by rw [nV]] at h
  exact h.sub (by repeat (first | exact .refl | refine .cons (by repeat (first | exact .here | apply cW.there)) ?_ | apply Sub.drop))
 rw [LC h]
 refine aO ?_
 rw [y4 h]
 refine aO ⟨m0, m1, ?_⟩
 rw [nV]
 refine aY ?_
 refine aR (Src.at (h.src (A := some ⟨q2, 0, none⟩)) h (i := m.toNat) (j := 0) nK rfl (by show _ = 0 + (m.toNat * 3 + 0); simp)) ?_
 refine ⟨i0, i1, ?_⟩
 rw [hq]
 refine aY ?_
 refine aO ⟨m0, m1, aY ?_⟩
 refine aR (Src.at (h.src (A := some ⟨q2, 0, none⟩)) h (i := m.toNat) (j := 2) nK rfl (by show _ = 0 + (m.toNat * 3 + 2); omega)) ?_
 simp only [Nat.zero_add]
 have hno : ¬ (0 < (aC x m).left ∧ (aL x (aC x m).p).q.next ≠ -1) → (let y := (x.own (aC x m).p).1
   if (x.own (aC x m).p).2.2 = false ∧ 1 < x.c.P then match y.d.draw 2 x.c.P with
    | (d', .dF l) => ∀ M', Hp R (ax (fO pa p wb db) b { y with d := d' } :: L') M' → Kp l M'
    | (d', .num v) =>
     let y := { y with d := d' }
     let s := (aL y (aC x m).p).q.ej (aL y v).q
     let z := if v = (aC x m).p then y else (y.de (aC x m).p { aL y (aC x m).p with q := s.1 }).de v { aL y v with q := s.2.1 }
     let r := if v = (aC x m).p then (-1, false) else (s.2.2, jY (aL y v).q s.2.2)
     ∀ M', Hp R (ax (fO pa p wb db) b (z.bX m (aC x m).p 5 r.1 r.2).1 :: L') M' → K (Og (z.bX m (aC x m).p 5 r.1 r.2).2 none 0) M'
   else ∀ M', Hp R (ax (fO pa p wb db) b (y.bX m (aC x m).p 4 (x.own (aC x m).p).2.1 (x.own (aC x m).p).2.2).1 :: L') M' → K (Og (y.bX m (aC x m).p 4 (x.own (aC x m).p).2.1 (x.own (aC x m).p).2.2).2 none 0) M') := by
  intro hn
  unfold Sc.find at k
  dsimp only at k ⊢
  rw [if_neg hn] at k
  split
  ·rename_i hc
   rw [if_pos hc] at k
   split
   ·rename_i d' l yc
    rw [yc] at k
    exact k
   ·rename_i d' v yc
    rw [yc] at k
    dsimp only at k ⊢
    by_cases hv : v = (aC x m).p
    ·simp only [if_pos hv] at k ⊢
     exact k
    ·simp only [if_neg hv] at k ⊢
     exact k
  ·rename_i hc
   rw [if_neg hc] at k
   exact k
 refine aJ.2 ⟨fun hgt => ?_, fun hle => ?_⟩
 ·refine gH (Src.at (h.src (A := some ⟨q, 0, none⟩)) h (i := (aC x m).p.toNat) (j := 0) hrow rfl (by show _ = 0 + ((aC x m).p.toNat * 3 + 0); simp)) ?_
  have hqi : (x.ps.map dG.q)[(aC x m).p.toNat]? = some (aL x (aC x m).p).q := by rw [List.getElem?_map, j7]; rfl
  have h3 := h.cH bM hlb hqi
  refine Be h3 ?_
  refine bW ?_
  refine ⟨fun vs M => vs = [] ∧ (aL x (aC x m).p).q.next = -1 ∧ Hp R (gz (eo b wb db a x) x.gl :: ax (bj pa p) wb x.w :: ax (cI .nilFunc) db x.d :: cq (some ⟨q, 0, none⟩) a.cp (bT a.lb x.ps) :: bl bM a.lb (x.ps.map dG.q) :: cz (some ⟨q2, 0, none⟩) a.cm x.ms :: pt k1 [.int .i64 0, .int .i64 0, .int .i64 0, .slice none 0 0] 43 :: L') M, ?_, ?_⟩
  ·refine fy.2 ⟨fun hne => ?_, fun heq => ⟨rfl, by simpa using heq, h⟩⟩
   clear h3
   unfold Sc.find at k
   dsimp only at k
   rw [if_pos ⟨by omega, hne⟩] at k
   dsimp only at k
   refine gH (Src.at (h.src (A := some ⟨q, 0, none⟩)) h (i := (aC x m).p.toNat) (j := 0) hrow rfl (by show _ = 0 + ((aC x m).p.toNat * 3 + 0); simp)) ?_
   rw [show M.ld ⟨b, 6, none⟩ = some (.slice a.am x.ms.length a.cm) from y4 h]
   refine aO ?_
   replace h := h.cH bM hlb hqi
   refine Du h (b := lb) ?_
   clear h; intro t M _ _ h
   refine ⟨_, _, rfl, ?_⟩
   replace h := h.eA bM lb hlb (by rw [List.length_map]; omega)
   replace h : Hp R (gz (eo b wb db a x) x.gl :: ax (bj pa p) wb x.w :: ax (cI .nilFunc) db x.d :: cq (some ⟨q, 0, none⟩) a.cp (bT a.lb x.ps) :: bl bM a.lb ((x.ps.map dG.q).set (aC x m).p.toNat (aL x (aC x m).p).q.get.1) :: cz (some ⟨q2, 0, none⟩) a.cm x.ms :: pt k1 [.int .i64 0, .int .i64 0, .int .i64 0, .slice none 0 0] 43 :: L') M := h.sub (by repeat (first | exact .refl | refine .cons (by repeat (first | exact .here | apply cW.there)) ?_ | apply Sub.drop))
   refine ⟨y4 h, m0, m1, ?_⟩
   rw [nV]
   refine aY ?_
   refine iE (E := gp) (a' := ⟨(aC x m).p, (aL x (aC x m).p).q.get.2, (aC x m).left⟩) m.toNat 1 h nK (by decide) rfl (by show _ = m.toNat * 3 + 1; omega) ?_
   clear h; intro M h
   replace h : Hp R (gz (eo b wb db a x) x.gl :: ax (bj pa p) wb x.w :: ax (cI .nilFunc) db x.d :: cq (some ⟨q, 0, none⟩) a.cp (bT a.lb x.ps) :: bl bM a.lb ((x.ps.map dG.q).set (aC x m).p.toNat (aL x (aC x m).p).q.get.1) :: cz (some ⟨q2, 0, none⟩) a.cm (x.ms.set m.toNat ⟨(aC x m).p, (aL x (aC x m).p).q.get.2, (aC x m).left⟩) :: pt k1 [.int .i64 0, .int .i64 0, .int .i64 0, .slice none 0 0] 43 :: L') M := h.sub (by repeat (first | exact .refl | refine .cons (by repeat (first | exact .here | apply cW.there)) ?_ | apply Sub.drop))
   refine ⟨by have := y4 h; rw [nV] at this; exact this, ?_⟩
   rw [show M.ld ⟨b, 6, none⟩ = some (.slice a.am x.ms.length a.cm) from y4 h, nV]
   refine aO ⟨m0, m1, aY ?_⟩
   refine aR (Src.at (h.src (A := some ⟨q2, 0, none⟩)) h (i := m.toNat) (j := 1) (a := ⟨(aC x m).p, (aL x (aC x m).p).q.get.2, (aC x m).left⟩) (by simp [m2]) rfl (by show _ = 0 + (m.toNat * 3 + 1); omega)) ?_
   dsimp only
   refine qX h ?_
   clear h; intro M h
   refine qY h ?_
   have e1 : bT a.lb (x.de (aC x m).p { aL x (aC x m).p with q := (aL x (aC x m).p).q.get.1 }).ps = bT a.lb x.ps := BH j7 rfl rfl
   have e2 : ((x.de (aC x m).p { aL x (aC x m).p with q := (aL x (aC x m).p).q.get.1 }).ps).map dG.q = (x.ps.map dG.q).set (aC x m).p.toNat (aL x (aC x m).p).q.get.1 := by simp [Sc.de, List.map_set]
   have h9 : Hp R (gz (eo b wb db a ((x.de (aC x m).p { aL x (aC x m).p with q := (aL x (aC x m).p).q.get.1 }).jD m { aC x m with g := (aL x (aC x m).p).q.get.2 })) x.gl :: ax (bj pa p) wb x.w :: ax (cI .nilFunc) db x.d :: cq a.ap a.cp (bT a.lb ((x.de (aC x m).p { aL x (aC x m).p with q := (aL x (aC x m).p).q.get.1 }).jD m { aC x m with g := (aL x (aC x m).p).q.get.2 }).ps) :: bl bM a.lb (((x.de (aC x m).p { aL x (aC x m).p with q := (aL x (aC x m).p).q.get.1 }).jD m { aC x m with g := (aL x (aC x m).p).q.get.2 }).ps.map dG.q) :: cz a.am a.cm (x.ms.set m.toNat ⟨(aC x m).p, (aL x (aC x m).p).q.get.2, (aC x m).left⟩) :: L') M := by
    rw [BG, BF]
    show Hp R (_ :: _ :: _ :: cq a.ap a.cp (bT a.lb (x.de (aC x m).p { aL x (aC x m).p with q := (aL x (aC x m).p).q.get.1 }).ps) :: bl bM a.lb ((x.de (aC x m).p { aL x (aC x m).p with q := (aL x (aC x m).p).q.get.1 }).ps.map dG.q) :: _) M
    rw [e1, e2, hq, nV]
    exact h.sub (by repeat (first | exact .refl | refine .cons (by repeat (first | exact .here | apply cW.there)) ?_ | apply Sub.drop))
   exact k _ (gO (a := a) (x := (x.de (aC x m).p { aL x (aC x m).p with q := (aL x (aC x m).p).q.get.1 }).jD m { aC x m with g := (aL x (aC x m).p).q.get.2 }) (by simpa [Sc.de, Sc.jD] using hl) h9)
  ·clear h h3
   rintro _ M ⟨_, hnx, h⟩
   exact DJ h hq nV hl hk rfl BJ (hno (fun hc => hc.2 hnx))
 ·refine ⟨fun vs M => vs = [] ∧ Hp R (gz (eo b wb db a x) x.gl :: ax (bj pa p) wb x.w :: ax (cI .nilFunc) db x.d :: cq (some ⟨q, 0, none⟩) a.cp (bT a.lb x.ps) :: bl bM a.lb (x.ps.map dG.q) :: cz (some ⟨q2, 0, none⟩) a.cm x.ms :: pt k1 [.int .i64 0, .int .i64 0, .int .i64 0, .slice none 0 0] 43 :: L') M, ⟨rfl, h⟩, ?_⟩
  clear h
  rintro _ M ⟨_, h⟩
  exact DJ h hq nV hl hk rfl BJ (hno (fun hc => hle (by omega)))
end
theorem DM {p : cu} {x : Wd} {k v : Int} {l : List PanicEntry} {y : Wd} : x.put p k v ≠ .dF l y := by
 unfold Wd.put; dsimp only; split <;> simp
theorem Ka {p : cu} {x : Wd} {g : Int} {i : cN} {l : List PanicEntry} {y : Wd} (h : oL p x g i = some (.dF l y)) : False := by
 unfold oL at h
 by_cases e : i.op = 10
 ·rw [if_pos e] at h; obtain ⟨_, h⟩ := c9 h; cases h
 rw [if_neg e] at h; clear e
 by_cases e : i.op = 11
 ·rw [if_pos e] at h; obtain ⟨_, h⟩ := c9 h; unfold Wd.spawn at h; split at h <;> cases h
 rw [if_neg e] at h; clear e
 by_cases e : i.op = 13
 ·rw [if_pos e] at h; obtain ⟨_, h⟩ := c9 h
  unfold Wd.send at h
  split at h
  ·cases h
  ·rename_i hp; exact DM hp
  ·cases h
  ·cases h
 rw [if_neg e] at h; clear e
 by_cases e : i.op = 14
 ·rw [if_pos e] at h; obtain ⟨_, h⟩ := c9 h; cases h
 rw [if_neg e] at h; clear e
 by_cases e : i.op = 15
 ·rw [if_pos e] at h; obtain ⟨_, h⟩ := c9 h; unfold Wd.shut at h; dsimp only at h; split at h
  ·cases h
  ·split at h <;> cases h
 rw [if_neg e] at h; clear e
 by_cases e : i.op = 20
 ·rw [if_pos e] at h; obtain ⟨_, h⟩ := c9 h; unfold Wd.emit at h; split at h <;> cases h
 rw [if_neg e] at h; clear e
 by_cases e : i.op = 9
 ·rw [if_pos e] at h; obtain ⟨_, h⟩ := c9 h; unfold Wd.call at h; split at h <;> cases h
 rw [if_neg e] at h; clear e
 by_cases e : i.op = 12
 ·rw [if_pos e] at h; cases h
 rw [if_neg e] at h; clear e
 by_cases e : i.op = 17
 ·rw [if_pos e] at h; obtain ⟨_, h⟩ := c9 h; cases h
 rw [if_neg e] at h; clear e
 by_cases e : i.op = 18
 ·rw [if_pos e] at h; obtain ⟨_, h⟩ := c9 h; cases h
 rw [if_neg e] at h; clear e
 by_cases e : i.op = 19
 ·rw [if_pos e] at h; obtain ⟨_, h⟩ := c9 h; unfold Wd.unlock at h; split at h
  ·cases h
  ·split at h <;> cases h
 rw [if_neg e] at h; clear e
 by_cases e : i.op = 22
 ·rw [if_pos e] at h; cases h
 rw [if_neg e] at h; cases h
theorem DN {p : cu} {x : Wd} {g : Int} {d : kF} {l : List PanicEntry} {y : Wd} {rest : Bool} (h : yW p x g d = some (.dF l y, rest)) : d = .dF l ∧ y = { x with ready := [] } := by
 unfold yW at h
 dsimp only at h
 split at h
 ·split at h
  ·split at h
   ·cases h
   ·split at h
    ·cases h
    ·split at h
     ·split at h <;> cases h
     ·split at h
      ·split at h
       ·split at h
        ·rename_i hc
         simp only [Option.some.injEq, Prod.mk.injEq] at h
         obtain ⟨h, _⟩ := h
         unfold Wd.choose at h
         split at h
         ·cases h
         ·cases d with
          | dF l' => cases h; exact ⟨rfl, rfl⟩
          | num v =>
           dsimp only at h
           unfold Wd.qQ at h
           dsimp only at h
           split at h
           ·split at h
            ·cases h
            ·rename_i hp; exact absurd hp DM
            ·cases h
           ·cases h
        ·cases h
       ·cases h
      ·split at h
       ·split at h
        ·split at h
         ·simp only [Option.some.injEq, Prod.mk.injEq] at h
          obtain ⟨h, _⟩ := h
          cases d with
          | dF l' => cases h; exact ⟨rfl, rfl⟩
          | num v => cases h
         ·cases h
        ·cases h
       ·split at h
        ·cases h
        ·rename_i r hd
         split at h
         ·simp only [Option.some.injEq, Prod.mk.injEq] at h
          obtain ⟨h, _⟩ := h
          subst h
          exact (Ka hd).elim
         ·cases h
  ·cases h
 ·cases h
theorem NP {q : Loc} {r : Int} {gl : List Int} : (q.ready r gl).2.1.length ≤ gl.length + q.l.length + 1 := by
 unfold Loc.ready
 split
 ·dsimp only; omega
 ·unfold Loc.put
  dsimp only
  split
  ·dsimp only; omega
  ·dsimp only; simp; omega
section
variable {R : Mem} {L L' L2 : List HP} {M : Mem} {K : Value → Mem → Prop} {Kp : List PanicEntry → Mem → Prop} {pa : PA} {p : cu} {b wb db : Nat} {x : Sc} {m i : Int} {a : SA}
abbrev BK (dS : Nat) (kp : Bool) (A : Option Addr) (n c : Nat) : HP := pt dS [.bool kp, .slice A n c] 250
theorem Hw {q2 k1 dS c : Nat} {g : Int} {kp : Bool} {A : Option Addr} {rd : List Int}
  (h : Hp R (gz (eo b wb db a x) x.gl :: ax (bj pa p) wb x.w :: ax (cI .nilFunc) db x.d :: cq a.ap a.cp (bT a.lb x.ps) :: bl bM a.lb (x.ps.map dG.q) :: cz (some ⟨q2, 0, none⟩) a.cm (x.ms.set m.toNat { aC x m with left := (aC x m).left - 1 }) :: BK dS kp A rd.length c :: pt k1 [.int .i64 0, .int .i64 0, .int .i64 0, .slice none 0 0] 43 :: L') M)
  (LB : a.am = some ⟨q2, 0, none⟩) (hl : a.lb.length = x.ps.length) (m0 : 0 ≤ m) (m1 : m < x.ms.length) (g0 : 0 ≤ g) (g1 : g < x.w.gs.length) (YN : x.gl.length ≤ 100000000)
  (k : ∀ M', Hp R (ax (fO pa p wb db) b { x.jD m { aC x m with left := (aC x m).left - 1, g := -1 } with gl := if (aq x.w g).st = 1 then x.gl ++ [g] else x.gl } :: L') M' → K (Og ⟨7, m, g, rd⟩ A c) M') :
  aN M ⟨q2, ((m.toNat * 3) + 1), none⟩ (.int .i64 (-1)) fun sF =>
  cv (Mem.ld sF ⟨b, 0, none⟩) fun Oc =>
  aa Tryz.prog 119 #[(.pointer Oc), (.int .i64 g)] sF (fun Mu zO =>
  aK (some Mu) .i64 fun Fi =>
  aQ (Fi == 1)
   (aW zO (.cells #[(.int .i64 g)] 3 (0, 0)) fun um I0 =>
   aa Tryz.prog 58 #[(.pointer (some ⟨b, (0 + 7), none⟩)), (.slice (some ⟨um, 0, none⟩) 1 1)] I0 (fun Jg l8 =>
   (Jg = (.tuple #[])) ∧
   az (Mem.ld l8 ⟨dS, (0 + 1), none⟩) fun Pp AI BY =>
   aN l8 ⟨k1, 0, none⟩ (.int .i64 7) fun B4 =>
   aN B4 ⟨k1, (0 + 1), none⟩ (.int .i64 m) fun F4 =>
   aN F4 ⟨k1, (0 + 2), none⟩ (.int .i64 g) fun Dd =>
   aN Dd ⟨k1, (0 + 3), none⟩ (.slice Pp AI BY) fun wS =>
   aK (Mem.ld wS ⟨k1, 0, none⟩) .i64 fun F5 =>
   aK (Mem.ld wS ⟨k1, (0 + 1), none⟩) .i64 fun n64 =>
   aK (Mem.ld wS ⟨k1, (0 + 2), none⟩) .i64 fun vL =>
   az (Mem.ld wS ⟨k1, (0 + 3), none⟩) fun PJ xD KZ =>
   K (.agg #[(.int .i64 F5), (.int .i64 n64), (.int .i64 vL), (.slice PJ xD KZ)]) wS) Kp)
   (az (Mem.ld zO ⟨dS, (0 + 1), none⟩) fun A69 KX KY =>
   aN zO ⟨k1, 0, none⟩ (.int .i64 7) fun N9 =>
   aN N9 ⟨k1, (0 + 1), none⟩ (.int .i64 m) fun Fl =>
   aN Fl ⟨k1, (0 + 2), none⟩ (.int .i64 g) fun Gf =>
   aN Gf ⟨k1, (0 + 3), none⟩ (.slice A69 KX KY) fun xH =>
   aK (Mem.ld xH ⟨k1, 0, none⟩) .i64 fun F6 =>
   aK (Mem.ld xH ⟨k1, (0 + 1), none⟩) .i64 fun zh =>
   aK (Mem.ld xH ⟨k1, (0 + 2), none⟩) .i64 fun AP =>
   az (Mem.ld xH ⟨k1, (0 + 3), none⟩) fun MC Gk Jb =>
   K (.agg #[(.int .i64 F6), (.int .i64 zh), (.int .i64 AP), (.slice MC Gk Jb)]) xH)) Kp := by
 have nK := rh m0 m1
 have m2 : m.toNat < x.ms.length := by omega
 refine iE (E := gp) (a := { aC x m with left := (aC x m).left - 1 }) (a' := ⟨(aC x m).p, -1, (aC x m).left - 1⟩) m.toNat 1 h (by simp [m2]) (by decide) rfl (by show _ = m.toNat * 3 + 1; omega) ?_
 clear h; intro M h
 rw [iY] at h
 replace h : Hp R (gz (eo b wb db a x) x.gl :: ax (bj pa p) wb x.w :: ax (cI .nilFunc) db x.d :: cq a.ap a.cp (bT a.lb x.ps) :: bl bM a.lb (x.ps.map dG.q) :: cz (some ⟨q2, 0, none⟩) a.cm (x.ms.set m.toNat ⟨(aC x m).p, -1, (aC x m).left - 1⟩) :: BK dS kp A rd.length c :: pt k1 [.int .i64 0, .int .i64 0, .int .i64 0, .slice none 0 0] 43 :: L') M := h.sub bp
 rw [sc_w h]
 refine gY ?_
 refine wG h g0 g1 ?_
 refine bW ?_
 have fin : ∀ (NQ : List Int) (M : Mem), NQ = (if (aq x.w g).st = 1 then x.gl ++ [g] else x.gl) → Hp R (gz (eo b wb db a x) NQ :: ax (bj pa p) wb x.w :: ax (cI .nilFunc) db x.d :: cq a.ap a.cp (bT a.lb x.ps) :: bl bM a.lb (x.ps.map dG.q) :: cz (some ⟨q2, 0, none⟩) a.cm (x.ms.set m.toNat ⟨(aC x m).p, -1, (aC x m).left - 1⟩) :: BK dS kp A rd.length c :: pt k1 [.int .i64 0, .int .i64 0, .int .i64 0, .slice none 0 0] 43 :: L') M →
   az (Mem.ld M ⟨dS, (0 + 1), none⟩) fun Pp AI BY => aN M ⟨k1, 0, none⟩ (.int .i64 7) fun B4 => aN B4 ⟨k1, (0 + 1), none⟩ (.int .i64 m) fun F4 => aN F4 ⟨k1, (0 + 2), none⟩ (.int .i64 g) fun Dd => aN Dd ⟨k1, (0 + 3), none⟩ (.slice Pp AI BY) fun wS =>
   aK (Mem.ld wS ⟨k1, 0, none⟩) .i64 fun F5 => aK (Mem.ld wS ⟨k1, (0 + 1), none⟩) .i64 fun n64 => aK (Mem.ld wS ⟨k1, (0 + 2), none⟩) .i64 fun vL => az (Mem.ld wS ⟨k1, (0 + 3), none⟩) fun PJ xD KZ =>
   K (.agg #[(.int .i64 F5), (.int .i64 n64), (.int .i64 vL), (.slice PJ xD KZ)]) wS := by
  intro NQ M hgl' h
  refine aF h ?_
  refine qX h ?_
  clear h; intro M h
  refine qY h ?_
  refine k _ (gO (a := a) (x := { x.jD m { aC x m with left := (aC x m).left - 1, g := -1 } with gl := if (aq x.w g).st = 1 then x.gl ++ [g] else x.gl }) hl ?_)
  rw [← hgl']
  have e1 : eo b wb db a { x.jD m { aC x m with left := (aC x m).left - 1, g := -1 } with gl := NQ } = eo b wb db a x := BG (x := x)
  rw [e1]
  show Hp R (_ :: _ :: _ :: _ :: _ :: cz a.am a.cm (x.ms.set m.toNat ⟨(aC x m).p, -1, (aC x m).left - 1⟩) :: _) M
  rw [LB]
  exact h.sub bp
 refine aV.2 ⟨fun e1 => ?_, fun e1 => ?_⟩
 ·refine aj h ?_
  clear h; intro um M h
  replace h := (h.pt um).gu (E := br) (l := [g]) rfl
  replace h : Hp R (gz (eo b wb db a x) x.gl :: iZ (some ⟨um, 0, none⟩) 1 [g] :: ax (bj pa p) wb x.w :: ax (cI .nilFunc) db x.d :: cq a.ap a.cp (bT a.lb x.ps) :: bl bM a.lb (x.ps.map dG.q) :: cz (some ⟨q2, 0, none⟩) a.cm (x.ms.set m.toNat ⟨(aC x m).p, -1, (aC x m).left - 1⟩) :: BK dS kp A rd.length c :: pt k1 [.int .i64 0, .int .i64 0, .int .i64 0, .slice none 0 0] 43 :: L') M := h.sub bp
  refine oJ (P := eo b wb db a x) y3 h (Src.row (A := some ⟨um, 0, none⟩)) rfl (by simp; omega) ?_
  clear h; intro M h
  refine ⟨rfl, ?_⟩
  exact fin _ M (by rw [if_pos e1]) (h.sub bp)
 ·exact fin _ M (by rw [if_neg e1]) h
theorem jE {m : Int} : ∀ (l : List Int) (z : Sc), 0 ≤ (aC z m).p → (aC z m).p < z.ps.length → (l.foldl (aT m) z).ms = z.ms ∧ (l.foldl (aT m) z).ps.length = z.ps.length ∧ (l.foldl (aT m) z).w = z.w ∧ (l.foldl (aT m) z).d = z.d ∧ (l.foldl (aT m) z).c = z.c ∧ (l.foldl (aT m) z).steps = z.steps ∧ ∀ bs, bT bs (l.foldl (aT m) z).ps = bT bs z.ps
 | [], z, _, _ => ⟨rfl, rfl, rfl, rfl, rfl, rfl, fun _ => rfl⟩
 | r :: l, z, h0, h1 => by
  have hp : z.ps[(aC z m).p.toNat]? = some (aL z (aC z m).p) := by
   obtain ⟨y, hy⟩ := aM (l := z.ps) (i := (aC z m).p.toNat) (by omega)
   have e : aL z (aC z m).p = y := by simp [aL, hy]
   rw [e]; exact hy
  have hms : (aT m z r).ms = z.ms := rfl
  have hps : (aT m z r).ps.length = z.ps.length := by simp [aT, Sc.de]
  have nK : aC (aT m z r) m = aC z m := rfl
  obtain ⟨a1, a2, a3, a4, a5, a6, a7⟩ := jE l (aT m z r) (by rw [nK]; exact h0) (by rw [nK, hps]; exact h1)
  refine ⟨a1, by rw [List.foldl_cons, a2, hps], a3, a4, a5, a6, fun bs => ?_⟩
  rw [List.foldl_cons, a7]
  exact BH hp rfl rfl
end
def Ro (R : Mem) (pa : PA) (p : cu) (b wb db : Nat) (L' : List HP) (K : Value → Mem → Prop) (Kp : List PanicEntry → Mem → Prop) (y : Sc) : tK → Prop
 | .ev e => ∀ R' A c M', R.le R' → RS br R' A c e.ready → Hp R' (ax (fO pa p wb db) b y :: L') M' → K (Og e A c) M'
 | .dF l => ∀ M', Hp R (ax (fO pa p wb db) b y :: L') M' → Kp l M'
section
variable {R : Mem} {L L' L2 : List HP} {M : Mem} {K : Value → Mem → Prop} {Kp : List PanicEntry → Mem → Prop} {pa : PA} {p : cu} {b wb db : Nat} {x : Sc} {m i : Int} {a : SA}
theorem Kb {A : Option Addr} {q o : Nat} {G : Nat → Nat → Prop} (e : A = some ⟨q, o, none⟩) (g : G q o) : aE A G := by subst e; exact aY g
theorem Hx {q2 k1 c : Nat} {g : Int} {kp : Bool} {A : Option Addr} {w : Wd} {d' : nW} {rest : Bool} {y : Sc} {o : tK}
  (h : Hp R (gz (eo b wb db a x) x.gl :: ax (bj pa p) wb w :: ax (cI .nilFunc) db d' :: cq a.ap a.cp (bT a.lb x.ps) :: bl bM a.lb (x.ps.map dG.q) :: cz (some ⟨q2, 0, none⟩) a.cm x.ms :: pt k1 [.int .i64 0, .int .i64 0, .int .i64 0, .slice none 0 0] 43 :: L') M)
  (zy : RS br R A c w.ready) (LB : a.am = some ⟨q2, 0, none⟩) (hl : a.lb.length = x.ps.length) (hpre : BI p x m) (hg : g = (aC x m).g) (hkp : kp = jg w g rest) (he : ji x m g d' w rest = some (y, o)) (k : Ro R pa p b wb db L' K Kp y o) :
  ∃ t13 : Bool, ∃ jo : Option Addr, ∃ gj : Nat, ∃ dK : Nat, ((Value.agg #[.bool kp, .slice A w.ready.length c]) = (.agg #[(.bool t13), (.slice jo gj dK)])) ∧
aW M (.cells #[(.bool false), (.slice none 0 0)] 250 (0, 0)) fun dS nU =>
aN nU ⟨dS, 0, none⟩ (.bool t13) fun iN =>
aN iN ⟨dS, (0 + 1), none⟩ (.slice jo gj dK) fun kX =>
az (Mem.ld kX ⟨dS, (0 + 1), none⟩) fun xB g6 iI =>
∃ Xy : Nat → List Value → Mem → Prop, (∃ nj : Nat, Xy nj [(.int .i64 0)] kX) ∧
∀ lV : Nat, ∀ Xz : Nat → Value, ∀ rM : Int, ∀ kf : Mem, (Xy lV [(.int .i64 rM)] kf) → aQ (decide ((rM : Int) < ((g6 : Nat) : Int)))
 (((0 : Int) ≤ rM) ∧
 ((rM : Int) < ((g6 : Nat) : Int)) ∧
 aE xB fun kZ lZ =>
 aK (Mem.ld kf ⟨kZ, (lZ + (Int.toNat rM)), none⟩) .i64 fun n32 =>
 az (Mem.ld kf ⟨b, (0 + 5), none⟩) fun F2 sq yH =>
 aK (Mem.ld kf ⟨q2, (m.toNat * 3), none⟩) .i64 fun zj =>
 ((0 : Int) ≤ zj) ∧
 ((zj : Int) < ((sq : Nat) : Int)) ∧
 aE F2 fun pg gm =>
 cv (Mem.ld kf ⟨pg, (gm + ((Int.toNat zj) * 3)), none⟩) fun HT =>
 aa Tryz.prog 152 #[(.pointer HT), (.int .i64 n32), (.pointer (some ⟨b, (0 + 7), none⟩))] kf (fun Ge uw =>
 aK (some Ge) .i64 fun Dh =>
 ∃ nR : Nat, (nR < lV) ∧
 Xy nR [(.int .i64 (IntKind.wrap .i64 (rM + 1)))] uw) Kp)
 (aK (Mem.ld kf ⟨q2, ((m.toNat * 3) + 2), none⟩) .i64 fun Di =>
 aN kf ⟨q2, ((m.toNat * 3) + 2), none⟩ (.int .i64 (IntKind.wrap .i64 (Di - 1))) fun vk =>
 dH (Mem.ld vk ⟨dS, 0, none⟩) fun t46 =>
 aQ (!t46)
  (aN vk ⟨q2, ((m.toNat * 3) + 1), none⟩ (.int .i64 (-1)) fun sF =>
  cv (Mem.ld sF ⟨b, 0, none⟩) fun Oc =>
  aa Tryz.prog 119 #[(.pointer Oc), (.int .i64 g)] sF (fun Mu zO =>
  aK (some Mu) .i64 fun Fi =>
  aQ (Fi == 1)
   (aW zO (.cells #[(.int .i64 g)] 3 (0, 0)) fun um I0 =>
   aa Tryz.prog 58 #[(.pointer (some ⟨b, (0 + 7), none⟩)), (.slice (some ⟨um, 0, none⟩) 1 1)] I0 (fun Jg l8 =>
   (Jg = (.tuple #[])) ∧
   az (Mem.ld l8 ⟨dS, (0 + 1), none⟩) fun Pp AI BY =>
   aN l8 ⟨k1, 0, none⟩ (.int .i64 7) fun B4 =>
   aN B4 ⟨k1, (0 + 1), none⟩ (.int .i64 m) fun F4 =>
   aN F4 ⟨k1, (0 + 2), none⟩ (.int .i64 g) fun Dd =>
   aN Dd ⟨k1, (0 + 3), none⟩ (.slice Pp AI BY) fun wS =>
   aK (Mem.ld wS ⟨k1, 0, none⟩) .i64 fun F5 =>
   aK (Mem.ld wS ⟨k1, (0 + 1), none⟩) .i64 fun n64 =>
   aK (Mem.ld wS ⟨k1, (0 + 2), none⟩) .i64 fun vL =>
   az (Mem.ld wS ⟨k1, (0 + 3), none⟩) fun PJ xD KZ =>
   K (.agg #[(.int .i64 F5), (.int .i64 n64), (.int .i64 vL), (.slice PJ xD KZ)]) wS) Kp)
   (az (Mem.ld zO ⟨dS, (0 + 1), none⟩) fun A69 KX KY =>
   aN zO ⟨k1, 0, none⟩ (.int .i64 7) fun N9 =>
   aN N9 ⟨k1, (0 + 1), none⟩ (.int .i64 m) fun Fl =>
   aN Fl ⟨k1, (0 + 2), none⟩ (.int .i64 g) fun Gf =>
   aN Gf ⟨k1, (0 + 3), none⟩ (.slice A69 KX KY) fun xH =>
   aK (Mem.ld xH ⟨k1, 0, none⟩) .i64 fun F6 =>
   aK (Mem.ld xH ⟨k1, (0 + 1), none⟩) .i64 fun zh =>
   aK (Mem.ld xH ⟨k1, (0 + 2), none⟩) .i64 fun AP =>
   az (Mem.ld xH ⟨k1, (0 + 3), none⟩) fun MC Gk Jb =>
   K (.agg #[(.int .i64 F6), (.int .i64 zh), (.int .i64 AP), (.slice MC Gk Jb)]) xH)) Kp)
  (aK (Mem.ld vk ⟨q2, ((m.toNat * 3) + 2), none⟩) .i64 fun Oa =>
  aQ (Oa == 0)
   (aN vk ⟨q2, ((m.toNat * 3) + 1), none⟩ (.int .i64 (-1)) fun MB =>
   cv (Mem.ld MB ⟨b, 0, none⟩) fun A84 =>
   aa Tryz.prog 119 #[(.pointer A84), (.int .i64 g)] MB (fun v85 S0 =>
   aK (some v85) .i64 fun MO =>
   aQ (MO == 1)
    (aW S0 (.cells #[(.int .i64 g)] 3 (0, 0)) fun RY Gi =>
    aa Tryz.prog 58 #[(.pointer (some ⟨b, (0 + 7), none⟩)), (.slice (some ⟨RY, 0, none⟩) 1 1)] Gi (fun SS my =>
    (SS = (.tuple #[])) ∧
    az (Mem.ld my ⟨dS, (0 + 1), none⟩) fun Wx WI Wy =>
    aN my ⟨k1, 0, none⟩ (.int .i64 7) fun R9 =>
    aN R9 ⟨k1, (0 + 1), none⟩ (.int .i64 m) fun M96 =>
    aN M96 ⟨k1, (0 + 2), none⟩ (.int .i64 g) fun PC =>
    aN PC ⟨k1, (0 + 3), none⟩ (.slice Wx WI Wy) fun Fm =>
    aK (Mem.ld Fm ⟨k1, 0, none⟩) .i64 fun R8 =>
    aK (Mem.ld Fm ⟨k1, (0 + 1), none⟩) .i64 fun vM =>
    aK (Mem.ld Fm ⟨k1, (0 + 2), none⟩) .i64 fun Ph =>
    az (Mem.ld Fm ⟨k1, (0 + 3), none⟩) fun AQ nx Gq =>
    K (.agg #[(.int .i64 R8), (.int .i64 vM), (.int .i64 Ph), (.slice AQ nx Gq)]) Fm) Kp)
    (az (Mem.ld S0 ⟨dS, (0 + 1), none⟩) fun AR sW Gr =>
    aN S0 ⟨k1, 0, none⟩ (.int .i64 7) fun Gw =>
    aN Gw ⟨k1, (0 + 1), none⟩ (.int .i64 m) fun vN =>
    aN vN ⟨k1, (0 + 2), none⟩ (.int .i64 g) fun XA =>
    aN XA ⟨k1, (0 + 3), none⟩ (.slice AR sW Gr) fun oD =>
    aK (Mem.ld oD ⟨k1, 0, none⟩) .i64 fun xu =>
    aK (Mem.ld oD ⟨k1, (0 + 1), none⟩) .i64 fun IL =>
    aK (Mem.ld oD ⟨k1, (0 + 2), none⟩) .i64 fun Eh =>
    az (Mem.ld oD ⟨k1, (0 + 3), none⟩) fun XB MP XC =>
    K (.agg #[(.int .i64 xu), (.int .i64 IL), (.int .i64 Eh), (.slice XB MP XC)]) oD)) Kp)
   (az (Mem.ld vk ⟨dS, (0 + 1), none⟩) fun XD Gx XE =>
   aN vk ⟨k1, 0, none⟩ (.int .i64 7) fun XF =>
   aN XF ⟨k1, (0 + 1), none⟩ (.int .i64 m) fun XG =>
   aN XG ⟨k1, (0 + 2), none⟩ (.int .i64 g) fun Qi =>
   aN Qi ⟨k1, (0 + 3), none⟩ (.slice XD Gx XE) fun xL =>
   aK (Mem.ld xL ⟨k1, 0, none⟩) .i64 fun Ct =>
   aK (Mem.ld xL ⟨k1, (0 + 1), none⟩) .i64 fun MQ =>
   aK (Mem.ld xL ⟨k1, (0 + 2), none⟩) .i64 fun xJ =>
   az (Mem.ld xL ⟨k1, (0 + 3), none⟩) fun XH Gy XI =>
   K (.agg #[(.int .i64 Ct), (.int .i64 MQ), (.int .i64 xJ), (.slice XH Gy XI)]) xL))) := by
 obtain ⟨m0, m1, i0, i1, YN, yl, l1, l2, g0⟩ := hpre
 rw [← hg] at g0
 unfold ji at he
 split at he
 ·rename_i hc
  obtain ⟨hr, ZD⟩ := hc
  simp only [Option.some.injEq, Prod.mk.injEq] at he
  obtain ⟨Hy, yQ⟩ := he
  have nK := rh m0 m1
  have m2 : m.toNat < x.ms.length := by omega
  refine ⟨_, _, _, _, rfl, ?_⟩
  refine aj h ?_
  clear h; intro dS M h
  refine au h ?_
  clear h; intro M h
  refine au h ?_
  clear h; intro M h
  refine aF h ?_
  generalize EO : ({ x with w := w, d := d' } : Sc) = x1 at Hy yQ
  have q1 : x1.ps = x.ps := by rw [← EO]
  have ZE : x1.ms = x.ms := by rw [← EO]
  have q3 : x1.gl = x.gl := by rw [← EO]
  have q4 : x1.w = w := by rw [← EO]
  have q5 : x1.d = d' := by rw [← EO]
  have q6 : eo b wb db a x1 = eo b wb db a x := by rw [← EO]
  have q7 : aC x1 m = aC x m := by rw [← EO]; rfl
  have hf := jE (m := m) (l := w.ready) (z := x1) (by rw [q7]; exact i0) (by rw [q7, q1]; exact i1)
  rw [← q1, ← ZE, ← q3, ← q4, ← q5, ← q6] at h
  rw [← q4] at zy ZD hr
  rw [show w.ready = x1.w.ready from by rw [q4]] at Hy yQ hf ⊢
  clear EO
  have key : ∀ j, j ≤ x1.w.ready.length → ((x1.w.ready.take j).foldl (aT m) x1).ms = x1.ms ∧ ((x1.w.ready.take j).foldl (aT m) x1).ps.length = x1.ps.length ∧ ((x1.w.ready.take j).foldl (aT m) x1).w = x1.w ∧ ((x1.w.ready.take j).foldl (aT m) x1).d = x1.d ∧ ((x1.w.ready.take j).foldl (aT m) x1).c = x1.c ∧ ((x1.w.ready.take j).foldl (aT m) x1).steps = x1.steps ∧ ∀ bs, bT bs ((x1.w.ready.take j).foldl (aT m) x1).ps = bT bs x1.ps :=
   fun j _ => jE (m := m) (l := x1.w.ready.take j) (z := x1) (by rw [q7]; exact i0) (by rw [q7, q1]; exact i1)
  refine ⟨fun d vs M => ∃ j : Nat, vs = [.int .i64 (j : Int)] ∧ d = x1.w.ready.length - j ∧ j ≤ x1.w.ready.length ∧ ((x1.w.ready.take j).foldl (aT m) x1).gl.length ≤ 1000000 + 1030 * j ∧
    Hp R (gz (eo b wb db a x1) ((x1.w.ready.take j).foldl (aT m) x1).gl :: ax (bj pa p) wb x1.w :: ax (cI .nilFunc) db x1.d :: cq a.ap a.cp (bT a.lb x1.ps) :: bl bM a.lb (((x1.w.ready.take j).foldl (aT m) x1).ps.map dG.q) :: cz (some ⟨q2, 0, none⟩) a.cm x1.ms :: BK dS kp A x1.w.ready.length c :: pt k1 [.int .i64 0, .int .i64 0, .int .i64 0, .slice none 0 0] 43 :: L') M,
   ⟨_, 0, rfl, rfl, by omega, by rw [List.take_zero, List.foldl_nil, q3]; omega, h.sub bp⟩, ?_⟩
  clear h
  rintro d _ nn M ⟨j, he3, hd, hj, YP, h⟩
  simp only [List.cons.injEq, Value.int.injEq, and_true, true_and] at he3
  subst he3
  obtain ⟨z1, z2, z3, z4, z5, z6, z7⟩ := key j hj
  refine aJ.2 ⟨fun hlt => ?_, fun hge => ?_⟩
  ·obtain ⟨rv, hrv⟩ := aM (l := x1.w.ready) (i := j) (by omega)
   refine ⟨by omega, hlt, ?_⟩
   obtain ⟨rb, ro, hrb⟩ := zy.some (by omega) (by decide)
   have hrs2 := zy
   rw [hrb] at hrs2
   refine Kb hrb ?_
   simp only [Int.toNat_natCast]
   refine aR (Src.at (hrs2.src (L := _)) h (i := j) (j := 0) hrv rfl (by simp [br])) ?_
   have hstep : (x1.w.ready.take (j + 1)).foldl (aT m) x1 = aT m ((x1.w.ready.take j).foldl (aT m) x1) rv := by rw [bu hrv, List.foldl_append]; rfl
   generalize hz : (x1.w.ready.take j).foldl (aT m) x1 = z at h hstep z1 z2 z3 z4 z5 z6 z7 YP
   have hmz : aC z m = aC x m := by unfold aC; rw [z1, ZE]
   have hps : z.ps.length = x.ps.length := by rw [z2, q1]
   rw [LC h]
   refine aO ?_
   refine aR (Src.at (h.src (A := some ⟨q2, 0, none⟩)) h (i := m.toNat) (j := 0) (a := aC x m) (by rw [ZE]; exact nK) rfl (by show _ = 0 + (m.toNat * 3 + 0); simp)) ?_
   refine ⟨i0, by rw [q1]; exact i1, ?_⟩
   have hlz : a.lb.length = z.ps.length := by rw [hps]; exact hl
   obtain ⟨lb, hlb, j7, hrow⟩ := qZ (i := (aC x m).p) (x := z) hlz i0 (by rw [hps]; exact i1)
   rw [z7] at hrow
   obtain ⟨q, hq⟩ := h.bF (A := a.ap) (l := bT a.lb x1.ps) (by rw [jX (by rw [q1]; exact hl), q1]; omega) (by decide)
   have hs0 := (h.src (A := a.ap)) M h
   rw [hq] at hs0
   refine Kb hq ?_
   refine gH (Sl.at hs0 (i := (aC x m).p.toNat * 3 + 0) (by simp) (fP.iU (E := nI) hrow rfl)) ?_
   clear hs0
   have hqz : (z.ps.map dG.q)[(aC x m).p.toNat]? = some (aL z (aC x m).p).q := by rw [List.getElem?_map, j7]; rfl
   replace h := h.cH bM hlb hqz
   replace h : Hp R (ax bM lb (aL z (aC x m).p).q :: gz (eo b wb db a x1) z.gl :: mz bM a.lb (z.ps.map dG.q) (aC x m).p.toNat :: ax (bj pa p) wb x1.w :: ax (cI .nilFunc) db x1.d :: cq a.ap a.cp (bT a.lb x1.ps) :: cz (some ⟨q2, 0, none⟩) a.cm x1.ms :: BK dS kp A x1.w.ready.length c :: pt k1 [.int .i64 0, .int .i64 0, .int .i64 0, .slice none 0 0] 43 :: L') M := h.sub bp
   have hbd := xZ h (b := lb)
   have jn := NP (q := (aL z (aC x m).p).q) (r := rv) (gl := z.gl)
   refine GY (P := eo b wb db a x1) y3 h (by omega) ?_
   clear h; intro M h
   refine bW ?_
   replace h := h.eA bM lb hlb (by rw [List.length_map]; omega)
   refine ⟨x1.w.ready.length - (j + 1), by omega, j + 1, by rw [aP (by omega)], rfl, by omega, ?_, ?_⟩
   ·rw [hstep]
    unfold aT
    rw [hmz]
    dsimp only
    obtain ⟨b1, b2, b3⟩ := hbd
    omega
   ·rw [hstep]
    have e2 : (aT m z rv).ps.map dG.q = (z.ps.map dG.q).set (aC x m).p.toNat ((aL z (aC x m).p).q.ready rv z.gl).1 := by
     unfold aT; rw [hmz]; simp [Sc.de, List.map_set]
    have e3 : (aT m z rv).gl = ((aL z (aC x m).p).q.ready rv z.gl).2.1 := by unfold aT; rw [hmz]
    rw [e2, e3]
    exact h.sub bp
  ·have HO : j = x1.w.ready.length := by omega
   subst HO
   rw [List.take_length] at z1 z2 z3 z4 z5 z6 z7 YP h
   clear key hf
   generalize hrd : x1.w.ready = rd at *
   generalize hz : rd.foldl (aT m) x1 = z at h z1 z2 z3 z4 z5 z6 z7 YP Hy yQ
   have hmz : aC z m = aC x m := by unfold aC; rw [z1, ZE]
   have ez : eo b wb db a z = eo b wb db a x1 := by unfold eo eN; rw [z1, z2, z5, z6]
   have hlz : a.lb.length = z.ps.length := by rw [z2, q1]; exact hl
   rw [← ez, ← z3, ← z4, ← z7, ← z1] at h
   have hmcz : z.ms[m.toNat]? = some (aC z m) := rh m0 (by rw [z1, ZE]; exact m1)
   have m1z : m < z.ms.length := by rw [z1, ZE]; exact m1
   have m2z : m.toNat < z.ms.length := by omega
   rw [← hmz] at l1 l2
   refine aR (Src.at (h.src (A := some ⟨q2, 0, none⟩)) h (i := m.toNat) (j := 2) hmcz rfl (by show _ = 0 + (m.toNat * 3 + 2); omega)) ?_
   rw [dc (by omega) (by omega)]
   refine iE (E := gp) (a' := { aC z m with left := (aC z m).left - 1 }) m.toNat 2 h hmcz (by decide) rfl rfl ?_
   clear h; intro M h
   replace h : Hp R (gz (eo b wb db a z) z.gl :: ax (bj pa p) wb z.w :: ax (cI .nilFunc) db z.d :: cq a.ap a.cp (bT a.lb z.ps) :: bl bM a.lb (z.ps.map dG.q) :: cz (some ⟨q2, 0, none⟩) a.cm (z.ms.set m.toNat { aC z m with left := (aC z m).left - 1 }) :: BK dS kp A rd.length c :: pt k1 [.int .i64 0, .int .i64 0, .int .i64 0, .slice none 0 0] 43 :: L') M := h.sub bp
   refine FX h ?_
   have hgz : g < z.w.gs.length := by rw [z3]; exact ZD
   have park : (¬ (jg w g rest = true ∧ (aC z m).left - 1 ≠ 0)) → ∀ M', Hp R (ax (fO pa p wb db) b { z.jD m { aC z m with left := (aC z m).left - 1, g := -1 } with gl := if (aq z.w g).st = 1 then z.gl ++ [g] else z.gl } :: L') M' → K (Og ⟨7, m, g, rd⟩ A c) M' := by
    intro hno M' h'
    unfold Sc.u6 at Hy yQ
    rw [if_neg hno] at Hy yQ
    dsimp only at Hy yQ
    subst yQ
    exact k R A c M' (Mem.le_refl _) zy (by rw [← Hy]; exact h')
   cases hk : kp with
   | false =>
    subst hk
    refine ae ?_
    exact Hw h LB hlz m0 m1z g0 hgz (by omega) (park (fun hc => by rw [← hkp] at hc; cases hc.1))
   | true =>
    subst hk
    refine ai ?_
    refine aR (Src.at (h.src (A := some ⟨q2, 0, none⟩)) h (i := m.toNat) (j := 2) (a := { aC z m with left := (aC z m).left - 1 }) (by simp [m2z]) rfl (by show _ = 0 + (m.toNat * 3 + 2); omega)) ?_
    refine aV.2 ⟨fun e0 => ?_, fun e0 => ?_⟩
    ·exact Hw h LB hlz m0 m1z g0 hgz (by omega) (park (fun hc => hc.2 e0))
    ·refine aF h ?_
     refine qX h ?_
     clear h; intro M h
     refine qY h ?_
     unfold Sc.u6 at Hy yQ
     rw [if_pos ⟨hkp.symm, e0⟩] at Hy yQ
     dsimp only at Hy yQ
     subst yQ
     refine k R A c M (Mem.le_refl _) zy ?_
     rw [← Hy]
     refine gO (a := a) (x := z.jD m { aC z m with left := (aC z m).left - 1 }) hlz ?_
     rw [BG]
     show Hp R (_ :: _ :: _ :: _ :: _ :: cz a.am a.cm (z.ms.set m.toNat { aC z m with left := (aC z m).left - 1 }) :: _) M
     rw [LB]
     exact h.sub bp
 ·cases he
end
section
variable {R : Mem} {L L' L2 : List HP} {M : Mem} {K : Value → Mem → Prop} {Kp : List PanicEntry → Mem → Prop} {pa : PA} {p : cu} {b wb db : Nat} {x : Sc} {m i : Int}
theorem NR {y : Sc} {o : tK} (h : Hp R L M) [q : mo b L pa p wb db x L'] (hp : nB R pa p) (hd : x.d.k.Ok) (he : x.run p m = some (y, o)) (k : Ro R pa p b wb db L' K Kp y o) :
  aa Tryz.prog 111 #[.pointer (some ⟨b, 0, none⟩), .int .i64 m] M K Kp := by
 unfold Sc.run at he
 split at he
 ·rename_i hpre
  have hpre' := hpre
  obtain ⟨m0, m1, i0, i1, YN, yl, l1, l2, g0⟩ := hpre'
  split at he
  ·rename_i zA
   have BJ : x.d.Ok := ⟨hd, by omega⟩
   refine uM ?_
   refine aj h ?_
   clear h
   intro k1 M h
   have h' := eu h (b := b)
   clear h
   obtain ⟨a, hl, h⟩ := h'
   have nK := rh m0 m1
   obtain ⟨q2, nV⟩ := h.bF (A := a.am) (l := x.ms) (by omega) (by decide)
   replace h : Hp R (gz (eo b wb db a x) x.gl :: ax (bj pa p) wb x.w :: ax (cI .nilFunc) db x.d :: cq a.ap a.cp (bT a.lb x.ps) :: bl bM a.lb (x.ps.map dG.q) :: cz (some ⟨q2, 0, none⟩) a.cm x.ms :: pt k1 [.int .i64 0, .int .i64 0, .int .i64 0, .slice none 0 0] 43 :: L') M := by
    unfold fN at h
    rw [show cz a.am a.cm x.ms = cz (some ⟨q2, 0, none⟩) a.cm x.ms from by rw [nV]] at h
    exact h.sub bp
   rw [y4 h]
   refine aO ⟨m0, m1, ?_⟩
   refine Kb nV ?_
   refine aR (Src.at (h.src (A := some ⟨q2, 0, none⟩)) h (i := m.toNat) (j := 1) nK rfl (by show _ = 0 + (m.toNat * 3 + 1); omega)) ?_
   simp only [Nat.zero_add]
   rw [sc_w h]
   refine gY ?_
   rw [show M.ld ⟨b, 8, none⟩ = some (.pointer (some ⟨db, 0, none⟩)) from YM h]
   refine gY ⟨trivial, ?_⟩
   replace h : Hp R (ax (bj pa p) wb x.w :: ax (cI .nilFunc) db x.d :: gz (eo b wb db a x) x.gl :: cq a.ap a.cp (bT a.lb x.ps) :: bl bM a.lb (x.ps.map dG.q) :: cz (some ⟨q2, 0, none⟩) a.cm x.ms :: pt k1 [.int .i64 0, .int .i64 0, .int .i64 0, .slice none 0 0] 43 :: L') M := h.sub bp
   generalize Rp : (gz (eo b wb db a x) x.gl :: cq a.ap a.cp (bT a.lb x.ps) :: bl bM a.lb (x.ps.map dG.q) :: cz (some ⟨q2, 0, none⟩) a.cm x.ms :: pt k1 [.int .i64 0, .int .i64 0, .int .i64 0, .slice none 0 0] 43 :: L') = LL at h
   have hds : match asks p { x.w with ready := [] } (aC x m).g with
     | none => (ax (cI .nilFunc) db (fH x.d (asks p { x.w with ready := [] } (aC x m).g)).1 :: LL) = (ax (cI .nilFunc) db x.d :: LL)
     | some (kd, n) => jh R (.func (.func 107) #[.pointer (some ⟨db, 0, none⟩)] #[]) kd n (fH x.d (asks p { x.w with ready := [] } (aC x m).g)).2 (ax (cI .nilFunc) db x.d :: LL) (ax (cI .nilFunc) db (fH x.d (asks p { x.w with ready := [] } (aC x m).g)).1 :: LL) := by
    cases hak : asks p { x.w with ready := [] } (aC x m).g with
    | none => rfl
    | some kn =>
     obtain ⟨kd, n⟩ := kn
     rw [hak] at zA
     exact NL BJ (of_decide_eq_true zA) yl
   have JP : ∀ l, (fH x.d (asks p { x.w with ready := [] } (aC x m).g)).2 = .dF l → Dy l (zB l) := by
    intro l hl
    cases hak : asks p { x.w with ready := [] } (aC x m).g with
    | none => rw [hak] at hl; cases hl
    | some kn =>
     obtain ⟨kd, n⟩ := kn
     rw [hak] at hl
     exact (Hv (x' := (x.d.draw kd n).1) (by rw [← hl]; rfl)).2
   generalize yc : fH x.d (asks p { x.w with ready := [] } (aC x m).g) = dd at he hds JP
   obtain ⟨d', dr⟩ := dd
   dsimp only at he hds JP
   cases hex : yW p x.w (aC x m).g dr with
   | none => rw [hex] at he; cases he
   | some rr =>
    obtain ⟨r, rest⟩ := rr
    rw [hex] at he
    refine NF h hp ⟨_, _, _, rfl⟩ hex hds ?_
    cases r with
    | dF l w =>
     dsimp only at he
     simp only [Option.some.injEq, Prod.mk.injEq] at he
     obtain ⟨Hy, yQ⟩ := he
     obtain ⟨CF, hw⟩ := DN hex
     refine ⟨zB l, JP l CF, ?_⟩
     intro M h
     subst yQ
     refine k M ?_
     rw [← Hy]
     rw [← Rp] at h
     have h9 : Hp R (gz (eo b wb db a { x with w := w, d := d' }) x.gl :: ax (bj pa p) wb w :: ax (cI .nilFunc) db d' :: cq a.ap a.cp (bT a.lb x.ps) :: bl bM a.lb (x.ps.map dG.q) :: cz a.am a.cm x.ms :: L') M := by
      rw [show cz a.am a.cm x.ms = cz (some ⟨q2, 0, none⟩) a.cm x.ms from by rw [nV], show eo b wb db a { x with w := w, d := d' } = eo b wb db a x from rfl]
      exact h.sub bp
     exact gO (a := a) (x := { x with w := w, d := d' }) hl h9
    | on w =>
     intro R' A c M hle zy h
     rw [← Rp] at h
     have h2 : Hp R' (gz (eo b wb db a x) x.gl :: ax (bj pa p) wb w :: ax (cI .nilFunc) db d' :: cq a.ap a.cp (bT a.lb x.ps) :: bl bM a.lb (x.ps.map dG.q) :: cz (some ⟨q2, 0, none⟩) a.cm x.ms :: pt k1 [.int .i64 0, .int .i64 0, .int .i64 0, .slice none 0 0] 43 :: L') M := h.sub bp
     refine Hx (K := K) (Kp := Kp) (w := w) (g := (aC x m).g) (kp := jg w (aC x m).g rest) (rest := rest) h2 zy nV hl hpre rfl rfl he ?_
     cases o with
     | ev e => exact fun R2 A2 c2 M2 EX => k R2 A2 c2 M2 (Mem.le_trans hle EX)
     | dF l =>
      dsimp only at he
      unfold ji at he
      split at he
      ·simp only [Option.some.injEq, Prod.mk.injEq] at he; cases he.2
      ·cases he
    | eV n w =>
     intro R' A c M hle zy h
     rw [← Rp] at h
     have h2 : Hp R' (gz (eo b wb db a x) x.gl :: ax (bj pa p) wb { w with end_ := 2, code := n } :: ax (cI .nilFunc) db d' :: cq a.ap a.cp (bT a.lb x.ps) :: bl bM a.lb (x.ps.map dG.q) :: cz (some ⟨q2, 0, none⟩) a.cm x.ms :: pt k1 [.int .i64 0, .int .i64 0, .int .i64 0, .slice none 0 0] 43 :: L') M := h.sub bp
     refine Hx (K := K) (Kp := Kp) (w := { w with end_ := 2, code := n }) (g := (aC x m).g) (kp := jg { w with end_ := 2, code := n } (aC x m).g rest) (rest := rest) h2 zy nV hl hpre rfl rfl he ?_
     cases o with
     | ev e => exact fun R2 A2 c2 M2 EX => k R2 A2 c2 M2 (Mem.le_trans hle EX)
     | dF l =>
      dsimp only at he
      unfold ji at he
      split at he
      ·simp only [Option.some.injEq, Prod.mk.injEq] at he; cases he.2
      ·cases he
  ·cases he
 ·cases he
theorem Rq {e : Ev} {o : tK} {y z : Sc} (h : EW (z, .ev e) = (y, o)) : o = .ev e ∧ y = { z with steps := z.steps + 1 } := by
 unfold EW at h; cases h; exact ⟨rfl, rfl⟩
theorem Kc {y : Sc} {o : tK} (h : Hp R L M) [q : mo b L pa p wb db x L'] (hp : nB R pa p) (hd : x.d.k.Ok) (he : x.step p = some (y, o)) (k : Ro R pa p b wb db L' K Kp y o) :
  aa Tryz.prog 54 #[.pointer (some ⟨b, 0, none⟩)] M K Kp := by
 unfold Sc.step at he
 split at he
 ·rename_i hpre
  obtain ⟨hgs, hcM, hps, hms, yl, hst0, hst1⟩ := hpre
  refine tj ?_
  refine aj h ?_
  clear h
  intro k1 M h
  refine kQ h hgs ?_
  refine bW ?_
  split at he
  ·rename_i hst
   simp only [Option.some.injEq, Prod.mk.injEq] at he
   obtain ⟨Hy, yQ⟩ := he
   subst Hy; subst yQ
   refine fy.2 ⟨fun _ => ?_, fun hn => absurd hn hst⟩
   refine qX h ?_
   clear h; intro M h
   refine qY h ?_
   exact k R none 0 M (Mem.le_refl _) (RS.nil _ _) (h.drop.pick q.pick)
  ·rename_i hst
   refine fy.2 ⟨fun hn => absurd hn hst, fun _ => ?_⟩
   have h' := eu h (b := b)
   clear h
   obtain ⟨a, hl, h⟩ := h'
   rw [YM h]
   refine gY ?_
   rw [sc_M h]
   refine bW ?_
   have BJ : x.d.Ok := ⟨hd, by omega⟩
   have hnw : IntKind.wrap .i64 (x.c.M + 1) = x.c.M + 1 := dc (by omega) (by omega)
   rw [hnw]
   replace h : Hp R (ax (cI .nilFunc) db x.d :: gz (eo b wb db a x) x.gl :: ax (bj pa p) wb x.w :: cq a.ap a.cp (bT a.lb x.ps) :: bl bM a.lb (x.ps.map dG.q) :: cz a.am a.cm x.ms :: pt k1 [.int .i64 0, .int .i64 0, .int .i64 0, .slice none 0 0] 43 :: L') M := h.sub bp
   refine qU h BJ (by omega) (by omega) ?_
   clear h
   have hok2 := wO (kind := 1) (n := x.c.M + 1) hd
   have J4 : ∀ x' v, x.d.draw 1 (x.c.M + 1) = (x', .num v) → 0 ≤ v ∧ v < x.c.M + 1 ∧ x'.taken = x.d.taken ++ [(1, v)] := by
    intro x' v hv
    have := lR hd hv
    rw [show kP (x.c.M + 1) = x.c.M + 1 from by unfold kP; rw [if_neg (by omega)]] at this
    exact this
   generalize yc : x.d.draw 1 (x.c.M + 1) = dd at he hok2 J4
   obtain ⟨d', dr⟩ := dd
   have mk : ∀ {M : Mem}, Hp R (ax (cI .nilFunc) db d' :: gz (eo b wb db a x) x.gl :: ax (bj pa p) wb x.w :: cq a.ap a.cp (bT a.lb x.ps) :: bl bM a.lb (x.ps.map dG.q) :: cz a.am a.cm x.ms :: pt k1 [.int .i64 0, .int .i64 0, .int .i64 0, .slice none 0 0] 43 :: L') M → Hp R (ax (fO pa p wb db) b { x with d := d' } :: pt k1 [.int .i64 0, .int .i64 0, .int .i64 0, .slice none 0 0] 43 :: L') M :=
    fun h => gO (a := a) (x := { x with d := d' }) hl (h.sub bp)
   cases dr with
   | dF l =>
    dsimp only at he ⊢
    simp only [Option.some.injEq, Prod.mk.injEq] at he
    obtain ⟨Hy, yQ⟩ := he
    intro M h
    subst yQ
    refine k M ?_
    rw [← Hy]
    exact (mk h).cj
   | num mm =>
    dsimp only at he ⊢
    obtain ⟨v0, v1, htk2⟩ := J4 d' mm rfl
    intro M h
    replace h := mk h
    clear mk
    refine bW ?_
    generalize EO : ({ x with d := d' } : Sc) = x1 at h he
    have e1 : x1.c = x.c := by rw [← EO]
    have e2 : x1.ms = x.ms := by rw [← EO]
    have e3 : x1.ps = x.ps := by rw [← EO]
    have e4 : x1.d.k.Ok := by rw [← EO]; exact hok2
    have e5 : x1.steps = x.steps := by rw [← EO]
    clear EO
    refine aj h ?_
    clear h; intro eG M h
    replace h : Hp R (ax (fO pa p wb db) b x1 :: pt k1 [.int .i64 0, .int .i64 0, .int .i64 0, .slice none 0 0] 43 :: pt eG [.int .i64 0, .int .i64 0, .int .i64 0, .slice none 0 0] 43 :: L') M := h.sub bp
    have fin : ∀ (R' : Mem) (A : Option Addr) (c : Nat) (M : Mem) (z : Sc) (e : Ev), R.le R' → RS br R' A c e.ready → z.steps = x.steps → EW (z, .ev e) = (y, o) → Hp R' (ax (fO pa p wb db) b z :: pt k1 [.int .i64 0, .int .i64 0, .int .i64 0, .slice none 0 0] 43 :: pt eG [.int .i64 0, .int .i64 0, .int .i64 0, .slice none 0 0] 43 :: L') M →
      aN M ⟨eG, 0, none⟩ (.int .i64 e.kind) fun nk => aN nk ⟨eG, (0 + 1), none⟩ (.int .i64 e.m) fun xw => aN xw ⟨eG, (0 + 2), none⟩ (.int .i64 e.g) fun pb => aN pb ⟨eG, (0 + 3), none⟩ (.slice A e.ready.length c) fun rQ =>
      aK (Mem.ld rQ ⟨b, (0 + 9), none⟩) .i64 fun zj => aN rQ ⟨b, (0 + 9), none⟩ (.int .i64 (IntKind.wrap .i64 (zj + 1))) fun yG =>
      aK (Mem.ld yG ⟨eG, 0, none⟩) .i64 fun Cc => aK (Mem.ld yG ⟨eG, (0 + 1), none⟩) .i64 fun Ef => aK (Mem.ld yG ⟨eG, (0 + 2), none⟩) .i64 fun IX => az (Mem.ld yG ⟨eG, (0 + 3), none⟩) fun Wf HQ nR =>
      aN yG ⟨k1, 0, none⟩ (.int .i64 Cc) fun zk => aN zk ⟨k1, (0 + 1), none⟩ (.int .i64 Ef) fun vk => aN vk ⟨k1, (0 + 2), none⟩ (.int .i64 IX) fun HX => aN HX ⟨k1, (0 + 3), none⟩ (.slice Wf HQ nR) fun sF =>
      aK (Mem.ld sF ⟨k1, 0, none⟩) .i64 fun Cl => aK (Mem.ld sF ⟨k1, (0 + 1), none⟩) .i64 fun MD => aK (Mem.ld sF ⟨k1, (0 + 2), none⟩) .i64 fun Pq => az (Mem.ld sF ⟨k1, (0 + 3), none⟩) fun Wg um uo =>
      K (.agg #[(.int .i64 Cl), (.int .i64 MD), (.int .i64 Pq), (.slice Wg um uo)]) sF := by
     intro R' A c M z e hle zy hzs hinc h
     obtain ⟨ho, hy⟩ := Rq hinc
     subst ho; subst hy
     refine qX h ?_
     clear h; intro M h
     have h' := eu h (b := b)
     clear h
     obtain ⟨a3, Ua, h⟩ := h'
     have h' := oN h
     clear h
     obtain ⟨A4, c4, h⟩ := h'
     refine ay h ?_
     rw [dc (by omega) (by omega)]
     refine au h ?_
     clear h; intro M h
     refine qY h ?_
     refine qX h ?_
     clear h; intro M h
     refine qY h ?_
     refine k R' A c M hle zy (gO (a := a3) (x := { z with steps := z.steps + 1 }) Ua ?_)
     exact zZ (x := { z with steps := z.steps + 1 }) (h.sub bp)
    have h' := eu h (b := b)
    clear h
    obtain ⟨a5, hl5, h⟩ := h'
    rw [sc_M h]
    refine bW ?_
    have DK : ∀ {M : Mem}, Hp R (gz (eo b wb db a5 x1) x1.gl :: ax (bj pa p) wb x1.w :: ax (cI .nilFunc) db x1.d :: fN a5 x1 (pt k1 [.int .i64 0, .int .i64 0, .int .i64 0, .slice none 0 0] 43 :: pt eG [.int .i64 0, .int .i64 0, .int .i64 0, .slice none 0 0] 43 :: L')) M → Hp R (ax (fO pa p wb db) b x1 :: pt k1 [.int .i64 0, .int .i64 0, .int .i64 0, .slice none 0 0] 43 :: pt eG [.int .i64 0, .int .i64 0, .int .i64 0, .slice none 0 0] 43 :: L') M := fun h => gO (a := a5) hl5 h
    unfold Sc.act at he
    refine aV.2 ⟨fun em => ?_, fun em => ?_⟩
    ·rw [if_pos em] at he
     split at he
     ·rename_i htick
      simp only [Option.map_some, Option.some.injEq] at he
      refine J5 (DK h) htick ?_
      clear h; intro R' A c M hle zy h
      refine ⟨_, _, _, _, _, _, rfl, ?_⟩
      exact fin R' A c M _ _ hle zy (by rw [← e5]; rfl) he h
     ·cases he
    rw [if_neg em] at he
    have mlt : mm < x1.ms.length := by
     have a1 : x1.c.M = x.c.M := by rw [e1]
     have a2 : x1.ms.length = x.ms.length := by rw [e2]
     omega
    have nK := rh v0 mlt
    obtain ⟨q2, nV⟩ := h.bF (A := a5.am) (l := x1.ms) (by omega) (by decide)
    have hs0 := (h.src (A := a5.am)) M h
    rw [nV] at hs0
    rw [y4 h]
    refine aO ⟨v0, mlt, ?_⟩
    refine Kb nV ?_
    refine aR (Sl.at hs0 (i := mm.toNat * 3 + 0) (by simp) (fP.iU (E := gp) nK rfl)) ?_
    refine aV.2 ⟨fun ep => ?_, fun ep => ?_⟩
    ·rw [if_pos ep] at he
     simp only [Option.map_some, Option.some.injEq] at he
     refine J6 (DK h) v0 mlt (by rw [e3]; omega) ?_
     clear h hs0; intro M h
     have Ix : (x1.hold mm).2.ready = [] := by unfold Sc.hold; split <;> rfl
     have u7 : (x1.hold mm).1.steps = x.steps := by rw [← e5]; unfold Sc.hold; split <;> rfl
     refine ⟨_, _, _, _, _, _, rfl, ?_⟩
     exact fin R none 0 M _ _ (Mem.le_refl _) (by rw [Ix]; exact RS.nil _ _) u7 he h
    rw [if_neg ep] at he
    refine aO ⟨v0, mlt, ?_⟩
    refine Kb nV ?_
    refine aR (Sl.at hs0 (i := mm.toNat * 3 + 1) (by simp) (fP.iU (E := gp) nK rfl)) ?_
    clear hs0
    refine aV.2 ⟨fun eg => ?_, fun eg => ?_⟩
    ·rw [if_pos eg] at he
     split at he
     ·rename_i hfo
      simp only [Option.map_some, Option.some.injEq] at he
      have u7 : (x1.find mm).1.steps = x.steps := by
       rw [← e5]
       have DC : ∀ (z : Sc) a b c d e, (z.bX a b c d e).1.steps = z.steps := by intro z a b c d e; unfold Sc.bX; split <;> rfl
       unfold Sc.find
       dsimp only
       split
       ·rfl
       ·split
        ·split
         ·rfl
         ·split <;> exact DC ..
        ·exact DC ..
      have hrd : ∀ e, (x1.find mm).2 = .ev e → e.ready = [] := by
       have DC : ∀ (z : Sc) a b c d e, (z.bX a b c d e).2.ready = [] := by intro z a b c d e; unfold Sc.bX; split <;> rfl
       intro e Ix
       unfold Sc.find at Ix
       dsimp only at Ix
       split at Ix
       ·cases Ix; rfl
       ·split at Ix
        ·split at Ix
         ·cases Ix
         ·split at Ix <;> · cases Ix; exact DC ..
        ·cases Ix; exact DC ..
      refine J7 (DK h) hfo e4 ?_
      clear h
      generalize O6 : x1.find mm = ff at he u7 hrd ⊢
      obtain ⟨z, oo⟩ := ff
      cases oo with
      | ev e =>
       dsimp only at u7 hrd ⊢
       intro M h
       refine ⟨_, _, _, _, _, _, rfl, ?_⟩
       have hr0 : e.ready = [] := hrd e rfl
       exact fin R none 0 M _ e (Mem.le_refl _) (by rw [hr0]; exact RS.nil _ _) u7 he h
      | dF l =>
       dsimp only
       intro M h
       unfold EW at he
       cases he
       exact k M h.cj
     ·cases he
    rw [if_neg eg] at he
    cases hrun : x1.run p mm with
    | none => rw [hrun] at he; cases he
    | some rr =>
     obtain ⟨z, oo⟩ := rr
     rw [hrun] at he
     simp only [Option.map_some, Option.some.injEq] at he
     refine NR (DK h) hp e4 hrun ?_
     clear h
     have u7 : z.steps = x.steps := by
      rw [← e5]
      unfold Sc.run at hrun
      split at hrun
      ·rename_i hpre2
       obtain ⟨_, _, i0, i1, _⟩ := hpre2
       have OE : ∀ d w rest, ji x1 mm (aC x1 mm).g d w rest = some (z, oo) → z.steps = x1.steps := by
        intro d w rest OE
        unfold ji at OE
        split at OE
        ·simp only [Option.some.injEq, Prod.mk.injEq] at OE
         rw [← OE.1]
         have := jE (m := mm) w.ready { x1 with w := w, d := d } i0 i1
         unfold Sc.u6
         split <;> exact this.2.2.2.2.2.1
        ·cases OE
       split at hrun
       ·split at hrun
        ·cases hrun
        ·simp only [Option.some.injEq, Prod.mk.injEq] at hrun; rw [← hrun.1]
        ·exact OE _ _ _ hrun
        ·exact OE _ _ _ hrun
       ·cases hrun
      ·cases hrun
     cases oo with
     | ev e =>
      intro R' A c M hle zy h
      refine ⟨_, _, _, _, _, _, rfl, ?_⟩
      exact fin R' A c M _ e hle zy u7 he h
     | dF l =>
      intro M h
      unfold EW at he
      cases he
      exact k M h.cj
 ·cases he
end
def Sc.new (p : cu) (c : Se) (d : nW) : Sc := ⟨Wd.new p, c, List.replicate c.P.toNat ⟨⟨-1, gK c.R, []⟩, 0, -1⟩, List.replicate c.M.toNat ⟨-1, -1, 0⟩, [0], d, 0⟩
theorem LD : bg Tryz.prog 132 141 3 24 [.pointer none, .int .i64 0, .int .i64 0] := bg.mk' (zv := .agg #[.pointer none, .int .i64 0, .int .i64 0]) (by kernel_rfl) (by kernel_rfl) rfl (by omega)
theorem Uz : bg Tryz.prog 133 143 3 24 [.int .i64 0, .int .i64 0, .int .i64 0] := bg.mk' (zv := .agg #[.int .i64 0, .int .i64 0, .int .i64 0]) (by kernel_rfl) (by kernel_rfl) rfl (by omega)
theorem DO {bs : List Nat} {ps : List dG} {b : Nat} {y : dG} (h : bs.length = ps.length) : bT (bs ++ [b]) (ps ++ [y]) = bT bs ps ++ [(b, y.turns, y.hO)] := by
 unfold bT; rw [List.zipWith_append h]; rfl
section
variable {R : Mem} {L L' L2 : List HP} {M : Mem} {K : Value → Mem → Prop} {Kp : List PanicEntry → Mem → Prop} {pa : PA} {p : cu} {b wb db : Nat} {x : Sc} {m i : Int}
theorem NS {c : Se} {d : nW} (h : Hp R L M) [o : bZ (cI .nilFunc) db L d L'] (yM : RS br R pa.c pa.cc p.dU) (hc : p.dU.length ≤ 1000000) (hk : 0 ≤ p.aI ∧ p.aI ≤ 1000000) (hP : 0 ≤ c.P ∧ c.P ≤ 1000000) (hM : 0 ≤ c.M ∧ c.M ≤ 1000000)
  (k : ∀ b wb M', Hp R (ax (fO pa p wb db) b (Sc.new p c d) :: L') M' → K (.pointer (some ⟨b, 0, none⟩)) M') :
  aa Tryz.prog 15 #[.agg #[.slice pa.f p.funcs.length pa.fc, .slice pa.c p.dU.length pa.cc, .int .i64 p.aI, .slice pa.k p.cases.length pa.kc], .agg #[.int .i64 c.P, .int .i64 c.M, .int .i64 c.R, .int .i64 c.S], .pointer (some ⟨db, 0, none⟩)] M K Kp := by
 refine Ep ?_
 replace h := h.front (cI .nilFunc) db
 refine aj h ?_
 clear h; intro k1 M h
 refine aj h ?_
 clear h; intro k3 M h
 refine aF h (aF h (ay h (aF h ?_)))
 refine ay h (ay h (ay h (ay h ?_)))
 refine Nr (p := p) (pa := pa) h yM hc hk ?_
 clear h; intro wb M h
 refine gY ⟨jL (bD h) (jL (bD h) (jL (bD h) (jL (bD h) vB))), ?_⟩
 refine aj h ?_
 clear h; intro b M h
 refine ay h ?_
 replace h := ((((h.bR nI 141).vO bM).bR gp 143).bR br 3)
 obtain ⟨nP, hnP⟩ := Int.eq_ofNat_of_zero_le hP.1
 obtain ⟨nM, hnM⟩ := Int.eq_ofNat_of_zero_le hM.1
 refine ⟨fun dd vs M => ∃ (j : Nat) (A : Option Addr) (ca : Nat) (wW : List Nat), vs = [.int .i64 (j : Int)] ∧ dd = nP - j ∧ j ≤ nP ∧ wW.length = j ∧
   Hp R (pt b [.pointer (some ⟨wb, 0, none⟩), .int .i64 c.P, .int .i64 c.M, .int .i64 c.R, .int .i64 c.S, .slice A j ca, .slice none 0 0, .slice none 0 0, .pointer (some ⟨db, 0, none⟩), .int .i64 0] 137 ::
    cq A ca (bT wW (List.replicate j ⟨⟨-1, gK c.R, []⟩, 0, -1⟩)) :: bl bM wW (List.replicate j ⟨-1, gK c.R, []⟩) :: cz none 0 [] :: iZ none 0 [] :: ax (bj pa p) wb (Wd.new p) :: ax (cI .nilFunc) db d :: pt k3 [.int .i64 c.P, .int .i64 c.M, .int .i64 c.R, .int .i64 c.S] 29 :: L') M,
  ⟨_, 0, none, 0, [], rfl, rfl, by omega, rfl, h.sub bp⟩, ?_⟩
 clear h
 rintro dd _ nn M ⟨j, A, ca, wW, he, hd, hj, hlb, h⟩
 simp only [List.cons.injEq, Value.int.injEq, and_true, true_and] at he
 subst he
 refine aJ.2 ⟨fun hlt => ?_, fun hge => ?_⟩
 ·have jn : (List.replicate j (⟨⟨-1, gK c.R, []⟩, 0, -1⟩ : dG)).length = j := List.length_replicate
  refine ⟨fun vs M => ∃ (A : Option Addr) (ca : Nat) (lb : Nat),
   Hp R (pt b [.pointer (some ⟨wb, 0, none⟩), .int .i64 c.P, .int .i64 c.M, .int .i64 c.R, .int .i64 c.S, .slice A (j + 1) ca, .slice none 0 0, .slice none 0 0, .pointer (some ⟨db, 0, none⟩), .int .i64 0] 137 ::
    cq A ca (bT (wW ++ [lb]) (List.replicate (j + 1) ⟨⟨-1, gK c.R, []⟩, 0, -1⟩)) :: bl bM (wW ++ [lb]) (List.replicate (j + 1) ⟨-1, gK c.R, []⟩) :: cz none 0 [] :: iZ none 0 [] :: ax (bj pa p) wb (Wd.new p) :: ax (cI .nilFunc) db d :: pt k3 [.int .i64 c.P, .int .i64 c.M, .int .i64 c.R, .int .i64 c.S] 29 :: L') M, ay h ⟨?_, ?_, trivial⟩, ?_⟩
  ·refine aF h ?_
   refine Ds h ?_
   clear h; intro lb M h
   refine gY ?_
   refine aj h ?_
   clear h; intro rK M h
   refine h.gn (A := A) LD [(lb, 0, -1)] rfl (by rw [jX (by rw [hlb, jn]), jn]) rfl (by rw [jX (by rw [hlb, jn]), jn]; simp only [List.length_singleton]; omega) ?_
   clear h; intro A' c' M h
   refine aO ?_
   refine au h ?_
   clear h; intro M h
   replace h := h.lj bM lb (by rw [hlb, List.length_replicate])
   refine ⟨A', c', lb, ?_⟩
   have e1 : bT (wW ++ [lb]) (List.replicate (j + 1) (⟨⟨-1, gK c.R, []⟩, 0, -1⟩ : dG)) = bT wW (List.replicate j ⟨⟨-1, gK c.R, []⟩, 0, -1⟩) ++ [(lb, 0, -1)] := by
    rw [List.replicate_succ', DO (by rw [hlb, jn])]
   have e2 : List.replicate (j + 1) (⟨-1, gK c.R, []⟩ : Loc) = List.replicate j ⟨-1, gK c.R, []⟩ ++ [⟨-1, gK c.R, []⟩] := List.replicate_succ'
   rw [e1, e2]
   exact h.sub bp
  ·refine Ds h ?_
   clear h; intro lb M h
   refine gY ?_
   refine aF h ?_
   refine aj h ?_
   clear h; intro rK M h
   refine h.gn (A := A) LD [(lb, 0, -1)] rfl (by rw [jX (by rw [hlb, jn]), jn]) rfl (by rw [jX (by rw [hlb, jn]), jn]; simp only [List.length_singleton]; omega) ?_
   clear h; intro A' c' M h
   refine aO ?_
   refine au h ?_
   clear h; intro M h
   replace h := h.lj bM lb (by rw [hlb, List.length_replicate])
   refine ⟨A', c', lb, ?_⟩
   have e1 : bT (wW ++ [lb]) (List.replicate (j + 1) (⟨⟨-1, gK c.R, []⟩, 0, -1⟩ : dG)) = bT wW (List.replicate j ⟨⟨-1, gK c.R, []⟩, 0, -1⟩) ++ [(lb, 0, -1)] := by
    rw [List.replicate_succ', DO (by rw [hlb, jn])]
   have e2 : List.replicate (j + 1) (⟨-1, gK c.R, []⟩ : Loc) = List.replicate j ⟨-1, gK c.R, []⟩ ++ [⟨-1, gK c.R, []⟩] := List.replicate_succ'
   rw [e1, e2]
   exact h.sub bp
  ·clear h
   rintro _ M ⟨A', c', lb, h⟩
   rw [aP (by omega)]
   exact ⟨nP - (j + 1), by omega, j + 1, A', c', wW ++ [lb], rfl, rfl, by omega, by simp [hlb], h⟩
 have Zf : j = nP := by omega
 subst Zf
 refine ay h ?_
 refine ⟨fun dd vs M => ∃ (q : Nat) (B : Option Addr) (cb : Nat), vs = [.int .i64 (q : Int)] ∧ dd = nM - q ∧ q ≤ nM ∧
   Hp R (pt b [.pointer (some ⟨wb, 0, none⟩), .int .i64 c.P, .int .i64 c.M, .int .i64 c.R, .int .i64 c.S, .slice A j ca, .slice B q cb, .slice none 0 0, .pointer (some ⟨db, 0, none⟩), .int .i64 0] 137 ::
    cq A ca (bT wW (List.replicate j ⟨⟨-1, gK c.R, []⟩, 0, -1⟩)) :: bl bM wW (List.replicate j ⟨-1, gK c.R, []⟩) :: cz B cb (List.replicate q ⟨-1, -1, 0⟩) :: iZ none 0 [] :: ax (bj pa p) wb (Wd.new p) :: ax (cI .nilFunc) db d :: pt k3 [.int .i64 c.P, .int .i64 c.M, .int .i64 c.R, .int .i64 c.S] 29 :: L') M,
  ⟨_, 0, none, 0, rfl, rfl, by omega, h.sub bp⟩, ?_⟩
 clear h
 rintro dd _ nn M ⟨q, B, cb, he, Sb, hq, h⟩
 simp only [List.cons.injEq, Value.int.injEq, and_true, true_and] at he
 subst he
 refine aJ.2 ⟨fun hlt => ?_, fun YQ => ?_⟩
 ·refine aF h ?_
  refine aj h ?_
  clear h; intro AI M h
  refine h.gn (A := B) Uz [(⟨-1, -1, 0⟩ : zY)] rfl (by simp) rfl (by simp; omega) ?_
  clear h; intro B' cb' M h
  refine aO ?_
  refine au h ?_
  clear h; intro M h
  rw [aP (by omega)]
  have e : List.replicate q (⟨-1, -1, 0⟩ : zY) ++ [⟨-1, -1, 0⟩] = List.replicate (q + 1) ⟨-1, -1, 0⟩ := List.replicate_succ'.symm
  rw [e] at h
  exact ⟨nM - (q + 1), by omega, q + 1, B', cb', rfl, rfl, by omega, h.sub bp⟩
 have hqn : q = nM := by omega
 subst hqn
 refine aj h ?_
 clear h; intro Ja M h
 have e0 : Sc.new p c d = ⟨Wd.new p, c, List.replicate j ⟨⟨-1, gK c.R, []⟩, 0, -1⟩, List.replicate q ⟨-1, -1, 0⟩, [0], d, 0⟩ := by
  unfold Sc.new; rw [hnP, hnM]; rfl
 have e3 : (List.replicate j (⟨⟨-1, gK c.R, []⟩, 0, -1⟩ : dG)).map dG.q = List.replicate j ⟨-1, gK c.R, []⟩ := by simp
 replace h := (h.pt Ja).gu (E := br) (l := [0]) rfl
 generalize hz : (⟨Wd.new p, c, List.replicate j ⟨⟨-1, gK c.R, []⟩, 0, -1⟩, List.replicate q ⟨-1, -1, 0⟩, [0], d, 0⟩ : Sc) = z at e0
 have z1 : eN wb db ⟨A, ca, wW, B, cb⟩ z none 0 0 = [.pointer (some ⟨wb, 0, none⟩), .int .i64 c.P, .int .i64 c.M, .int .i64 c.R, .int .i64 c.S, .slice A j ca, .slice B q cb, .slice none 0 0, .pointer (some ⟨db, 0, none⟩), .int .i64 0] := by
  rw [← hz]; simp [eN]
 rw [← z1] at h
 have h2 : Hp R (pt b (eN wb db ⟨A, ca, wW, B, cb⟩ z none 0 0) 137 :: iZ none 0 [] :: iZ (some ⟨Ja, 0, none⟩) 1 [0] :: ax (bj pa p) wb (Wd.new p) :: ax (cI .nilFunc) db d :: cq A ca (bT wW (List.replicate j ⟨⟨-1, gK c.R, []⟩, 0, -1⟩)) :: bl bM wW (List.replicate j ⟨-1, gK c.R, []⟩) :: cz B cb (List.replicate q ⟨-1, -1, 0⟩) :: L') M := h.sub bp
 have h3 : Hp R (gz (eo b wb db ⟨A, ca, wW, B, cb⟩ z) [] :: iZ (some ⟨Ja, 0, none⟩) 1 [0] :: ax (bj pa p) wb (Wd.new p) :: ax (cI .nilFunc) db d :: cq A ca (bT wW (List.replicate j ⟨⟨-1, gK c.R, []⟩, 0, -1⟩)) :: bl bM wW (List.replicate j ⟨-1, gK c.R, []⟩) :: cz B cb (List.replicate q ⟨-1, -1, 0⟩) :: L') M := GW (P := eo b wb db ⟨A, ca, wW, B, cb⟩ z) h2 rfl
 clear h h2
 refine oJ (P := eo b wb db ⟨A, ca, wW, B, cb⟩ z) y3 h3 (Src.row (A := some ⟨Ja, 0, none⟩)) rfl (by simp) ?_
 clear h3; intro M h
 refine ⟨rfl, ?_⟩
 refine k b wb M ?_
 rw [e0]
 refine gO (a := ⟨A, ca, wW, B, cb⟩) (x := z) (by rw [← hz]; simp [hlb]) ?_
 rw [← hz] at h ⊢
 unfold fN
 dsimp only at h ⊢
 rw [e3]
 exact h.sub bp
theorem BL (h : Hp R L M) [o : mo b L pa p wb db x L'] (hs : x.ms.length ≤ 1000000) (k : ∀ A c M', Hp R (bE gp 268 A c x.ms :: ax (fO pa p wb db) b x :: L') M' → K (.slice A x.ms.length c) M') : aa Tryz.prog 129 #[.pointer (some ⟨b, 0, none⟩)] M K Kp := by
 refine nw ?_
 have h' := eu h (b := b)
 clear h
 obtain ⟨a, hl, h⟩ := h'
 rw [y4 h]
 refine aO ?_
 have elm : bg Tryz.prog 269 268 3 24 [.int .i64 0, .int .i64 0, .int .i64 0] := bg.mk' (zv := .agg #[.int .i64 0, .int .i64 0, .int .i64 0]) (by kernel_rfl) (by kernel_rfl) rfl (by omega)
 replace h := h.bR gp 268
 refine ⟨fun dd vs M => ∃ (j : Nat) (A : Option Addr) (c : Nat), vs = [.slice A j c, .int .i64 (j : Int)] ∧ dd = x.ms.length - j ∧ j ≤ x.ms.length ∧ Hp R (bE gp 268 A c (x.ms.take j) :: gz (eo b wb db a x) x.gl :: ax (bj pa p) wb x.w :: ax (cI .nilFunc) db x.d :: fN a x L') M, ⟨_, 0, none, 0, rfl, rfl, by omega, h⟩, ?_⟩
 clear h
 rintro dd _ A n c nn M ⟨j, A', c', he, hd, hj, h⟩
 simp only [List.cons.injEq, Value.int.injEq, Value.slice.injEq, and_true, true_and] at he
 obtain ⟨⟨rfl, rfl, rfl⟩, rfl⟩ := he
 refine aJ.2 ⟨fun hlt => ?_, fun hge => ?_⟩
 ·obtain ⟨y, hy⟩ := aM (l := x.ms) (i := n) (by omega)
  refine ⟨by omega, hlt, ?_⟩
  obtain ⟨q2, nV⟩ := h.bF (A := a.am) (l := x.ms) (by omega) (by decide)
  have hs0 := (h.src (A := a.am)) M h
  rw [nV] at hs0
  refine Kb nV ?_
  refine aR (Sl.at hs0 (i := n * 3 + 0) (by simp) (fP.iU (E := gp) hy rfl)) ?_
  refine aR (Sl.at hs0 (i := n * 3 + 1) (by simp <;> omega) (fP.iU (E := gp) hy rfl)) ?_
  refine aR (Sl.at hs0 (i := n * 3 + 2) (by simp <;> omega) (fP.iU (E := gp) hy rfl)) ?_
  clear hs0
  refine aj h ?_
  clear h; intro dx M h
  refine au h ?_
  clear h; intro M h
  refine au h ?_
  clear h; intro M h
  refine au h ?_
  clear h; intro M h
  refine ay h (ay h (ay h ?_))
  refine aj h ?_
  clear h; intro lV M h
  refine h.gn (A := A) elm [y] rfl (by rw [List.length_take]; omega) rfl (by rw [List.length_take]; simp only [List.length_singleton]; omega) ?_
  clear h; intro A2 c2 M h
  refine aO ?_
  rw [← bu hy] at h
  rw [aP (by omega)]
  exact ⟨x.ms.length - (n + 1), by omega, n + 1, A2, c2, rfl, rfl, by omega, h.sub bp⟩
 ·have HO : n = x.ms.length := by omega
  subst HO
  rw [List.take_length] at h
  exact k _ _ _ ((gO hl (h.sub bp)).swap)
end
def mW (ps : List dG) (a : Int) : Nat := ((ps.map dG.q).flatMap Loc.all).count a
def Hz (ms : List zY) (a : Int) : Nat := (ms.flatMap fun m => kq m.g).count a
def nL (x : Sc) (a : Int) : Nat := mW x.ps a + x.gl.count a + Hz x.ms a
def UA (q : Loc) : Prop := q.l.length ≤ q.room ∧ q.room ≤ 1024 ∧ 0 < q.room
def MV (P : Nat) (m : zY) : Prop := (m.p = -1 ∧ m.g = -1 ∧ m.left = 0) ∨ (0 ≤ m.p ∧ m.p < P ∧ -1 ≤ m.g ∧ 0 ≤ m.left ∧ m.left ≤ 1024 ∧ (0 ≤ m.g → 1 ≤ m.left))
structure SV (p : cu) (N : Nat) (x : Sc) : Prop where
 w : WV p x.w
 one : ∀ a, At x.w a 1 → nL x a = 1
 zero : ∀ a, ¬ At x.w a 1 → nL x a = 0
 cP : x.c.P = x.ps.length
 cM : x.c.M = x.ms.length
 P1 : 1 ≤ x.ps.length ∧ x.ps.length ≤ 64
 M1 : 1 ≤ x.ms.length ∧ x.ms.length ≤ 64
 cS : 1 ≤ x.c.S ∧ x.c.S ≤ 1024
 room : ∀ pr ∈ x.ps, UA pr.q
 fk : ∀ pr ∈ x.ps, 0 ≤ pr.turns ∧ pr.turns ≤ N
 ms : ∀ m ∈ x.ms, MV x.ps.length m
 hO : ∀ (i : Nat) m, x.ms[i]? = some m → m.p ≠ -1 → (aL x m.p).hO = i
 st : 0 ≤ x.steps ∧ x.steps ≤ N
 tk : x.d.taken.length ≤ 3 * N
 k : x.d.k.Ok
section
variable {p : cu} {N : Nat} {x y z : Sc} {m i g a : Int}
theorem rj {ps : List dG} {j : Nat} {pr VE : dG} (h : ps[j]? = some pr) : mW (ps.set j VE) a + pr.q.all.count a = mW ps a + VE.q.all.count a := by
 unfold mW
 rw [List.map_set]
 exact TS a (by rw [List.getElem?_map, h]; rfl)
theorem BM : ∀ {ms : List zY} {j : Nat} {mc tL : zY}, ms[j]? = some mc → Hz (ms.set j tL) a + (kq mc.g).count a = Hz ms a + (kq tL.g).count a
 | [], _, _, _, h => by simp at h
 | z :: ms, 0, mc, tL, h => by
  simp only [List.getElem?_cons_zero, Option.some.injEq] at h; subst h
  simp only [Hz, List.set_cons_zero, List.flatMap_cons, List.count_append]; omega
 | z :: ms, j + 1, mc, tL, h => by
  have := BM (ms := ms) (tL := tL) (j := j) (by simpa using h)
  simp only [Hz, List.set_cons_succ, List.flatMap_cons, List.count_append] at *; omega
theorem u9 {α : Type} (f : α → List Int) : ∀ (l : List α) (b : α), b ∈ l → (f b).count a ≤ (l.flatMap f).count a
 | c :: l, b, h => by
  simp only [List.flatMap_cons, List.count_append]
  rcases List.mem_cons.1 h with rfl | h
  ·omega
  ·have := u9 f l b h; omega
theorem SV.le1 (h : SV p N x) : nL x a ≤ 1 := by
 by_cases e : At x.w a 1
 ·rw [h.one a e]; omega
 ·rw [h.zero a e]; omega
theorem SV.at_ (h : SV p N x) (hc : 0 < nL x a) : At x.w a 1 := Classical.byContradiction fun e => by rw [h.zero a e] at hc; omega
theorem SV.glpos (h : SV p N x) : ∀ v ∈ x.gl, 0 ≤ v := fun v hv => (h.at_ (a := v) (by have : 0 < x.gl.count v := List.count_pos_iff.2 hv; unfold nL; omega)).1
theorem SV.qpos (h : SV p N x) {pr : dG} (hp : pr ∈ x.ps) : pr.q.Pos := by
 have iL : ∀ v ∈ pr.q.all, 0 ≤ v := fun v hv => (h.at_ (a := v) (by
  have h1 := u9 (a := v) Loc.all (x.ps.map dG.q) pr.q (List.mem_map.2 ⟨pr, hp, rfl⟩)
  have : 0 < pr.q.all.count v := List.count_pos_iff.2 hv
  unfold nL mW; omega)).1
 refine ⟨?_, fun v hv => iL v (by unfold Loc.all; simp [hv])⟩
 by_cases hn : pr.q.next = -1
 ·omega
 ·have := iL pr.q.next (by unfold Loc.all; rw [if_neg hn]; simp)
  omega
theorem SV.UB (h : SV p N x) : x.gl.length ≤ 100 := by
 have h1 := r8 (b := 1) x.w.gs.length x.gl (fun v hv => by
  have := h.at_ (a := v) (by have : 0 < x.gl.count v := List.count_pos_iff.2 hv; unfold nL; omega)
  exact ⟨this.1, this.2.1⟩) (fun v => by have := h.le1 (a := v); unfold nL at this; omega)
 have := h.w.n2
 omega
theorem SV.mg (h : SV p N x) {mc : zY} (hm : mc ∈ x.ms) (h0 : 0 ≤ mc.g) : At x.w mc.g 1 := h.at_ (by
 have h1 := u9 (a := mc.g) (fun m : zY => kq m.g) x.ms mc hm
 have : (kq mc.g).count mc.g = 1 := by rw [jd h0]; simp
 unfold nL Hz; omega)
theorem rm (h0 : 0 ≤ m) (hm : m < x.ms.length) : x.ms[m.toNat]? = some (aC x m) := by
 obtain ⟨y, hy⟩ := aM (l := x.ms) (i := m.toNat) (by omega)
 rw [hy]; simp [aC, hy]
theorem EY (h0 : 0 ≤ i) (hi : i < x.ps.length) : x.ps[i.toNat]? = some (aL x i) := by
 obtain ⟨y, hy⟩ := aM (l := x.ps) (i := i.toNat) (by omega)
 rw [hy]; simp [aL, hy]
def vl : dG := ⟨⟨-1, 0, []⟩, 0, -1⟩
theorem SV.go (h : SV p N x) (m0 : 0 ≤ m) (m1 : m < x.ms.length) (i0 : 0 ≤ i) (i1 : i < x.ps.length) (ps' : List dG) (tL : zY) (NQ : List Int) (d' : nW)
  (hl : ps'.length = x.ps.length) (hr : ∀ pr ∈ ps', UA pr.q ∧ 0 ≤ pr.turns ∧ pr.turns ≤ N + 1) (hb : ∀ j : Nat, j ≠ i.toNat → (ps'.getD j vl).hO = (x.ps.getD j vl).hO)
  (hbi : tL.p = -1 ∨ tL.p = i ∧ (ps'.getD i.toNat vl).hO = m) (hold : (aC x m).p = i ∨ (aL x i).hO = -1) (Rr : MV x.ps.length tL)
  (hc : ∀ a, mW ps' a + NQ.count a + (kq tL.g).count a = mW x.ps a + x.gl.count a + (kq (aC x m).g).count a) (hd : d'.taken.length ≤ 3 * N + 3) (hk : d'.k.Ok) :
  SV p (N + 1) { x with ps := ps', ms := x.ms.set m.toNat tL, gl := NQ, d := d' } := by
 have nK := rm m0 m1
 have hS : ∀ a, nL { x with ps := ps', ms := x.ms.set m.toNat tL, gl := NQ, d := d' } a = nL x a := fun a => by
  have e1 := BM (a := a) (tL := tL) nK
  have e2 := hc a
  unfold nL
  dsimp only
  omega
 refine ⟨h.w, fun a ha => by rw [hS]; exact h.one a ha, fun a ha => by rw [hS]; exact h.zero a ha, by rw [hl]; exact h.cP, by simpa using h.cM, by rw [hl]; exact h.P1, by simpa using h.M1, h.cS, fun pr hp => (hr pr hp).1, fun pr hp => (by have := (hr pr hp).2; omega), fun mc IE => ?_, fun j mc hj hne => ?_, by have := h.st; dsimp only; omega, by dsimp only; omega, hk⟩
 ·rw [hl]
  rcases jI IE with IE | rfl
  ·exact h.ms mc IE
  ·exact Rr
 ·by_cases e : j = m.toNat
  ·subst e
   rw [List.getElem?_set_self (by omega)] at hj
   simp only [Option.some.injEq] at hj
   subst hj
   rcases hbi with hbi | ⟨e1, e2⟩
   ·exact absurd hbi hne
   ·show (ps'.getD tL.p.toNat vl).hO = _
    rw [e1, e2]; omega
  ·rw [List.getElem?_set_ne (Ne.symm e)] at hj
   have hby := h.hO j mc hj hne
   have hmv2 := h.ms mc (List.mem_of_getElem? hj)
   have hpi : mc.p.toNat ≠ i.toNat := by
    intro e2
    have e3 : mc.p = i := by rcases hmv2 with hh | hh; exact absurd hh.1 hne; omega
    rw [e3] at hby
    rcases hold with e4 | e4
    ·have := h.hO m.toNat (aC x m) nK (by rw [e4]; omega)
     rw [e4, hby] at this
     omega
    ·rw [e4] at hby; omega
   show (ps'.getD mc.p.toNat vl).hO = _
   rw [hb _ hpi]
   exact hby
end
section
variable {p : cu} {N : Nat} {x y z : Sc} {m i g a : Int}
theorem UC {q : Loc} (h : ∀ v ∈ q.all, 0 ≤ v) : q.Pos := by
 refine ⟨?_, fun v hv => h v (by unfold Loc.all; simp [hv])⟩
 by_cases hn : q.next = -1
 ·omega
 ·have := h q.next (by unfold Loc.all; rw [if_neg hn]; simp)
  omega
theorem UD {q : Loc} (h : q.Pos) : ∀ v ∈ q.all, 0 ≤ v := by
 intro v hv
 unfold Loc.all at hv
 rcases List.mem_append.1 hv with hv | hv
 ·split at hv
  ·cases hv
  ·simp only [List.mem_singleton] at hv; subst hv; have := h.1; omega
 ·exact h.2 v hv
theorem UE {q : Loc} {t : Int} {gl : List Int} (hq : q.Pos) (hb : UA q) (hg : ∀ v ∈ gl, 0 ≤ v) :
  UA (nJ q t gl).1 ∧ (∀ a, (nJ q t gl).1.all.count a + (nJ q t gl).2.1.count a + (kq (nJ q t gl).2.2.1).count a = q.all.count a + gl.count a) ∧
   ((nJ q t gl).2.2.2 = true → 0 ≤ (nJ q t gl).2.2.1) ∧ ((nJ q t gl).2.2.2 = false → (nJ q t gl).2.2.1 = -1) := by
 have c1 := QH q gl
 have b1 := TT hb gl
 unfold nJ
 generalize q.fk gl = r at c1 b1
 obtain ⟨q1, g1, n1⟩ := r
 dsimp only at c1 b1 ⊢
 have nn : ∀ v, 0 < q.all.count v + gl.count v → 0 ≤ v := fun v hv => by
  by_cases e : v ∈ gl
  ·exact hg v e
  ·rw [List.count_eq_zero.2 e] at hv
   exact UD hq v (List.count_pos_iff.1 (by omega))
 have p1 : q1.Pos := UC fun v hv => nn v (by have : 0 < q1.all.count v := List.count_pos_iff.2 hv; have := c1 v; omega)
 have Nu : ∀ v ∈ g1, 0 ≤ v := fun v hv => nn v (by have : 0 < g1.count v := List.count_pos_iff.2 hv; have := c1 v; omega)
 split
 ·rename_i hh
  cases g1 with
  | nil => simp at hh
  | cons v l =>
   refine ⟨b1, fun a => ?_, fun _ => Nu v (by simp), fun e => by cases e⟩
   have := c1 a
   simp only [List.drop_succ_cons, List.drop_zero, List.headD_cons]
   rw [jd (Nu v (by simp))]
   simp only [List.count_cons, List.count_nil] at *
   omega
 ·split
  ·rename_i hh
   have hgp := Lg p1
   have h0 : 0 ≤ q1.get.2 := by
    rcases hgp with ⟨e1, e2, _⟩ | ⟨_, h0⟩
    ·unfold u5 at hh
     rw [e1, e2] at hh
     cases hh
    ·exact h0
   refine ⟨QK b1, fun a => ?_, fun _ => h0, fun e => by cases e⟩
   have := c1 a
   have := Lf q1 p1 a
   dsimp only
   omega
  ·rename_i hh
   have e1 : q1.next = -1 ∧ q1.l = [] := by
    unfold u5 at hh
    simp only [Bool.or_eq_true, bne_iff_ne, ne_eq, Bool.not_eq_true', List.isEmpty_eq_false_iff, not_or, Decidable.not_not] at hh
    exact hh
   have eg : q1.get = (q1, -1) := by
    unfold Loc.get
    rw [if_neg (by rw [e1.1]; decide), e1.2]
   rw [eg]
   dsimp only
   have c2 := Nk q1 g1 Nu 0
   refine ⟨QL b1 _ _, fun a => ?_, fun e => ?_, fun e => ?_⟩
   ·have := c1 a
    have := c2 a
    omega
   ·rcases Dv (x := q1) Nu 0 with ⟨e2, _⟩ | ⟨_, h0⟩
    ·rw [e2] at e; cases e
    ·exact h0
   ·rcases Dv (x := q1) Nu 0 with ⟨_, h0⟩ | ⟨e2, _⟩
    ·exact h0
    ·cases g1 with
     | nil => exact absurd rfl e2
     | cons v l => cases e
theorem SV.mono {N' : Nat} (h : SV p N x) (hn : N ≤ N') : SV p N' x :=
 ⟨h.w, h.one, h.zero, h.cP, h.cM, h.P1, h.M1, h.cS, h.room, fun pr hp => by have := h.fk pr hp; omega, h.ms, h.hO, by have := h.st; omega, by have := h.tk; omega, h.k⟩
theorem SV.inc (h : SV p (N + 1) y) (hs : 0 ≤ y.steps ∧ y.steps ≤ N) : SV p (N + 1) { y with steps := y.steps + 1 } :=
 ⟨h.w, h.one, h.zero, h.cP, h.cM, h.P1, h.M1, h.cS, h.room, h.fk, h.ms, h.hO, by dsimp only; omega, h.tk, h.k⟩
theorem SV.draw {d' : nW} (h : SV p N x) (hd : d'.taken.length ≤ 3 * N + 3) (hk : d'.k.Ok) : SV p (N + 1) { x with d := d' } :=
 ⟨h.w, h.one, h.zero, h.cP, h.cM, h.P1, h.M1, h.cS, h.room, fun pr hp => by have := h.fk pr hp; omega, h.ms, h.hO, by have := h.st; dsimp only; omega, by dsimp only; omega, hk⟩
theorem eD {l : List dG} {n : Nat} {b : dG} (h : n < l.length) : (l.set n b).getD n vl = b := by simp [List.getD_eq_getElem?_getD, List.getElem?_set_self h]
theorem getD_set_ne {l : List dG} {n j : Nat} {b : dG} (h : j ≠ n) : (l.set n b).getD j vl = l.getD j vl := by simp [List.getD_eq_getElem?_getD, List.getElem?_set_ne (Ne.symm h)]
theorem SV.hold {d' : nW} (h : SV p N x) (m0 : 0 ≤ m) (m1 : m < x.ms.length) (hm : (aC x m).p = -1) (hd : d'.taken.length ≤ 3 * N + 3) (hk : d'.k.Ok) : SV p (N + 1) (Sc.hold { x with d := d' } m).1 ∧ (Sc.hold { x with d := d' } m).1.steps = x.steps := by
 unfold Sc.hold
 dsimp only
 have nK := rm m0 m1
 split
 ·rename_i n hn
  obtain ⟨hlt, hb, _⟩ := List.findIdx?_eq_some_iff_getElem.1 hn
  have j7 := EY (x := x) (i := (n : Int)) (by omega) (by omega)
  rw [Int.toNat_natCast] at j7
  have eb : (aL x (n : Int)).hO = -1 := by
   rw [List.getElem?_eq_getElem hlt, Option.some.injEq] at j7
   rw [← j7]; simpa using hb
  have Rr := h.ms _ (List.mem_of_getElem? nK)
  have hg : (aC x m).g = -1 ∧ (aC x m).left = 0 := by rcases Rr with e | e; exact e.2; omega
  refine ⟨?_, rfl⟩
  refine h.go (i := (n : Int)) m0 m1 (by omega) (by omega) (x.ps.set n { aL x (n : Int) with hO := m }) { aC x m with p := (n : Int) } x.gl d' (by simp) (fun pr hp => ?_) (fun j hj => ?_) (.inr ⟨rfl, ?_⟩) (.inr eb) (.inr ⟨by dsimp only; omega, by dsimp only; omega, by dsimp only; omega, by dsimp only; omega, by dsimp only; omega, by dsimp only; omega⟩) (fun a => ?_) hd hk
  ·rcases List.mem_or_eq_of_mem_set hp with hp | rfl
   ·exact ⟨h.room pr hp, by have := h.fk pr hp; omega⟩
   ·have hm := List.mem_of_getElem? j7
    exact ⟨h.room (aL x (n : Int)) hm, by have := h.fk _ hm; dsimp only; omega⟩
  ·rw [Int.toNat_natCast] at hj
   rw [getD_set_ne hj]
  ·rw [Int.toNat_natCast, eD hlt]
  ·have := rj (a := a) (VE := { aL x (n : Int) with hO := m }) j7
   dsimp only at *
   omega
 ·exact ⟨h.draw hd hk, rfl⟩
theorem SV.tick {d' : nW} (h : SV p N x) (hd : d'.taken.length ≤ 3 * N + 3) (hk : d'.k.Ok) : BE { x with d := d' } ∧ SV p (N + 1) (Sc.tick { x with d := d' }).1 ∧ (Sc.tick { x with d := d' }).1.steps = x.steps := by
 obtain ⟨t1, t2, t3, t4⟩ := Uu h.w
 have hg := h.UB
 refine ⟨⟨by have := h.w.Lu; dsimp only; omega, t1, by dsimp only; omega⟩, ?_, rfl⟩
 unfold Sc.tick
 dsimp only
 obtain ⟨a1, l, a2, a3, a4, a5⟩ := t3
 rw [List.nil_append] at a2
 rw [a2]
 have hS : ∀ a, nL { x with w := x.w.tick, gl := x.gl ++ l, d := d' } a = nL x a + l.count a := fun a => by
  unfold nL; dsimp only; rw [List.count_append]; omega
 have hA : ∀ a, At x.w.tick a 1 ↔ At x.w a 1 ∨ a ∈ l := fun a => by
  constructor
  ·rintro ⟨b1, b2, b3⟩
   by_cases e : a ∈ l
   ·exact .inr e
   ·refine .inl ⟨b1, by rw [a1] at b2; exact b2, ?_⟩
    rw [a5 a b1 e] at b3; exact b3
  ·rintro (⟨b1, b2, b3⟩ | e)
   ·by_cases e : a ∈ l
    ·exact ⟨b1, by rw [a1]; exact b2, (a4 a e).2.2.2⟩
    ·exact ⟨b1, by rw [a1]; exact b2, by rw [a5 a b1 e]; exact b3⟩
   ·obtain ⟨c1, c2, c3, c4⟩ := a4 a e
    exact ⟨c1, by rw [a1]; exact c2, c4⟩
 have hn : ∀ a, a ∈ l → ¬ At x.w a 1 := fun a e hh => (a4 a e).2.2.1 hh.2.2
 refine ⟨t2, fun a ha => ?_, fun a ha => ?_, h.cP, h.cM, h.P1, h.M1, h.cS, h.room, fun pr hp => by have := h.fk pr hp; omega, h.ms, h.hO, by have := h.st; dsimp only; omega, by dsimp only; omega, hk⟩
 ·rw [hS]
  rcases (hA a).1 ha with e | e
  ·rw [h.one a e, List.count_eq_zero.2 (fun hm => hn a hm e)]
  ·rw [h.zero a (hn a e), Nat.le_antisymm (List.nodup_iff_count.1 a3 a) (List.count_pos_iff.2 e)]
 ·rw [hS, h.zero a (fun e => ha ((hA a).2 (.inl e))), List.count_eq_zero.2 (fun e => ha ((hA a).2 (.inr e)))]
end
section
variable {p : cu} {N : Nat} {x y z : Sc} {m i g a kind : Int}
theorem SV.bX {EZ : List dG} {glz : List Int} {dz : nW} {t : Bool} (h : SV p N x) (m0 : 0 ≤ m) (m1 : m < x.ms.length) (hmp : (aC x m).p = i) (i0 : 0 ≤ i) (i1 : i < x.ps.length) (hg : (aC x m).g = -1)
  (hl : EZ.length = x.ps.length) (hr : ∀ pr ∈ EZ, UA pr.q ∧ 0 ≤ pr.turns ∧ pr.turns ≤ N) (hb : ∀ j : Nat, (EZ.getD j vl).hO = (x.ps.getD j vl).hO)
  (hc : ∀ a, mW EZ a + glz.count a + (kq g).count a = mW x.ps a + x.gl.count a) (hok : t = true → 0 ≤ g) (hno : t = false → kq g = []) (hd : dz.taken.length ≤ 3 * N + 3) (hk : dz.k.Ok) :
  SV p (N + 1) (Sc.bX { x with ps := EZ, gl := glz, d := dz } m i kind g t).1 ∧ (Sc.bX { x with ps := EZ, gl := glz, d := dz } m i kind g t).1.steps = x.steps := by
 have nK := rm m0 m1
 have e0 : kq (aC x m).g = [] := by rw [hg]; rfl
 have hpi : EZ[i.toNat]? = some (EZ.getD i.toNat vl) := by
  rw [List.getD_eq_getElem?_getD, List.getElem?_eq_getElem (by omega)]; rfl
 have hmem := List.mem_of_getElem? hpi
 have hby : (x.ps.getD i.toNat vl).hO = m := by
  have := h.hO m.toNat (aC x m) nK (by rw [hmp]; omega)
  rw [hmp] at this
  show (aL x i).hO = m
  rw [this]; omega
 have Ba : ∀ b : dG, b.q = (EZ.getD i.toNat vl).q → ∀ a, mW (EZ.set i.toNat b) a = mW EZ a := fun b e a => by
  have := rj (a := a) (VE := b) hpi
  rw [e] at this
  omega
 unfold Sc.bX
 cases t with
 | true =>
  rw [if_pos rfl]
  refine ⟨?_, rfl⟩
  have Rr := h.ms _ (List.mem_of_getElem? nK)
  refine h.go (i := i) m0 m1 i0 i1 (EZ.set i.toNat { EZ.getD i.toNat vl with turns := (EZ.getD i.toNat vl).turns + 1 }) ⟨(aC x m).p, g, x.c.S⟩ glz dz (by simp [hl]) (fun pr hp => ?_) (fun j hj => by rw [getD_set_ne hj]; exact hb j) (.inr ⟨hmp, ?_⟩) (.inl hmp) (.inr ⟨by dsimp only; omega, by dsimp only; omega, by dsimp only; have := hok rfl; omega, by have := h.cS; dsimp only; omega, by have := h.cS; dsimp only; omega, fun _ => by have := h.cS; dsimp only; omega⟩) (fun a => ?_) hd hk
  ·rcases List.mem_or_eq_of_mem_set hp with hp | rfl
   ·have := hr pr hp; exact ⟨this.1, by omega⟩
   ·have := hr _ hmem; exact ⟨this.1, by dsimp only; omega⟩
  ·rw [eD (by omega)]
   exact (hb _).trans hby
  ·rw [Ba { EZ.getD i.toNat vl with turns := (EZ.getD i.toNat vl).turns + 1 } rfl, e0]
   have := hc a
   simp only [List.count_nil]
   omega
 | false =>
  rw [if_neg (by decide)]
  refine ⟨?_, rfl⟩
  refine h.go (i := i) m0 m1 i0 i1 (EZ.set i.toNat { EZ.getD i.toNat vl with hO := -1 }) ⟨-1, -1, 0⟩ glz dz (by simp [hl]) (fun pr hp => ?_) (fun j hj => by rw [getD_set_ne hj]; exact hb j) (.inl rfl) (.inl hmp) (.inl ⟨rfl, rfl, rfl⟩) (fun a => ?_) hd hk
  ·rcases List.mem_or_eq_of_mem_set hp with hp | rfl
   ·have := hr pr hp; exact ⟨this.1, by omega⟩
   ·have := hr _ hmem; exact ⟨this.1, by dsimp only; omega⟩
  ·rw [Ba { EZ.getD i.toNat vl with hO := -1 } rfl, e0]
   have := hc a
   rw [hno rfl] at this
   simp only [List.count_nil] at *
   have e1 : kq (-1) = [] := rfl
   rw [e1, List.count_nil]
   omega
theorem BN {d : nW} {k n : Int} (hk : d.k.Ok) : (d.draw k n).1.taken.length ≤ d.taken.length + 1 := by
 generalize yc : d.draw k n = r
 obtain ⟨d', o⟩ := r
 cases o with
 | num v =>
  have := (lR hk yc).2.2
  dsimp only
  rw [this]; simp
 | dF l =>
  have := (Hv yc).1
  dsimp only
  rw [this]; omega
theorem SV.find {d' : nW} (h : SV p N x) (m0 : 0 ≤ m) (m1 : m < x.ms.length) (hp : (aC x m).p ≠ -1) (hg : (aC x m).g = -1) (hN : N ≤ 10000000) (hd : d'.taken.length ≤ 3 * N + 1) (hk : d'.k.Ok) :
  yj { x with d := d' } m ∧ SV p (N + 1) (Sc.find { x with d := d' } m).1 ∧ (Sc.find { x with d := d' } m).1.steps = x.steps := by
 have nK := rm m0 m1
 have Rr := h.ms _ (List.mem_of_getElem? nK)
 have hr : 0 ≤ (aC x m).p ∧ (aC x m).p < x.ps.length ∧ 0 ≤ (aC x m).left ∧ (aC x m).left ≤ 1024 := by
  rcases Rr with e | e
  ·exact absurd e.1 hp
  ·omega
 obtain ⟨i0, i1, l0, l1⟩ := hr
 have j7 := EY i0 i1
 have hpm := List.mem_of_getElem? j7
 have ht := h.fk _ hpm
 have hroom := h.room _ hpm
 have hpos := h.qpos hpm
 have e0 : kq (aC x m).g = [] := by rw [hg]; rfl
 have hcP := h.cP
 have hP1 := h.P1
 refine ⟨⟨m0, m1, i0, i1, by have := h.UB; dsimp only; omega, ht.1, by have := ht.2; show (aL x (aC x m).p).turns < 1000000000; omega, by dsimp only; omega, by dsimp only; omega, by dsimp only; omega⟩, ?_⟩
 have own := UE (t := (aL x (aC x m).p).turns) hpos hroom h.glpos
 unfold Sc.find
 dsimp only
 have em : aC { x with d := d' } m = aC x m := rfl
 have ep : ∀ j, aL { x with d := d' } j = aL x j := fun _ => rfl
 rw [em]
 simp only [ep]
 generalize hi : (aC x m).p = i at *
 have Ba : ∀ b : dG, ∀ a, mW (x.ps.set i.toNat b) a + (aL x i).q.all.count a = mW x.ps a + b.q.all.count a := fun b a => rj j7
 split
 ·rename_i hn
  refine ⟨?_, rfl⟩
  have hgp := Lg hpos
  have h0 : 0 ≤ (aL x i).q.get.2 := by
   rcases hgp with ⟨e1, _⟩ | ⟨_, h0⟩
   ·exact absurd e1 hn.2
   ·exact h0
  have hby : (aL x i).hO = m := by
   have := h.hO m.toNat (aC x m) nK (by rw [hi]; omega)
   rw [hi] at this
   rw [this]; omega
  refine h.go (i := i) m0 m1 i0 i1 (x.ps.set i.toNat { aL x i with q := (aL x i).q.get.1 }) ⟨i, (aL x i).q.get.2, (aC x m).left⟩ x.gl d' (by simp) (fun pr hp => ?_) (fun j hj => by rw [getD_set_ne hj]) (.inr ⟨rfl, by rw [eD (by omega)]; exact hby⟩) (.inl hi) (.inr ⟨by dsimp only; omega, by dsimp only; omega, by dsimp only; omega, l0, l1, fun _ => by have := hn.1; dsimp only; omega⟩) (fun a => ?_) (by omega) hk
  ·rcases List.mem_or_eq_of_mem_set hp with hp | rfl
   ·exact ⟨h.room pr hp, by have := h.fk pr hp; omega⟩
   ·exact ⟨QK hroom, by dsimp only; omega⟩
  ·have a1 := Ba { aL x i with q := (aL x i).q.get.1 } a
   have a2 := Lf _ hpos a
   rw [e0]
   simp only [List.count_nil] at *
   try dsimp only at *
   omega
 ·
  have hown : Sc.own { x with d := d' } i = ({ x with ps := x.ps.set i.toNat { aL x i with q := (nJ (aL x i).q (aL x i).turns x.gl).1 }, gl := (nJ (aL x i).q (aL x i).turns x.gl).2.1, d := d' }, (nJ (aL x i).q (aL x i).turns x.gl).2.2.1, (nJ (aL x i).q (aL x i).turns x.gl).2.2.2) := rfl
  rw [hown]
  generalize nJ (aL x i).q (aL x i).turns x.gl = r at own
  obtain ⟨q1, g1, v1, has⟩ := r
  obtain ⟨o1, o2, o3, o4⟩ := own
  dsimp only at o1 o2 o3 o4 ⊢
  have YR : ∀ pr ∈ x.ps.set i.toNat { aL x i with q := q1 }, UA pr.q ∧ 0 ≤ pr.turns ∧ pr.turns ≤ N := fun pr hp => by
   rcases List.mem_or_eq_of_mem_set hp with hp | rfl
   ·exact ⟨h.room pr hp, h.fk pr hp⟩
   ·exact ⟨o1, ht⟩
  have UF : ∀ j : Nat, ((x.ps.set i.toNat { aL x i with q := q1 }).getD j vl).hO = (x.ps.getD j vl).hO := fun j => by
   by_cases e : j = i.toNat
   ·subst e
    rw [eD (by omega)]
    rfl
   ·rw [getD_set_ne e]
  have hq1 : ∀ a, mW (x.ps.set i.toNat { aL x i with q := q1 }) a + g1.count a + (kq v1).count a = mW x.ps a + x.gl.count a := fun a => by
   have a1 := Ba { aL x i with q := q1 } a
   have a2 := o2 a
   dsimp only at *
   omega
  split
  ·rename_i hh
   have ev1 : kq v1 = [] := by rw [o4 hh.1]; rfl
   have Eb := BN (k := 2) (n := x.c.P) hk
   have BJ := wO (kind := 2) (n := x.c.P) hk
   split
   ·rename_i d2 l yc
    rw [yc] at Eb BJ
    refine ⟨?_, rfl⟩
    have : SV p (N + 1) { x with ps := x.ps.set i.toNat { aL x i with q := q1 }, ms := x.ms.set m.toNat (aC x m), gl := g1, d := d2 } :=
     h.go (i := i) m0 m1 i0 i1 _ (aC x m) g1 d2 (by simp) (fun pr hp => by have := YR pr hp; exact ⟨this.1, by omega⟩) (fun j hj => UF j) (.inr ⟨hi, by
      rw [UF]
      have := h.hO m.toNat (aC x m) nK (by rw [hi]; omega)
      rw [hi] at this
      show (aL x i).hO = m
      rw [this]; omega⟩) (.inl hi) Rr (fun a => by have := hq1 a; rw [ev1] at this; simp only [List.count_nil] at this; exact congrArg (· + (kq (aC x m).g).count a) this) (by dsimp only at Eb; omega) BJ
    rw [dM _ _ _ nK] at this
    exact this
   ·rename_i d2 v yc
    rw [yc] at Eb BJ
    have hvr := lR hk yc
    have ZM : kP x.c.P = x.c.P := by unfold kP; rw [if_neg (by omega)]
    rw [ZM] at hvr
    dsimp only at Eb BJ ⊢
    split
    ·exact h.bX (g := -1) m0 m1 hi i0 i1 hg (by simp) YR UF (fun a => by have := hq1 a; rw [ev1] at this; exact this) (fun e => by cases e) (fun _ => rfl) (by omega) BJ
    ·rename_i hvi
     have hne : v.toNat ≠ i.toNat := by omega
     have epi : aL { x with ps := x.ps.set i.toNat { aL x i with q := q1 }, gl := g1, d := d2 } i = { aL x i with q := q1 } := eD (by omega)
     have epv : aL { x with ps := x.ps.set i.toNat { aL x i with q := q1 }, gl := g1, d := d2 } v = aL x v := getD_set_ne hne
     have Rl := EY (x := x) (i := v) hvr.1 (by omega)
     have hvm := List.mem_of_getElem? Rl
     have Rs := h.qpos hvm
     have YS := h.room _ hvm
     have hst := Nl q1 (aL x v).q Rs o1.1
     have hsb := QM o1 YS
     have hsp := Nm (x := q1) Rs o1.1
     rw [epi, epv]
     dsimp only
     generalize q1.ej (aL x v).q = s at hst hsb hsp
     obtain ⟨s1, s2, s3⟩ := s
     dsimp only at hst hsb hsp ⊢
     have hz : Sc.de (Sc.de { x with ps := x.ps.set i.toNat { aL x i with q := q1 }, gl := g1, d := d2 } i { aL x i with q := s1 }) v { aL x v with q := s2 } = { x with ps := (x.ps.set i.toNat { aL x i with q := s1 }).set v.toNat { aL x v with q := s2 }, gl := g1, d := d2 } := by
      unfold Sc.de
      dsimp only
      rw [List.set_set]
     rw [hz]
     refine h.bX (g := s3) m0 m1 hi i0 i1 hg (by simp) (fun pr hp => ?_) (fun j => ?_) (fun a => ?_) (fun e => ?_) (fun e => ?_) (by omega) BJ
     ·rcases List.mem_or_eq_of_mem_set hp with hp | rfl
      ·rcases List.mem_or_eq_of_mem_set hp with hp | rfl
       ·exact ⟨h.room pr hp, h.fk pr hp⟩
       ·exact ⟨hsb.1, ht⟩
      ·exact ⟨hsb.2, h.fk (aL x v) hvm⟩
     ·by_cases e : j = v.toNat
      ·subst e
       rw [eD (by simp; omega)]
       rfl
      ·rw [getD_set_ne e]
       by_cases e2 : j = i.toNat
       ·subst e2
        rw [eD (by omega)]
        rfl
       ·rw [getD_set_ne e2]
     ·have a1 := Ba { aL x i with q := s1 } a
      have a2 := rj (ps := x.ps.set i.toNat { aL x i with q := s1 }) (a := a) (VE := { aL x v with q := s2 }) (j := v.toNat) (pr := aL x v) (by rw [List.getElem?_set_ne (Ne.symm hne)]; exact Rl)
      have a3 := hst a
      have a4 := o2 a
      rw [ev1] at a4
      simp only [List.count_nil] at a4
      dsimp only at *
      omega
     ·unfold jY at e
      rcases hsp with ⟨e1, e2⟩ | ⟨_, e2⟩
      ·rw [e1] at e
       have h1 := Rs.1
       simp at e
       omega
      ·exact e2
     ·unfold jY at e
      simp only [Bool.or_eq_false_iff, bne_eq_false_iff_eq] at e
      rw [e.1]; rfl
  ·rename_i hh
   exact h.bX (g := v1) m0 m1 hi i0 i1 hg (by simp) YR UF hq1 o3 (fun e => by rw [o4 e]; rfl) (by omega) hk
end
section
variable {p : cu} {N : Nat} {x y z : Sc} {m i g a kind : Int}
theorem DP : ∀ (l : List Int) (z : Sc), 0 ≤ (aC z m).p → (aC z m).p < z.ps.length → (∀ v ∈ l, 0 ≤ v) → (∀ pr ∈ z.ps, UA pr.q) →
  (∀ a, mW (l.foldl (aT m) z).ps a + (l.foldl (aT m) z).gl.count a = mW z.ps a + z.gl.count a + l.count a) ∧
  (∀ pr ∈ (l.foldl (aT m) z).ps, UA pr.q) ∧ (∀ j : Nat, ((l.foldl (aT m) z).ps.getD j vl).hO = (z.ps.getD j vl).hO ∧ ((l.foldl (aT m) z).ps.getD j vl).turns = (z.ps.getD j vl).turns)
 | [], z, _, _, _, hr => ⟨fun a => by simp, hr, fun j => ⟨rfl, rfl⟩⟩
 | r :: l, z, h0, h1, hv, hr => by
  have j7 := EY (x := z) h0 h1
  have hps : (aT m z r).ps.length = z.ps.length := by simp [aT, Sc.de]
  have nK : aC (aT m z r) m = aC z m := rfl
  have hrm := hr _ (List.mem_of_getElem? j7)
  have Vu : ∀ pr ∈ (aT m z r).ps, UA pr.q := fun pr hp => by
   rcases List.mem_or_eq_of_mem_set hp with hp | rfl
   ·exact hr pr hp
   ·exact QJ hrm _ _
  obtain ⟨a1, a2, a3⟩ := DP l (aT m z r) (by rw [nK]; exact h0) (by rw [nK, hps]; exact h1) (fun v hm => hv v (List.mem_cons_of_mem _ hm)) Vu
  rw [List.foldl_cons]
  refine ⟨fun a => ?_, a2, fun j => ?_⟩
  ·have b1 := a1 a
   have b2 := Nj (aL z (aC z m).p).q r (by have := hv r (by simp); omega) z.gl a
   have b3 := rj (a := a) (VE := { aL z (aC z m).p with q := ((aL z (aC z m).p).q.ready r z.gl).1 }) j7
   have b4 : mW (aT m z r).ps a = mW (z.ps.set (aC z m).p.toNat { aL z (aC z m).p with q := ((aL z (aC z m).p).q.ready r z.gl).1 }) a := rfl
   have b5 : (aT m z r).gl = ((aL z (aC z m).p).q.ready r z.gl).2.1 := rfl
   rw [b4, b5] at b1
   simp only [List.count_cons, List.count_nil] at *
   try dsimp only at *
   omega
  ·obtain ⟨c1, c2⟩ := a3 j
   rw [c1, c2]
   show ((z.ps.set (aC z m).p.toNat _).getD j vl).hO = _ ∧ ((z.ps.set (aC z m).p.toNat _).getD j vl).turns = _
   by_cases e : j = (aC z m).p.toNat
   ·subst e
    rw [eD (by omega)]
    exact ⟨rfl, rfl⟩
   ·rw [getD_set_ne e]
    exact ⟨rfl, rfl⟩
theorem UG {w y : Wd} (hy : WV p y) (h : iJ g w y) : y.ready.length ≤ 100 := by
 have h1 := r8 (b := 1) y.gs.length y.ready (fun v hv => ⟨(h.2.2.1 v hv).1, (h.2.2.1 v hv).2.1⟩) (fun v => List.nodup_iff_count.1 h.1 v)
 have := hy.n2
 omega
theorem YT {w y : Wd} (h : iJ g w y) (h0 : 0 ≤ g) (hg : g < w.gs.length) : (At y a 1 ↔ (a = g ∧ (aq y g).st = 1) ∨ a ∈ y.ready ∨ (a ≠ g ∧ At w a 1)) := by
 obtain ⟨_, a2, a3, a4, a5, a6⟩ := h
 constructor
 ·rintro ⟨b1, b2, b3⟩
  by_cases e : a = g
  ·exact .inl ⟨e, by rw [← e]; exact b3⟩
  ·by_cases er : a ∈ y.ready
   ·exact .inr (.inl er)
   ·refine .inr (.inr ⟨e, b1, ?_, by rw [← a4 a b1 e er]; exact b3⟩)
    by_cases hl : a < w.gs.length
    ·exact hl
    ·exact absurd (a6 a (by omega) b2) er
 ·rintro (⟨rfl, e⟩ | e | ⟨e, b1, b2, b3⟩)
  ·exact ⟨h0, by omega, e⟩
  ·exact ⟨(a3 a e).1, (a3 a e).2.1, (a3 a e).2.2.2⟩
  ·by_cases er : a ∈ y.ready
   ·exact ⟨(a3 a er).1, (a3 a er).2.1, (a3 a er).2.2.2⟩
   ·exact ⟨b1, by omega, by rw [a4 a b1 e er]; exact b3⟩
theorem SV.ji {d' : nW} {y : Wd} {rest : Bool} (h : SV p N x) (m0 : 0 ≤ m) (m1 : m < x.ms.length) (hp : (aC x m).p ≠ -1) (hg : 0 ≤ (aC x m).g) (hy : WV p y) (hr : iJ (aC x m).g { x.w with ready := [] } y)
  (hd : d'.taken.length ≤ 3 * N + 3) (hk : d'.k.Ok) {d0 : nW} : ∃ z o, ji { x with d := d0 } m (aC x m).g d' y rest = some (z, o) ∧ SV p (N + 1) z ∧ z.steps = x.steps := by
 have nK := rm m0 m1
 have IE := List.mem_of_getElem? nK
 have Rr := h.ms _ IE
 have Vz := h.mg IE hg
 have hbd : 0 ≤ (aC x m).p ∧ (aC x m).p < x.ps.length ∧ 1 ≤ (aC x m).left ∧ (aC x m).left ≤ 1024 := by
  rcases Rr with e | e
  ·exact absurd e.1 hp
  ·have := e.2.2.2.2.2 hg; omega
 obtain ⟨i0, i1, l0, l1⟩ := hbd
 have jn := UG hy hr
 have hglt : (aC x m).g < y.gs.length := by have := hr.2.2.2.2.1; have := Vz.2.1; dsimp only at *; omega
 unfold Proofs.ji
 rw [if_pos ⟨by omega, hglt⟩]
 have f1 := jE (m := m) y.ready { x with w := y, d := d' } i0 i1
 have f2 := DP (m := m) y.ready { x with w := y, d := d' } i0 i1 (fun v hv => (hr.2.2.1 v hv).1) h.room
 (try dsimp only at f1 f2 ⊢)
 generalize List.foldl (aT m) { x with w := y, d := d' } y.ready = z at f1 f2
 obtain ⟨z1, z2, z3, z4, z5, z6, _⟩ := f1
 obtain ⟨c1, c2, c3⟩ := f2
 have hran := fun a => YT (a := a) hr hg Vz.2.1
 have VH : ∀ a, a ∈ y.ready → ¬ At x.w a 1 ∧ a ≠ (aC x m).g ∧ y.ready.count a = 1 := fun a ha =>
  ⟨(hr.2.2.1 a ha).2.2.1, fun e => hr.2.1 (e ▸ ha), Nat.le_antisymm (List.nodup_iff_count.1 hr.1 a) (List.count_pos_iff.2 ha)⟩
 have turnz : ∀ pr ∈ z.ps, 0 ≤ pr.turns ∧ pr.turns ≤ N := fun pr j7 => by
  obtain ⟨j, hj, e⟩ := List.getElem_of_mem j7
  have e2 : z.ps.getD j vl = pr := by rw [List.getD_eq_getElem?_getD, List.getElem?_eq_getElem hj, e]; rfl
  have KA : j < x.ps.length := by omega
  have e3 : x.ps.getD j vl = x.ps[j] := by rw [List.getD_eq_getElem?_getD, List.getElem?_eq_getElem KA]; rfl
  have := (c3 j).2
  rw [e2, e3] at this
  rw [this]
  exact h.fk _ (List.getElem_mem KA)
 have done : ∀ (tL : zY) (NQ : List Int), tL.p = (aC x m).p → 0 ≤ tL.left → tL.left ≤ 1024 → -1 ≤ tL.g → (0 ≤ tL.g → 1 ≤ tL.left) →
   (∀ a, NQ.count a + (kq tL.g).count a = z.gl.count a + (if (aq y (aC x m).g).st = 1 then [(aC x m).g].count a else 0)) →
   SV p (N + 1) { z with ms := z.ms.set m.toNat tL, gl := NQ } := by
  intro tL NQ e1 e2 e3 e4 e5 e6
  have hS : ∀ a, nL { z with ms := z.ms.set m.toNat tL, gl := NQ } a + [(aC x m).g].count a = nL x a + y.ready.count a + (if (aq y (aC x m).g).st = 1 then [(aC x m).g].count a else 0) := fun a => by
   have q1 := BM (a := a) (tL := tL) nK
   have q2 := c1 a
   have q3 := e6 a
   rw [jd hg] at q1
   unfold nL
   (try dsimp only)
   rw [z1]
   (try dsimp only at q2)
   omega
  have hwz : z.w = y := z3
  refine ⟨by (try dsimp only); rw [hwz]; exact hy, fun a ha => ?_, fun a ha => ?_, by (try dsimp only); rw [z5, z2]; exact h.cP, by (try dsimp only); rw [z5, z1]; simpa using h.cM, by (try dsimp only); rw [z2]; exact h.P1, by (try dsimp only); rw [z1]; simpa using h.M1, by (try dsimp only); rw [z5]; exact h.cS, c2, fun pr j7 => by have := turnz pr j7; omega, fun mc Rt => ?_, fun j mc hj hne => ?_, by have := h.st; (try dsimp only); rw [z6]; (try dsimp only); omega, by (try dsimp only); rw [z4]; (try dsimp only); omega, by (try dsimp only); rw [z4]; exact hk⟩
  ·(try dsimp only at ha)
   rw [hwz] at ha
   have hs := hS a
   rcases (hran a).1 ha with ⟨e, es⟩ | e | ⟨e, ew⟩
   ·subst e
    have n1 : y.ready.count (aC x m).g = 0 := List.count_eq_zero.2 hr.2.1
    have n2 := h.one _ Vz
    rw [if_pos es] at hs
    omega
   ·obtain ⟨w1, w2, w3⟩ := VH a e
    have n2 := h.zero a w1
    have n3 : [(aC x m).g].count a = 0 := List.count_eq_zero.2 (by simpa using w2)
    rw [n3] at hs
    have : (if (aq y (aC x m).g).st = 1 then 0 else 0) = 0 := by split <;> rfl
    omega
   ·have n3 : [(aC x m).g].count a = 0 := List.count_eq_zero.2 (by simpa using e)
    have n2 := h.one a ew
    have n1 : y.ready.count a = 0 := List.count_eq_zero.2 (fun e2 => (VH a e2).1 ew)
    rw [n3] at hs
    have : (if (aq y (aC x m).g).st = 1 then 0 else 0) = 0 := by split <;> rfl
    omega
  ·(try dsimp only at ha)
   rw [hwz] at ha
   have hs := hS a
   have hn := fun e => ha ((hran a).2 e)
   by_cases e : a = (aC x m).g
   ·subst e
    have n1 : y.ready.count (aC x m).g = 0 := List.count_eq_zero.2 hr.2.1
    have n2 := h.one _ Vz
    have n3 : [(aC x m).g].count (aC x m).g = 1 := by simp
    rw [if_neg (fun es => hn (.inl ⟨rfl, es⟩))] at hs
    omega
   ·have n3 : [(aC x m).g].count a = 0 := List.count_eq_zero.2 (by simpa using e)
    have n2 := h.zero a (fun ew => hn (.inr (.inr ⟨e, ew⟩)))
    have n1 : y.ready.count a = 0 := List.count_eq_zero.2 (fun e2 => hn (.inr (.inl e2)))
    rw [n3] at hs
    have : (if (aq y (aC x m).g).st = 1 then 0 else 0) = 0 := by split <;> rfl
    omega
  ·(try dsimp only at Rt ⊢)
   rw [z2]
   rw [z1] at Rt
   rcases jI Rt with Rt | rfl
   ·exact h.ms mc Rt
   ·exact .inr ⟨by omega, by (try dsimp only); omega, e4, e2, e3, e5⟩
  ·(try dsimp only at hj)
   rw [z1] at hj
   show (z.ps.getD mc.p.toNat vl).hO = _
   rw [(c3 _).1]
   by_cases e : j = m.toNat
   ·subst e
    rw [List.getElem?_set_self (by (try dsimp only); omega)] at hj
    simp only [Option.some.injEq] at hj
    subst hj
    rw [e1]
    exact h.hO m.toNat _ nK hp
   ·rw [List.getElem?_set_ne (Ne.symm e)] at hj
    exact h.hO j mc hj hne
 have hzm : aC z m = aC x m := by unfold aC; rw [z1]
 have hzs : z.steps = x.steps := z6
 unfold Sc.u6
 rw [hzm]
 split
 ·rename_i hkp
  refine ⟨_, _, rfl, ?_, hzs⟩
  have hst : (aq y (aC x m).g).st = 1 := by
   have := hkp.1
   unfold jg at this
   simp only [Bool.and_eq_true, beq_iff_eq] at this
   exact this.2
  exact done { aC x m with left := (aC x m).left - 1 } z.gl rfl (by (try dsimp only); omega) (by (try dsimp only); omega) (by (try dsimp only); omega) (fun _ => by (try dsimp only); omega) (fun a => by rw [if_pos hst]; (try dsimp only); rw [jd hg])
 ·refine ⟨_, _, rfl, ?_, hzs⟩
  refine done { aC x m with left := (aC x m).left - 1, g := -1 } _ rfl (by (try dsimp only); omega) (by (try dsimp only); omega) (by (try dsimp only); omega) (fun e => by (try dsimp only at e); omega) (fun a => ?_)
  have e1 : kq (-1) = [] := rfl
  (try dsimp only)
  rw [e1, z3]
  split
  ·rw [List.count_append]; simp
  ·simp
end
section
variable {p : cu} {N : Nat} {x y z : Sc} {m i g a kind : Int}
theorem SV.Ru (h : SV p N x) {r : List Int} {d' : nW} (hd : d'.taken.length ≤ 3 * N + 3) (hk : d'.k.Ok) : SV p (N + 1) { x with w := { x.w with ready := r }, d := d' } :=
 ⟨h.w.ready, h.one, h.zero, h.cP, h.cM, h.P1, h.M1, h.cS, h.room, fun pr hp => by have := h.fk pr hp; omega, h.ms, h.hO, by have := h.st; dsimp only; omega, by dsimp only; omega, hk⟩
theorem SV.run {d' : nW} (h : SV p N x) (hp : eC p) (m0 : 0 ≤ m) (m1 : m < x.ms.length) (hmp : (aC x m).p ≠ -1) (hg : (aC x m).g ≠ -1) (hN : N ≤ 1000000) (hd : d'.taken.length ≤ 3 * N + 1) (hk : d'.k.Ok) :
  ∃ z o, Sc.run p { x with d := d' } m = some (z, o) ∧ SV p (N + 1) z ∧ z.steps = x.steps := by
 have nK := rm m0 m1
 have IE := List.mem_of_getElem? nK
 have Rr := h.ms _ IE
 have hbd : 0 ≤ (aC x m).p ∧ (aC x m).p < x.ps.length ∧ 0 ≤ (aC x m).g ∧ 1 ≤ (aC x m).left ∧ (aC x m).left ≤ 1024 := by
  rcases Rr with e | e
  ·exact absurd e.1 hmp
  ·have := e.2.2.2.2.2; omega
 obtain ⟨i0, i1, g0, l0, l1⟩ := hbd
 have Vz := h.mg IE g0
 unfold Sc.run
 have em : aC { x with d := d' } m = aC x m := rfl
 rw [em]
 rw [if_pos (show BI p { x with d := d' } m from ⟨m0, m1, i0, i1, by have := h.UB; dsimp only; omega, by dsimp only; omega, l0, by show (aC x m).left < 1000000000; omega, g0⟩)]
 dsimp only
 generalize zA : asks p { x.w with ready := [] } (aC x m).g = ak
 have hbk : ∀ k n, ak = some (k, n) → 1 ≤ n ∧ n < 1099511627776 := fun k n e => Lz hp (by rw [zA]; exact e)
 rw [if_pos (show VG ak = true from by
  cases ak with
  | none => rfl
  | some kn => obtain ⟨k, n⟩ := kn; have := hbk k n rfl; exact decide_eq_true (by omega))]
 have CF : ∀ d2 dr, fH d' ak = (d2, dr) → d2.k.Ok ∧ d2.taken.length ≤ 3 * N + 2 ∧ (∀ v kd n, dr = .num v → ak = some (kd, n) → 0 ≤ v ∧ v < n) := by
  intro d2 dr e
  cases ak with
  | none =>
   unfold fH at e
   cases e
   exact ⟨hk, by omega, fun v kd n _ e => by cases e⟩
  | some kn =>
   obtain ⟨k, n⟩ := kn
   unfold fH at e
   dsimp only at e
   have a1 := wO (kind := k) (n := n) hk
   have a2 := BN (k := k) (n := n) hk
   rw [e] at a1 a2
   dsimp only at a1 a2
   refine ⟨a1, by omega, fun v kd n' e1 e2 => ?_⟩
   subst e1
   cases e2
   have := lR hk e
   have hb := hbk _ _ rfl
   rw [show kP n = n from by unfold kP; rw [if_neg (by omega)]] at this
   exact ⟨this.1, this.2.1⟩
 generalize yc : fH d' ak = dd at CF
 obtain ⟨d2, dr⟩ := dd
 obtain ⟨k2, t2, v2⟩ := CF d2 dr rfl
 dsimp only
 obtain ⟨r, rest, hex, hres⟩ := Hj (d := dr) h.w hp g0 (fun v kd n e1 e2 => v2 v kd n e1 (by rw [← zA]; exact e2))
 rw [hex]
 rcases hres with ⟨hres, _⟩ | ⟨l, e1, e2, _⟩
 ·cases r with
  | on y => exact h.ji m0 m1 hmp g0 hres.1 hres.2 (by omega) k2
  | eV n y => exact h.ji (y := { y with end_ := 2, code := n }) m0 m1 hmp g0 (hres.1.fin (e := 2) (c := n)) (hres.2.NH rfl rfl fun _ _ _ => rfl) (by omega) k2
  | dF l y => exact hres.elim
 ·subst e2
  exact ⟨_, _, rfl, h.Ru (by omega) k2, rfl⟩
theorem SV.step (h : SV p N x) (hp : eC p) (hN : N ≤ 1000000) : ∃ y o, x.step p = some (y, o) ∧ SV p (N + 1) y := by
 have hst := h.st
 have yl := h.tk
 have hM := h.cM
 have hM1 := h.M1
 have hP1 := h.P1
 unfold Sc.step
 rw [if_pos (show z0 x from ⟨by have := h.w.n2; omega, hM, by omega, by omega, by omega, hst.1, by omega⟩)]
 split
 ·exact ⟨_, _, rfl, h.mono (by omega)⟩
 ·rename_i hs
  have Eb := BN (k := 1) (n := x.c.M + 1) h.k
  have BJ := wO (kind := 1) (n := x.c.M + 1) h.k
  split
  ·rename_i d' l yc
   rw [yc] at Eb BJ
   dsimp only at Eb BJ
   exact ⟨_, _, rfl, h.draw (by omega) BJ⟩
  ·rename_i d' m yc
   rw [yc] at Eb BJ
   dsimp only at Eb BJ
   have hv := lR h.k yc
   rw [show kP (x.c.M + 1) = x.c.M + 1 from by unfold kP; rw [if_neg (by omega)]] at hv
   obtain ⟨m0, mM, _⟩ := hv
   have fin : ∀ z o, SV p (N + 1) z → z.steps = x.steps → ∃ y o', Option.map EW (some (z, o)) = some (y, o') ∧ SV p (N + 1) y := fun z o hz hzs => by
    cases o with
    | ev e => exact ⟨_, _, rfl, hz.inc (by rw [hzs]; exact hst)⟩
    | dF l => exact ⟨_, _, rfl, hz⟩
   unfold Sc.act
   dsimp only
   split
   ·obtain ⟨t1, t2, t3⟩ := h.tick (d' := d') (by omega) BJ
    rw [if_pos t1]
    exact fin _ _ t2 t3
   ·rename_i hmM
    have m1 : m < x.ms.length := by omega
    have em : aC { x with d := d' } m = aC x m := rfl
    rw [em]
    split
    ·rename_i hmp
     obtain ⟨t2, t3⟩ := h.hold (d' := d') m0 m1 hmp (by omega) BJ
     exact fin _ _ t2 t3
    ·rename_i hmp
     split
     ·rename_i ZF
      obtain ⟨t1, t2, t3⟩ := h.find (d' := d') m0 m1 hmp ZF (by omega) (by omega) BJ
      rw [if_pos t1]
      exact fin _ _ t2 t3
     ·rename_i ZF
      obtain ⟨z, o, t1, t2, t3⟩ := h.run (d' := d') hp m0 m1 hmp ZF hN (by omega) BJ
      rw [t1]
      exact fin _ _ t2 t3
theorem SV.new {c : Se} {d : nW} (hp : eC p) (hP : 1 ≤ c.P ∧ c.P ≤ 64) (hM : 1 ≤ c.M ∧ c.M ≤ 64) (hS : 1 ≤ c.S ∧ c.S ≤ 1024) (hd : d.taken = []) (hk : d.k.Ok) : SV p 0 (Sc.new p c d) := by
 have hw := YI hp
 have hA : ∀ a, At (Wd.new p) a 1 ↔ a = 0 := fun a => by
  constructor
  ·rintro ⟨b1, b2, _⟩
   simp [Wd.new] at b2
   omega
  ·rintro rfl
   exact ⟨by decide, by simp [Wd.new], rfl⟩
 have hQ : ∀ a, mW (List.replicate c.P.toNat ⟨⟨-1, gK c.R, []⟩, 0, -1⟩) a = 0 := fun a => by
  unfold mW
  rw [List.count_eq_zero]
  intro hm
  obtain ⟨q, hq, h2⟩ := List.mem_flatMap.1 hm
  obtain ⟨pr, j7, rfl⟩ := List.mem_map.1 hq
  rw [List.eq_of_mem_replicate j7] at h2
  simp [Loc.all] at h2
 have hMm : ∀ a, Hz (List.replicate c.M.toNat ⟨-1, -1, 0⟩) a = 0 := fun a => by
  unfold Hz
  rw [List.count_eq_zero]
  intro hm
  obtain ⟨q, hq, h2⟩ := List.mem_flatMap.1 hm
  rw [List.eq_of_mem_replicate hq] at h2
  simp [kq] at h2
 have hC : ∀ a, nL (Sc.new p c d) a = [(0 : Int)].count a := fun a => by
  unfold nL Sc.new
  dsimp only
  rw [hQ, hMm]; omega
 have cap := Ld c.R
 refine ⟨hw, fun a ha => ?_, fun a ha => ?_, by simp [Sc.new]; omega, by simp [Sc.new]; omega, by simp [Sc.new]; omega, by simp [Sc.new]; omega, hS, fun pr j7 => ?_, fun pr j7 => ?_, fun mc nK => ?_, fun j mc hj hne => ?_, by simp [Sc.new], by simp [Sc.new, hd], hk⟩
 ·rw [hC, (hA a).1 ha]; rfl
 ·rw [hC]
  exact List.count_eq_zero.2 (fun e => ha ((hA a).2 (by simpa using e)))
 ·rw [List.eq_of_mem_replicate j7]
  exact ⟨by simp, cap.2, cap.1⟩
 ·rw [List.eq_of_mem_replicate j7]
  simp
 ·rw [List.eq_of_mem_replicate nK]
  exact .inl ⟨rfl, rfl, rfl⟩
 ·have := List.eq_of_mem_replicate (List.mem_of_getElem? hj)
  rw [this] at hne
  exact absurd rfl hne
end
def ph7 (t : Int) : Nat := if Int.tmod t 7 = 6 then 1 else 0
def Rv (t : Int) : Nat := 6 - (Int.tmod t 7).toNat
theorem Rw (x : Loc) (v : Int) (gl : List Int) : (x.put v gl).1.next = x.next ∧ (x.put v gl).1.room = x.room ∧ gl <+: (x.put v gl).2.1 := by
 unfold Loc.put
 split
 ·exact ⟨rfl, rfl, List.prefix_refl _⟩
 ·exact ⟨rfl, rfl, List.prefix_append _ _⟩
theorem NT (q : Loc) (gl : List Int) : (q.fk gl).1.next = -1 ∧ (q.fk gl).1.room = q.room ∧ gl <+: (q.fk gl).2.1 := by
 unfold Loc.fk
 split
 ·rename_i e; exact ⟨e, rfl, List.prefix_refl _⟩
 ·exact Rw { q with next := -1 } q.next gl
theorem t7 {t : Int} (h : 0 ≤ t) : (Int.tmod t 7 = 6 → ph7 t = 1 ∧ Rv t = 0 ∧ ph7 (t + 1) = 0 ∧ Rv (t + 1) = 6) ∧ (Int.tmod t 7 ≠ 6 → ph7 t = 0 ∧ Rv (t + 1) + 1 = Rv t) := by
 have e1 : Int.tmod t 7 = t % 7 := Int.tmod_eq_emod_of_nonneg h
 have e2 : Int.tmod (t + 1) 7 = (t + 1) % 7 := Int.tmod_eq_emod_of_nonneg (by omega)
 unfold ph7 Rv
 rw [e1, e2]
 constructor
 ·intro e
  rw [if_pos e, if_neg (by omega)]
  omega
 ·intro e
  rw [if_neg e]
  omega
theorem UH {q : Loc} (hn : q.next = -1) (hl : q.l = []) : q.get = (q, -1) := by
 unfold Loc.get
 rw [if_neg (by rw [hn]; decide), hl]
theorem YU (q : Loc) (gl : List Int) : q.eR gl 0 = match gl with | [] => (q, [], -1) | v :: l => (q, l, v) := by
 have e : q.dn gl 0 = 1 := by unfold Loc.dn; rw [if_pos (by decide)]
 unfold Loc.eR
 rw [e]
 cases gl with
 | nil => rfl
 | cons v l => simp
section
variable {p : cu} {N Rm GG m n u k : Nat} {x y z : Sc} {i g a kind : Int}
theorem SV.apart (h : SV p N x) {mc tL : zY} {k : Nat} (h1 : x.ms[m]? = some mc) (h2 : x.ms[k]? = some tL) (hp : mc.p ≠ -1) (he : mc.p = tL.p) : m = k := by
 have a1 := h.hO m mc h1 hp
 have a2 := h.hO k tL h2 (by rw [← he]; exact hp)
 rw [he] at a1
 rw [a1] at a2
 omega
theorem SV.mv (h : SV p N x) {mc : zY} (h1 : x.ms[m]? = some mc) : MV x.ps.length mc := h.ms _ (List.mem_of_getElem? h1)
end
section
variable {p : cu} {N Rm GG m n u k S : Nat} {x y z : Sc} {i g a kind v : Int}
theorem SV.other (h : SV p N x) {mc : zY} {c : Nat} (k1 : k < x.ms.length) (hk : (aC x (k : Int)).p ≠ -1) (h1 : x.ms[c]? = some mc) (hp : mc.p ≠ -1) (hc : c ≠ k) : mc.p.toNat ≠ (aC x (k : Int)).p.toNat := by
 have hmk := rm (x := x) (m := (k : Int)) (by omega) (by omega)
 rw [Int.toNat_natCast] at hmk
 intro e
 have a1 : 0 ≤ mc.p := by rcases h.mv h1 with e | e; exact absurd e.1 hp; omega
 have a2 : 0 ≤ (aC x (k : Int)).p := by rcases h.mv hmk with e | e; exact absurd e.1 hk; omega
 exact hc (h.apart h1 hmk hp (by omega))
end
section
variable {p : cu} {N Rm GG m n u k S : Nat} {x y z : Sc} {i g a kind v : Int}
theorem NU {d' : nW} {o : tK} (hy : Sc.act p { x with d := d' } a = some (y, o)) : y.steps = x.steps ∧ y.c = x.c := by
 have fe : ∀ (z : Sc) (i kind g : Int) (t : Bool), (z.bX a i kind g t).1.steps = z.steps ∧ (z.bX a i kind g t).1.c = z.c := fun z i kind g t => by
  unfold Sc.bX; split <;> exact ⟨rfl, rfl⟩
 unfold Sc.act at hy
 split at hy
 ·split at hy
  ·cases hy; exact ⟨rfl, rfl⟩
  ·cases hy
 ·split at hy
  ·simp only [Option.some.injEq, Prod.mk.injEq] at hy
   rw [← hy.1]
   unfold Sc.hold
   dsimp only
   split <;> exact ⟨rfl, rfl⟩
  ·split at hy
   ·split at hy
    ·simp only [Option.some.injEq] at hy
     have hf : (Sc.find { x with d := d' } a).1.steps = x.steps ∧ (Sc.find { x with d := d' } a).1.c = x.c := by
      unfold Sc.find
      dsimp only
      split
      ·exact ⟨rfl, rfl⟩
      ·split
       ·split
        ·exact ⟨rfl, rfl⟩
        ·split <;> exact fe _ _ _ _ _
       ·exact fe _ _ _ _ _
     rw [hy] at hf
     exact hf
    ·cases hy
   ·unfold Sc.run at hy
    split at hy
    ·rename_i hpre
     obtain ⟨m0, m1, i0, i1, _⟩ := hpre
     have on : ∀ {w : Wd} {d2 : nW} {rest : Bool}, ji { x with d := d' } a (aC { x with d := d' } a).g d2 w rest = some (y, o) → y.steps = x.steps ∧ y.c = x.c := fun {w d2 rest} hh => by
      unfold ji at hh
      split at hh
      ·simp only [Option.some.injEq, Prod.mk.injEq] at hh
       have f1 := jE (m := a) w.ready { x with w := w, d := d2 } i0 i1
       rw [← hh.1]
       unfold Sc.u6
       split <;> exact ⟨f1.2.2.2.2.2.1, f1.2.2.2.2.1⟩
      ·cases hh
     split at hy
     ·split at hy
      ·cases hy
      ·cases hy; exact ⟨rfl, rfl⟩
      ·exact on hy
      ·exact on hy
     ·cases hy
    ·cases hy
theorem NV {e : Ev} (hst : x.status = 0) (hy : x.step p = some (y, .ev e)) : y.steps = x.steps + 1 ∧ y.c = x.c := by
 unfold Sc.step at hy
 split at hy
 ·rw [if_neg (by rw [hst]; decide)] at hy
  split at hy
  ·cases hy
  ·rename_i d' k yc
   generalize hac : Sc.act p { x with d := d' } k = r at hy
   cases r with
   | none => cases hy
   | some r =>
    obtain ⟨z, o⟩ := r
    have := NU hac
    cases o with
    | dF l => cases hy
    | ev e2 =>
     cases hy
     exact ⟨by show z.steps + 1 = _; rw [this.1], this.2⟩
 ·cases hy
end
def p18 : cu := ⟨[[⟨20, 0, 0, 0⟩, ⟨10, 0, 0, 0⟩]], [], 0, []⟩
def evOf : Option (Sc × tK) → Option (Sc × Ev)
 | some (x, .ev e) => some (x, e)
 | _ => none
def x18 : Sc := Sc.new p18 ⟨1, 1, 2, 9⟩ ⟨.yY [0, 0, 0, 0] 0, []⟩
theorem dx : x18.d.k.Ok := ⟨by decide, by decide, fun v hv => by simp at hv; subst hv; decide⟩
def dk (c : Se) : Se :=
 let q := fun (x m : Int) => Int.tmod (IntKind.wrap .i64 (((Nat.bitwise and (BitVec.ofInt IntKind.i64.bits x).toNat (BitVec.ofInt IntKind.i64.bits 255).toNat) : Nat) : Int)) m
 ⟨1 + q c.P 5, 1 + q c.M 5, 2 + q c.R 5, 1 + q c.S 12⟩
theorem z8 (x : Int) {m : Int} {n : Nat} (e : m = (n : Int)) (hm : 0 < n) : 0 ≤ Int.tmod (IntKind.wrap .i64 (((Nat.bitwise and (BitVec.ofInt IntKind.i64.bits x).toNat (BitVec.ofInt IntKind.i64.bits 255).toNat) : Nat) : Int)) m ∧ Int.tmod (IntKind.wrap .i64 (((Nat.bitwise and (BitVec.ofInt IntKind.i64.bits x).toNat (BitVec.ofInt IntKind.i64.bits 255).toNat) : Nat) : Int)) m < m := by
 obtain ⟨q, hq, _⟩ := mask (x := x) (y := 255) (m := 255) rfl (by omega)
 rw [hq, e, Go.AF.qc]
 have := Nat.mod_lt q hm
 omega
theorem BO (c : Se) : 1 ≤ (dk c).P ∧ (dk c).P ≤ 5 ∧ 1 ≤ (dk c).M ∧ (dk c).M ≤ 5 ∧ 2 ≤ (dk c).R ∧ (dk c).R ≤ 6 ∧ 1 ≤ (dk c).S ∧ (dk c).S ≤ 12 := by
 have a := z8 c.P (m := 5) (n := 5) rfl (by omega)
 have b := z8 c.M (m := 5) (n := 5) rfl (by omega)
 have d := z8 c.R (m := 5) (n := 5) rfl (by omega)
 have e := z8 c.S (m := 12) (n := 12) rfl (by omega)
 unfold dk
 dsimp only
 refine ⟨by omega, ?_, by omega, ?_, by omega, ?_, by omega, ?_⟩ <;> omega
section
variable {R : Mem} {L L' : List HP} {M : Mem} {K : Value → Mem → Prop} {Kp : List PanicEntry → Mem → Prop}
theorem mK {x m : Int} {n : Nat} (hm : m = (n : Int)) (hn : 0 < n) (k : K (.int .i64 (Int.tmod (IntKind.wrap .i64 (((Nat.bitwise and (BitVec.ofInt IntKind.i64.bits x).toNat (BitVec.ofInt IntKind.i64.bits 255).toNat) : Nat) : Int)) m)) M) : aa Tryz.prog 55 #[.int .i64 x, .int .i64 m] M K Kp := by
 refine oE ⟨by omega, k⟩
theorem Kd {c : Se} (h : Hp R L M) (k : ∀ M', Hp R L M' → K (.agg #[.int .i64 (dk c).P, .int .i64 (dk c).M, .int .i64 (dk c).R, .int .i64 (dk c).S]) M') : aa Tryz.prog 14 #[.agg #[.int .i64 c.P, .int .i64 c.M, .int .i64 c.R, .int .i64 c.S]] M K Kp := by
 refine qE ?_
 refine aj h ?_
 clear h; intro k1 M h
 refine aj h ?_
 clear h; intro k3 M h
 refine ay h (ay h (ay h (ay h ?_)))
 refine mK (n := 5) rfl (by omega) (bW ⟨bD h, bD h, bD h, ?_⟩)
 refine mK (n := 5) rfl (by omega) (bW ⟨bD h, bD h, bD h, ?_⟩)
 refine mK (n := 5) rfl (by omega) (bW ⟨bD h, bD h, bD h, ?_⟩)
 refine mK (n := 12) rfl (by omega) (bW ⟨bD h, bD h, bD h, ?_⟩)
 have ok := BO c
 have e1 : IntKind.wrap .i64 (1 + Int.tmod (IntKind.wrap .i64 (((Nat.bitwise and (BitVec.ofInt IntKind.i64.bits c.P).toNat (BitVec.ofInt IntKind.i64.bits 255).toNat) : Nat) : Int)) 5) = (dk c).P := dc (z := (dk c).P) (by omega) (by omega)
 have e2 : IntKind.wrap .i64 (1 + Int.tmod (IntKind.wrap .i64 (((Nat.bitwise and (BitVec.ofInt IntKind.i64.bits c.M).toNat (BitVec.ofInt IntKind.i64.bits 255).toNat) : Nat) : Int)) 5) = (dk c).M := dc (z := (dk c).M) (by omega) (by omega)
 have e3 : IntKind.wrap .i64 (2 + Int.tmod (IntKind.wrap .i64 (((Nat.bitwise and (BitVec.ofInt IntKind.i64.bits c.R).toNat (BitVec.ofInt IntKind.i64.bits 255).toNat) : Nat) : Int)) 5) = (dk c).R := dc (z := (dk c).R) (by omega) (by omega)
 have e4 : IntKind.wrap .i64 (1 + Int.tmod (IntKind.wrap .i64 (((Nat.bitwise and (BitVec.ofInt IntKind.i64.bits c.S).toNat (BitVec.ofInt IntKind.i64.bits 255).toNat) : Nat) : Int)) 12) = (dk c).S := dc (z := (dk c).S) (by omega) (by omega)
 rw [e1, e2, e3, e4]
 refine au h ?_
 clear h; intro M h
 refine au h ?_
 clear h; intro M h
 refine au h ?_
 clear h; intro M h
 refine au h ?_
 clear h; intro M h
 refine ⟨bD h, bD h, bD h, ay h (ay h (ay h (ay h ?_)))⟩
 exact k _ (h.sub bp)
end
def Oh : List Value := [.int .i64 0, .int .i64 0, .int .i64 0, .int .i64 0, .int .u64 0]
inductive pK : List PanicEntry → Int → List Value → Prop
 | d1 : pK NK 1 Oh
 | d2 : pK (zB NK) 1 Oh
 | u1 (a q n k x : Int) : pK (ZB a q n k x) 2 [.int .i64 a, .int .i64 q, .int .i64 n, .int .i64 k, .int .u64 x]
 | u2 (a q n k x : Int) : pK (zB (ZB a q n k x)) 2 [.int .i64 a, .int .i64 q, .int .i64 n, .int .i64 k, .int .u64 x]
section
variable {R : Mem} {L L' L2 : List HP} {M : Mem} {K : Value → Mem → Prop} {Kp : List PanicEntry → Mem → Prop} {u0 : Value} {S : Mem → List HP → Prop} {D : Mem → List PanicEntry → List HP → Prop}
def E0 (R : Mem) (L : List HP) (u0 : Value) (S : Mem → List HP → Prop) (D : Mem → List PanicEntry → List HP → Prop) : Prop := ∀ (Q : HP) (M : Mem) (K : Value → Mem → Prop) (Kp : List PanicEntry → Mem → Prop), Hp R (Q :: L) M →
 (∀ R' L' M', S R' L' → Hp R' (Q :: L') M' → K (.tuple #[]) M') → (∀ R' l L' M', D R' l L' → Hp R' (Q :: L') M' → Kp l M') → gf Cx u0 [] M K Kp
theorem CG {b1 b2 : Nat} (h : Hp R (pt b1 [.int .i64 0] 3 :: pt b2 Oh 97 :: L) M) (hc : E0 R L u0 S D) (hd : ∀ R' l L', D R' l L' → ∃ e vs, pK l e vs)
  (k : ∀ R' L' M', S R' L' → Hp R' (pt b1 [.int .i64 0] 3 :: pt b2 Oh 97 :: L') M' → K (.tuple #[]) M')
  (kd : ∀ R' l L' M' e vs, D R' l L' → pK l e vs → Hp R' (pt b1 [.int .i64 e] 3 :: pt b2 vs 97 :: L') M' → K (.tuple #[]) M') :
  aa Tryz.prog 116 #[u0, .pointer (some ⟨b1, 0, none⟩), .pointer (some ⟨b2, 0, none⟩)] M K Kp := by
 refine xS ?_
 refine aj h ?_
 clear h
 intro k1 M h
 refine aj h ?_
 clear h
 intro k3 M h
 refine hc (sep [pt k3 [.pointer (some ⟨b2, 0, none⟩)] _, pt k1 [.pointer (some ⟨b1, 0, none⟩)] _, pt b1 [.int .i64 0] 3, pt b2 Oh 97]) M _ _ (Hp.bk.2 h) ?_ ?_
 ·clear h
  intro R' L' M' hs h
  have h := Hp.bk.1 h
  exact ⟨rfl, Nf (k R' L' M' hs h.drop.drop)⟩
 ·clear h
  intro R' l L' M hs h
  replace h := Hp.bk.1 h
  obtain ⟨e, vs, hg⟩ := hd _ _ _ hs
  have kd' := kd R' l L'
  simp only [List.cons_append, List.nil_append, Oh] at h kd'
  clear kd k hc hd
  cases hg with
  | d1 =>
   refine Jr ?_
   repeat (first|(refine aj h ?_;clear h;intro kb M h)|(refine au h ?_;clear h;intro M h)|refine St.to h ?_|(apply Exists.intro;(repeat apply Exists.intro);refine And.intro rfl ?_)|refine av ?_|refine ae ?_|refine ai ?_)
   exact kd' _ _ _ hs .d1 (h.sub bp)
  | d2 =>
   refine GC ?_
   repeat (first|(refine aj h ?_;clear h;intro kb M h)|(refine au h ?_;clear h;intro M h)|refine St.to h ?_|(apply Exists.intro;(repeat apply Exists.intro);refine And.intro rfl ?_)|refine av ?_|refine ae ?_|refine ai ?_)
   exact kd' _ _ _ hs .d2 (h.sub bp)
  | u1 a q n k x =>
   refine CA ?_
   repeat (first|(refine aj h ?_;clear h;intro kb M h)|(refine au h ?_;clear h;intro M h)|refine St.to h ?_|(apply Exists.intro;(repeat apply Exists.intro);refine And.intro rfl ?_)|refine av ?_|refine ae ?_|refine ai ?_)
   exact kd' _ _ _ hs (.u1 a q n k x) (h.sub bp)
  | u2 a q n k x =>
   refine AY ?_
   repeat (first|(refine aj h ?_;clear h;intro kb M h)|(refine au h ?_;clear h;intro M h)|refine St.to h ?_|(apply Exists.intro;(repeat apply Exists.intro);refine And.intro rfl ?_)|refine av ?_|refine ae ?_|refine ai ?_)
   exact kd' _ _ _ hs (.u2 a q n k x) (h.sub bp)
theorem pK.shape {l : List PanicEntry} {e : Int} {vs : List Value} (h : pK l e vs) : (e = 1 ∨ e = 2) ∧ ∃ a q n k x : Int, vs = [.int .i64 a, .int .i64 q, .int .i64 n, .int .i64 k, .int .u64 x] := by
 cases h with
 | d1 => exact ⟨.inl rfl, 0, 0, 0, 0, 0, rfl⟩
 | d2 => exact ⟨.inl rfl, 0, 0, 0, 0, 0, rfl⟩
 | u1 a q n k x => exact ⟨.inr rfl, a, q, n, k, x, rfl⟩
 | u2 a q n k x => exact ⟨.inr rfl, a, q, n, k, x, rfl⟩
theorem E1 (h : Hp R L M) (hc : E0 R L u0 S D) (hd : ∀ R' l L', D R' l L' → ∃ e vs, pK l e vs)
  (k : ∀ R' L' M', S R' L' → Hp R' L' M' → K (.tuple #[.int .i64 0, .agg #[.int .i64 0, .int .i64 0, .int .i64 0, .int .i64 0, .int .u64 0]]) M')
  (kd : ∀ R' l L' M' e a q n k x, D R' l L' → pK l e [.int .i64 a, .int .i64 q, .int .i64 n, .int .i64 k, .int .u64 x] → Hp R' L' M' → K (.tuple #[.int .i64 e, .agg #[.int .i64 a, .int .i64 q, .int .i64 n, .int .i64 k, .int .u64 x]]) M') :
  aa Tryz.prog 61 #[u0] M K Kp := by
 refine zm ?_
 refine aj h ?_
 clear h
 intro k1 M h
 refine aj h ?_
 clear h
 intro k3 M h
 refine aj h ?_
 clear h
 intro k5 M h
 repeat (refine au h ?_; clear h; intro M h)
 refine CG (S := fun R' L2 => ∃ L', S R' L' ∧ L2 = pt k1 Oh 97 :: L') (D := fun R' l L2 => ∃ L', D R' l L' ∧ L2 = pt k1 Oh 97 :: L') (L := pt k1 Oh 97 :: L) (h.sub bp) ?_ ?_ ?_ ?_
 ·intro Q M K Kp h k1' k2
  refine hc (sep [Q, pt k1 Oh 97]) M K Kp (Hp.bk.2 h) ?_ ?_
  ·intro R' L' M' hs h
   exact k1' R' _ M' ⟨L', hs, rfl⟩ (Hp.bk.1 h)
  ·intro R' l L' M' hs h
   exact k2 R' l _ M' ⟨L', hs, rfl⟩ (Hp.bk.1 h)
 ·rintro R' l _ ⟨L', hs, _⟩
  exact hd _ _ _ hs
 ·rintro R' _ M ⟨L', hs, rfl⟩ h
  clear hc hd kd
  simp only [Oh] at h
  refine ⟨rfl, ?_⟩
  repeat (first|(refine aj h ?_;clear h;intro kb M h)|(refine au h ?_;clear h;intro M h)|refine St.to h ?_|(apply Exists.intro;(repeat apply Exists.intro);refine And.intro rfl ?_)|refine av ?_|refine ae ?_|refine ai ?_)
  exact k _ _ _ hs (h.sub bp)
 ·rintro R' l _ M e vs ⟨L', hs, rfl⟩ hg h
  obtain ⟨_, a, q, n, kk, x, rfl⟩ := hg.shape
  clear hc hd k
  simp only [Oh] at h
  refine ⟨rfl, ?_⟩
  repeat (first|(refine aj h ?_;clear h;intro kb M h)|(refine au h ?_;clear h;intro M h)|refine St.to h ?_|(apply Exists.intro;(repeat apply Exists.intro);refine And.intro rfl ?_)|refine av ?_|refine ae ?_|refine ai ?_)
  exact kd _ _ _ _ _ _ _ _ _ _ hs hg (h.sub bp)
theorem NW {k k' : iQ} {kind m : Int} {l : List PanicEntry} (h : k.next kind m = (k', .dF l)) : ∃ e vs, pK l e vs ∧ pK (zB l) e vs := by
 cases k with
 | yY t i =>
  unfold iQ.next at h
  dsimp only at h
  split at h
  ·cases h; exact ⟨_, _, .d1, .d2⟩
  ·cases h
 | tape t i =>
  unfold iQ.next at h
  dsimp only at h
  split at h
  ·cases h; exact ⟨_, _, .d1, .d2⟩
  ·split at h
   ·cases h; exact ⟨_, _, .u1 _ _ _ _ _, .u2 _ _ _ _ _⟩
   ·split at h
    ·cases h; exact ⟨_, _, .u1 _ _ _ _ _, .u2 _ _ _ _ _⟩
    ·cases h
theorem ym {x x' : nW} {kind n : Int} {l : List PanicEntry} (h : x.draw kind n = (x', .dF l)) : ∃ e vs, pK l e vs ∧ pK (zB l) e vs := by
 unfold nW.draw at h
 split at h
 ·cases h
 ·rename_i k' l' hn
  cases h
  exact NW hn
theorem Rx {d d' : nW} {a : Option (Int × Int)} {l : List PanicEntry} (h : fH d a = (d', .dF l)) : ∃ e vs, pK l e vs ∧ pK (zB l) e vs := by
 cases a with
 | none => cases h
 | some q => exact ym h
theorem UI {z y : Sc} {o : tK} {l : List PanicEntry} (h : EW (z, o) = (y, .dF l)) : o = .dF l := by
 cases o with
 | ev e => cases h
 | dF l' => cases h; rfl
theorem Ry {p : cu} {x y : Sc} {l : List PanicEntry} (he : x.step p = some (y, .dF l)) : ∃ e vs, pK l e vs := by
 unfold Sc.step at he
 split at he
 ·split at he
  ·cases he
  ·split at he
   ·rename_i hd
    cases he
    obtain ⟨e, vs, h, _⟩ := ym hd
    exact ⟨e, vs, h⟩
   ·rename_i d' m hd
    simp only [Option.map_eq_some_iff] at he
    obtain ⟨⟨z, o⟩, ha, hi⟩ := he
    have ho := UI hi
    subst ho
    clear hi hd
    unfold Sc.act at ha
    split at ha
    ·split at ha
     ·cases ha
     ·cases ha
    ·split at ha
     ·cases ha
     ·split at ha
      ·split at ha
       ·simp only [Option.some.injEq] at ha
        unfold Sc.find at ha
        dsimp only at ha
        split at ha
        ·cases ha
        ·split at ha
         ·split at ha
          ·rename_i hd
           cases ha
           obtain ⟨e, vs, h, _⟩ := ym hd
           exact ⟨e, vs, h⟩
          ·split at ha <;> cases ha
         ·cases ha
       ·cases ha
      ·unfold Sc.run at ha
       split at ha
       ·split at ha
        ·split at ha
         ·cases ha
         ·rename_i l' w rest hex
          cases ha
          obtain ⟨CF, _⟩ := DN hex
          obtain ⟨e, vs, _, h⟩ := Rx (d' := _) (by rw [← CF])
          exact ⟨e, vs, h⟩
         ·unfold ji at ha
          split at ha <;> cases ha
         ·unfold ji at ha
          split at ha <;> cases ha
        ·cases ha
       ·cases ha
 ·cases he
end
def Sf : fP (Int × (Option Addr × Nat × Nat) × Int × Int) := ⟨4, fun t => [.int .i64 t.1, .slice t.2.1.1 t.2.1.2.1 t.2.1.2.2, .int .i64 t.2.2.1, .int .i64 t.2.2.2], fun _ => rfl, fun w v hv => by
 simp only [List.mem_cons, List.not_mem_nil, or_false] at hv; obtain rfl | rfl | rfl | rfl := hv <;> rfl⟩
def View (R : Mem) (v : Int × (Option Addr × Nat × Nat) × Int × Int) (pr : dG) : Prop := v.1 = pr.q.next ∧ v.2.1.2.1 = pr.q.l.length ∧ RS br R v.2.1.1 v.2.1.2.2 pr.q.l ∧ v.2.2.1 = pr.turns ∧ v.2.2.2 = pr.hO
def tW (R : Mem) (vs : List (Int × (Option Addr × Nat × Nat) × Int × Int)) (ps : List dG) : Prop := vs.length = ps.length ∧ ∀ (i : Nat) v pr, vs[i]? = some v → ps[i]? = some pr → View R v pr
theorem View.le {R R' : Mem} {v : Int × (Option Addr × Nat × Nat) × Int × Int} {pr : dG} (h : View R v pr) (hle : R.le R') : View R' v pr := ⟨h.1, h.2.1, h.2.2.1.le hle, h.2.2.2⟩
theorem tW.le {R R' : Mem} {vs : List (Int × (Option Addr × Nat × Nat) × Int × Int)} {ps : List dG} (h : tW R vs ps) (hle : R.le R') : tW R' vs ps := ⟨h.1, fun i v pr a b => (h.2 i v pr a b).le hle⟩
theorem tW.snoc {R : Mem} {vs : List (Int × (Option Addr × Nat × Nat) × Int × Int)} {ps : List dG} {n : Nat} {v : Int × (Option Addr × Nat × Nat) × Int × Int} {pr : dG} (h : tW R vs (ps.take n)) (hp : ps[n]? = some pr) (hv : View R v pr) : tW R (vs ++ [v]) (ps.take (n + 1)) := by
 obtain ⟨h1, h2⟩ := h
 rw [bu hp]
 refine ⟨by simp [h1], fun i w q a b => ?_⟩
 rcases Nat.lt_trichotomy i vs.length with hi | hi | hi
 ·rw [List.getElem?_append_left hi] at a
  rw [List.getElem?_append_left (by omega)] at b
  exact h2 i w q a b
 ·subst hi
  rw [List.getElem?_append_right (Nat.le_refl _)] at a
  rw [List.getElem?_append_right (by omega)] at b
  simp at a
  rw [show vs.length - (ps.take n).length = 0 from by omega] at b
  simp at b
  subst a; subst b; exact hv
 ·rw [List.getElem?_eq_none (by simp; omega)] at a; cases a
section
variable {R : Mem} {L L' L2 : List HP} {M : Mem} {K : Value → Mem → Prop} {Kp : List PanicEntry → Mem → Prop} {pa : PA} {p : cu} {b wb db : Nat} {x : Sc} {m i : Int}
theorem yn (h : Hp R L M) [o : mo b L pa p wb db x L'] (hs : x.ps.length ≤ 1000000) (k : ∀ R' A c vs M', R.le R' → tW R' vs x.ps → Hp R' (bE Sf 263 A c vs :: ax (fO pa p wb db) b x :: L') M' → K (.slice A x.ps.length c) M') : aa Tryz.prog 126 #[.pointer (some ⟨b, 0, none⟩)] M K Kp := by
 refine l9 ?_
 have h' := eu h (b := b)
 clear h
 obtain ⟨a, hl, h⟩ := h'
 rw [LC h]
 refine aO ?_
 have elp : bg Tryz.prog 264 263 4 48 [.int .i64 0, .slice none 0 0, .int .i64 0, .int .i64 0] := bg.mk' (zv := .agg #[.int .i64 0, .slice none 0 0, .int .i64 0, .int .i64 0]) (by kernel_rfl) (by kernel_rfl) rfl (by omega)
 replace h := h.bR Sf 263
 refine ⟨fun dd vs M => ∃ (j : Nat) (A : Option Addr) (c : Nat) (R' : Mem) (us : List (Int × (Option Addr × Nat × Nat) × Int × Int)), vs = [.slice A j c, .int .i64 (j : Int)] ∧ dd = x.ps.length - j ∧ j ≤ x.ps.length ∧ R.le R' ∧ tW R' us (x.ps.take j) ∧ Hp R' (bE Sf 263 A c us :: gz (eo b wb db a x) x.gl :: ax (bj pa p) wb x.w :: ax (cI .nilFunc) db x.d :: fN a x L') M, ⟨_, 0, none, 0, R, [], rfl, rfl, by omega, Mem.le_refl _, ⟨by simp, fun i v pr e => by simp at e⟩, h⟩, ?_⟩
 clear h
 rintro dd _ A n c nn M ⟨j, A', c', R', us, he, hd, hj, hle, hv, h⟩
 simp only [List.cons.injEq, Value.int.injEq, Value.slice.injEq, and_true, true_and] at he
 obtain ⟨⟨rfl, rfl, rfl⟩, rfl⟩ := he
 have hul : us.length = n := by rw [hv.1, List.length_take]; omega
 refine aJ.2 ⟨fun hlt => ?_, fun hge => ?_⟩
 ·obtain ⟨pr, j7⟩ := aM (l := x.ps) (i := n) (by omega)
  obtain ⟨lb, hlb⟩ := aM (l := a.lb) (i := n) (by omega)
  refine ⟨by omega, hlt, ?_⟩
  obtain ⟨q2, nV⟩ := h.bF (A := a.ap) (l := bT a.lb x.ps) (by rw [jX hl]; omega) (by decide)
  have hs0 : Src R' (bE Sf 263 A c us :: gz (eo b wb db a x) x.gl :: ax (bj pa p) wb x.w :: ax (cI .nilFunc) db x.d :: fN a x L') (some ⟨q2, 0, none⟩) (nI.cells (bT a.lb x.ps)) := by
   rw [← nV]; exact Src.row (A := a.ap)
  refine Kb nV ?_
  refine Ux (j := n) h hs0 hlb j7 (by simp) (by simp) (by simp) ?_
  clear hs0
  refine aj h ?_
  clear h; intro dx M h
  refine au h ?_
  clear h; intro M h
  refine au h ?_
  clear h; intro M h
  refine au h ?_
  clear h; intro M h
  refine cK h (cK h (ay h (ay h ?_)))
  have hq : (x.ps.map dG.q)[n]? = some pr.q := by rw [List.getElem?_map, j7]; rfl
  unfold fN at h
  replace h := h.cH bM hlb hq
  refine Be h ?_
  refine bW ⟨bD h, bD h, bD h, ?_⟩
  refine JF h ?_
  clear h; intro B cB M h
  refine aO ⟨bD h, bD h, bD h, ?_⟩
  replace h := h.lg bM lb hlb hq
  obtain ⟨R2, EX, zy, h2⟩ := h.fG B
  clear h
  refine aj h2 ?_
  clear h2; intro yH M h
  refine h.gn (A := A) elp [(pr.q.next, (B, pr.q.l.length, cB), pr.turns, pr.hO)] rfl hul.symm rfl (by simp only [List.length_singleton]; omega) ?_
  clear h; intro A2 c2 M h
  refine aO ⟨bD h, bD h, bD h, ?_⟩
  rw [aP (by omega)]
  have HM : tW R2 (us ++ [(pr.q.next, (B, pr.q.l.length, cB), pr.turns, pr.hO)]) (x.ps.take (n + 1)) := (hv.le EX).snoc j7 ⟨rfl, rfl, zy, rfl, rfl⟩
  refine ⟨x.ps.length - (n + 1), by omega, n + 1, A2, c2, R2, _, rfl, rfl, by omega, Mem.le_trans hle EX, HM, ?_⟩
  unfold fN
  exact h.sub (by repeat (first | exact .refl | refine .cons (by repeat (first | exact .here | apply cW.there)) ?_ | apply Sub.drop))
 ·have HO : n = x.ps.length := by omega
  subst HO
  rw [List.take_length] at hv
  exact k _ _ _ _ _ hle hv ((gO hl (h.sub (by repeat (first | exact .refl | refine .cons (by repeat (first | exact .here | apply cW.there)) ?_ | apply Sub.drop)))).swap)
end
def iq : ug (List Int) := ⟨fun b l => exs fun A : Option Addr => exs fun c : Nat => sep [pt b [.slice A l.length c] 189, iO A c l]⟩
theorem LF : bg Tryz.prog 53 2 1 8 [.int .i64 0] := bg.mk' (zv := .int .i64 0) (by kernel_rfl) (by kernel_rfl) rfl (by omega)
theorem lS {α : Type} (f : α → List Int) (xs : List α) (j : Nat) : ((xs.take j).flatMap f).length ≤ (xs.flatMap f).length := by
 have : xs.flatMap f = (xs.take j).flatMap f ++ (xs.drop j).flatMap f := by rw [← List.flatMap_append, List.take_append_drop]
 rw [this, List.length_append]; omega
section
variable {R : Mem} {L L' : List HP} {M : Mem} {K : Value → Mem → Prop} {Kp : List PanicEntry → Mem → Prop} {b : Nat} {l : List Int}
theorem E2 (h : Hp R L M) [o : bZ iq b L l L'] : ∃ A c, Hp R (pt b [.slice A l.length c] 189 :: iO A c l :: L') M := by
 have := h.obj iq b
 simpa only [iq, Hp.dN, Hp.bk, List.cons_append, List.nil_append] using this
theorem Rz {A : Option Addr} {c : Nat} (h : Hp R (pt b [.slice A l.length c] 189 :: iO A c l :: L) M) : Hp R (ax iq b l :: L) M := by
 refine Hp.xj ?_
 simp only [iq, Hp.dN, Hp.bk, List.cons_append, List.nil_append]
 exact ⟨_, _, h⟩
theorem wP {B : Option Addr} {m cB : Nat} {r : List Int} (h : Hp R L M) [o : bZ iq b L l L'] (hr : Sl M B (br.cells r)) (hm : m = r.length) (hb : l.length + r.length ≤ 1000000000000) (k : ∀ M', Hp R (ax iq b (l ++ r) :: L') M' → K (.tuple #[]) M') :
  aa Tryz.prog 85 #[.pointer (some ⟨b, 0, none⟩), .slice B m cB] M K Kp := by
 refine uP ?_
 have h' := E2 h (b := b)
 clear h
 obtain ⟨A, c, h⟩ := h'
 refine aF h ?_
 have h2 : Hp R (iO A c l :: pt b [.slice A l.length c] 189 :: L') M := h.sub bp
 clear h
 refine h2.uS LF hr hm (by omega) ?_
 clear h2 hr; intro A' c' M h
 refine aO ?_
 refine au h ?_
 clear h; intro M h
 exact k M (Rz (h.sub bp))
theorem b7 {n : Int} (h : Hp R L M) [o : bZ iq b L l L'] (hb : l.length + 1 ≤ 1000000000000) (k : ∀ M', Hp R (ax iq b (l ++ [n]) :: L') M' → K (.tuple #[]) M') : aa Tryz.prog 84 #[.pointer (some ⟨b, 0, none⟩), .int .i64 n] M K Kp := by
 refine uO ?_
 replace h := h.pick o.pick
 refine aj h ?_
 clear h
 intro k1 M h
 replace h := (h.pt k1).gu (E := br) (l := [n]) rfl
 refine wP (b := b) (r := [n]) h (h.src (A := some ⟨k1, 0, none⟩) M h) rfl (by simpa using hb) ?_
 clear h; intro M h
 exact ⟨rfl, k M (h.sub bp)⟩
theorem NX {n : Int} {k1 T : Nat} {L0 : List HP} (h : Hp R (pt k1 [.int .i64 n] T :: ax iq b l :: L0) M) (hb : l.length + 1 ≤ 1000000000000) (k : ∀ M', Hp R (ax iq b (l ++ [n]) :: L0) M' → K (.tuple #[]) M') :
  aa Tryz.prog 85 #[.pointer (some ⟨b, 0, none⟩), .slice (some ⟨k1, 0, none⟩) 1 1] M K Kp := by
 replace h := (h.pt k1).gu (E := br) (l := [n]) rfl
 refine wP (b := b) (r := [n]) h (h.src (A := some ⟨k1, 0, none⟩) M h) rfl (by simpa using hb) ?_
 clear h; intro M h
 exact k M (h.sub bp)
theorem yo {xs : List Int} {B : Option Addr} {m cB : Nat} {L0 : List HP} (h : Hp R (ax iq b l :: L0) M) (hB : Src R L0 B (br.cells xs)) (hm : m = xs.length) (hb : l.length + (xs.length + 1) ≤ 1000000000000) (k : ∀ M', Hp R (ax iq b (l ++ ((xs.length : Int) :: xs)) :: L0) M' → K (.tuple #[]) M') :
  aa Tryz.prog 91 #[.pointer (some ⟨b, 0, none⟩), .slice B m cB] M K Kp := by
 subst hm
 refine tw ?_
 refine b7 (b := b) h (by omega) ?_
 clear h; intro M h
 refine ⟨rfl, ?_⟩
 refine ⟨fun d ws M => ∃ i : Nat, ws = [.int .i64 (i : Int)] ∧ d = xs.length - i ∧ i ≤ xs.length ∧ Hp R (ax iq b (l ++ ((xs.length : Int) :: xs.take i)) :: L0) M, ⟨_, 0, rfl, rfl, by omega, by simpa using h⟩, ?_⟩
 clear h
 rintro d _ ii M ⟨i, he, hd, hi, h⟩
 simp only [List.cons.injEq, Value.int.injEq, and_true, true_and] at he
 subst he
 refine aJ.2 ⟨fun hlt => ?_, fun hge => k M (by rw [List.take_of_length_le (by omega)] at h; exact h)⟩
 obtain ⟨w, hw⟩ := aM (l := xs) (i := i) (by omega)
 obtain ⟨bb, oo, rfl⟩ := hB.ie h.drop (by omega) (by decide)
 refine ⟨by omega, hlt, aY ?_⟩
 simp only [Int.toNat_natCast]
 refine aR (hB.at h.drop (j := 0) hw rfl (by simp [br])) ?_
 refine b7 (b := b) h (by simp only [List.length_append, List.length_cons, List.length_take]; omega) ?_
 clear h; intro M h
 refine ⟨rfl, xs.length - (i + 1), by omega, i + 1, by rw [aP (by omega)], rfl, by omega, ?_⟩
 rw [bu hw]
 simpa using h
def rq (R : Mem) (L0 : List HP) (b : Nat) (u : Value) (v : Value) (r : List Int) : Prop := ∀ (l : List Int) (M : Mem) (K : Value → Mem → Prop) (Kp : List PanicEntry → Mem → Prop), Hp R (ax iq b l :: L0) M → l.length + r.length ≤ 1000000000000 → (∀ M', Hp R (ax iq b (l ++ r) :: L0) M' → K (.tuple #[]) M') → gf Cx u [v] M K Kp
theorem va {u : Value} {xs : List Int} {B : Option Addr} {m cB : Nat} {L0 : List HP} (h : Hp R (ax iq b l :: L0) M) (hB : Src R L0 B (br.cells xs)) (hm : m = xs.length) (hu : ∀ v ∈ xs, rq R L0 b u (.int .i64 v) [v]) (hb : l.length + (xs.length + 1) ≤ 1000000000000) (k : ∀ M', Hp R (ax iq b (l ++ ((xs.length : Int) :: xs)) :: L0) M' → K (.tuple #[]) M') :
  aa Tryz.prog 92 #[.pointer (some ⟨b, 0, none⟩), .slice B m cB, u] M K Kp := by
 subst hm
 refine tB ?_
 refine b7 (b := b) h (by omega) ?_
 clear h; intro M h
 refine ⟨rfl, ?_⟩
 refine ⟨fun d ws M => ∃ i : Nat, ws = [.int .i64 (i : Int)] ∧ d = xs.length - i ∧ i ≤ xs.length ∧ Hp R (ax iq b (l ++ ((xs.length : Int) :: xs.take i)) :: L0) M, ⟨_, 0, rfl, rfl, by omega, by simpa using h⟩, ?_⟩
 clear h
 rintro d _ ii M ⟨i, he, hd, hi, h⟩
 simp only [List.cons.injEq, Value.int.injEq, and_true, true_and] at he
 subst he
 refine aJ.2 ⟨fun hlt => ?_, fun hge => k M (by rw [List.take_of_length_le (by omega)] at h; exact h)⟩
 obtain ⟨w, hw⟩ := aM (l := xs) (i := i) (by omega)
 obtain ⟨bb, oo, rfl⟩ := hB.ie h.drop (by omega) (by decide)
 refine ⟨by omega, hlt, aY ?_⟩
 simp only [Int.toNat_natCast]
 refine aR (hB.at h.drop (j := 0) hw rfl (by simp [br])) ?_
 refine hu w (List.mem_of_getElem? hw) _ M _ _ h (by simp only [List.length_append, List.length_cons, List.length_take, List.length_nil]; omega) ?_
 clear h; intro M h
 refine ⟨rfl, xs.length - (i + 1), by omega, i + 1, by rw [aP (by omega)], rfl, by omega, ?_⟩
 rw [bu hw]
 simpa using h
def oO (w : Wt) : List Int := [w.g, w.cs, w.v]
def lT (f : gV) : List Int := [f.fn, f.pc, f.r.getD 0 0, f.r.getD 1 0, f.r.getD 2 0, f.r.getD 3 0, f.r.getD 4 0, f.r.getD 5 0, f.r.getD 6 0, f.r.getD 7 0, f.pe]
def kG (m : zY) : List Int := [m.p, m.g, m.left]
def jk (p : dG) : List Int := p.q.next :: ((p.q.l.length : Int) :: p.q.l) ++ [p.turns, p.hO]
theorem si {u : Value} {xs : List Wt} {B : Option Addr} {m cB : Nat} {L0 : List HP} (h : Hp R (ax iq b l :: L0) M) (hB : Src R L0 B (fA.cells xs)) (hm : m = xs.length) (hu : ∀ w ∈ xs, rq R L0 b u (.agg #[.int .i64 w.g, .int .i64 w.cs, .int .i64 w.v]) (oO w)) (hb : l.length + ((xs.flatMap oO).length + 1) ≤ 1000000000000) (N6 : xs.length ≤ 1000000000)
  (k : ∀ M', Hp R (ax iq b (l ++ ((xs.length : Int) :: xs.flatMap oO)) :: L0) M' → K (.tuple #[]) M') : aa Tryz.prog 135 #[.pointer (some ⟨b, 0, none⟩), .slice B m cB, u] M K Kp := by
 subst hm
 refine mS ?_
 refine b7 (b := b) h (by omega) ?_
 clear h; intro M h
 refine ⟨rfl, ?_⟩
 refine ⟨fun d ws M => ∃ i : Nat, ws = [.int .i64 (i : Int)] ∧ d = xs.length - i ∧ i ≤ xs.length ∧ Hp R (ax iq b (l ++ ((xs.length : Int) :: (xs.take i).flatMap oO)) :: L0) M, ⟨_, 0, rfl, rfl, by omega, by simpa using h⟩, ?_⟩
 clear h
 rintro d _ ii M ⟨i, he, hd, hi, h⟩
 simp only [List.cons.injEq, Value.int.injEq, and_true, true_and] at he
 subst he
 refine aJ.2 ⟨fun hlt => ?_, fun hge => k M (by rw [List.take_of_length_le (by omega)] at h; exact h)⟩
 obtain ⟨w, hw⟩ := aM (l := xs) (i := i) (by omega)
 obtain ⟨bb, oo, rfl⟩ := hB.ie h.drop (by omega) (by decide)
 refine ⟨by omega, hlt, aY ?_⟩
 simp only [Int.toNat_natCast]
 refine aR (hB.at h.drop (i := i) (j := 0) hw rfl (by simp [fA])) ?_
 refine aR (hB.at h.drop (i := i) (j := 1) hw rfl (by simp [fA]; omega)) ?_
 refine aR (hB.at h.drop (i := i) (j := 2) hw rfl (by simp [fA]; omega)) ?_
 refine aj h ?_
 clear h
 intro eX M h
 repeat (refine au h ?_; clear h; intro M h)
 refine ay h (ay h (ay h ?_))
 have yl : ((xs.take (i + 1)).flatMap oO).length ≤ (xs.flatMap oO).length := lS oO xs (i + 1)
 rw [bu hw, List.flatMap_append, List.length_append] at yl
 have e1 : [w].flatMap oO = oO w := by simp
 rw [e1] at yl
 refine hu w (List.mem_of_getElem? hw) _ M _ _ (h.sub bp) (by simp only [List.length_append, List.length_cons]; omega) ?_
 clear h; intro M h
 refine ⟨rfl, xs.length - (i + 1), by omega, i + 1, by rw [aP (by omega)], rfl, by omega, ?_⟩
 rw [bu hw, List.flatMap_append, e1]
 simpa using h
theorem E3 {u : Value} {xs : List zY} {B : Option Addr} {m cB : Nat} {L0 : List HP} (h : Hp R (ax iq b l :: L0) M) (hB : Src R L0 B (gp.cells xs)) (hm : m = xs.length) (hu : ∀ w ∈ xs, rq R L0 b u (.agg #[.int .i64 w.p, .int .i64 w.g, .int .i64 w.left]) (kG w)) (hb : l.length + ((xs.flatMap kG).length + 1) ≤ 1000000000000) (N6 : xs.length ≤ 1000000000)
  (k : ∀ M', Hp R (ax iq b (l ++ ((xs.length : Int) :: xs.flatMap kG)) :: L0) M' → K (.tuple #[]) M') : aa Tryz.prog 128 #[.pointer (some ⟨b, 0, none⟩), .slice B m cB, u] M K Kp := by
 subst hm
 refine kN ?_
 refine b7 (b := b) h (by omega) ?_
 clear h; intro M h
 refine ⟨rfl, ?_⟩
 refine ⟨fun d ws M => ∃ i : Nat, ws = [.int .i64 (i : Int)] ∧ d = xs.length - i ∧ i ≤ xs.length ∧ Hp R (ax iq b (l ++ ((xs.length : Int) :: (xs.take i).flatMap kG)) :: L0) M, ⟨_, 0, rfl, rfl, by omega, by simpa using h⟩, ?_⟩
 clear h
 rintro d _ ii M ⟨i, he, hd, hi, h⟩
 simp only [List.cons.injEq, Value.int.injEq, and_true, true_and] at he
 subst he
 refine aJ.2 ⟨fun hlt => ?_, fun hge => k M (by rw [List.take_of_length_le (by omega)] at h; exact h)⟩
 obtain ⟨w, hw⟩ := aM (l := xs) (i := i) (by omega)
 obtain ⟨bb, oo, rfl⟩ := hB.ie h.drop (by omega) (by decide)
 refine ⟨by omega, hlt, aY ?_⟩
 simp only [Int.toNat_natCast]
 refine aR (hB.at h.drop (i := i) (j := 0) hw rfl (by simp [gp])) ?_
 refine aR (hB.at h.drop (i := i) (j := 1) hw rfl (by simp [gp]; omega)) ?_
 refine aR (hB.at h.drop (i := i) (j := 2) hw rfl (by simp [gp]; omega)) ?_
 refine aj h ?_
 clear h
 intro eX M h
 repeat (refine au h ?_; clear h; intro M h)
 refine ay h (ay h (ay h ?_))
 have yl : ((xs.take (i + 1)).flatMap kG).length ≤ (xs.flatMap kG).length := lS kG xs (i + 1)
 rw [bu hw, List.flatMap_append, List.length_append] at yl
 have e1 : [w].flatMap kG = kG w := by simp
 rw [e1] at yl
 refine hu w (List.mem_of_getElem? hw) _ M _ _ (h.sub bp) (by simp only [List.length_append, List.length_cons]; omega) ?_
 clear h; intro M h
 refine ⟨rfl, xs.length - (i + 1), by omega, i + 1, by rw [aP (by omega)], rfl, by omega, ?_⟩
 rw [bu hw, List.flatMap_append, e1]
 simpa using h
theorem Ke {u : Value} {xs : List gV} {B : Option Addr} {m cB : Nat} {L0 : List HP} (h : Hp R (ax iq b l :: L0) M) (hB : Src R L0 B (fQ.cells xs)) (hm : m = xs.length) (hu : ∀ w ∈ xs, rq R L0 b u (.agg (Po w).toArray) (lT w)) (hb : l.length + ((xs.flatMap lT).length + 1) ≤ 1000000000000) (N6 : xs.length ≤ 1000000000)
  (k : ∀ M', Hp R (ax iq b (l ++ ((xs.length : Int) :: xs.flatMap lT)) :: L0) M' → K (.tuple #[]) M') : aa Tryz.prog 131 #[.pointer (some ⟨b, 0, none⟩), .slice B m cB, u] M K Kp := by
 subst hm
 refine me ?_
 refine b7 (b := b) h (by omega) ?_
 clear h; intro M h
 refine ⟨rfl, ?_⟩
 refine ⟨fun d ws M => ∃ i : Nat, ws = [.int .i64 (i : Int)] ∧ d = xs.length - i ∧ i ≤ xs.length ∧ Hp R (ax iq b (l ++ ((xs.length : Int) :: (xs.take i).flatMap lT)) :: L0) M, ⟨_, 0, rfl, rfl, by omega, by simpa using h⟩, ?_⟩
 clear h
 rintro d _ ii M ⟨i, he, hd, hi, h⟩
 simp only [List.cons.injEq, Value.int.injEq, and_true, true_and] at he
 subst he
 refine aJ.2 ⟨fun hlt => ?_, fun hge => k M (by rw [List.take_of_length_le (by omega)] at h; exact h)⟩
 obtain ⟨w, hw⟩ := aM (l := xs) (i := i) (by omega)
 obtain ⟨bb, oo, rfl⟩ := hB.ie h.drop (by omega) (by decide)
 refine ⟨by omega, hlt, aY ?_⟩
 simp only [Int.toNat_natCast]
 refine aR (hB.at h.drop (i := i) (j := 0) hw rfl (by simp [fQ])) ?_
 refine aR (hB.at h.drop (i := i) (j := 1) hw rfl (by simp [fQ]; omega)) ?_
 refine aR (hB.at h.drop (i := i) (j := 2) hw rfl (by simp [fQ]; omega)) ?_
 refine aR (hB.at h.drop (i := i) (j := 3) hw rfl (by simp [fQ]; omega)) ?_
 refine aR (hB.at h.drop (i := i) (j := 4) hw rfl (by simp [fQ]; omega)) ?_
 refine aR (hB.at h.drop (i := i) (j := 5) hw rfl (by simp [fQ]; omega)) ?_
 refine aR (hB.at h.drop (i := i) (j := 6) hw rfl (by simp [fQ]; omega)) ?_
 refine aR (hB.at h.drop (i := i) (j := 7) hw rfl (by simp [fQ]; omega)) ?_
 refine aR (hB.at h.drop (i := i) (j := 8) hw rfl (by simp [fQ]; omega)) ?_
 refine aR (hB.at h.drop (i := i) (j := 9) hw rfl (by simp [fQ]; omega)) ?_
 refine aR (hB.at h.drop (i := i) (j := 10) hw rfl (by simp [fQ]; omega)) ?_
 refine aj h ?_
 clear h
 intro eX M h
 repeat (refine au h ?_; clear h; intro M h)
 iterate 11 refine ay h ?_
 have yl : ((xs.take (i + 1)).flatMap lT).length ≤ (xs.flatMap lT).length := lS lT xs (i + 1)
 rw [bu hw, List.flatMap_append, List.length_append] at yl
 have e1 : [w].flatMap lT = lT w := by simp
 rw [e1] at yl
 refine hu w (List.mem_of_getElem? hw) _ M _ _ (h.sub bp) (by simp only [List.length_append, List.length_cons]; omega) ?_
 clear h; intro M h
 refine ⟨rfl, xs.length - (i + 1), by omega, i + 1, by rw [aP (by omega)], rfl, by omega, ?_⟩
 rw [bu hw, List.flatMap_append, e1]
 simpa using h
theorem BP {u : Value} {ps : List dG} {vs : List (Int × (Option Addr × Nat × Nat) × Int × Int)} {B : Option Addr} {m cB : Nat} {L0 : List HP} (h : Hp R (ax iq b l :: L0) M) (hB : Src R L0 B (Sf.cells vs)) (hm : m = ps.length) (hv : tW R vs ps)
  (hu : ∀ v pr, View R v pr → pr ∈ ps → rq R L0 b u (.agg #[.int .i64 v.1, .slice v.2.1.1 v.2.1.2.1 v.2.1.2.2, .int .i64 v.2.2.1, .int .i64 v.2.2.2]) (jk pr)) (hb : l.length + ((ps.flatMap jk).length + 1) ≤ 1000000000000) (N6 : ps.length ≤ 1000000000)
  (k : ∀ M', Hp R (ax iq b (l ++ ((ps.length : Int) :: ps.flatMap jk)) :: L0) M' → K (.tuple #[]) M') : aa Tryz.prog 125 #[.pointer (some ⟨b, 0, none⟩), .slice B m cB, u] M K Kp := by
 subst hm
 refine jS ?_
 refine b7 (b := b) h (by omega) ?_
 clear h; intro M h
 refine ⟨rfl, ?_⟩
 refine ⟨fun d ws M => ∃ i : Nat, ws = [.int .i64 (i : Int)] ∧ d = ps.length - i ∧ i ≤ ps.length ∧ Hp R (ax iq b (l ++ ((ps.length : Int) :: (ps.take i).flatMap jk)) :: L0) M, ⟨_, 0, rfl, rfl, by omega, by simpa using h⟩, ?_⟩
 clear h
 rintro d _ ii M ⟨i, he, hd, hi, h⟩
 simp only [List.cons.injEq, Value.int.injEq, and_true, true_and] at he
 subst he
 refine aJ.2 ⟨fun hlt => ?_, fun hge => k M (by rw [List.take_of_length_le (by omega)] at h; exact h)⟩
 have hvl := hv.1
 obtain ⟨pr, j7⟩ := aM (l := ps) (i := i) (by omega)
 obtain ⟨v, hw⟩ := aM (l := vs) (i := i) (by omega)
 obtain ⟨bb, oo, rfl⟩ := hB.ie h.drop (by omega) (by decide)
 refine ⟨by omega, hlt, aY ?_⟩
 simp only [Int.toNat_natCast]
 refine aR (hB.at h.drop (i := i) (j := 0) hw rfl (by simp [Sf])) ?_
 refine D7 (hB.at h.drop (i := i) (j := 1) hw rfl (by simp [Sf]; omega)) ?_
 refine aR (hB.at h.drop (i := i) (j := 2) hw rfl (by simp [Sf]; omega)) ?_
 refine aR (hB.at h.drop (i := i) (j := 3) hw rfl (by simp [Sf]; omega)) ?_
 refine aj h ?_
 clear h
 intro eX M h
 repeat (refine au h ?_; clear h; intro M h)
 refine ay h (aF h (ay h (ay h ?_)))
 have yl : ((ps.take (i + 1)).flatMap jk).length ≤ (ps.flatMap jk).length := lS jk ps (i + 1)
 rw [bu j7, List.flatMap_append, List.length_append] at yl
 have e1 : [pr].flatMap jk = jk pr := by simp
 rw [e1] at yl
 refine hu v pr (hv.2 i v pr hw j7) (List.mem_of_getElem? j7) _ M _ _ (h.sub bp) (by simp only [List.length_append, List.length_cons]; omega) ?_
 clear h; intro M h
 refine ⟨rfl, ps.length - (i + 1), by omega, i + 1, by rw [aP (by omega)], rfl, by omega, ?_⟩
 rw [bu j7, List.flatMap_append, e1]
 simpa using h
end
end Go.Proofs
