/- A part of proofs about one program. -/
import Derived.ChangeArms
import Derived.Deep.Slices
import Derived.OpenShut
import Derived.Recover
import Derived.Scope
import Derived.Test.YtfjgcljdnhkmaaaGreatProg
import Derived.WalkKit
import Derived.Test.YtfjgcljdnhkmaaaGreatZSchedAgainBase
import Derived.Test.YtfjgcljdnhkmaaaGreatZSchedAgainOps
import Derived.Test.YtfjgcljdnhkmaaaGreatZSchedAgainOpsB
import Derived.Test.YtfjgcljdnhkmaaaGreatZSchedAgainOpC
import Derived.Test.YtfjgcljdnhkmaaaGreatZSchedAgainFrame
import Derived.Test.YtfjgcljdnhkmaaaGreatZSchedAgainReg
import Derived.Test.YtfjgcljdnhkmaaaGreatZSchedAgainRegB
import Derived.Test.YtfjgcljdnhkmaaaGreatZSchedAgainRegL
import Derived.Test.YtfjgcljdnhkmaaaGreatZSchedAgainRegC
import Derived.Test.YtfjgcljdnhkmaaaGreatZSchedAgainExec
import Derived.Test.YtfjgcljdnhkmaaaGreatZSchedAgainSound
import Derived.Test.YtfjgcljdnhkmaaaGreatZSchedAgainSoundB
import Derived.Test.YtfjgcljdnhkmaaaGreatZSchedAgainLib
import Derived.Test.YtfjgcljdnhkmaaaGreatZSchedAgainHp
import Derived.Test.YtfjgcljdnhkmaaaGreatZSchedAgainRow
import Derived.Test.YtfjgcljdnhkmaaaGreatZSchedAgainBig
import Derived.Test.YtfjgcljdnhkmaaaGreatZSchedAgainStC
import Derived.Test.YtfjgcljdnhkmaaaGreatZSchedAgainMod
import Derived.Test.YtfjgcljdnhkmaaaGreatZSchedAgainOpen
import Derived.Test.YtfjgcljdnhkmaaaGreatZSchedAgainArgs
import Derived.Test.YtfjgcljdnhkmaaaGreatZSchedAgainDefer
import Derived.Test.YtfjgcljdnhkmaaaGreatZSchedAgainDefer2
import Derived.Test.YtfjgcljdnhkmaaaGreatZSchedAgainAgg
import Derived.Test.YtfjgcljdnhkmaaaGreatZSchedAgain0
import Derived.Test.YtfjgcljdnhkmaaaGreatZSchedAgain1
import Derived.Test.YtfjgcljdnhkmaaaGreatZSchedAgain2
import Derived.Test.YtfjgcljdnhkmaaaGreatZSchedAgain3
import Derived.Test.YtfjgcljdnhkmaaaGreatZSchedAgain4
set_option linter.unusedVariables false
namespace Go.Proofs
open Go.AF
set_option maxRecDepth 100000
set_option maxHeartbeats 1000000
attribute [local irreducible] aK cJ fJ bO aD fz aG aO be aS bJ aV
def Bu : gp (Int × Int) := ⟨2, fun w => [.int .i64 w.1, .int .u64 w.2], fun _ => rfl, fun w v hv => by
 simp only [List.mem_cons, List.not_mem_nil, or_false] at hv; obtain rfl | rfl := hv <;> rfl⟩
inductive fy where
 | vB (l : List Int) (at_ : Nat)
 | tape (l : List (Int × Int)) (at_ : Nat)
structure iD where
 k : fy
 taken : List (Int × Int)
def DU : List PanicEntry := [{ v := .iface 227 (.agg #[]), recovered := false }]
def XX (at_ kind n k v : Int) : List PanicEntry := [{ v := .iface 155 (.agg #[.int .i64 at_, .int .i64 kind, .int .i64 n, .int .i64 k, .int .u64 v]), recovered := false }]
def mH (n : Int) : Int := if 1 > n then 1 else n
def fy.next (k : fy) (kind m : Int) : fy × jQ := match k with
 | .vB l i => match l[i]? with
  | none => (.vB l i, .cO DU)
  | some v => (.vB l (i + 1), .num (Int.tmod v m))
 | .tape l i => match l[i]? with
  | none => (.tape l i, .cO DU)
  | some (q, v) => if q ≠ kind then (.tape l i, .cO (XX i kind m q v)) else if v ≥ m then (.tape l i, .cO (XX i kind m q v)) else (.tape l (i + 1), .num v)
def iD.draw (x : iD) (kind n : Int) : iD × jQ := match x.k.next kind (mH n) with
 | (k', .num v) => (⟨k', x.taken ++ [(kind, v)]⟩, .num v)
 | (k', .cO l) => (⟨k', x.taken⟩, .cO l)
def fy.Ok : fy → Prop
 | .vB l i => l.length ≤ 1000000000 ∧ i ≤ l.length ∧ ∀ v ∈ l, 0 ≤ v ∧ v < 18446744073709551616
 | .tape l i => l.length ≤ 1000000000 ∧ i ≤ l.length ∧ ∀ v ∈ l, 0 ≤ v.2 ∧ v.2 < 18446744073709551616
def iD.Ok (x : iD) : Prop := x.k.Ok ∧ x.taken.length ≤ 1000000000
abbrev lD (A : Option Addr) (c : Nat) (l : List (Int × Int)) : HP := bD Bu 153 A c l
abbrev Z2 (A : Option Addr) (c : Nat) (l : List Int) : HP := bD AV 36 A c l
def kR : tU fy := ⟨fun b k => match k with
 | .vB l i => exs fun A : Option Addr => exs fun c : Nat => sep [pt b [.slice A l.length c, .int .i64 (i : Int)] 147, Z2 A c l]
 | .tape l i => exs fun A : Option Addr => exs fun c : Nat => sep [pt b [.slice A l.length c, .int .i64 (i : Int)] 175, lD A c l]⟩
def vj : fy → Nat → Value
 | .vB _ _, b => .func (.func 54) #[.pointer (some ⟨b, 0, none⟩)] #[]
 | .tape _ _, b => .func (.func 66) #[.pointer (some ⟨b, 0, none⟩)] #[]
def xH : fy → Nat → Value
 | .vB _ _, b => .func (.func 55) #[.pointer (some ⟨b, 0, none⟩)] #[]
 | .tape _ _, b => .func (.func 67) #[.pointer (some ⟨b, 0, none⟩)] #[]
def cu (LQ : Value) : tU iD := ⟨fun b x => exs fun A : Option Addr => exs fun c : Nat => exs fun kb : Nat =>
 sep [pt b [vj x.k kb, xH x.k kb, .slice A x.taken.length c, LQ] 151, lD A c x.taken, aB kR kb x.k]⟩
theorem Ix : bg Tryz.prog 97 153 2 16 [.int .i64 0, .int .u64 0] := bg.mk' (zv := .agg #[.int .i64 0, .int .u64 0]) (by kernel_rfl) (by kernel_rfl) rfl (by omega)
theorem W0 : bg Tryz.prog 35 36 1 8 [.int .u64 0] := bg.mk' (zv := .int .u64 0) (by kernel_rfl) (by kernel_rfl) rfl (by omega)
theorem qy {C : Ctx} {g : Nat} {first : Array Value} {args : List Value} {M : Mem} {K : Value → Mem → Prop} {Kp : List PanicEntry → Mem → Prop} (hg : 1 < g ∧ g < C.ok) (h : aa C.P g (first.toList ++ args).toArray M K Kp) : iF C (.func (.func g) first #[]) args M K Kp := by
 unfold iF
 simp only
 rw [if_pos hg]
 simpa using h
theorem vk (n : Int) : 1 ≤ mH n := by unfold mH; split <;> omega
theorem FU {z : Int} (h0 : 0 ≤ z) (h : z < 18446744073709551616) : IntKind.wrap .u64 z = z := by
 obtain ⟨n, rfl⟩ := Int.eq_ofNat_of_zero_le h0
 rw [IntKind.wrap_u64]; omega
section
variable {R : Mem} {L L' L2 : List HP} {M : Mem} {K : Value → Mem → Prop} {Kp : List PanicEntry → Mem → Prop} {b : Nat} {x : iD} {LQ : Value}
theorem Ak {k : fy} {kind m : Int} (hok : k.Ok) (hm : 1 ≤ m) {k' : fy} {v : Int} (h : k.next kind m = (k', .num v)) : 0 ≤ v ∧ v < m := by
 cases k with
 | vB l i =>
  unfold fy.next at h
  dsimp only at h
  split at h
  ·cases h
  ·rename_i w hw
   cases h
   have := hok.2.2 w (List.mem_of_getElem? hw)
   exact ⟨Int.tmod_nonneg _ this.1, Int.tmod_lt_of_pos _ (by omega)⟩
 | tape l i =>
  unfold fy.next at h
  dsimp only at h
  split at h
  ·cases h
  ·rename_i q w hw
   have := hok.2.2 _ (List.mem_of_getElem? hw)
   split at h
   ·cases h
   ·split at h
    ·cases h
    ·cases h
     exact ⟨this.1, by omega⟩
theorem R8 {k : fy} {kind m : Int} (hok : k.Ok) : (k.next kind m).1.Ok := by
 cases k with
 | vB l i =>
  unfold fy.next
  dsimp only
  split
  ·exact hok
  ·rename_i w hw
   have := (List.getElem?_eq_some_iff.1 hw).1
   exact ⟨hok.1, by omega, hok.2.2⟩
 | tape l i =>
  unfold fy.next
  dsimp only
  split
  ·exact hok
  ·rename_i q w hw
   have := (List.getElem?_eq_some_iff.1 hw).1
   split
   ·exact hok
   ·split
    ·exact hok
    ·exact ⟨hok.1, by omega, hok.2.2⟩
theorem Iy {k : fy} {kind m : Int} {kb : Nat} : vj (k.next kind m).1 kb = vj k kb ∧ xH (k.next kind m).1 kb = xH k kb := by
 cases k with
 | vB l i => unfold fy.next; dsimp only; split <;> exact ⟨rfl, rfl⟩
 | tape l i =>
  unfold fy.next; dsimp only; split
  ·exact ⟨rfl, rfl⟩
  ·split
   ·exact ⟨rfl, rfl⟩
   ·split <;> exact ⟨rfl, rfl⟩
theorem W1 {k : fy} {kb : Nat} {kind m : Int} (h : Hp R (aB kR kb k :: L) M) (hok : k.Ok) (hm : 1 ≤ m) (Z3 : m < 9223372036854775808)
  (g : match (k.next kind m).2 with
   | .num v => ∀ M', Hp R (aB kR kb (k.next kind m).1 :: L) M' → K (.int .u64 v) M'
   | .cO l => ∀ M', Hp R (aB kR kb (k.next kind m).1 :: L) M' → Kp l M') :
  iF Cx (vj k kb) [.int .i64 kind, .int .i64 m] M K Kp := by
 cases k with
 | vB l i =>
  refine qy ⟨by decide, by show _ < 228; decide⟩ ?_
  refine oX ?_
  obtain ⟨o1, o2, o3⟩ := hok
  unfold fy.next at g
  dsimp only at g
  have h2 := h.obj kR kb
  simp only [kR, Hp.dS, Hp.bk, List.cons_append, List.nil_append] at h2
  obtain ⟨A, c, h2⟩ := h2
  clear h
  have h := h2
  clear h2
  have mk : ∀ {M : Mem} {i : Nat}, Hp R (pt kb [.slice A l.length c, .int .i64 (i : Int)] 147 :: Z2 A c l :: L) M → Hp R (aB kR kb (.vB l i) :: L) M := by
   intro M i h
   refine Hp.vR ?_
   simp only [kR, Hp.dS, Hp.bk, List.cons_append, List.nil_append]
   exact ⟨_, _, h⟩
  refine aH h (aQ h ?_)
  refine aP.2 ⟨fun hge => ?_, fun hlt => ?_⟩
  ·have e : l[i]? = none := List.getElem?_eq_none_iff.2 (by omega)
   rw [e] at g
   exact g _ (mk h)
  ·obtain ⟨w, hw⟩ := aR (l := l) (i := i) (by omega)
   rw [hw] at g
   have hwb := o3 w (List.mem_of_getElem? hw)
   refine aH h ?_
   rw [aU (by omega)]
   refine av h ?_
   clear h; intro M h
   refine aQ h (aH h ?_)
   have e : IntKind.wrap .i64 (((i + 1 : Nat) : Int) - 1) = (i : Int) := by rw [cY (by omega) (by omega)]; omega
   rw [e]
   obtain ⟨q, rfl⟩ := h.bx (A := A) (by omega) (by decide)
   refine ⟨by omega, by omega, br ?_⟩
   refine aZ (Src.at (h.src (A := some ⟨q, 0, none⟩)) h (i := i) (j := 0) hw rfl (by simp [AV])) ?_
   rw [FU (by omega) (by omega)]
   exact ⟨by omega, g _ (mk h)⟩
 | tape l i =>
  refine qy ⟨by decide, by show _ < 228; decide⟩ ?_
  refine rT ?_
  obtain ⟨o1, o2, o3⟩ := hok
  unfold fy.next at g
  dsimp only at g
  have h2 := h.obj kR kb
  simp only [kR, Hp.dS, Hp.bk, List.cons_append, List.nil_append] at h2
  obtain ⟨A, c, h2⟩ := h2
  clear h
  have h := h2
  clear h2
  have mk : ∀ {M : Mem} {i : Nat}, Hp R (pt kb [.slice A l.length c, .int .i64 (i : Int)] 175 :: lD A c l :: L) M → Hp R (aB kR kb (.tape l i) :: L) M := by
   intro M i h
   refine Hp.vR ?_
   simp only [kR, Hp.dS, Hp.bk, List.cons_append, List.nil_append]
   exact ⟨_, _, h⟩
  refine aH h (aQ h ?_)
  refine aP.2 ⟨fun hge => ?_, fun hlt => ?_⟩
  ·have e : l[i]? = none := List.getElem?_eq_none_iff.2 (by omega)
   rw [e] at g
   exact g _ (mk h)
  ·obtain ⟨⟨q, w⟩, hw⟩ := aR (l := l) (i := i) (by omega)
   rw [hw] at g
   dsimp only at g
   have hwb := o3 _ (List.mem_of_getElem? hw)
   dsimp only at hwb
   refine aQ h (aH h ?_)
   obtain ⟨q0, rfl⟩ := h.bx (A := A) (by omega) (by decide)
   refine ⟨by omega, by omega, br ?_⟩
   refine aZ (Src.at (h.src (A := some ⟨q0, 0, none⟩)) h (i := i) (j := 0) hw rfl (by simp [Bu])) ?_
   refine aZ (Src.at (h.src (A := some ⟨q0, 0, none⟩)) h (i := i) (j := 1) hw rfl (by simp [Bu])) ?_
   refine aq h ?_
   clear h; intro kk M h
   refine av h ?_
   clear h; intro M h
   refine av h ?_
   clear h; intro M h
   refine aH h ?_
   refine cK.2 ⟨fun hne => ?_, fun heq => ?_⟩
   ·rw [if_pos hne] at g
    refine aH h (aH h (aH h ?_))
    exact g _ (mk (h.sub bz))
   ·rw [if_neg (by simpa using heq)] at g
    refine aH h ?_
    rw [FU (by omega) (by omega)]
    refine aP.2 ⟨fun hge => ?_, fun Fy => ?_⟩
    ·rw [if_pos hge] at g
     refine aH h (aH h (aH h ?_))
     exact g _ (mk (h.sub bz))
    ·rw [if_neg Fy] at g
     refine aH h ?_
     rw [aU (by omega)]
     refine av h ?_
     clear h; intro M h
     refine aH h ?_
     exact g _ (mk (h.sub bz))
theorem FV (h : Hp R L M) [o : cq (cu LQ) b L x L'] : ∃ A c kb, Hp R (pt b [vj x.k kb, xH x.k kb, .slice A x.taken.length c, LQ] 151 :: lD A c x.taken :: aB kR kb x.k :: L') M := by
 have := h.obj (cu LQ) b
 simpa only [cu, Hp.dS, Hp.bk, List.cons_append, List.nil_append] using this
theorem Al {A : Option Addr} {c kb : Nat} (h : Hp R (pt b [vj x.k kb, xH x.k kb, .slice A x.taken.length c, LQ] 151 :: lD A c x.taken :: aB kR kb x.k :: L) M) : Hp R (aB (cu LQ) b x :: L) M := by
 refine Hp.vR ?_
 simp only [cu, Hp.dS, Hp.bk, List.cons_append, List.nil_append]
 exact ⟨_, _, _, h⟩
theorem qz {kind n : Int} (h : Hp R L M) [o : cq (cu .nilFunc) b L x L'] (hok : x.Ok) (hn : n < 9223372036854775808) (ht : x.taken.length < 100000000)
  (g : match (x.draw kind n).2 with
   | .num v => ∀ M', Hp R (aB (cu .nilFunc) b (x.draw kind n).1 :: L') M' → K (.int .i64 v) M'
   | .cO l => ∀ M', Hp R (aB (cu .nilFunc) b (x.draw kind n).1 :: L') M' → Kp l M') :
  aa Tryz.prog 98 #[.pointer (some ⟨b, 0, none⟩), .int .i64 kind, .int .i64 n] M K Kp := by
 refine oY ?_
 have h' := FV (LQ := .nilFunc) h (b := b)
 clear h
 obtain ⟨A, c, kb, h⟩ := h'
 refine Nj h ?_
 have em : (if (1 : Int) > n then 1 else n) = mH n := rfl
 rw [em]
 have hm1 := vk n
 have Z3 : mH n < 9223372036854775808 := by unfold mH; split <;> omega
 have hnv := Iy (k := x.k) (kind := kind) (m := mH n) (kb := kb)
 obtain ⟨Rs, yf⟩ := hnv
 have Iz := fun k' v => Ak (k := x.k) (kind := kind) hok.1 hm1 (k' := k') (v := v)
 unfold iD.draw at g
 replace h : Hp R (aB kR kb x.k :: pt b [vj x.k kb, xH x.k kb, .slice A x.taken.length c, .nilFunc] 151 :: lD A c x.taken :: L') M := h.sub bz
 refine W1 (kind := kind) h hok.1 hm1 Z3 ?_
 clear h
 generalize hr : x.k.next kind (mH n) = r at g Rs yf Iz
 obtain ⟨k', d⟩ := r
 dsimp only at Rs yf ⊢
 rw [← Rs, ← yf]
 cases d with
 | cO l =>
  dsimp only at g ⊢
  intro M h
  exact g _ (Al (x := ⟨k', x.taken⟩) (h.sub bz))
 | num v =>
  dsimp only at g ⊢
  obtain ⟨v0, v1⟩ := Iz k' v rfl
  intro M h
  refine ck ?_
  refine aq h ?_
  clear h; intro k5 M h
  refine av h ?_
  clear h; intro M h
  refine av h ?_
  clear h; intro M h
  refine aQ h (aH h (aH h ?_))
  refine aq h ?_
  clear h; intro gq M h
  refine h.bS (A := A) Ix [(kind, v)] rfl rfl (by simp only [List.length_singleton]; omega) ?_
  clear h; intro A' c' M h
  refine aT ?_
  refine av h ?_
  clear h; intro M h
  refine Nj h ?_
  unfold IW
  dsimp only
  refine aj (aH h ?_)
  rw [cY (by omega) (by omega)]
  exact g _ (Al (x := ⟨k', x.taken ++ [(kind, v)]⟩) (h.sub bz))
theorem DV (h : Hp R L M) [o : cq (cu LQ) b L x L'] (ht : x.taken.length ≤ 100000000) (g : ∀ A c M', Hp R (lD A c x.taken :: aB (cu LQ) b x :: L') M' → K (.slice A x.taken.length c) M') :
  aa Tryz.prog 32 #[.pointer (some ⟨b, 0, none⟩)] M K Kp := by
 refine oc ?_
 have h' := FV (LQ := LQ) h (b := b)
 clear h
 obtain ⟨A, c, kb, h⟩ := h'
 refine aq h ?_
 clear h; intro k1 M h
 refine aQ h ?_
 refine h.iL Bu Ix x.taken (h.src (A := A)) rfl (by omega) ?_
 clear h; intro A' c' M h
 refine aT ?_
 exact g _ _ _ ((Al (x := x) (A := A) (c := c) (kb := kb) (h.sub bz)).swap)
theorem sK {B : Option Addr} {m cb : Nat} {l : List Int} (h : Hp R L M) (hB : Src R L B (AV.cells l)) (hm : m = l.length) (hl : l.length ≤ 1000000000)
  (g : ∀ b M', Hp R (aB (cu .nilFunc) b ⟨.vB l 0, []⟩ :: L) M' → K (.pointer (some ⟨b, 0, none⟩)) M') :
  aa Tryz.prog 17 #[.slice B m cb] M K Kp := by
 refine we ?_
 refine aq h ?_
 clear h; intro k1 M h
 refine h.iL AV W0 l hB.cons hm (by omega) ?_
 clear h; intro A' c' M h
 refine aT ?_
 refine aq h ?_
 clear h; intro k8 M h
 refine aq h ?_
 clear h; intro dP M h
 have h2 := h.bX Bu 153
 refine g dP _ (Al (x := ⟨.vB l 0, []⟩) (A := none) (c := 0) (kb := k8) ?_)
 have h3 : Hp R (aB kR k8 (.vB l 0) :: lD none 0 [] :: pt dP [vj (.vB l 0) k8, xH (.vB l 0) k8, .slice none 0 0, .nilFunc] 151 :: L) M := by
  refine Hp.vR ?_
  simp only [kR, Hp.dS, Hp.bk, List.cons_append, List.nil_append]
  exact ⟨A', c', h2.sub bz⟩
 exact h3.sub bz
theorem FW {B : Option Addr} {m cb : Nat} {l : List (Int × Int)} (h : Hp R L M) (hB : Src R L B (Bu.cells l)) (hm : m = l.length) (hl : l.length ≤ 1000000000)
  (g : ∀ b M', Hp R (aB (cu .nilFunc) b ⟨.tape l 0, []⟩ :: L) M' → K (.pointer (some ⟨b, 0, none⟩)) M') :
  aa Tryz.prog 31 #[.slice B m cb] M K Kp := by
 refine zl ?_
 refine aq h ?_
 clear h; intro k1 M h
 refine h.iL Bu Ix l hB.cons hm (by omega) ?_
 clear h; intro A' c' M h
 refine aT ?_
 refine aq h ?_
 clear h; intro k8 M h
 refine aq h ?_
 clear h; intro dP M h
 have h2 := h.bX Bu 153
 refine g dP _ (Al (x := ⟨.tape l 0, []⟩) (A := none) (c := 0) (kb := k8) ?_)
 have h3 : Hp R (aB kR k8 (.tape l 0) :: lD none 0 [] :: pt dP [vj (.tape l 0) k8, xH (.tape l 0) k8, .slice none 0 0, .nilFunc] 151 :: L) M := by
  refine Hp.vR ?_
  simp only [kR, Hp.dS, Hp.bk, List.cons_append, List.nil_append]
  exact ⟨A', c', h2.sub bz⟩
 exact h3.sub bz
theorem LR {kind n : Int} (hok : x.Ok) (hn : n < 9223372036854775808) (ht : x.taken.length < 100000000) :
  iU R (.func (.func 98) #[.pointer (some ⟨b, 0, none⟩)] #[]) kind n (x.draw kind n).2 (aB (cu .nilFunc) b x :: L) (aB (cu .nilFunc) b (x.draw kind n).1 :: L) := by
 intro Q M K Kp h k
 refine qy ⟨by decide, by show _ < 228; decide⟩ ?_
 refine qz h hok hn ht ?_
 cases hd : (x.draw kind n).2 with
 | num v => rw [hd] at k; exact fun M' h' => k M' h'.swap
 | cO l => rw [hd] at k; exact fun M' h' => k M' h'.swap
end
structure cX where
 q : Loc
 turns : Int
 gH : Int
structure CG where
 p : Int
 g : Int
 left : Int
 deriving DecidableEq
structure Gp where
 P : Int
 M : Int
 R : Int
 S : Int
structure Sc where
 w : Wd
 c : Gp
 ps : List cX
 ms : List CG
 gl : List Int
 d : iD
 steps : Int
structure Ev where
 kind : Int
 m : Int
 g : Int
 ready : List Int
def nt : gp (Nat × Int × Int) := ⟨3, fun w => [.pointer (some ⟨w.1, 0, none⟩), .int .i64 w.2.1, .int .i64 w.2.2], fun _ => rfl, fun w v hv => by
 simp only [List.mem_cons, List.not_mem_nil, or_false] at hv; obtain rfl | rfl | rfl := hv <;> rfl⟩
def fk : gp CG := ⟨3, fun w => [.int .i64 w.p, .int .i64 w.g, .int .i64 w.left], fun _ => rfl, fun w v hv => by
 simp only [List.mem_cons, List.not_mem_nil, or_false] at hv; obtain rfl | rfl | rfl := hv <;> rfl⟩
def bV (bs : List Nat) (ps : List cX) : List (Nat × Int × Int) := List.zipWith (fun b (p : cX) => (b, p.turns, p.gH)) bs ps
def aC (x : Sc) (m : Int) : CG := x.ms.getD m.toNat ⟨-1, -1, 0⟩
def aJ (x : Sc) (i : Int) : cX := x.ps.getD i.toNat ⟨⟨-1, 0, []⟩, 0, -1⟩
def Sc.jt (x : Sc) (m : Int) (y : CG) : Sc := { x with ms := x.ms.set m.toNat y }
def Sc.cT (x : Sc) (i : Int) (y : cX) : Sc := { x with ps := x.ps.set i.toNat y }
structure SA where
 ap : Option Addr
 cp : Nat
 lb : List Nat
 am : Option Addr
 cm : Nat
abbrev cv (A : Option Addr) (c : Nat) (l : List (Nat × Int × Int)) : HP := bD nt 141 A c l
abbrev cz (A : Option Addr) (c : Nat) (l : List CG) : HP := bD fk 143 A c l
abbrev eK (wb db : Nat) (a : SA) (x : Sc) (A : Option Addr) (n c : Nat) : List Value :=
 [.pointer (some ⟨wb, 0, none⟩), .int .i64 x.c.P, .int .i64 x.c.M, .int .i64 x.c.R, .int .i64 x.c.S, .slice a.ap x.ps.length a.cp, .slice a.am x.ms.length a.cm, .slice A n c, .pointer (some ⟨db, 0, none⟩), .int .i64 x.steps]
abbrev dM (b wb db : Nat) (a : SA) (x : Sc) : Option Addr → Nat → Nat → HP := fun A n c => pt b (eK wb db a x A n c) 137
theorem xI {b wb db : Nat} {a : SA} {x : Sc} : Rq b (0 + 7) (dM b wb db a x) :=
 ⟨fun R L M A n c h => aA h, fun R L M A A' n c n' c' G h k => av h k⟩
abbrev dU (a : SA) (x : Sc) (L : List HP) : List HP := cv a.ap a.cp (bV a.lb x.ps) :: bn bN a.lb (x.ps.map cX.q) :: cz a.am a.cm x.ms :: L
def dD (pa : PA) (p : b6) (wb db : Nat) : tU Sc := ⟨fun b x => exs fun a : SA =>
 sep (fR (dM b wb db a x) x.gl :: aB (bG pa p) wb x.w :: aB (cu .nilFunc) db x.d :: fact (a.lb.length = x.ps.length) :: dU a x [])⟩
class lE (b : Nat) (L : List HP) (pa : outParam PA) (p : outParam b6) (wb db : outParam Nat) (x : outParam Sc) (L' : outParam (List HP)) : Prop where
 pick : de L (aB (dD pa p wb db) b x) L'
instance lE.here {pa : PA} {p : b6} {wb db b : Nat} {x : Sc} {L : List HP} : lE b (aB (dD pa p wb db) b x :: L) pa p wb db x L := ⟨.here⟩
instance (priority := low) lE.there {pa : PA} {p : b6} {wb db b : Nat} {x : Sc} {Q : HP} {L L' : List HP} [h : lE b L pa p wb db x L'] : lE b (Q :: L) pa p wb db x (Q :: L') := ⟨.there h.pick⟩
section
variable {R : Mem} {L L' L2 : List HP} {M : Mem} {K : Value → Mem → Prop} {Kp : List PanicEntry → Mem → Prop} {pa : PA} {p : b6} {b wb db : Nat} {x : Sc} {m i : Int}
theorem ei (h : Hp R L M) [o : lE b L pa p wb db x L'] : ∃ a : SA, a.lb.length = x.ps.length ∧ Hp R (fR (dM b wb db a x) x.gl :: aB (bG pa p) wb x.w :: aB (cu .nilFunc) db x.d :: dU a x L') M := by
 have := h.pick o.pick
 unfold aB at this
 simp only [dD, dU, Hp.dS, Hp.bk, List.cons_append, List.nil_append] at this
 obtain ⟨a, h⟩ := this
 refine ⟨a, ?_⟩
 have h2 := h.pick (P := fact (a.lb.length = x.ps.length)) (.there (.there (.there .here)))
 obtain ⟨e, h3⟩ := Hp.fT.1 h2
 exact ⟨e, h3⟩
theorem gh {a : SA} (hl : a.lb.length = x.ps.length) (h : Hp R (fR (dM b wb db a x) x.gl :: aB (bG pa p) wb x.w :: aB (cu .nilFunc) db x.d :: dU a x L) M) : Hp R (aB (dD pa p wb db) b x :: L) M := by
 refine Hp.vR ?_
 simp only [dD, dU, Hp.dS, Hp.bk, List.cons_append, List.nil_append]
 refine ⟨a, ?_⟩
 have h2 : Hp R (fact (a.lb.length = x.ps.length) :: fR (dM b wb db a x) x.gl :: aB (bG pa p) wb x.w :: aB (cu .nilFunc) db x.d :: dU a x L) M := Hp.fT.2 ⟨hl, h⟩
 exact h2.nK (.there (.there (.there .here)))
theorem oy {a : SA} (h : Hp R (fR (dM b wb db a x) x.gl :: L) M) : ∃ A c, Hp R (pt b (eK wb db a x A x.gl.length c) 137 :: kD A c x.gl :: L) M := iS (P := dM b wb db a x) h
theorem yD {a : SA} {A : Option Addr} {c n : Nat} {l : List Int} (h : Hp R (pt b (eK wb db a x A n c) 137 :: kD A c l :: L) M) (e : n = l.length := by first | rfl | simp) : Hp R (fR (dM b wb db a x) l :: L) M := Fz (P := dM b wb db a x) h e
theorem JW {bs : List Nat} {ps : List cX} {i lb : Nat} {pr : cX} (h1 : bs[i]? = some lb) (h2 : ps[i]? = some pr) : (bV bs ps)[i]? = some (lb, pr.turns, pr.gH) := G8 h1 h2
theorem Am {bs : List Nat} {ps : List cX} {i lb : Nat} {pr : cX} (h1 : bs[i]? = some lb) : (bV bs ps).set i (lb, pr.turns, pr.gH) = bV bs (ps.set i pr) := nY (f := fun b (p : cX) => (b, p.turns, p.gH)) h1
theorem jR {bs : List Nat} {ps : List cX} (h : bs.length = ps.length) : (bV bs ps).length = ps.length := by simp [bV, h]
theorem qA (h : Hp R L M) [o : lE b L pa p wb db x L'] (k : K (.pointer (some ⟨wb, 0, none⟩)) M) : aa Tryz.prog 21 #[.pointer (some ⟨b, 0, none⟩)] M K Kp := by
 refine qg ?_
 obtain ⟨a, hl, h⟩ := ei h (b := b)
 obtain ⟨A, c, h⟩ := oy h
 exact um h k
theorem qB (h : Hp R L M) [o : lE b L pa p wb db x L'] (k : K (.int .i64 x.steps) M) : aa Tryz.prog 33 #[.pointer (some ⟨b, 0, none⟩)] M K Kp := by
 refine qh ?_
 obtain ⟨a, hl, h⟩ := ei h (b := b)
 obtain ⟨A, c, h⟩ := oy h
 exact aH h k
theorem oz (h : Hp R L M) [o : lE b L pa p wb db x L'] (hs : x.gl.length ≤ 1000000) (k : ∀ A c M', Hp R (kD A c x.gl :: aB (dD pa p wb db) b x :: L') M' → K (.slice A x.gl.length c) M') : aa Tryz.prog 25 #[.pointer (some ⟨b, 0, none⟩)] M K Kp := by
 refine o5 ?_
 have h' := ei h (b := b)
 clear h
 obtain ⟨a, hl, h⟩ := h'
 refine FA (P := dM b wb db a x) xI h (by omega) ?_
 clear h; intro A c M h
 refine aT ?_
 exact k _ _ _ ((gh hl (h.sub bz)).swap)
def Sc.status (x : Sc) : Int := if x.w.end_ = 1 then 1 else if x.w.end_ = 2 then 2 else if x.w.stuck then 3 else 0
theorem iW (h : Hp R L M) [o : lE b L pa p wb db x L'] (hs : x.w.gs.length ≤ 1000000) (k : K (.int .i64 x.status) M) : aa Tryz.prog 23 #[.pointer (some ⟨b, 0, none⟩)] M K Kp := by
 refine oZ ?_
 have h' := ei h (b := b)
 clear h
 obtain ⟨a, hl, h⟩ := h'
 have h' := oy h
 clear h
 obtain ⟨A, c, h⟩ := h'
 unfold Sc.status at k
 refine um h ?_
 refine Cw h ?_
 refine ⟨_, _, rfl, ?_⟩
 refine aY.2 ⟨fun e => ?_, fun e => ?_⟩
 ·rw [if_pos e] at k; exact k
 rw [if_neg e] at k
 refine aY.2 ⟨fun e => ?_, fun e => ?_⟩
 ·rw [if_pos e] at k; exact k
 rw [if_neg e] at k
 refine um h ?_
 refine FT h hs ?_
 refine mU ?_
 cases hst : x.w.stuck with
 | true => rw [hst] at k; exact ai k
 | false => rw [hst] at k; exact aj k
def Sc.tick (x : Sc) : Sc × Ev := ({ x with w := x.w.tick, gl := x.gl ++ x.w.tick.ready }, ⟨1, -1, -1, x.w.tick.ready⟩)
def IA (e : Ev) (A : Option Addr) (c : Nat) : Value := .agg #[.int .i64 e.kind, .int .i64 e.m, .int .i64 e.g, .slice A e.ready.length c]
abbrev evPt (k1 : Nat) (e : Ev) (A : Option Addr) (c : Nat) : HP := pt k1 [.int .i64 e.kind, .int .i64 e.m, .int .i64 e.g, .slice A e.ready.length c] 47
theorem jS {k1 T n : Nat} {v1 v2 v3 v4 : Value} {e1 e2 e3 : Int} {A : Option Addr} {c : Nat} {G : Mem → Prop} (h : Hp R L M) [q : jU k1 L [v1, v2, v3, v4] T L']
  (k : ∀ M', Hp R (pt k1 [.int .i64 e1, .int .i64 e2, .int .i64 e3, .slice A n c] T :: L') M' → G M') :
  aO M ⟨k1, 0, none⟩ (.int .i64 e1) fun M1 => aO M1 ⟨k1, (0 + 1), none⟩ (.int .i64 e2) fun M2 => aO M2 ⟨k1, (0 + 2), none⟩ (.int .i64 e3) fun M3 => aO M3 ⟨k1, (0 + 3), none⟩ (.slice A n c) G := by
 have h := h.pick q.pick
 refine av h ?_
 clear h; intro M h
 refine av h ?_
 clear h; intro M h
 refine av h ?_
 clear h; intro M h
 refine av h ?_
 clear h; intro M h
 exact k _ h
theorem oK {k1 T n : Nat} {e1 e2 e3 : Int} {A : Option Addr} {c : Nat} {G : Int → Int → Int → Option Addr → Nat → Nat → Prop} (h : Hp R L M) [q : jU k1 L [.int .i64 e1, .int .i64 e2, .int .i64 e3, .slice A n c] T L'] (g : G e1 e2 e3 A n c) :
  aK (Mem.ld M ⟨k1, 0, none⟩) .i64 fun n1 => aK (Mem.ld M ⟨k1, (0 + 1), none⟩) .i64 fun n2 => aK (Mem.ld M ⟨k1, (0 + 2), none⟩) .i64 fun n3 => aD (Mem.ld M ⟨k1, (0 + 3), none⟩) fun A k l => G n1 n2 n3 A k l := by
 have h := h.pick q.pick
 exact aH h (aH h (aH h (aQ h g)))
def wL (x : Sc) : Prop := x.w.hl.length ≤ 1000000 ∧ (∀ y ∈ (ee x.w.hl.length x.w.hl (IntKind.wrap .u64 (x.w.clock + 1))).2, 0 ≤ y.id ∧ y.id < x.w.gs.length) ∧ x.gl.length + x.w.tick.ready.length ≤ 1000000
instance (x : Sc) : Decidable (wL x) := by unfold wL; infer_instance
theorem IB (h : Hp R L M) [o : lE b L pa p wb db x L'] (hk : wL x)
  (k : ∀ R' A c M', R.le R' → RS bl R' A c x.tick.2.ready → Hp R' (aB (dD pa p wb db) b x.tick.1 :: L') M' → K (IA x.tick.2 A c) M') : aa Tryz.prog 99 #[.pointer (some ⟨b, 0, none⟩)] M K Kp := by
 refine r8 ?_
 refine aq h ?_
 clear h
 intro k1 M h
 have h' := ei h (b := b)
 clear h
 obtain ⟨a, hl, h⟩ := h'
 have h' := oy h
 clear h
 obtain ⟨A, c, h⟩ := h'
 refine um h ?_
 refine Is h hk.1 hk.2.1 ?_
 clear h; intro R2 Ar cr M hle kN h
 refine aT ?_
 replace h : Hp R2 (pt b (eK wb db a x A x.gl.length c) 137 :: kD A c x.gl :: aB (bG pa p) wb x.w.tick :: aB (cu .nilFunc) db x.d :: cv a.ap a.cp (bV a.lb x.ps) :: bn bN a.lb (x.ps.map cX.q) :: cz a.am a.cm x.ms :: pt k1 [.int .i64 0, .int .i64 0, .int .i64 0, .slice none 0 0] 47 :: L') M := h.sub bz
 replace h := yD h
 refine ot (P := dM b wb db a x) xI h (kN.src) rfl (by have := hk.2.2; omega) ?_
 clear h; intro M h
 refine ⟨rfl, ?_⟩
 refine jS h ?_
 clear h; intro M h
 refine oK h ?_
 exact k R2 Ar cr _ hle kN (gh (a := a) (x := x.tick.1) hl (h.sub bz))
end
def wM (q : Loc) : Bool := q.next != -1 || !q.l.isEmpty
def sy (q : Loc) (turns : Int) (gl : List Int) : Loc × List Int × Int × Bool :=
 let a := q.gd gl
 if Int.tmod turns 7 = 6 ∧ 0 < a.2.1.length then (a.1, a.2.1.drop 1, a.2.1.headD 0, true)
 else if wM a.1 then (a.1.get.1, a.2.1, a.1.get.2, true)
 else ((a.1.get.1.eG a.2.1 0).1, (a.1.get.1.eG a.2.1 0).2.1, (a.1.get.1.eG a.2.1 0).2.2, !a.2.1.isEmpty)
def iX (f : Loc) (v : Int) : Bool := v != -1 || !f.l.isEmpty
theorem Pv {q : Loc} {gl : List Int} : (q.gd gl).2.1.length ≤ gl.length + q.l.length + 1 := by
 unfold Loc.gd
 split
 ·simp; omega
 ·unfold Loc.put
  split
  ·simp; omega
  ·simp; omega
section
variable {R : Mem} {L L' L2 : List HP} {M : Mem} {K : Value → Mem → Prop} {Kp : List PanicEntry → Mem → Prop} {pa : PA} {p : b6} {b wb db : Nat} {x : Sc} {m i : Int}
def Sc.hold (x : Sc) (m : Int) : Sc × Ev := match x.ps.findIdx? (fun pr => pr.gH == -1) with
 | some i => (((x.cT (i : Int) { aJ x (i : Int) with gH := m }).jt m { aC x m with p := (i : Int) }), ⟨2, m, -1, []⟩)
 | none => (x, ⟨3, m, -1, []⟩)
theorem An {a : SA} {y : cX} : dM b wb db a (x.cT i y) = dM b wb db a x := by
 unfold dM eK Sc.cT; simp
theorem Ao {a : SA} {y : CG} : dM b wb db a (x.jt i y) = dM b wb db a x := by
 unfold dM eK Sc.jt; simp
theorem R9 {q o0 o1 o2 o3 j lb : Nat} {pr : cX} {bs : List Nat} {ps : List cX} {G : Option Addr → Int → Int → Prop} (h : Hp R L M) (hs : Src R L (some ⟨q, o0, none⟩) (nt.cells (bV bs ps))) (h1 : bs[j]? = some lb) (h2 : ps[j]? = some pr)
  (e1 : o1 = o0 + j * 3) (e2 : o2 = o0 + j * 3 + 1) (e3 : o3 = o0 + j * 3 + 2) (g : G (some ⟨lb, 0, none⟩) pr.turns pr.gH) :
  bO (M.ld ⟨q, o1, none⟩) fun A => aK (M.ld ⟨q, o2, none⟩) .i64 fun n => aK (M.ld ⟨q, o3, none⟩) .i64 fun d => G A n d := by
 have h3 := JW h1 h2
 refine lR (Src.at hs h (i := j) (j := 0) h3 rfl (by rw [e1]; rfl)) ?_
 refine aZ (Src.at hs h (i := j) (j := 1) h3 rfl (by rw [e2]; show _ = o0 + (j * 3 + 1); omega)) ?_
 exact aZ (Src.at hs h (i := j) (j := 2) h3 rfl (by rw [e3]; show _ = o0 + (j * 3 + 2); omega)) g
theorem qC {a : SA} (hl : a.lb.length = x.ps.length) (h0 : 0 ≤ i) (h1 : i < x.ps.length) : ∃ lb, a.lb[i.toNat]? = some lb ∧ x.ps[i.toNat]? = some (aJ x i) ∧ (bV a.lb x.ps)[i.toNat]? = some (lb, (aJ x i).turns, (aJ x i).gH) := by
 obtain ⟨lb, hlb⟩ := aR (l := a.lb) (i := i.toNat) (by omega)
 obtain ⟨y, hy⟩ := aR (l := x.ps) (i := i.toNat) (by omega)
 have e : aJ x i = y := by simp [aJ, hy]
 rw [e]
 exact ⟨lb, hlb, hy, JW hlb hy⟩
theorem qD (h0 : 0 ≤ m) (h1 : m < x.ms.length) : x.ms[m.toNat]? = some (aC x m) := by
 obtain ⟨y, hy⟩ := aR (l := x.ms) (i := m.toNat) (by omega)
 have e : aC x m = y := by simp [aC, hy]
 rw [e]; exact hy
theorem wN {ps : List cX} {j : Nat} {pr y : cX} (h : ps[j]? = some pr) (e : y.q = pr.q) : (ps.set j y).map cX.q = ps.map cX.q := by
 obtain ⟨hj, rfl⟩ := List.getElem?_eq_some_iff.1 h
 rw [List.map_set, e]
 have h2 : (ps.map cX.q)[j]'(by simpa using hj) = ps[j].q := by simp
 rw [← h2]
 exact List.set_getElem_self _
theorem wO {a : SA} {A : Option Addr} {c : Nat} {cs : List Value} {l : List Int} {pw : List (Nat × Int × Int)} {qs : List Loc} {ms : List CG} {L0 L1 L2 L3 L4 L5 L6 : List HP} (h : Hp R L M) (b : Nat)
  [p0 : jU b L cs 137 L0] [p1 : cL A L0 Int bl 3 c l L1] [p2 : Ik wb L1 pa p x.w L2] [p3 : cq (cu .nilFunc) db L2 x.d L3] [p4 : cL a.ap L3 (Nat × Int × Int) nt 141 a.cp pw L4]
  [p5 : fP bN L4 a.lb qs L5] [p6 : cL a.am L5 CG fk 143 a.cm ms L6] (hc : cs = eK wb db a x A x.gl.length c) (hg : l = x.gl) (hl : a.lb.length = x.ps.length) (hp : pw = bV a.lb x.ps) (hq : x.ps.map cX.q = qs) (hm : ms = x.ms) : Hp R (aB (dD pa p wb db) b x :: L6) M := by
 subst hc; subst hg; subst hp; subst hq; subst hm
 have h2 : Hp R (pt b (eK wb db a x A x.gl.length c) 137 :: kD A c x.gl :: aB (bG pa p) wb x.w :: aB (cu .nilFunc) db x.d :: dU a x L6) M :=
  h.sub (.cons p0.pick (.cons p1.pick (.cons p2.pick (.cons p3.pick (.cons p4.pick (.cons p5.pick (.cons p6.pick .refl)))))))
 exact gh (a := a) hl (yD h2)
theorem IC (h : Hp R L M) [o : lE b L pa p wb db x L'] (h0 : 0 ≤ m) (h1 : m < x.ms.length) (hs : x.ps.length ≤ 1000000)
  (k : ∀ M', Hp R (aB (dD pa p wb db) b (x.hold m).1 :: L') M' → K (IA (x.hold m).2 none 0) M') : aa Tryz.prog 100 #[.pointer (some ⟨b, 0, none⟩), .int .i64 m] M K Kp := by
 refine r9 ?_
 refine aq h ?_
 clear h
 intro k1 M h
 have h' := ei h (b := b)
 clear h
 obtain ⟨a, hl, h⟩ := h'
 have h' := oy h
 clear h
 obtain ⟨A, c, h⟩ := h'
 refine aQ h ?_
 unfold Sc.hold at k
 have hprl := jR hl
 refine ⟨fun d vs M => ∃ j : Nat, vs = [.int .i64 (j : Int)] ∧ d = x.ps.length - j ∧ j ≤ x.ps.length ∧ (∀ q pr, q < j → x.ps[q]? = some pr → pr.gH ≠ -1) ∧
   Hp R (pt b (eK wb db a x A x.gl.length c) 137 :: kD A c x.gl :: pt k1 [.int .i64 0, .int .i64 0, .int .i64 0, .slice none 0 0] 47 :: aB (bG pa p) wb x.w :: aB (cu .nilFunc) db x.d :: dU a x L') M,
  ⟨_, 0, rfl, rfl, by omega, fun q pr hq => by omega, h.sub bz⟩, ?_⟩
 clear h
 rintro d _ nn M ⟨j, he, hd, hj, hp, h⟩
 simp only [List.cons.injEq, Value.int.injEq, and_true, true_and] at he
 subst he
 refine aP.2 ⟨fun hlt => ?_, fun hge => ?_⟩
 ·obtain ⟨lb, hlb, jC, hrow⟩ := qC (i := (j : Int)) hl (by omega) hlt
  simp only [Int.toNat_natCast] at hlb jC hrow
  obtain ⟨q, hq⟩ := h.bx (A := a.ap) (l := bV a.lb x.ps) (by omega) (by decide)
  have XV := h.src (A := a.ap)
  rw [hq] at XV
  refine aQ h ⟨by omega, hlt, ?_⟩
  rw [hq]
  refine br ?_
  refine aZ (Src.at XV h (i := j) (j := 2) hrow rfl (by show _ = 0 + (j * 3 + 2); simp)) ?_
  refine aY.2 ⟨fun e => ?_, fun e => ?_⟩
  ·have YF : x.ps.findIdx? (fun pr => pr.gH == -1) = some j := by
    refine List.findIdx?_eq_some_iff_getElem.2 ⟨by omega, ?_, fun q hq => ?_⟩
    ·have := (List.getElem?_eq_some_iff.1 jC).2
     rw [this]; simpa using e
    ·have := hp q _ hq (List.getElem?_eq_getElem (by omega))
     simpa using this
   rw [YF] at k
   dsimp only at k
   clear XV
   obtain ⟨q2, ny⟩ := h.bx (A := a.am) (l := x.ms) (by omega) (by decide)
   have ea := aA h (b := b) (o := 0 + 5) (v := .slice a.ap x.ps.length a.cp)
   rw [hq] at ea
   refine (show ∀ {G}, G (some ⟨q, 0, none⟩) x.ps.length a.cp → aD (M.ld ⟨b, 0 + 5, none⟩) G from fun g => by rw [ea]; exact aT g) ?_
   refine aQ h ⟨by omega, hlt, br ?_⟩
   have hap : a.ap = some ⟨q, 0, none⟩ := hq
   have JX : a.am = some ⟨q2, 0, none⟩ := ny
   obtain ⟨ap, cp, vC, am, cm⟩ := a
   dsimp only at hap JX hrow hlb hl hprl h
   subst hap; subst JX
   refine iK (E := nt) (a' := (lb, (aJ x (j : Int)).turns, m)) j 2 h hrow (by decide) rfl (by show _ = j * 3 + 2; simp) ?_
   clear h; intro M h
   refine ⟨h0, h1, br ?_⟩
   refine iK (E := fk) (a' := { aC x m with p := (j : Int) }) m.toNat 0 h (qD h0 h1) (by decide) rfl (by show _ = m.toNat * 3 + 0; simp) ?_
   clear h; intro M h
   refine jS h ?_
   clear h; intro M h
   refine oK h ?_
   rw [Am (pr := { aJ x (j : Int) with gH := m }) hlb] at h
   have e3 := wN (y := { aJ x (j : Int) with gH := m }) jC rfl
   exact k _ (Hp.b7 (wO (A := A) (c := c) (a := ⟨some ⟨q, 0, none⟩, cp, vC, some ⟨q2, 0, none⟩, cm⟩) (x := (x.cT (j : Int) { aJ x (j : Int) with gH := m }).jt m { aC x m with p := (j : Int) }) h b (by simp [Sc.cT, Sc.jt, eK]) (by rfl) (by simpa [Sc.cT, Sc.jt] using hl) (by rfl) (by exact e3) (by rfl)))
  ·refine ⟨x.ps.length - (j + 1), by omega, j + 1, by rw [aU (by omega)], rfl, by omega, fun q' Tu hq' W2 => ?_, h⟩
   rcases Nat.lt_or_ge q' j with h8 | h8
   ·exact hp q' Tu h8 W2
   ·have : q' = j := by omega
    subst this
    rw [jC] at W2; cases W2; exact e
 ·have YF : x.ps.findIdx? (fun pr => pr.gH == -1) = none := by
   refine List.findIdx?_eq_none_iff.2 fun pr jC => ?_
   obtain ⟨q, hq, e⟩ := List.getElem_of_mem jC
   have := hp q pr (by omega) (by rw [← e]; exact List.getElem?_eq_getElem hq)
   simpa using this
  rw [YF] at k
  dsimp only at k
  refine jS h ?_
  clear h; intro M h
  refine oK h ?_
  refine k _ (gh (a := a) hl ?_)
  have h2 := yD (h.sub (show Sub _ (pt b (eK wb db a x A x.gl.length c) 137 :: kD A c x.gl :: aB (bG pa p) wb x.w :: aB (cu .nilFunc) db x.d :: dU a x L') from bz))
  exact h2
theorem Ap {bs : List Nat} {ps : List cX} {j : Nat} {pr y : cX} (h : ps[j]? = some pr) (e1 : y.turns = pr.turns) (e2 : y.gH = pr.gH) : bV bs (ps.set j y) = bV bs ps := by
 obtain ⟨hj, rfl⟩ := List.getElem?_eq_some_iff.1 h
 unfold bV
 refine List.ext_getElem (by simp) fun n h1 h2 => ?_
 simp only [List.getElem_zipWith, List.getElem_set]
 split
 ·rename_i he
  subst he
  rw [e1, e2]
 ·rfl
def Sc.own (x : Sc) (i : Int) : Sc × Int × Bool :=
 let r := sy (aJ x i).q (aJ x i).turns x.gl
 ({ x.cT i { aJ x i with q := r.1 } with gl := r.2.1 }, r.2.2.1, r.2.2.2)
theorem LS {q : Nat} {a : SA} (h : Hp R L M) [o : sw (dM b wb db a x) L x.gl L'] [o2 : cL (some ⟨q, 0, none⟩) L' (Nat × Int × Int) nt 141 a.cp (bV a.lb x.ps) L2] {L3 : List HP} [o3 : fP bN L2 a.lb (x.ps.map cX.q) L3]
  (hap : a.ap = some ⟨q, 0, none⟩) (hl : a.lb.length = x.ps.length) (h0 : 0 ≤ i) (h1 : i < x.ps.length) (hs : x.gl.length ≤ 1000000) (ht : 0 ≤ (aJ x i).turns)
  (k : ∀ M', Hp R (fR (dM b wb db a x) (x.own i).1.gl :: cv (some ⟨q, 0, none⟩) a.cp (bV a.lb x.ps) :: bn bN a.lb ((x.own i).1.ps.map cX.q) :: L3) M' → K (.tuple #[.int .i64 (x.own i).2.1, .bool (x.own i).2.2]) M') :
  aa Tryz.prog 132 #[.pointer (some ⟨b, 0, none⟩), .pointer (some ⟨q, i.toNat * 3, none⟩)] M K Kp := by
 refine tE ?_
 obtain ⟨lb, hlb, jC, hrow⟩ := qC (i := i) hl h0 h1
 have h2 : Hp R (fR (dM b wb db a x) x.gl :: cv (some ⟨q, 0, none⟩) a.cp (bV a.lb x.ps) :: bn bN a.lb (x.ps.map cX.q) :: L3) M := h.sub (.cons o.pick (.cons o2.pick (.cons o3.pick .refl)))
 clear h
 have h := h2
 clear h2
 have hq : (x.ps.map cX.q)[i.toNat]? = some (aJ x i).q := by rw [List.getElem?_map, jC]; rfl
 unfold Sc.own at k
 dsimp only at k
 have zN : ∀ q', (x.cT i { aJ x i with q := q' }).ps.map cX.q = (x.ps.map cX.q).set i.toNat q' := fun q' => by simp [Sc.cT, List.map_set]
 simp only [zN] at k
 unfold sy at k
 dsimp only at k
 refine lR (Src.at (Src.row (A := some ⟨q, 0, none⟩) : Src R _ _ (nt.cells (bV a.lb x.ps))) h (i := i.toNat) (j := 0) hrow rfl (by show _ = 0 + (i.toNat * 3 + 0); simp)) ?_
 replace h := h.dn bN hlb hq
 replace h : Hp R (aB bN lb (aJ x i).q :: fR (dM b wb db a x) x.gl :: lV bN a.lb (x.ps.map cX.q) i.toNat :: cv (some ⟨q, 0, none⟩) a.cp (bV a.lb x.ps) :: L3) M := h.sub bz
 have hbd := wG h (b := lb)
 refine Ig (P := dM b wb db a x) xI h (by omega) ?_
 clear h; intro M h
 have htl := Pv (q := (aJ x i).q) (gl := x.gl)
 refine ck ?_
 generalize htr : (aJ x i).q.gd x.gl = r at h k htl
 obtain ⟨q1, g1, n1⟩ := r
 dsimp only at h k htl
 have Ly : g1.length ≤ 100000000 := by obtain ⟨a1, a2, a3⟩ := hbd; omega
 refine aZ (Src.at (h.src (A := some ⟨q, 0, none⟩)) h (i := i.toNat) (j := 1) hrow rfl (by show _ = 0 + (i.toNat * 3 + 1); omega)) ?_
 refine ⟨by decide, ?_⟩
 have rest : ∀ {M : Mem}, (Hp R (aB bN lb q1 :: fR (dM b wb db a x) g1 :: lV bN a.lb (x.ps.map cX.q) i.toNat :: cv (some ⟨q, 0, none⟩) a.cp (bV a.lb x.ps) :: L3) M) → ¬ (Int.tmod (aJ x i).turns 7 = 6 ∧ 0 < g1.length) →
   bO (Mem.ld M ⟨q, i.toNat * 3, none⟩) fun oF =>
    aa Tryz.prog 131 #[(.pointer oF)] M (fun Dh fh =>
    ∃ iw : Int, ∃ t18 : Bool, (Dh = (.tuple #[(.int .i64 iw), (.bool t18)])) ∧
    aV t18
     (K (.tuple #[(.int .i64 iw), (.bool true)]) fh)
     (bO (Mem.ld fh ⟨q, i.toNat * 3, none⟩) fun AK =>
     aa Tryz.prog 179 #[(.pointer AK), (.pointer (some ⟨b, (0 + 7), none⟩)), (.int .i64 0)] fh (fun v20 je =>
     ∃ sC : Int, ∃ t23 : Bool, (v20 = (.tuple #[(.int .i64 sC), (.bool t23)])) ∧
     K (.tuple #[(.int .i64 sC), (.bool t23)]) je) Kp)) Kp := by
  intro M h hno
  rw [if_neg hno] at k
  refine lR (Src.at (h.src (A := some ⟨q, 0, none⟩)) h (i := i.toNat) (j := 0) hrow rfl (by show _ = 0 + (i.toNat * 3 + 0); simp)) ?_
  refine Cs h (b := lb) ?_
  clear h; intro t M ht1 ht2 h
  refine ⟨_, _, rfl, ?_⟩
  by_cases hh : wM q1 = true
  ·rw [if_pos hh] at k
   have : t = true := ht2 (by unfold wM at hh; simpa using hh)
   subst this
   refine ai ?_
   replace h := h.eu bN lb hlb (by rw [List.length_map]; omega)
   exact k _ (h.sub bz)
  ·rw [if_neg hh] at k
   have hn : q1.next = -1 ∧ q1.l = [] := by
    unfold wM at hh
    rw [Bool.or_eq_true] at hh
    constructor
    ·exact Decidable.byContradiction fun e => hh (.inl (by simpa using e))
    ·cases Z4 : q1.l with
     | nil => rfl
     | cons _ _ => exact absurd (.inr (by rw [Z4]; rfl)) hh
   have hg : q1.get.2 = -1 := by unfold Loc.get; rw [if_neg (by simpa using hn.1), hn.2]
   have : t = false := ht1 hg hn.1 hn.2
   subst this
   refine aj ?_
   refine lR (Src.at (h.src (A := some ⟨q, 0, none⟩)) h (i := i.toNat) (j := 0) hrow rfl (by show _ = 0 + (i.toNat * 3 + 0); simp)) ?_
   replace h : Hp R (aB bN lb q1.get.1 :: fR (dM b wb db a x) g1 :: lV bN a.lb (x.ps.map cX.q) i.toNat :: cv (some ⟨q, 0, none⟩) a.cp (bV a.lb x.ps) :: L3) M := h.sub bz
   refine FD (P := dM b wb db a x) xI h Ly (by decide) ?_
   clear h; intro t2 M ht3 ht4 h
   refine ⟨_, _, rfl, ?_⟩
   have ht5 : t2 = !g1.isEmpty := by
    cases g1 with
    | nil => exact ht3 (by unfold Loc.eG; simp) rfl
    | cons _ _ => exact ht4 (by simp)
   subst ht5
   replace h := h.eu bN lb hlb (by rw [List.length_map]; omega)
   exact k _ (h.sub bz)
 refine aY.2 ⟨fun e6 => ?_, fun e6 => ?_⟩
 ·replace h : Hp R (fR (dM b wb db a x) g1 :: aB bN lb q1 :: lV bN a.lb (x.ps.map cX.q) i.toNat :: cv (some ⟨q, 0, none⟩) a.cp (bV a.lb x.ps) :: L3) M := h.sub bz
  refine qt (P := dM b wb db a x) (n := 1) xI h (by omega) ?_
  clear h; intro A2 c2 M h
  refine aT ?_
  have e1 : (1 : Int).toNat = 1 := rfl
  rw [e1] at h ⊢
  by_cases hg : 0 < g1.length
  ·rw [if_pos ⟨e6, hg⟩] at k
   have hlen : (g1.take 1).length = 1 := by rw [List.length_take]; omega
   rw [hlen]
   refine ai ⟨by omega, by omega, ?_⟩
   obtain ⟨q9, rfl⟩ := h.bx (A := A2) (by omega) (by decide)
   refine br ?_
   obtain ⟨v, hv⟩ := aR (l := g1) (i := 0) hg
   have GJ : (g1.take 1)[0]? = some v := by rw [List.getElem?_take, if_pos (by omega)]; exact hv
   refine aZ (Src.at (h.src (A := some ⟨q9, 0, none⟩)) h (i := 0) (j := 0) GJ rfl rfl) ?_
   have hvd : g1.headD 0 = v := by
    cases g1 with
    | nil => simp at hg
    | cons w _ => simp at hv; simpa using hv
   rw [hvd] at k
   replace h : Hp R (aB bN lb q1 :: lV bN a.lb (x.ps.map cX.q) i.toNat :: fR (dM b wb db a x) (g1.drop 1) :: cv (some ⟨q, 0, none⟩) a.cp (bV a.lb x.ps) :: L3) M := h.sub bz
   replace h := h.eu bN lb hlb (by rw [List.length_map]; omega)
   exact k _ (h.sub bz)
  ·have WK : g1 = [] := List.eq_nil_of_length_eq_zero (by omega)
   subst WK
   refine aj ?_
   exact rest (h.sub bz) (fun hc => by simp at hc)
 ·exact rest (h.sub bz) (fun hc => e6 hc.1)
end
inductive lF where
 | ev (e : Ev)
 | cO (l : List PanicEntry)
def Sc.bL (x : Sc) (m i kind g : Int) (ok : Bool) : Sc × Ev :=
 if ok then ((x.cT i { aJ x i with turns := (aJ x i).turns + 1 }).jt m ⟨(aC x m).p, g, x.c.S⟩, ⟨kind, m, g, []⟩)
 else ((x.cT i { aJ x i with gH := -1 }).jt m ⟨-1, -1, 0⟩, ⟨6, m, -1, []⟩)
def Sc.find (x : Sc) (m : Int) : Sc × lF :=
 let i := (aC x m).p
 if 0 < (aC x m).left ∧ (aJ x i).q.next ≠ -1 then
  ((x.cT i { aJ x i with q := (aJ x i).q.get.1 }).jt m { aC x m with g := (aJ x i).q.get.2 }, .ev ⟨4, m, (aJ x i).q.get.2, []⟩)
 else
  let y := (x.own i).1
  if (x.own i).2.2 = false ∧ 1 < x.c.P then match y.d.draw 2 x.c.P with
   | (d', .cO l) => ({ y with d := d' }, .cO l)
   | (d', .num v) =>
    let y := { y with d := d' }
    if v = i then ((y.bL m i 5 (-1) false).1, .ev (y.bL m i 5 (-1) false).2)
    else
     let s := (aJ y i).q.cR (aJ y v).q
     let z := (y.cT i { aJ y i with q := s.1 }).cT v { aJ y v with q := s.2.1 }
     ((z.bL m i 5 s.2.2 (iX (aJ y v).q s.2.2)).1, .ev (z.bL m i 5 s.2.2 (iX (aJ y v).q s.2.2)).2)
  else ((y.bL m i 4 (x.own i).2.1 (x.own i).2.2).1, .ev (y.bL m i 4 (x.own i).2.1 (x.own i).2.2).2)
section
variable {R : Mem} {L L' L2 : List HP} {M : Mem} {K : Value → Mem → Prop} {Kp : List PanicEntry → Mem → Prop} {pa : PA} {p : b6} {b wb db : Nat} {x : Sc} {m i : Int}
theorem wP {lb : Nat} (k : K (.tuple #[.int .i64 (-1), .bool false]) M) : aa Tryz.prog 133 #[.pointer (some ⟨lb, 0, none⟩), .pointer (some ⟨lb, 0, none⟩)] M K Kp := by
 refine jN ?_
 exact ⟨fun _ => ai k, fun hne => absurd rfl hne⟩
theorem qE {y : cX} : (x.cT i y).ps.length = x.ps.length := by simp [Sc.cT]
theorem LU {a : SA} {q q2 k1 : Nat} {kind g : Int} {t : Bool}
  (h : Hp R (fR (dM b wb db a x) x.gl :: aB (bG pa p) wb x.w :: aB (cu .nilFunc) db x.d :: cv (some ⟨q, 0, none⟩) a.cp (bV a.lb x.ps) :: bn bN a.lb (x.ps.map cX.q) :: cz (some ⟨q2, 0, none⟩) a.cm x.ms :: pt k1 [.int .i64 0, .int .i64 0, .int .i64 0, .slice none 0 0] 47 :: L') M)
  (hap : a.ap = some ⟨q, 0, none⟩) (JX : a.am = some ⟨q2, 0, none⟩) (hl : a.lb.length = x.ps.length) (m0 : 0 ≤ m) (m1 : m < x.ms.length) (i0 : 0 ≤ i) (i1 : i < x.ps.length) (ht : 0 ≤ (aJ x i).turns ∧ (aJ x i).turns < 1000000000)
  (k : ∀ M', Hp R (aB (dD pa p wb db) b (x.bL m i kind g t).1 :: L') M' → K (IA (x.bL m i kind g t).2 none 0) M') :
  aV (!t)
   (aD (Mem.ld M ⟨b, (0 + 6), none⟩) fun Ul Hj x5 =>
   aO M ⟨q, ((i.toNat * 3) + 2), none⟩ (.int .i64 (-1)) fun Ef =>
   ((0 : Int) ≤ m) ∧
   ((m : Int) < ((Hj : Nat) : Int)) ∧
   aG Ul fun Jv Jw =>
   aO Ef ⟨Jv, (Jw + ((Int.toNat m) * 3)), none⟩ (.int .i64 (-1)) fun AJ =>
   aO AJ ⟨Jv, ((Jw + ((Int.toNat m) * 3)) + 1), none⟩ (.int .i64 (-1)) fun T9 =>
   aO T9 ⟨Jv, ((Jw + ((Int.toNat m) * 3)) + 2), none⟩ (.int .i64 0) fun Df =>
   aO Df ⟨k1, 0, none⟩ (.int .i64 6) fun Ua =>
   aO Ua ⟨k1, (0 + 1), none⟩ (.int .i64 m) fun j0 =>
   aO j0 ⟨k1, (0 + 2), none⟩ (.int .i64 (-1)) fun UD =>
   aO UD ⟨k1, (0 + 3), none⟩ (.slice none 0 0) fun zz =>
   aK (Mem.ld zz ⟨k1, 0, none⟩) .i64 fun Gf =>
   aK (Mem.ld zz ⟨k1, (0 + 1), none⟩) .i64 fun B5 =>
   aK (Mem.ld zz ⟨k1, (0 + 2), none⟩) .i64 fun B6 =>
   aD (Mem.ld zz ⟨k1, (0 + 3), none⟩) fun Y3 UE XN =>
   K (.agg #[(.int .i64 Gf), (.int .i64 B5), (.int .i64 B6), (.slice Y3 UE XN)]) zz)
   (aK (Mem.ld M ⟨q, ((i.toNat * 3) + 1), none⟩) .i64 fun ux =>
   aO M ⟨q, ((i.toNat * 3) + 1), none⟩ (.int .i64 (IntKind.wrap .i64 (ux + 1))) fun gO =>
   aD (Mem.ld gO ⟨b, (0 + 6), none⟩) fun uP jo wq =>
   aD (Mem.ld gO ⟨b, (0 + 6), none⟩) fun Dt xY Du =>
   aK (Mem.ld gO ⟨b, ((0 + 1) + 3), none⟩) .i64 fun zp =>
   ((0 : Int) ≤ m) ∧
   ((m : Int) < ((jo : Nat) : Int)) ∧
   aG uP fun Bi K2 =>
   aO gO ⟨Bi, ((K2 + ((Int.toNat m) * 3)) + 1), none⟩ (.int .i64 g) fun od =>
   ((0 : Int) ≤ m) ∧
   ((m : Int) < ((xY : Nat) : Int)) ∧
   aG Dt fun Hr Dv =>
   aO od ⟨Hr, ((Dv + ((Int.toNat m) * 3)) + 2), none⟩ (.int .i64 zp) fun tC =>
   aO tC ⟨k1, 0, none⟩ (.int .i64 kind) fun Hs =>
   aO Hs ⟨k1, (0 + 1), none⟩ (.int .i64 m) fun mC =>
   aO mC ⟨k1, (0 + 2), none⟩ (.int .i64 g) fun wj =>
   aO wj ⟨k1, (0 + 3), none⟩ (.slice none 0 0) fun mD =>
   aK (Mem.ld mD ⟨k1, 0, none⟩) .i64 fun Bj =>
   aK (Mem.ld mD ⟨k1, (0 + 1), none⟩) .i64 fun zq =>
   aK (Mem.ld mD ⟨k1, (0 + 2), none⟩) .i64 fun zu =>
   aD (Mem.ld mD ⟨k1, (0 + 3), none⟩) fun Dw Dx Fb =>
   K (.agg #[(.int .i64 Bj), (.int .i64 zq), (.int .i64 zu), (.slice Dw Dx Fb)]) mD) := by
 obtain ⟨lb, hlb, jC, hrow⟩ := qC (i := i) hl i0 i1
 have nu := qD m0 m1
 have m2 : m.toNat < x.ms.length := by omega
 obtain ⟨ap, cp, vC, am, cm⟩ := a
 dsimp only at hap JX hl hlb hrow h
 subst hap; subst JX
 obtain ⟨A, c, h2⟩ := oy h
 clear h
 have h := h2
 clear h2
 unfold Sc.bL at k
 cases t with
 | false =>
  simp only [Bool.false_eq_true, if_false] at k
  refine ai ?_
  refine aQ h ?_
  refine iK (E := nt) (a' := (lb, (aJ x i).turns, -1)) i.toNat 2 h hrow (by decide) rfl rfl ?_
  clear h; intro M h
  refine ⟨m0, m1, br ?_⟩
  refine iK (E := fk) (a' := ⟨-1, (aC x m).g, (aC x m).left⟩) m.toNat 0 h nu (by decide) rfl (by show _ = m.toNat * 3 + 0; omega) ?_
  clear h; intro M h
  refine iK (E := fk) (a := ⟨-1, (aC x m).g, (aC x m).left⟩) (a' := ⟨-1, -1, (aC x m).left⟩) m.toNat 1 h (by simp [m2]) (by decide) rfl (by show _ = m.toNat * 3 + 1; omega) ?_
  clear h; intro M h
  refine iK (E := fk) (a := ⟨-1, -1, (aC x m).left⟩) (a' := ⟨-1, -1, 0⟩) m.toNat 2 h (by simp [m2]) (by decide) rfl (by show _ = m.toNat * 3 + 2; omega) ?_
  clear h; intro M h
  rw [iP, iP, Am (pr := { aJ x i with gH := -1 }) hlb] at h
  refine jS h ?_
  clear h; intro M h
  refine oK h ?_
  have e3 := wN (y := { aJ x i with gH := -1 }) jC rfl
  exact k _ (Hp.b7 (wO (A := A) (c := c) (a := ⟨some ⟨q, 0, none⟩, cp, vC, some ⟨q2, 0, none⟩, cm⟩) (x := (x.cT i { aJ x i with gH := -1 }).jt m ⟨-1, -1, 0⟩) h b (by simp [Sc.cT, Sc.jt, eK]) (by rfl) (by simpa [Sc.cT, Sc.jt] using hl) (by rfl) (by exact e3) (by rfl)))
 | true =>
  simp only [if_true] at k
  refine aj ?_
  refine aZ (Src.at (h.src (A := some ⟨q, 0, none⟩)) h (i := i.toNat) (j := 1) hrow rfl (by show _ = 0 + (i.toNat * 3 + 1); omega)) ?_
  rw [jq ht.1 (by omega)]
  refine iK (E := nt) (a' := (lb, (aJ x i).turns + 1, (aJ x i).gH)) i.toNat 1 h hrow (by decide) rfl rfl ?_
  clear h; intro M h
  refine aQ h (aQ h (aH h ⟨m0, m1, br ?_⟩))
  refine iK (E := fk) (a' := ⟨(aC x m).p, g, (aC x m).left⟩) m.toNat 1 h nu (by decide) rfl (by show _ = m.toNat * 3 + 1; omega) ?_
  clear h; intro M h
  refine ⟨m0, m1, br ?_⟩
  refine iK (E := fk) (a := ⟨(aC x m).p, g, (aC x m).left⟩) (a' := ⟨(aC x m).p, g, x.c.S⟩) m.toNat 2 h (by simp [m2]) (by decide) rfl (by show _ = m.toNat * 3 + 2; omega) ?_
  clear h; intro M h
  rw [iP, Am (pr := { aJ x i with turns := (aJ x i).turns + 1 }) hlb] at h
  refine jS h ?_
  clear h; intro M h
  refine oK h ?_
  have e3 := wN (y := { aJ x i with turns := (aJ x i).turns + 1 }) jC rfl
  exact k _ (Hp.b7 (wO (A := A) (c := c) (a := ⟨some ⟨q, 0, none⟩, cp, vC, some ⟨q2, 0, none⟩, cm⟩) (x := (x.cT i { aJ x i with turns := (aJ x i).turns + 1 }).jt m ⟨(aC x m).p, g, x.c.S⟩) h b (by simp [Sc.cT, Sc.jt, eK]) (by rfl) (by simpa [Sc.cT, Sc.jt] using hl) (by rfl) (by exact e3) (by rfl)))
def tM (x : Sc) (m : Int) : Prop := 0 ≤ m ∧ m < x.ms.length ∧ 0 ≤ (aC x m).p ∧ (aC x m).p < x.ps.length ∧ x.gl.length ≤ 1000000 ∧ 0 ≤ (aJ x (aC x m).p).turns ∧ (aJ x (aC x m).p).turns < 1000000000 ∧ x.d.taken.length < 100000000 ∧ x.c.P ≤ x.ps.length ∧ x.c.P < 1000000
instance (x : Sc) (m : Int) : Decidable (tM x m) := by unfold tM; infer_instance
theorem LV {j : Int} (h0 : 0 ≤ i) (hi : i < x.ps.length) (hj : 0 ≤ j) : (aJ (x.own i).1 j).turns = (aJ x j).turns := by
 unfold Sc.own Sc.cT aJ
 dsimp only
 by_cases e : i.toNat = j.toNat
 ·rw [e]
  rw [List.getD_eq_getElem?_getD, List.getElem?_set_self (by omega)]; rfl
 ·rw [List.getD_eq_getElem?_getD, List.getElem?_set_ne e, ← List.getD_eq_getElem?_getD]
end
section
variable {R : Mem} {L L' L2 : List HP} {M : Mem} {K : Value → Mem → Prop} {Kp : List PanicEntry → Mem → Prop} {pa : PA} {p : b6} {b wb db : Nat} {x : Sc} {m i : Int} {a : SA} {g : List Int}
theorem JY (h : Hp R (fR (dM b wb db a x) g :: L) M) : M.ld ⟨b, 0 + 5, none⟩ = some (.slice a.ap x.ps.length a.cp) := by
 obtain ⟨A, c, h9⟩ := iS (P := dM b wb db a x) h; exact aA h9
theorem xJ (h : Hp R (fR (dM b wb db a x) g :: L) M) : M.ld ⟨b, 0 + 6, none⟩ = some (.slice a.am x.ms.length a.cm) := by
 obtain ⟨A, c, h9⟩ := iS (P := dM b wb db a x) h; exact aA h9
theorem sc_P (h : Hp R (fR (dM b wb db a x) g :: L) M) : M.ld ⟨b, 0 + 1, none⟩ = some (.int .i64 x.c.P) := by
 obtain ⟨A, c, h9⟩ := iS (P := dM b wb db a x) h; exact aA h9
theorem Z5 (h : Hp R (fR (dM b wb db a x) g :: L) M) : M.ld ⟨b, (0 + 1) + 1, none⟩ = some (.int .i64 x.c.M) := by
 obtain ⟨A, c, h9⟩ := iS (P := dM b wb db a x) h; exact aA h9
theorem W3 (h : Hp R (fR (dM b wb db a x) g :: L) M) : M.ld ⟨b, 0 + 8, none⟩ = some (.pointer (some ⟨db, 0, none⟩)) := by
 obtain ⟨A, c, h9⟩ := iS (P := dM b wb db a x) h; exact aA h9
theorem Z6 (h : Hp R (fR (dM b wb db a x) g :: L) M) : M.ld ⟨b, 0, none⟩ = some (.pointer (some ⟨wb, 0, none⟩)) := by
 obtain ⟨A, c, h9⟩ := iS (P := dM b wb db a x) h; exact aA h9
theorem Sa : dM b wb db a (x.own i).1 = dM b wb db a x := by
 unfold Sc.own dM eK Sc.cT; simp
def Rdy (R : Mem) (pa : PA) (p : b6) (b wb db : Nat) (a : SA) (L' : List HP) (K : Value → Mem → Prop) (m i : Int) (q q2 k1 : Nat) (z : Sc) (kind g : Int) (t : Bool) (M : Mem) : Prop :=
 Hp R (fR (dM b wb db a z) z.gl :: aB (bG pa p) wb z.w :: aB (cu .nilFunc) db z.d :: cv (some ⟨q, 0, none⟩) a.cp (bV a.lb z.ps) :: bn bN a.lb (z.ps.map cX.q) :: cz (some ⟨q2, 0, none⟩) a.cm z.ms :: pt k1 [.int .i64 0, .int .i64 0, .int .i64 0, .slice none 0 0] 47 :: L') M ∧
 a.lb.length = z.ps.length ∧ m < z.ms.length ∧ i < z.ps.length ∧ (0 ≤ (aJ z i).turns ∧ (aJ z i).turns < 1000000000) ∧
 (∀ M', Hp R (aB (dD pa p wb db) b (z.bL m i kind g t).1 :: L') M' → K (IA (z.bL m i kind g t).2 none 0) M')
theorem FX {y : cX} {j : Int} (hi : 0 ≤ i) (h1 : i < x.ps.length) (hj : 0 ≤ j) : aJ (x.cT i y) j = if i = j then y else aJ x j := by
 unfold aJ Sc.cT
 dsimp only
 by_cases e : i = j
 ·subst e
  rw [if_pos rfl, List.getD_eq_getElem?_getD, List.getElem?_set_self (by omega)]; rfl
 ·rw [if_neg e, List.getD_eq_getElem?_getD, List.getElem?_set_ne (by omega), ← List.getD_eq_getElem?_getD]
theorem CH {q q2 k1 : Nat}
  (h : Hp R (fR (dM b wb db a x) x.gl :: aB (bG pa p) wb x.w :: aB (cu .nilFunc) db x.d :: cv (some ⟨q, 0, none⟩) a.cp (bV a.lb x.ps) :: bn bN a.lb (x.ps.map cX.q) :: cz (some ⟨q2, 0, none⟩) a.cm x.ms :: pt k1 [.int .i64 0, .int .i64 0, .int .i64 0, .slice none 0 0] 47 :: L') M)
  (hap : a.ap = some ⟨q, 0, none⟩) (JX : a.am = some ⟨q2, 0, none⟩) (hl : a.lb.length = x.ps.length) (hk : tM x m) (hi : i = (aC x m).p) (hd : x.d.Ok)
  (k : let y := (x.own i).1
   if (x.own i).2.2 = false ∧ 1 < x.c.P then match y.d.draw 2 x.c.P with
    | (d', .cO l) => ∀ M', Hp R (aB (dD pa p wb db) b { y with d := d' } :: L') M' → Kp l M'
    | (d', .num v) =>
     let y := { y with d := d' }
     let s := (aJ y i).q.cR (aJ y v).q
     let z := if v = i then y else (y.cT i { aJ y i with q := s.1 }).cT v { aJ y v with q := s.2.1 }
     let r := if v = i then (-1, false) else (s.2.2, iX (aJ y v).q s.2.2)
     ∀ M', Hp R (aB (dD pa p wb db) b (z.bL m i 5 r.1 r.2).1 :: L') M' → K (IA (z.bL m i 5 r.1 r.2).2 none 0) M'
   else ∀ M', Hp R (aB (dD pa p wb db) b (y.bL m i 4 (x.own i).2.1 (x.own i).2.2).1 :: L') M' → K (IA (y.bL m i 4 (x.own i).2.1 (x.own i).2.2).2 none 0) M') :
  aa Tryz.prog 132 #[(.pointer (some ⟨b, 0, none⟩)), (.pointer (some ⟨q, (i.toNat * 3), none⟩))] M (fun N3 oD =>
 ∃ Eg : Int, ∃ t57 : Bool, (N3 = (.tuple #[(.int .i64 Eg), (.bool t57)])) ∧
 aV (!t57)
  (aK (Mem.ld oD ⟨b, (0 + 1), none⟩) .i64 fun EY =>
  ∃ UB : List Value → Mem → Prop, (aV (decide ((EY : Int) > 1))
   (bO (Mem.ld oD ⟨b, (0 + 8), none⟩) fun A60 =>
    aK (Mem.ld oD ⟨b, (0 + 1), none⟩) .i64 fun KN =>
    aa Tryz.prog 98 #[(.pointer A60), (.int .i64 2), (.int .i64 KN)] oD (fun Ug xm =>
    aK (some Ug) .i64 fun n64 =>
    bO (Mem.ld xm ⟨q, (i.toNat * 3), none⟩) fun Q2 =>
    aD (Mem.ld xm ⟨b, (0 + 5), none⟩) fun N4 xX Gm =>
    ((0 : Int) ≤ n64) ∧
    ((n64 : Int) < ((xX : Nat) : Int)) ∧
    aG N4 fun K0 zk =>
    bO (Mem.ld xm ⟨K0, (zk + ((Int.toNat n64) * 3)), none⟩) fun KV =>
    aa Tryz.prog 133 #[(.pointer Q2), (.pointer KV)] xm (fun Y1 zn =>
    ∃ Ju : Int, ∃ t75 : Bool, (Y1 = (.tuple #[(.int .i64 Ju), (.bool t75)])) ∧
    UB [(.int .i64 5), (.int .i64 Ju), (.bool t75)] zn) Kp) Kp)
   (UB [(.int .i64 4), (.int .i64 Eg), (.bool t57)] oD)) ∧
  ∀ UC : Nat → Value, ∀ E0 : Int, ∀ Hq : Int, ∀ t79 : Bool, ∀ yw : Mem, (UB [(.int .i64 E0), (.int .i64 Hq), (.bool t79)] yw) → aV (!t79)
   (aD (Mem.ld yw ⟨b, (0 + 6), none⟩) fun Ul Hj x5 =>
   aO yw ⟨q, ((i.toNat * 3) + 2), none⟩ (.int .i64 (-1)) fun Ef =>
   ((0 : Int) ≤ m) ∧
   ((m : Int) < ((Hj : Nat) : Int)) ∧
   aG Ul fun Jv Jw =>
   aO Ef ⟨Jv, (Jw + ((Int.toNat m) * 3)), none⟩ (.int .i64 (-1)) fun AJ =>
   aO AJ ⟨Jv, ((Jw + ((Int.toNat m) * 3)) + 1), none⟩ (.int .i64 (-1)) fun T9 =>
   aO T9 ⟨Jv, ((Jw + ((Int.toNat m) * 3)) + 2), none⟩ (.int .i64 0) fun Df =>
   aO Df ⟨k1, 0, none⟩ (.int .i64 6) fun Ua =>
   aO Ua ⟨k1, (0 + 1), none⟩ (.int .i64 m) fun j0 =>
   aO j0 ⟨k1, (0 + 2), none⟩ (.int .i64 (-1)) fun UD =>
   aO UD ⟨k1, (0 + 3), none⟩ (.slice none 0 0) fun zz =>
   aK (Mem.ld zz ⟨k1, 0, none⟩) .i64 fun Gf =>
   aK (Mem.ld zz ⟨k1, (0 + 1), none⟩) .i64 fun B5 =>
   aK (Mem.ld zz ⟨k1, (0 + 2), none⟩) .i64 fun B6 =>
   aD (Mem.ld zz ⟨k1, (0 + 3), none⟩) fun Y3 UE XN =>
   K (.agg #[(.int .i64 Gf), (.int .i64 B5), (.int .i64 B6), (.slice Y3 UE XN)]) zz)
   (aK (Mem.ld yw ⟨q, ((i.toNat * 3) + 1), none⟩) .i64 fun ux =>
   aO yw ⟨q, ((i.toNat * 3) + 1), none⟩ (.int .i64 (IntKind.wrap .i64 (ux + 1))) fun gO =>
   aD (Mem.ld gO ⟨b, (0 + 6), none⟩) fun uP jo wq =>
   aD (Mem.ld gO ⟨b, (0 + 6), none⟩) fun Dt xY Du =>
   aK (Mem.ld gO ⟨b, ((0 + 1) + 3), none⟩) .i64 fun zp =>
   ((0 : Int) ≤ m) ∧
   ((m : Int) < ((jo : Nat) : Int)) ∧
   aG uP fun Bi K2 =>
   aO gO ⟨Bi, ((K2 + ((Int.toNat m) * 3)) + 1), none⟩ (.int .i64 Hq) fun od =>
   ((0 : Int) ≤ m) ∧
   ((m : Int) < ((xY : Nat) : Int)) ∧
   aG Dt fun Hr Dv =>
   aO od ⟨Hr, ((Dv + ((Int.toNat m) * 3)) + 2), none⟩ (.int .i64 zp) fun tC =>
   aO tC ⟨k1, 0, none⟩ (.int .i64 E0) fun Hs =>
   aO Hs ⟨k1, (0 + 1), none⟩ (.int .i64 m) fun mC =>
   aO mC ⟨k1, (0 + 2), none⟩ (.int .i64 Hq) fun wj =>
   aO wj ⟨k1, (0 + 3), none⟩ (.slice none 0 0) fun mD =>
   aK (Mem.ld mD ⟨k1, 0, none⟩) .i64 fun Bj =>
   aK (Mem.ld mD ⟨k1, (0 + 1), none⟩) .i64 fun zq =>
   aK (Mem.ld mD ⟨k1, (0 + 2), none⟩) .i64 fun zu =>
   aD (Mem.ld mD ⟨k1, (0 + 3), none⟩) fun Dw Dx Fb =>
   K (.agg #[(.int .i64 Bj), (.int .i64 zq), (.int .i64 zu), (.slice Dw Dx Fb)]) mD))
  (∃ N5 : List Value → Mem → Prop, (N5 [(.int .i64 4), (.int .i64 Eg), (.bool t57)] oD) ∧
  ∀ Q3 : Nat → Value, ∀ zA : Int, ∀ x7 : Int, ∀ t129 : Bool, ∀ lq : Mem, (N5 [(.int .i64 zA), (.int .i64 x7), (.bool t129)] lq) → aV (!t129)
   (aD (Mem.ld lq ⟨b, (0 + 6), none⟩) fun x9 wk zw =>
   aO lq ⟨q, ((i.toNat * 3) + 2), none⟩ (.int .i64 (-1)) fun N0 =>
   ((0 : Int) ≤ m) ∧
   ((m : Int) < ((wk : Nat) : Int)) ∧
   aG x9 fun Bk o6 =>
   aO N0 ⟨Bk, (o6 + ((Int.toNat m) * 3)), none⟩ (.int .i64 (-1)) fun KZ =>
   aO KZ ⟨Bk, ((o6 + ((Int.toNat m) * 3)) + 1), none⟩ (.int .i64 (-1)) fun N6 =>
   aO N6 ⟨Bk, ((o6 + ((Int.toNat m) * 3)) + 2), none⟩ (.int .i64 0) fun zx =>
   aO zx ⟨k1, 0, none⟩ (.int .i64 6) fun Dy =>
   aO Dy ⟨k1, (0 + 1), none⟩ (.int .i64 m) fun zB =>
   aO zB ⟨k1, (0 + 2), none⟩ (.int .i64 (-1)) fun Bl =>
   aO Bl ⟨k1, (0 + 3), none⟩ (.slice none 0 0) fun wu =>
   aK (Mem.ld wu ⟨k1, 0, none⟩) .i64 fun N7 =>
   aK (Mem.ld wu ⟨k1, (0 + 1), none⟩) .i64 fun N8 =>
   aK (Mem.ld wu ⟨k1, (0 + 2), none⟩) .i64 fun Fe =>
   aD (Mem.ld wu ⟨k1, (0 + 3), none⟩) fun UF N9 UG =>
   K (.agg #[(.int .i64 N7), (.int .i64 N8), (.int .i64 Fe), (.slice UF N9 UG)]) wu)
   (aK (Mem.ld lq ⟨q, ((i.toNat * 3) + 1), none⟩) .i64 fun zy =>
   aO lq ⟨q, ((i.toNat * 3) + 1), none⟩ (.int .i64 (IntKind.wrap .i64 (zy + 1))) fun zC =>
   aD (Mem.ld zC ⟨b, (0 + 6), none⟩) fun Oa Ff N2 =>
   aD (Mem.ld zC ⟨b, (0 + 6), none⟩) fun UH K3 UI =>
   aK (Mem.ld zC ⟨b, ((0 + 1) + 3), none⟩) .i64 fun UJ =>
   ((0 : Int) ≤ m) ∧
   ((m : Int) < ((Ff : Nat) : Int)) ∧
   aG Oa fun UK UL =>
   aO zC ⟨UK, ((UL + ((Int.toNat m) * 3)) + 1), none⟩ (.int .i64 x7) fun wv =>
   ((0 : Int) ≤ m) ∧
   ((m : Int) < ((K3 : Nat) : Int)) ∧
   aG UH fun Ob Oc =>
   aO wv ⟨Ob, ((Oc + ((Int.toNat m) * 3)) + 2), none⟩ (.int .i64 UJ) fun Od =>
   aO Od ⟨k1, 0, none⟩ (.int .i64 zA) fun Oe =>
   aO Oe ⟨k1, (0 + 1), none⟩ (.int .i64 m) fun Of =>
   aO Of ⟨k1, (0 + 2), none⟩ (.int .i64 x7) fun Dz =>
   aO Dz ⟨k1, (0 + 3), none⟩ (.slice none 0 0) fun zD =>
   aK (Mem.ld zD ⟨k1, 0, none⟩) .i64 fun Og =>
   aK (Mem.ld zD ⟨k1, (0 + 1), none⟩) .i64 fun Oh =>
   aK (Mem.ld zD ⟨k1, (0 + 2), none⟩) .i64 fun Oi =>
   aD (Mem.ld zD ⟨k1, (0 + 3), none⟩) fun UM K4 UN =>
   K (.agg #[(.int .i64 Og), (.int .i64 Oh), (.int .i64 Oi), (.slice UM K4 UN)]) zD))) Kp := by
 obtain ⟨m0, m1, i0, i1, W4, ht0, ht1, W5, hP, hP2⟩ := hk
 rw [← hi] at i0 i1 ht0 ht1
 have go : ∀ (z : Sc) (kind g : Int) (t : Bool) (M : Mem), Rdy R pa p b wb db a L' K m i q q2 k1 z kind g t M → _ := fun z kind g t M ⟨h, a1, a2, a3, a4, a5⟩ => LU h hap JX a1 m0 a2 i0 a3 a4 a5
 refine LS (i := i) (q := q) (a := a) (x := x) (b := b) (wb := wb) (db := db) h hap hl i0 i1 W4 ht0 ?_
 clear h; intro M h
 refine ⟨_, _, rfl, ?_⟩
 dsimp only at k
 have ey : dM b wb db a (x.own i).1 = dM b wb db a x := Sa
 have ep : bV a.lb (x.own i).1.ps = bV a.lb x.ps := by
  obtain ⟨lb, hlb, jC, hrow⟩ := qC (i := i) hl i0 i1
  exact Ap jC rfl rfl
 have el : (x.own i).1.ps.length = x.ps.length := by simp [Sc.own, Sc.cT]
 have et : ∀ j, 0 ≤ j → (aJ (x.own i).1 j).turns = (aJ x j).turns := fun j hj => LV i0 i1 hj
 have em : (x.own i).1.ms = x.ms := rfl
 have ew : (x.own i).1.w = x.w := rfl
 have ed : (x.own i).1.d = x.d := rfl
 rw [← ey, ← ep] at h
 have hR : Hp R (fR (dM b wb db a (x.own i).1) (x.own i).1.gl :: aB (bG pa p) wb (x.own i).1.w :: aB (cu .nilFunc) db (x.own i).1.d :: cv (some ⟨q, 0, none⟩) a.cp (bV a.lb (x.own i).1.ps) :: bn bN a.lb ((x.own i).1.ps.map cX.q) :: cz (some ⟨q2, 0, none⟩) a.cm (x.own i).1.ms :: pt k1 [.int .i64 0, .int .i64 0, .int .i64 0, .slice none 0 0] 47 :: L') M := h.sub bz
 clear h
 have h := hR
 clear hR
 have ec : (x.own i).1.c = x.c := rfl
 generalize hy : x.own i = r at h k ey ep el et em ew ed ec
 obtain ⟨y, v1, t1⟩ := r
 dsimp only at h k ey ep el et em ew ed ec ⊢
 have OY := et i i0
 have Tv : ∀ M, Hp R (fR (dM b wb db a y) y.gl :: aB (bG pa p) wb y.w :: aB (cu .nilFunc) db y.d :: cv (some ⟨q, 0, none⟩) a.cp (bV a.lb y.ps) :: bn bN a.lb (y.ps.map cX.q) :: cz (some ⟨q2, 0, none⟩) a.cm y.ms :: pt k1 [.int .i64 0, .int .i64 0, .int .i64 0, .slice none 0 0] 47 :: L') M → ¬ (t1 = false ∧ 1 < x.c.P) → Rdy R pa p b wb db a L' K m i q q2 k1 y 4 v1 t1 M := by
  intro M h hno
  rw [if_neg hno] at k
  exact ⟨h, by omega, by rw [em]; exact m1, by omega, by omega, k⟩
 cases t1 with
 | true =>
  refine aj ?_
  refine ⟨fun vs M => ∃ (z : Sc) (kind g : Int) (t : Bool), vs = [.int .i64 kind, .int .i64 g, .bool t] ∧ Rdy R pa p b wb db a L' K m i q q2 k1 z kind g t M, ⟨y, 4, v1, true, rfl, Tv M h (fun hc => by cases hc.1)⟩, ?_⟩
  clear h
  rintro _ n1 n2 t3 M ⟨z, kind, g, t, he, hz⟩
  simp only [List.cons.injEq, Value.int.injEq, Value.bool.injEq, and_true, true_and] at he
  obtain ⟨rfl, rfl, rfl⟩ := he
  exact go z n1 n2 t3 M hz
 | false =>
  refine ai ?_
  rw [sc_P h]
  refine ck ?_
  refine ⟨fun vs M => ∃ (z : Sc) (kind g : Int) (t : Bool), vs = [.int .i64 kind, .int .i64 g, .bool t] ∧ Rdy R pa p b wb db a L' K m i q q2 k1 z kind g t M, ?_, ?_⟩
  ·rw [ec]
   refine aP.2 ⟨fun hgt => ?_, fun hle => ?_⟩
   ·rw [if_pos ⟨rfl, hgt⟩] at k
    rw [W3 h]
    refine g8 ?_
    refine ck ?_
    rw [ed] at k h
    replace h : Hp R (aB (cu .nilFunc) db x.d :: fR (dM b wb db a y) y.gl :: aB (bG pa p) wb y.w :: cv (some ⟨q, 0, none⟩) a.cp (bV a.lb y.ps) :: bn bN a.lb (y.ps.map cX.q) :: cz (some ⟨q2, 0, none⟩) a.cm y.ms :: pt k1 [.int .i64 0, .int .i64 0, .int .i64 0, .slice none 0 0] 47 :: L') M := h.sub bz
    refine qz h hd (by omega) W5 ?_
    clear h
    have Iz := fun k' v => Ak (k := x.d.k) (kind := 2) hd.1 (vk x.c.P) (k' := k') (v := v)
    have vA : ∀ v, (x.d.draw 2 x.c.P).2 = .num v → 0 ≤ v ∧ v < x.c.P := by
     intro v hv
     unfold iD.draw at hv
     split at hv
     ·rename_i k' v' hn
      cases hv
      have := Iz k' _ hn
      have e : mH x.c.P = x.c.P := by unfold mH; rw [if_neg (by omega)]
      rw [e] at this
      exact this
     ·cases hv
    generalize xF : x.d.draw 2 x.c.P = dd at k vA
    obtain ⟨d', o⟩ := dd
    cases o with
    | cO l =>
     dsimp only at k vA ⊢
     intro M h
     have hsc : dM b wb db a y = dM b wb db a { y with d := d' } := rfl
     rw [hsc] at h
     have h9 : Hp R (fR (dM b wb db a { y with d := d' }) y.gl :: aB (bG pa p) wb y.w :: aB (cu .nilFunc) db d' :: cv a.ap a.cp (bV a.lb y.ps) :: bn bN a.lb (y.ps.map cX.q) :: cz a.am a.cm y.ms :: pt k1 [.int .i64 0, .int .i64 0, .int .i64 0, .slice none 0 0] 47 :: L') M := by
      rw [show cv a.ap a.cp (bV a.lb y.ps) = cv (some ⟨q, 0, none⟩) a.cp (bV a.lb y.ps) from by rw [hap], show cz a.am a.cm y.ms = cz (some ⟨q2, 0, none⟩) a.cm y.ms from by rw [JX]]
      exact h.sub bz
     exact k M (Hp.b7 (gh (a := a) (x := { y with d := d' }) (by rw [el]; exact hl) h9))
    | num v =>
     dsimp only at k vA ⊢
     obtain ⟨v0, v1'⟩ := vA v rfl
     intro M h
     refine ck ?_
     have hsc : dM b wb db a y = dM b wb db a { y with d := d' } := rfl
     rw [hsc] at h
     generalize hyz : ({ y with d := d' } : Sc) = y2 at h k
     have p1 : y2.ps = y.ps := by rw [← hyz]
     have p2 : y2.ms = y.ms := by rw [← hyz]
     have p3 : y2.gl = y.gl := by rw [← hyz]
     have p4 : y2.w = y.w := by rw [← hyz]
     have p5 : y2.d = d' := by rw [← hyz]
     rw [← p1, ← p2, ← p3, ← p4, ← p5] at h
     replace h : Hp R (fR (dM b wb db a y2) y2.gl :: aB (bG pa p) wb y2.w :: aB (cu .nilFunc) db y2.d :: cv (some ⟨q, 0, none⟩) a.cp (bV a.lb y2.ps) :: bn bN a.lb (y2.ps.map cX.q) :: cz (some ⟨q2, 0, none⟩) a.cm y2.ms :: pt k1 [.int .i64 0, .int .i64 0, .int .i64 0, .slice none 0 0] 47 :: L') M := h.sub bz
     have jD : a.lb.length = y2.ps.length := by rw [p1, el]; exact hl
     have Mu : i < y2.ps.length := by rw [p1, el]; exact i1
     have GJ : v < y2.ps.length := by rw [p1, el]; omega
     have Z3 : m < y2.ms.length := by rw [p2, em]; exact m1
     have ht2 : ∀ j, aJ y2 j = aJ y j := fun j => by unfold aJ; rw [p1]
     obtain ⟨lbi, Z7, Z8, Z9⟩ := qC (i := i) jD i0 Mu
     obtain ⟨lbv, W6, Pw, aaa⟩ := qC (i := v) jD v0 GJ
     refine lR (Src.at (Src.row (A := some ⟨q, 0, none⟩) : Src R _ _ (nt.cells (bV a.lb y2.ps))) h (i := i.toNat) (j := 0) Z9 rfl (by show _ = 0 + (i.toNat * 3 + 0); simp)) ?_
     rw [JY h]
     refine aT ⟨v0, GJ, ?_⟩
     rw [hap]
     refine br ?_
     rw [Nat.zero_add]
     refine lR (Src.at (Src.row (A := some ⟨q, 0, none⟩) : Src R _ _ (nt.cells (bV a.lb y2.ps))) h (i := v.toNat) (j := 0) aaa rfl (by show _ = 0 + (v.toNat * 3 + 0); simp)) ?_
     by_cases W7 : v = i
     ·subst W7
      rw [Z7] at W6
      cases W6
      refine wP ?_
      refine ⟨_, _, rfl, ?_⟩
      simp only [if_true] at k
      exact ⟨y2, 5, -1, false, rfl, h, jD, Z3, Mu, by rw [ht2]; omega, k⟩
     ·simp only [if_neg W7] at k
      have hqi : (y2.ps.map cX.q)[i.toNat]? = some (aJ y2 i).q := by rw [List.getElem?_map, Z8]; rfl
      have hqv : (y2.ps.map cX.q)[v.toNat]? = some (aJ y2 v).q := by rw [List.getElem?_map, Pw]; rfl
      obtain ⟨X, hX, CI⟩ := h.Oq bN (i := i.toNat) (j := v.toNat) (by omega) Z7 hqi W6 hqv
      clear h
      refine FE hX ?_
      clear hX; intro t M g1 g2 h
      refine ⟨_, _, rfl, ?_⟩
      have hte : t = iX (aJ y2 v).q ((aJ y2 i).q.cR (aJ y2 v).q).2.2 := by
       unfold iX
       by_cases hc : ((aJ y2 i).q.cR (aJ y2 v).q).2.2 ≠ -1 ∨ (aJ y2 v).q.l ≠ []
       ·rw [g2 hc]
        rcases hc with hc | hc
        ·simp [hc]
        ·cases hq : (aJ y2 v).q.l with
         | nil => exact absurd hq hc
         | cons _ _ => simp
       ·have Px : ((aJ y2 i).q.cR (aJ y2 v).q).2.2 = -1 := Decidable.byContradiction fun e => hc (.inl e)
        have xS : (aJ y2 v).q.l = [] := by
         cases hq : (aJ y2 v).q.l with
         | nil => rfl
         | cons _ _ => exact absurd (.inr (by rw [hq]; simp)) hc
        rw [g1 Px xS, Px, xS]; rfl
      subst hte
      replace h := CI (L2 := _) h
      generalize hs : (aJ y2 i).q.cR (aJ y2 v).q = s at h k ⊢
      obtain ⟨s1, s2, s3⟩ := s
      dsimp only at h k ⊢
      have e1 : bV a.lb ((y2.cT i { aJ y2 i with q := s1 }).cT v { aJ y2 v with q := s2 }).ps = bV a.lb y2.ps := by
       show bV a.lb ((y2.ps.set i.toNat _).set v.toNat _) = _
       rw [Ap (ps := y2.ps.set i.toNat { aJ y2 i with q := s1 }) (j := v.toNat) (pr := aJ y2 v) (y := { aJ y2 v with q := s2 }) (by rw [List.getElem?_set_ne (by omega)]; exact Pw) rfl rfl]
       exact Ap Z8 rfl rfl
      have e2 : ((y2.cT i { aJ y2 i with q := s1 }).cT v { aJ y2 v with q := s2 }).ps.map cX.q = ((y2.ps.map cX.q).set i.toNat s1).set v.toNat s2 := by
       simp [Sc.cT, List.map_set]
      have e3 : dM b wb db a ((y2.cT i { aJ y2 i with q := s1 }).cT v { aJ y2 v with q := s2 }) = dM b wb db a y2 := by rw [An, An]
      rw [← e1, ← e2, ← e3] at h
      have e4 : (aJ ((y2.cT i { aJ y2 i with q := s1 }).cT v { aJ y2 v with q := s2 }) i).turns = (aJ y2 i).turns := by
       rw [FX v0 (by rw [qE]; exact GJ) i0, if_neg W7, FX i0 Mu i0, if_pos rfl]
      refine ⟨(y2.cT i { aJ y2 i with q := s1 }).cT v { aJ y2 v with q := s2 }, 5, s3, _, rfl, h.sub bz, ?_, Z3, ?_, ?_, k⟩
      ·rw [qE, qE]; exact jD
      ·rw [qE, qE]; exact Mu
      ·rw [e4, ht2]; omega
   ·exact ⟨y, 4, v1, false, rfl, Tv M h (fun hc => hle hc.2)⟩
  ·clear h
   rintro _ n1 n2 t3 M ⟨z, kind, g, t, he, hz⟩
   simp only [List.cons.injEq, Value.int.injEq, Value.bool.injEq, and_true, true_and] at he
   obtain ⟨rfl, rfl, rfl⟩ := he
   exact go z n1 n2 t3 M hz
end
def wQ (l : List PanicEntry) : List PanicEntry := l ++ l.map fun e => { e with recovered := true }
theorem CJ : Cv DU (wQ DU) := fun b v M K Kp h => Li h
theorem FY {a k n q v : Int} : Cv (XX a k n q v) (wQ (XX a k n q v)) := fun b w M K Kp h => DF h
theorem Py {k k' : fy} {kind m : Int} {l : List PanicEntry} (h : k.next kind m = (k', .cO l)) : k' = k ∧ Cv l (wQ l) := by
 cases k with
 | vB l i =>
  unfold fy.next at h
  dsimp only at h
  split at h
  ·cases h; exact ⟨rfl, CJ⟩
  ·cases h
 | tape l i =>
  unfold fy.next at h
  dsimp only at h
  split at h
  ·cases h; exact ⟨rfl, CJ⟩
  ·split at h
   ·cases h; exact ⟨rfl, FY⟩
   ·split at h
    ·cases h; exact ⟨rfl, FY⟩
    ·cases h
theorem FZ {x x' : iD} {kind n : Int} {l : List PanicEntry} (h : x.draw kind n = (x', .cO l)) : x' = x ∧ Cv l (wQ l) := by
 unfold iD.draw at h
 split at h
 ·cases h
 ·rename_i k' l' hn
  cases h
  obtain ⟨e, h2⟩ := Py hn
  subst e
  exact ⟨rfl, h2⟩
theorem mq {x : iD} {kind n : Int} (h : x.k.Ok) : (x.draw kind n).1.k.Ok := by
 unfold iD.draw
 have := R8 (kind := kind) (m := mH n) h
 split
 ·rename_i k' v hn; rw [hn] at this; exact this
 ·rename_i k' v hn; rw [hn] at this; exact this
theorem nv {x x' : iD} {kind n v : Int} (hok : x.k.Ok) (h : x.draw kind n = (x', .num v)) : 0 ≤ v ∧ v < mH n ∧ x'.taken = x.taken ++ [(kind, v)] := by
 unfold iD.draw at h
 split at h
 ·rename_i k' v' hn
  cases h
  have := Ak hok (vk n) hn
  exact ⟨this.1, this.2, rfl⟩
 ·cases h
def aN (m : Int) (x : Sc) (r : Int) : Sc :=
 let i := (aC x m).p
 { x.cT i { aJ x i with q := ((aJ x i).q.ready r x.gl).1 } with gl := ((aJ x i).q.ready r x.gl).2.1 }
def Sc.ju (x : Sc) (m g : Int) (keep : Bool) (ready : List Int) : Sc × Ev :=
 if keep = true ∧ (aC x m).left - 1 ≠ 0 then (x.jt m { aC x m with left := (aC x m).left - 1 }, ⟨7, m, g, ready⟩)
 else ({ x.jt m { aC x m with left := (aC x m).left - 1, g := -1 } with gl := if (au x.w g).st = 1 then x.gl ++ [g] else x.gl }, ⟨7, m, g, ready⟩)
def wR (p : b6) (x : Sc) (m : Int) : Prop := 0 ≤ m ∧ m < x.ms.length ∧ 0 ≤ (aC x m).p ∧ (aC x m).p < x.ps.length ∧ x.gl.length ≤ 1000000 ∧ x.d.taken.length < 100000000 ∧ 1 ≤ (aC x m).left ∧ (aC x m).left < 1000000000 ∧ 0 ≤ (aC x m).g
instance (p : b6) (x : Sc) (m : Int) : Decidable (wR p x m) := by unfold wR; infer_instance
def Tw : Option (Int × Int) → Bool
 | none => true
 | some (_, n) => decide (n < 9223372036854775808)
def gk (x : Sc) (m g : Int) (d : iD) (y : Wd) (rest : Bool) : Option (Sc × lF) :=
 if y.ready.length ≤ 10000 ∧ g < y.gs.length then
  some (((y.ready.foldl (aN m) { x with w := y, d := d }).ju m g (gX y g rest) y.ready).1, .ev ((y.ready.foldl (aN m) { x with w := y, d := d }).ju m g (gX y g rest) y.ready).2)
 else none
def bR (d : iD) : Option (Int × Int) → iD × jQ
 | none => (d, .num 0)
 | some (k, n) => d.draw k n
def Sc.run (p : b6) (x : Sc) (m : Int) : Option (Sc × lF) :=
 if wR p x m then
  if Tw (asks p { x.w with ready := [] } (aC x m).g) then
   match oJ p x.w (aC x m).g (bR x.d (asks p { x.w with ready := [] } (aC x m).g)).2 with
   | none => none
   | some (.cO l y, _) => some ({ x with w := y, d := (bR x.d (asks p { x.w with ready := [] } (aC x m).g)).1 }, .cO (wQ l))
   | some (.on y, rest) => gk x m (aC x m).g (bR x.d (asks p { x.w with ready := [] } (aC x m).g)).1 y rest
   | some (.eR n y, rest) => gk x m (aC x m).g (bR x.d (asks p { x.w with ready := [] } (aC x m).g)).1 { y with end_ := 2, code := n } rest
  else none
 else none
def DW : Sc × lF → Sc × lF
 | (x, .ev e) => ({ x with steps := x.steps + 1 }, .ev e)
 | (x, .cO l) => (x, .cO l)
def vl (x : Sc) : Prop := x.w.gs.length ≤ 1000000 ∧ x.c.M = x.ms.length ∧ x.ps.length ≤ 1000000 ∧ x.ms.length ≤ 1000000 ∧ x.d.taken.length < 10000000 ∧ 0 ≤ x.steps ∧ x.steps < 1000000000
instance (x : Sc) : Decidable (vl x) := by unfold vl; infer_instance
def Sc.act (p : b6) (x : Sc) (m : Int) : Option (Sc × lF) :=
 if m = x.c.M then (if wL x then some (x.tick.1, .ev x.tick.2) else none)
 else if (aC x m).p = -1 then some ((x.hold m).1, .ev (x.hold m).2)
 else if (aC x m).g = -1 then (if tM x m then some (x.find m) else none)
 else x.run p m
def Sc.step (p : b6) (x : Sc) : Option (Sc × lF) :=
 if vl x then
  if x.status ≠ 0 then some (x, .ev ⟨0, 0, 0, []⟩)
  else match x.d.draw 1 (x.c.M + 1) with
   | (d', .cO l) => some ({ x with d := d' }, .cO l)
   | (d', .num m) => (Sc.act p { x with d := d' } m).map DW
 else none
section
variable {R : Mem} {L L' L2 : List HP} {M : Mem} {K : Value → Mem → Prop} {Kp : List PanicEntry → Mem → Prop} {pa : PA} {p : b6} {b wb db : Nat} {x : Sc} {m i : Int}
theorem ID (h : Hp R L M) [o : lE b L pa p wb db x L'] (hk : tM x m) (hd : x.d.k.Ok)
  (k : match (x.find m).2 with
   | .ev e => ∀ M', Hp R (aB (dD pa p wb db) b (x.find m).1 :: L') M' → K (IA e none 0) M'
   | .cO l => ∀ M', Hp R (aB (dD pa p wb db) b (x.find m).1 :: L') M' → Kp l M') : aa Tryz.prog 101 #[.pointer (some ⟨b, 0, none⟩), .int .i64 m] M K Kp := by
 refine sg ?_
 have hk' := hk
 obtain ⟨m0, m1, i0, i1, W4, ht0, ht1, W5, hP, hP2⟩ := hk'
 have Aq : x.d.Ok := ⟨hd, by omega⟩
 refine aq h ?_
 clear h
 intro k1 M h
 have h' := ei h (b := b)
 clear h
 obtain ⟨a, hl, h⟩ := h'
 obtain ⟨lb, hlb, jC, hrow⟩ := qC (i := (aC x m).p) hl i0 i1
 have nu := qD m0 m1
 have m2 : m.toNat < x.ms.length := by omega
 obtain ⟨q, hq⟩ := h.bx (A := a.ap) (l := bV a.lb x.ps) (by rw [jR hl]; omega) (by decide)
 obtain ⟨q2, ny⟩ := h.bx (A := a.am) (l := x.ms) (by omega) (by decide)
 replace h : Hp R (fR (dM b wb db a x) x.gl :: aB (bG pa p) wb x.w :: aB (cu .nilFunc) db x.d :: cv (some ⟨q, 0, none⟩) a.cp (bV a.lb x.ps) :: bn bN a.lb (x.ps.map cX.q) :: cz (some ⟨q2, 0, none⟩) a.cm x.ms :: pt k1 [.int .i64 0, .int .i64 0, .int .i64 0, .slice none 0 0] 47 :: L') M := by
  unfold dU at h
  rw [show cv a.ap a.cp (bV a.lb x.ps) = cv (some ⟨q, 0, none⟩) a.cp (bV a.lb x.ps) from by rw [hq], show cz a.am a.cm x.ms = cz (some ⟨q2, 0, none⟩) a.cm x.ms from by rw [ny]] at h
  exact h.sub (by repeat (first | exact .refl | refine .cons (by repeat (first | exact .here | apply de.there)) ?_ | apply Sub.drop))
 rw [JY h]
 refine aT ?_
 rw [xJ h]
 refine aT ⟨m0, m1, ?_⟩
 rw [ny]
 refine br ?_
 refine aZ (Src.at (h.src (A := some ⟨q2, 0, none⟩)) h (i := m.toNat) (j := 0) nu rfl (by show _ = 0 + (m.toNat * 3 + 0); simp)) ?_
 refine ⟨i0, i1, ?_⟩
 rw [hq]
 refine br ?_
 refine aT ⟨m0, m1, br ?_⟩
 refine aZ (Src.at (h.src (A := some ⟨q2, 0, none⟩)) h (i := m.toNat) (j := 2) nu rfl (by show _ = 0 + (m.toNat * 3 + 2); omega)) ?_
 simp only [Nat.zero_add]
 have hno : ¬ (0 < (aC x m).left ∧ (aJ x (aC x m).p).q.next ≠ -1) → (let y := (x.own (aC x m).p).1
   if (x.own (aC x m).p).2.2 = false ∧ 1 < x.c.P then match y.d.draw 2 x.c.P with
    | (d', .cO l) => ∀ M', Hp R (aB (dD pa p wb db) b { y with d := d' } :: L') M' → Kp l M'
    | (d', .num v) =>
     let y := { y with d := d' }
     let s := (aJ y (aC x m).p).q.cR (aJ y v).q
     let z := if v = (aC x m).p then y else (y.cT (aC x m).p { aJ y (aC x m).p with q := s.1 }).cT v { aJ y v with q := s.2.1 }
     let r := if v = (aC x m).p then (-1, false) else (s.2.2, iX (aJ y v).q s.2.2)
     ∀ M', Hp R (aB (dD pa p wb db) b (z.bL m (aC x m).p 5 r.1 r.2).1 :: L') M' → K (IA (z.bL m (aC x m).p 5 r.1 r.2).2 none 0) M'
   else ∀ M', Hp R (aB (dD pa p wb db) b (y.bL m (aC x m).p 4 (x.own (aC x m).p).2.1 (x.own (aC x m).p).2.2).1 :: L') M' → K (IA (y.bL m (aC x m).p 4 (x.own (aC x m).p).2.1 (x.own (aC x m).p).2.2).2 none 0) M') := by
  intro hn
  unfold Sc.find at k
  dsimp only at k ⊢
  rw [if_neg hn] at k
  split
  ·rename_i hc
   rw [if_pos hc] at k
   split
   ·rename_i d' l xF
    rw [xF] at k
    exact k
   ·rename_i d' v xF
    rw [xF] at k
    dsimp only at k ⊢
    by_cases hv : v = (aC x m).p
    ·simp only [if_pos hv] at k ⊢
     exact k
    ·simp only [if_neg hv] at k ⊢
     exact k
  ·rename_i hc
   rw [if_neg hc] at k
   exact k
 refine aP.2 ⟨fun hgt => ?_, fun hle => ?_⟩
 ·refine lR (Src.at (h.src (A := some ⟨q, 0, none⟩)) h (i := (aC x m).p.toNat) (j := 0) hrow rfl (by show _ = 0 + ((aC x m).p.toNat * 3 + 0); simp)) ?_
  have hqi : (x.ps.map cX.q)[(aC x m).p.toNat]? = some (aJ x (aC x m).p).q := by rw [List.getElem?_map, jC]; rfl
  have h3 := h.dn bN hlb hqi
  refine zV h3 ?_
  refine ck ?_
  refine ⟨fun vs M => vs = [] ∧ (aJ x (aC x m).p).q.next = -1 ∧ Hp R (fR (dM b wb db a x) x.gl :: aB (bG pa p) wb x.w :: aB (cu .nilFunc) db x.d :: cv (some ⟨q, 0, none⟩) a.cp (bV a.lb x.ps) :: bn bN a.lb (x.ps.map cX.q) :: cz (some ⟨q2, 0, none⟩) a.cm x.ms :: pt k1 [.int .i64 0, .int .i64 0, .int .i64 0, .slice none 0 0] 47 :: L') M, ?_, ?_⟩
  ·refine cK.2 ⟨fun hne => ?_, fun heq => ⟨rfl, by simpa using heq, h⟩⟩
   clear h3
   unfold Sc.find at k
   dsimp only at k
   rw [if_pos ⟨by omega, hne⟩] at k
   dsimp only at k
   refine lR (Src.at (h.src (A := some ⟨q, 0, none⟩)) h (i := (aC x m).p.toNat) (j := 0) hrow rfl (by show _ = 0 + ((aC x m).p.toNat * 3 + 0); simp)) ?_
   rw [show M.ld ⟨b, 6, none⟩ = some (.slice a.am x.ms.length a.cm) from xJ h]
   refine aT ?_
   replace h := h.dn bN hlb hqi
   refine Cs h (b := lb) ?_
   clear h; intro t M _ _ h
   refine ⟨_, _, rfl, ?_⟩
   replace h := h.eu bN lb hlb (by rw [List.length_map]; omega)
   replace h : Hp R (fR (dM b wb db a x) x.gl :: aB (bG pa p) wb x.w :: aB (cu .nilFunc) db x.d :: cv (some ⟨q, 0, none⟩) a.cp (bV a.lb x.ps) :: bn bN a.lb ((x.ps.map cX.q).set (aC x m).p.toNat (aJ x (aC x m).p).q.get.1) :: cz (some ⟨q2, 0, none⟩) a.cm x.ms :: pt k1 [.int .i64 0, .int .i64 0, .int .i64 0, .slice none 0 0] 47 :: L') M := h.sub (by repeat (first | exact .refl | refine .cons (by repeat (first | exact .here | apply de.there)) ?_ | apply Sub.drop))
   refine ⟨xJ h, m0, m1, ?_⟩
   rw [ny]
   refine br ?_
   refine iK (E := fk) (a' := ⟨(aC x m).p, (aJ x (aC x m).p).q.get.2, (aC x m).left⟩) m.toNat 1 h nu (by decide) rfl (by show _ = m.toNat * 3 + 1; omega) ?_
   clear h; intro M h
   replace h : Hp R (fR (dM b wb db a x) x.gl :: aB (bG pa p) wb x.w :: aB (cu .nilFunc) db x.d :: cv (some ⟨q, 0, none⟩) a.cp (bV a.lb x.ps) :: bn bN a.lb ((x.ps.map cX.q).set (aC x m).p.toNat (aJ x (aC x m).p).q.get.1) :: cz (some ⟨q2, 0, none⟩) a.cm (x.ms.set m.toNat ⟨(aC x m).p, (aJ x (aC x m).p).q.get.2, (aC x m).left⟩) :: pt k1 [.int .i64 0, .int .i64 0, .int .i64 0, .slice none 0 0] 47 :: L') M := h.sub (by repeat (first | exact .refl | refine .cons (by repeat (first | exact .here | apply de.there)) ?_ | apply Sub.drop))
   refine ⟨by have := xJ h; rw [ny] at this; exact this, ?_⟩
   rw [show M.ld ⟨b, 6, none⟩ = some (.slice a.am x.ms.length a.cm) from xJ h, ny]
   refine aT ⟨m0, m1, br ?_⟩
   refine aZ (Src.at (h.src (A := some ⟨q2, 0, none⟩)) h (i := m.toNat) (j := 1) (a := ⟨(aC x m).p, (aJ x (aC x m).p).q.get.2, (aC x m).left⟩) (by simp [m2]) rfl (by show _ = 0 + (m.toNat * 3 + 1); omega)) ?_
   dsimp only
   refine jS h ?_
   clear h; intro M h
   refine oK h ?_
   have e1 : bV a.lb (x.cT (aC x m).p { aJ x (aC x m).p with q := (aJ x (aC x m).p).q.get.1 }).ps = bV a.lb x.ps := Ap jC rfl rfl
   have e2 : ((x.cT (aC x m).p { aJ x (aC x m).p with q := (aJ x (aC x m).p).q.get.1 }).ps).map cX.q = (x.ps.map cX.q).set (aC x m).p.toNat (aJ x (aC x m).p).q.get.1 := by simp [Sc.cT, List.map_set]
   have h9 : Hp R (fR (dM b wb db a ((x.cT (aC x m).p { aJ x (aC x m).p with q := (aJ x (aC x m).p).q.get.1 }).jt m { aC x m with g := (aJ x (aC x m).p).q.get.2 })) x.gl :: aB (bG pa p) wb x.w :: aB (cu .nilFunc) db x.d :: cv a.ap a.cp (bV a.lb ((x.cT (aC x m).p { aJ x (aC x m).p with q := (aJ x (aC x m).p).q.get.1 }).jt m { aC x m with g := (aJ x (aC x m).p).q.get.2 }).ps) :: bn bN a.lb (((x.cT (aC x m).p { aJ x (aC x m).p with q := (aJ x (aC x m).p).q.get.1 }).jt m { aC x m with g := (aJ x (aC x m).p).q.get.2 }).ps.map cX.q) :: cz a.am a.cm (x.ms.set m.toNat ⟨(aC x m).p, (aJ x (aC x m).p).q.get.2, (aC x m).left⟩) :: L') M := by
    rw [Ao, An]
    show Hp R (_ :: _ :: _ :: cv a.ap a.cp (bV a.lb (x.cT (aC x m).p { aJ x (aC x m).p with q := (aJ x (aC x m).p).q.get.1 }).ps) :: bn bN a.lb ((x.cT (aC x m).p { aJ x (aC x m).p with q := (aJ x (aC x m).p).q.get.1 }).ps.map cX.q) :: _) M
    rw [e1, e2, hq, ny]
    exact h.sub (by repeat (first | exact .refl | refine .cons (by repeat (first | exact .here | apply de.there)) ?_ | apply Sub.drop))
   exact k _ (gh (a := a) (x := (x.cT (aC x m).p { aJ x (aC x m).p with q := (aJ x (aC x m).p).q.get.1 }).jt m { aC x m with g := (aJ x (aC x m).p).q.get.2 }) (by simpa [Sc.cT, Sc.jt] using hl) h9)
  ·clear h h3
   rintro _ M ⟨_, hnx, h⟩
   exact CH h hq ny hl hk rfl Aq (hno (fun hc => hc.2 hnx))
 ·refine ⟨fun vs M => vs = [] ∧ Hp R (fR (dM b wb db a x) x.gl :: aB (bG pa p) wb x.w :: aB (cu .nilFunc) db x.d :: cv (some ⟨q, 0, none⟩) a.cp (bV a.lb x.ps) :: bn bN a.lb (x.ps.map cX.q) :: cz (some ⟨q2, 0, none⟩) a.cm x.ms :: pt k1 [.int .i64 0, .int .i64 0, .int .i64 0, .slice none 0 0] 47 :: L') M, ⟨rfl, h⟩, ?_⟩
  clear h
  rintro _ M ⟨_, h⟩
  exact CH h hq ny hl hk rfl Aq (hno (fun hc => hle (by omega)))
end
theorem CK {p : b6} {x : Wd} {k v : Int} {l : List PanicEntry} {y : Wd} : x.put p k v ≠ .cO l y := by
 unfold Wd.put; dsimp only; split <;> simp
theorem IE {p : b6} {x : Wd} {g : Int} {i : cI} {l : List PanicEntry} {y : Wd} (h : ov p x g i = some (.cO l y)) : False := by
 unfold ov at h
 by_cases e : i.op = 10
 ·rw [if_pos e] at h; obtain ⟨_, h⟩ := cV h; cases h
 rw [if_neg e] at h; clear e
 by_cases e : i.op = 11
 ·rw [if_pos e] at h; obtain ⟨_, h⟩ := cV h; unfold Wd.spawn at h; split at h <;> cases h
 rw [if_neg e] at h; clear e
 by_cases e : i.op = 13
 ·rw [if_pos e] at h; obtain ⟨_, h⟩ := cV h
  unfold Wd.send at h
  split at h
  ·cases h
  ·rename_i hp; exact CK hp
  ·cases h
  ·cases h
 rw [if_neg e] at h; clear e
 by_cases e : i.op = 14
 ·rw [if_pos e] at h; obtain ⟨_, h⟩ := cV h; cases h
 rw [if_neg e] at h; clear e
 by_cases e : i.op = 15
 ·rw [if_pos e] at h; obtain ⟨_, h⟩ := cV h; unfold Wd.shut at h; dsimp only at h; split at h
  ·cases h
  ·split at h <;> cases h
 rw [if_neg e] at h; clear e
 by_cases e : i.op = 20
 ·rw [if_pos e] at h; obtain ⟨_, h⟩ := cV h; unfold Wd.emit at h; split at h <;> cases h
 rw [if_neg e] at h; clear e
 by_cases e : i.op = 9
 ·rw [if_pos e] at h; obtain ⟨_, h⟩ := cV h; unfold Wd.call at h; split at h <;> cases h
 rw [if_neg e] at h; clear e
 by_cases e : i.op = 12
 ·rw [if_pos e] at h; cases h
 rw [if_neg e] at h; clear e
 by_cases e : i.op = 17
 ·rw [if_pos e] at h; obtain ⟨_, h⟩ := cV h; cases h
 rw [if_neg e] at h; clear e
 by_cases e : i.op = 18
 ·rw [if_pos e] at h; obtain ⟨_, h⟩ := cV h; cases h
 rw [if_neg e] at h; clear e
 by_cases e : i.op = 19
 ·rw [if_pos e] at h; obtain ⟨_, h⟩ := cV h; unfold Wd.unlock at h; split at h
  ·cases h
  ·split at h <;> cases h
 rw [if_neg e] at h; clear e
 by_cases e : i.op = 22
 ·rw [if_pos e] at h; cases h
 rw [if_neg e] at h; cases h
theorem CL {p : b6} {x : Wd} {g : Int} {d : jQ} {l : List PanicEntry} {y : Wd} {rest : Bool} (h : oJ p x g d = some (.cO l y, rest)) : d = .cO l ∧ y = { x with ready := [] } := by
 unfold oJ at h
 dsimp only at h
 split at h
 ·split at h
  ·split at h
   ·cases h
   ·split at h
    ·cases h
    ·split at h
     ·split at h <;> cases h
     ·split at h
      ·split at h
       ·split at h
        ·rename_i hc
         simp only [Option.some.injEq, Prod.mk.injEq] at h
         obtain ⟨h, _⟩ := h
         unfold Wd.choose at h
         split at h
         ·cases h
         ·cases d with
          | cO l' => cases h; exact ⟨rfl, rfl⟩
          | num v =>
           dsimp only at h
           unfold Wd.qu at h
           dsimp only at h
           split at h
           ·split at h
            ·cases h
            ·rename_i hp; exact absurd hp CK
            ·cases h
           ·cases h
        ·cases h
       ·cases h
      ·split at h
       ·split at h
        ·split at h
         ·simp only [Option.some.injEq, Prod.mk.injEq] at h
          obtain ⟨h, _⟩ := h
          cases d with
          | cO l' => cases h; exact ⟨rfl, rfl⟩
          | num v => cases h
         ·cases h
        ·cases h
       ·split at h
        ·cases h
        ·rename_i r hd
         split at h
         ·simp only [Option.some.injEq, Prod.mk.injEq] at h
          obtain ⟨h, _⟩ := h
          subst h
          exact (IE hd).elim
         ·cases h
  ·cases h
 ·cases h
theorem LW {q : Loc} {r : Int} {gl : List Int} : (q.ready r gl).2.1.length ≤ gl.length + q.l.length + 1 := by
 unfold Loc.ready
 split
 ·dsimp only; omega
 ·unfold Loc.put
  dsimp only
  split
  ·dsimp only; omega
  ·dsimp only; simp; omega
section
variable {R : Mem} {L L' L2 : List HP} {M : Mem} {K : Value → Mem → Prop} {Kp : List PanicEntry → Mem → Prop} {pa : PA} {p : b6} {b wb db : Nat} {x : Sc} {m i : Int} {a : SA}
abbrev Au (eT : Nat) (kp : Bool) (A : Option Addr) (n c : Nat) : HP := pt eT [.bool kp, .slice A n c] 120
theorem F0 {q2 k1 eT c : Nat} {g : Int} {kp : Bool} {A : Option Addr} {rd : List Int}
  (h : Hp R (fR (dM b wb db a x) x.gl :: aB (bG pa p) wb x.w :: aB (cu .nilFunc) db x.d :: cv a.ap a.cp (bV a.lb x.ps) :: bn bN a.lb (x.ps.map cX.q) :: cz (some ⟨q2, 0, none⟩) a.cm (x.ms.set m.toNat { aC x m with left := (aC x m).left - 1 }) :: Au eT kp A rd.length c :: pt k1 [.int .i64 0, .int .i64 0, .int .i64 0, .slice none 0 0] 47 :: L') M)
  (JX : a.am = some ⟨q2, 0, none⟩) (hl : a.lb.length = x.ps.length) (m0 : 0 ≤ m) (m1 : m < x.ms.length) (g0 : 0 ≤ g) (g1 : g < x.w.gs.length) (W4 : x.gl.length ≤ 100000000)
  (k : ∀ M', Hp R (aB (dD pa p wb db) b { x.jt m { aC x m with left := (aC x m).left - 1, g := -1 } with gl := if (au x.w g).st = 1 then x.gl ++ [g] else x.gl } :: L') M' → K (IA ⟨7, m, g, rd⟩ A c) M') :
  aO M ⟨q2, ((m.toNat * 3) + 1), none⟩ (.int .i64 (-1)) fun qR =>
  bO (Mem.ld qR ⟨b, 0, none⟩) fun Q1 =>
  aa Tryz.prog 65 #[(.pointer Q1), (.int .i64 g)] qR (fun Jk AH =>
  aK (some Jk) .i64 fun Bg =>
  aV (Bg == 1)
   (be AH (.cells #[(.int .i64 g)] 3 (0, 0)) fun jX E9 =>
   aa Tryz.prog 53 #[(.pointer (some ⟨b, (0 + 7), none⟩)), (.slice (some ⟨jX, 0, none⟩) 1 1)] E9 (fun N3 oD =>
   (N3 = (.tuple #[])) ∧
   aD (Mem.ld oD ⟨eT, (0 + 1), none⟩) fun Q6 sG EZ =>
   aO oD ⟨k1, 0, none⟩ (.int .i64 7) fun xA =>
   aO xA ⟨k1, (0 + 1), none⟩ (.int .i64 m) fun pQ =>
   aO pQ ⟨k1, (0 + 2), none⟩ (.int .i64 g) fun ym =>
   aO ym ⟨k1, (0 + 3), none⟩ (.slice Q6 sG EZ) fun mW =>
   aK (Mem.ld mW ⟨k1, 0, none⟩) .i64 fun xQ =>
   aK (Mem.ld mW ⟨k1, (0 + 1), none⟩) .i64 fun n64 =>
   aK (Mem.ld mW ⟨k1, (0 + 2), none⟩) .i64 fun vV =>
   aD (Mem.ld mW ⟨k1, (0 + 3), none⟩) fun N4 xX Gm =>
   K (.agg #[(.int .i64 xQ), (.int .i64 n64), (.int .i64 vV), (.slice N4 xX Gm)]) mW) Kp)
   (aD (Mem.ld AH ⟨eT, (0 + 1), none⟩) fun Y9 zk KT =>
   aO AH ⟨k1, 0, none⟩ (.int .i64 7) fun vW =>
   aO vW ⟨k1, (0 + 1), none⟩ (.int .i64 m) fun zn =>
   aO zn ⟨k1, (0 + 2), none⟩ (.int .i64 g) fun Cb =>
   aO Cb ⟨k1, (0 + 3), none⟩ (.slice Y9 zk KT) fun zm =>
   aK (Mem.ld zm ⟨k1, 0, none⟩) .i64 fun NH =>
   aK (Mem.ld zm ⟨k1, (0 + 1), none⟩) .i64 fun E0 =>
   aK (Mem.ld zm ⟨k1, (0 + 2), none⟩) .i64 fun Hq =>
   aD (Mem.ld zm ⟨k1, (0 + 3), none⟩) fun Qa Ee QZ =>
   K (.agg #[(.int .i64 NH), (.int .i64 E0), (.int .i64 Hq), (.slice Qa Ee QZ)]) zm)) Kp := by
 have nu := qD m0 m1
 have m2 : m.toNat < x.ms.length := by omega
 refine iK (E := fk) (a := { aC x m with left := (aC x m).left - 1 }) (a' := ⟨(aC x m).p, -1, (aC x m).left - 1⟩) m.toNat 1 h (by simp [m2]) (by decide) rfl (by show _ = m.toNat * 3 + 1; omega) ?_
 clear h; intro M h
 rw [iP] at h
 replace h : Hp R (fR (dM b wb db a x) x.gl :: aB (bG pa p) wb x.w :: aB (cu .nilFunc) db x.d :: cv a.ap a.cp (bV a.lb x.ps) :: bn bN a.lb (x.ps.map cX.q) :: cz (some ⟨q2, 0, none⟩) a.cm (x.ms.set m.toNat ⟨(aC x m).p, -1, (aC x m).left - 1⟩) :: Au eT kp A rd.length c :: pt k1 [.int .i64 0, .int .i64 0, .int .i64 0, .slice none 0 0] 47 :: L') M := h.sub bz
 rw [Z6 h]
 refine g8 ?_
 refine u6 h g0 g1 ?_
 refine ck ?_
 have fin : ∀ (LX : List Int) (M : Mem), LX = (if (au x.w g).st = 1 then x.gl ++ [g] else x.gl) → Hp R (fR (dM b wb db a x) LX :: aB (bG pa p) wb x.w :: aB (cu .nilFunc) db x.d :: cv a.ap a.cp (bV a.lb x.ps) :: bn bN a.lb (x.ps.map cX.q) :: cz (some ⟨q2, 0, none⟩) a.cm (x.ms.set m.toNat ⟨(aC x m).p, -1, (aC x m).left - 1⟩) :: Au eT kp A rd.length c :: pt k1 [.int .i64 0, .int .i64 0, .int .i64 0, .slice none 0 0] 47 :: L') M →
   aD (Mem.ld M ⟨eT, (0 + 1), none⟩) fun Q6 sG EZ => aO M ⟨k1, 0, none⟩ (.int .i64 7) fun xA => aO xA ⟨k1, (0 + 1), none⟩ (.int .i64 m) fun pQ => aO pQ ⟨k1, (0 + 2), none⟩ (.int .i64 g) fun ym => aO ym ⟨k1, (0 + 3), none⟩ (.slice Q6 sG EZ) fun mW =>
   aK (Mem.ld mW ⟨k1, 0, none⟩) .i64 fun xQ => aK (Mem.ld mW ⟨k1, (0 + 1), none⟩) .i64 fun n64 => aK (Mem.ld mW ⟨k1, (0 + 2), none⟩) .i64 fun vV => aD (Mem.ld mW ⟨k1, (0 + 3), none⟩) fun N4 xX Gm =>
   K (.agg #[(.int .i64 xQ), (.int .i64 n64), (.int .i64 vV), (.slice N4 xX Gm)]) mW := by
  intro LX M hgl' h
  refine aQ h ?_
  refine jS h ?_
  clear h; intro M h
  refine oK h ?_
  refine k _ (gh (a := a) (x := { x.jt m { aC x m with left := (aC x m).left - 1, g := -1 } with gl := if (au x.w g).st = 1 then x.gl ++ [g] else x.gl }) hl ?_)
  rw [← hgl']
  have e1 : dM b wb db a { x.jt m { aC x m with left := (aC x m).left - 1, g := -1 } with gl := LX } = dM b wb db a x := Ao (x := x)
  rw [e1]
  show Hp R (_ :: _ :: _ :: _ :: _ :: cz a.am a.cm (x.ms.set m.toNat ⟨(aC x m).p, -1, (aC x m).left - 1⟩) :: _) M
  rw [JX]
  exact h.sub bz
 refine aY.2 ⟨fun e1 => ?_, fun e1 => ?_⟩
 ·refine aq h ?_
  clear h; intro jX M h
  replace h := (h.pt jX).gU (E := bl) (l := [g]) rfl
  replace h : Hp R (fR (dM b wb db a x) x.gl :: kD (some ⟨jX, 0, none⟩) 1 [g] :: aB (bG pa p) wb x.w :: aB (cu .nilFunc) db x.d :: cv a.ap a.cp (bV a.lb x.ps) :: bn bN a.lb (x.ps.map cX.q) :: cz (some ⟨q2, 0, none⟩) a.cm (x.ms.set m.toNat ⟨(aC x m).p, -1, (aC x m).left - 1⟩) :: Au eT kp A rd.length c :: pt k1 [.int .i64 0, .int .i64 0, .int .i64 0, .slice none 0 0] 47 :: L') M := h.sub bz
  refine ot (P := dM b wb db a x) xI h (Src.row (A := some ⟨jX, 0, none⟩)) rfl (by simp; omega) ?_
  clear h; intro M h
  refine ⟨rfl, ?_⟩
  exact fin _ M (by rw [if_pos e1]) (h.sub bz)
 ·exact fin _ M (by rw [if_neg e1]) h
theorem jv {m : Int} : ∀ (l : List Int) (z : Sc), 0 ≤ (aC z m).p → (aC z m).p < z.ps.length → (l.foldl (aN m) z).ms = z.ms ∧ (l.foldl (aN m) z).ps.length = z.ps.length ∧ (l.foldl (aN m) z).w = z.w ∧ (l.foldl (aN m) z).d = z.d ∧ (l.foldl (aN m) z).c = z.c ∧ (l.foldl (aN m) z).steps = z.steps ∧ ∀ bs, bV bs (l.foldl (aN m) z).ps = bV bs z.ps
 | [], z, _, _ => ⟨rfl, rfl, rfl, rfl, rfl, rfl, fun _ => rfl⟩
 | r :: l, z, h0, h1 => by
  have hp : z.ps[(aC z m).p.toNat]? = some (aJ z (aC z m).p) := by
   obtain ⟨y, hy⟩ := aR (l := z.ps) (i := (aC z m).p.toNat) (by omega)
   have e : aJ z (aC z m).p = y := by simp [aJ, hy]
   rw [e]; exact hy
  have hms : (aN m z r).ms = z.ms := rfl
  have hps : (aN m z r).ps.length = z.ps.length := by simp [aN, Sc.cT]
  have nu : aC (aN m z r) m = aC z m := rfl
  obtain ⟨a1, a2, a3, a4, a5, a6, a7⟩ := jv l (aN m z r) (by rw [nu]; exact h0) (by rw [nu, hps]; exact h1)
  refine ⟨a1, by rw [List.foldl_cons, a2, hps], a3, a4, a5, a6, fun bs => ?_⟩
  rw [List.foldl_cons, a7]
  exact Ap hp rfl rfl
end
def Pz (R : Mem) (pa : PA) (p : b6) (b wb db : Nat) (L' : List HP) (K : Value → Mem → Prop) (Kp : List PanicEntry → Mem → Prop) (y : Sc) : lF → Prop
 | .ev e => ∀ R' A c M', R.le R' → RS bl R' A c e.ready → Hp R' (aB (dD pa p wb db) b y :: L') M' → K (IA e A c) M'
 | .cO l => ∀ M', Hp R (aB (dD pa p wb db) b y :: L') M' → Kp l M'
section
variable {R : Mem} {L L' L2 : List HP} {M : Mem} {K : Value → Mem → Prop} {Kp : List PanicEntry → Mem → Prop} {pa : PA} {p : b6} {b wb db : Nat} {x : Sc} {m i : Int} {a : SA}
theorem IF {A : Option Addr} {q o : Nat} {G : Nat → Nat → Prop} (e : A = some ⟨q, o, none⟩) (g : G q o) : aG A G := by subst e; exact br g
theorem F1 {q2 k1 c : Nat} {g : Int} {kp : Bool} {A : Option Addr} {w : Wd} {d' : iD} {rest : Bool} {y : Sc} {o : lF}
  (h : Hp R (fR (dM b wb db a x) x.gl :: aB (bG pa p) wb w :: aB (cu .nilFunc) db d' :: cv a.ap a.cp (bV a.lb x.ps) :: bn bN a.lb (x.ps.map cX.q) :: cz (some ⟨q2, 0, none⟩) a.cm x.ms :: pt k1 [.int .i64 0, .int .i64 0, .int .i64 0, .slice none 0 0] 47 :: L') M)
  (kN : RS bl R A c w.ready) (JX : a.am = some ⟨q2, 0, none⟩) (hl : a.lb.length = x.ps.length) (hpre : wR p x m) (hg : g = (aC x m).g) (hkp : kp = gX w g rest) (he : gk x m g d' w rest = some (y, o)) (k : Pz R pa p b wb db L' K Kp y o) :
  ∃ t13 : Bool, ∃ oF : Option Addr, ∃ gj : Nat, ∃ dO : Nat, ((Value.agg #[.bool kp, .slice A w.ready.length c]) = (.agg #[(.bool t13), (.slice oF gj dO)])) ∧
be M (.cells #[(.bool false), (.slice none 0 0)] 120 (0, 0)) fun eT mZ =>
aO mZ ⟨eT, 0, none⟩ (.bool t13) fun iq =>
aO iq ⟨eT, (0 + 1), none⟩ (.slice oF gj dO) fun nU =>
aD (Mem.ld nU ⟨eT, (0 + 1), none⟩) fun Dg gJ iY =>
∃ Vt : Nat → List Value → Mem → Prop, (∃ sU : Nat, Vt sU [(.int .i64 0)] nU) ∧
∀ lT : Nat, ∀ Vu : Nat → Value, ∀ xn : Int, ∀ mA : Mem, (Vt lT [(.int .i64 xn)] mA) → aV (decide ((xn : Int) < ((gJ : Nat) : Int)))
 (((0 : Int) ≤ xn) ∧
 ((xn : Int) < ((gJ : Nat) : Int)) ∧
 aG Dg fun lJ nW =>
 aK (Mem.ld mA ⟨lJ, (nW + (Int.toNat xn)), none⟩) .i64 fun n32 =>
 aD (Mem.ld mA ⟨b, (0 + 5), none⟩) fun KL uw sW =>
 aK (Mem.ld mA ⟨q2, (m.toNat * 3), none⟩) .i64 fun yq =>
 ((0 : Int) ≤ yq) ∧
 ((yq : Int) < ((uw : Nat) : Int)) ∧
 aG KL fun yu gZ =>
 bO (Mem.ld mA ⟨yu, (gZ + ((Int.toNat yq) * 3)), none⟩) fun XF =>
 aa Tryz.prog 134 #[(.pointer XF), (.int .i64 n32), (.pointer (some ⟨b, (0 + 7), none⟩))] mA (fun Jp Bf =>
 aK (some Jp) .i64 fun QN =>
 ∃ lU : Nat, (lU < lT) ∧
 Vt lU [(.int .i64 (IntKind.wrap .i64 (xn + 1)))] Bf) Kp)
 (aK (Mem.ld mA ⟨q2, ((m.toNat * 3) + 2), none⟩) .i64 fun Dk =>
 aO mA ⟨q2, ((m.toNat * 3) + 2), none⟩ (.int .i64 (IntKind.wrap .i64 (Dk - 1))) fun lW =>
 cJ (Mem.ld lW ⟨eT, 0, none⟩) fun t46 =>
 aV (!t46)
  (aO lW ⟨q2, ((m.toNat * 3) + 1), none⟩ (.int .i64 (-1)) fun qR =>
  bO (Mem.ld qR ⟨b, 0, none⟩) fun Q1 =>
  aa Tryz.prog 65 #[(.pointer Q1), (.int .i64 g)] qR (fun Jk AH =>
  aK (some Jk) .i64 fun Bg =>
  aV (Bg == 1)
   (be AH (.cells #[(.int .i64 g)] 3 (0, 0)) fun jX E9 =>
   aa Tryz.prog 53 #[(.pointer (some ⟨b, (0 + 7), none⟩)), (.slice (some ⟨jX, 0, none⟩) 1 1)] E9 (fun N3 oD =>
   (N3 = (.tuple #[])) ∧
   aD (Mem.ld oD ⟨eT, (0 + 1), none⟩) fun Q6 sG EZ =>
   aO oD ⟨k1, 0, none⟩ (.int .i64 7) fun xA =>
   aO xA ⟨k1, (0 + 1), none⟩ (.int .i64 m) fun pQ =>
   aO pQ ⟨k1, (0 + 2), none⟩ (.int .i64 g) fun ym =>
   aO ym ⟨k1, (0 + 3), none⟩ (.slice Q6 sG EZ) fun mW =>
   aK (Mem.ld mW ⟨k1, 0, none⟩) .i64 fun xQ =>
   aK (Mem.ld mW ⟨k1, (0 + 1), none⟩) .i64 fun n64 =>
   aK (Mem.ld mW ⟨k1, (0 + 2), none⟩) .i64 fun vV =>
   aD (Mem.ld mW ⟨k1, (0 + 3), none⟩) fun N4 xX Gm =>
   K (.agg #[(.int .i64 xQ), (.int .i64 n64), (.int .i64 vV), (.slice N4 xX Gm)]) mW) Kp)
   (aD (Mem.ld AH ⟨eT, (0 + 1), none⟩) fun Y9 zk KT =>
   aO AH ⟨k1, 0, none⟩ (.int .i64 7) fun vW =>
   aO vW ⟨k1, (0 + 1), none⟩ (.int .i64 m) fun zn =>
   aO zn ⟨k1, (0 + 2), none⟩ (.int .i64 g) fun Cb =>
   aO Cb ⟨k1, (0 + 3), none⟩ (.slice Y9 zk KT) fun zm =>
   aK (Mem.ld zm ⟨k1, 0, none⟩) .i64 fun NH =>
   aK (Mem.ld zm ⟨k1, (0 + 1), none⟩) .i64 fun E0 =>
   aK (Mem.ld zm ⟨k1, (0 + 2), none⟩) .i64 fun Hq =>
   aD (Mem.ld zm ⟨k1, (0 + 3), none⟩) fun Qa Ee QZ =>
   K (.agg #[(.int .i64 NH), (.int .i64 E0), (.int .i64 Hq), (.slice Qa Ee QZ)]) zm)) Kp)
  (aK (Mem.ld lW ⟨q2, ((m.toNat * 3) + 2), none⟩) .i64 fun Jm =>
  aV (Jm == 0)
   (aO lW ⟨q2, ((m.toNat * 3) + 1), none⟩ (.int .i64 (-1)) fun Gi =>
   bO (Mem.ld Gi ⟨b, 0, none⟩) fun A84 =>
   aa Tryz.prog 65 #[(.pointer A84), (.int .i64 g)] Gi (fun YY B4 =>
   aK (some YY) .i64 fun Za =>
   aV (Za == 1)
    (be B4 (.cells #[(.int .i64 g)] 3 (0, 0)) fun Dp Df =>
    aa Tryz.prog 53 #[(.pointer (some ⟨b, (0 + 7), none⟩)), (.slice (some ⟨Dp, 0, none⟩) 1 1)] Df (fun NS j0 =>
    (NS = (.tuple #[])) ∧
    aD (Mem.ld j0 ⟨eT, (0 + 1), none⟩) fun Um NX QW =>
    aO j0 ⟨k1, 0, none⟩ (.int .i64 7) fun Fh =>
    aO Fh ⟨k1, (0 + 1), none⟩ (.int .i64 m) fun Ta =>
    aO Ta ⟨k1, (0 + 2), none⟩ (.int .i64 g) fun Mt =>
    aO Mt ⟨k1, (0 + 3), none⟩ (.slice Um NX QW) fun Bm =>
    aK (Mem.ld Bm ⟨k1, 0, none⟩) .i64 fun KW =>
    aK (Mem.ld Bm ⟨k1, (0 + 1), none⟩) .i64 fun ux =>
    aK (Mem.ld Bm ⟨k1, (0 + 2), none⟩) .i64 fun NI =>
    aD (Mem.ld Bm ⟨k1, (0 + 3), none⟩) fun uP jo wq =>
    K (.agg #[(.int .i64 KW), (.int .i64 ux), (.int .i64 NI), (.slice uP jo wq)]) Bm) Kp)
    (aD (Mem.ld B4 ⟨eT, (0 + 1), none⟩) fun Dt xY Du =>
    aO B4 ⟨k1, 0, none⟩ (.int .i64 7) fun xR =>
    aO xR ⟨k1, (0 + 1), none⟩ (.int .i64 m) fun nV =>
    aO nV ⟨k1, (0 + 2), none⟩ (.int .i64 g) fun K8 =>
    aO K8 ⟨k1, (0 + 3), none⟩ (.slice Dt xY Du) fun od =>
    aK (Mem.ld od ⟨k1, 0, none⟩) .i64 fun uy =>
    aK (Mem.ld od ⟨k1, (0 + 1), none⟩) .i64 fun AY =>
    aK (Mem.ld od ⟨k1, (0 + 2), none⟩) .i64 fun E2 =>
    aD (Mem.ld od ⟨k1, (0 + 3), none⟩) fun Vv K9 Vw =>
    K (.agg #[(.int .i64 uy), (.int .i64 AY), (.int .i64 E2), (.slice Vv K9 Vw)]) od)) Kp)
   (aD (Mem.ld lW ⟨eT, (0 + 1), none⟩) fun Vx zF Vy =>
   aO lW ⟨k1, 0, none⟩ (.int .i64 7) fun zG =>
   aO zG ⟨k1, (0 + 1), none⟩ (.int .i64 m) fun Vz =>
   aO Vz ⟨k1, (0 + 2), none⟩ (.int .i64 g) fun La =>
   aO La ⟨k1, (0 + 3), none⟩ (.slice Vx zF Vy) fun si =>
   aK (Mem.ld si ⟨k1, 0, none⟩) .i64 fun HA =>
   aK (Mem.ld si ⟨k1, (0 + 1), none⟩) .i64 fun VA =>
   aK (Mem.ld si ⟨k1, (0 + 2), none⟩) .i64 fun zA =>
   aD (Mem.ld si ⟨k1, (0 + 3), none⟩) fun VB Oo VC =>
   K (.agg #[(.int .i64 HA), (.int .i64 VA), (.int .i64 zA), (.slice VB Oo VC)]) si))) := by
 obtain ⟨m0, m1, i0, i1, W4, W5, l1, l2, g0⟩ := hpre
 rw [← hg] at g0
 unfold gk at he
 split at he
 ·rename_i hc
  obtain ⟨hr, hgw⟩ := hc
  simp only [Option.some.injEq, Prod.mk.injEq] at he
  obtain ⟨F2, xC⟩ := he
  have nu := qD m0 m1
  have m2 : m.toNat < x.ms.length := by omega
  refine ⟨_, _, _, _, rfl, ?_⟩
  refine aq h ?_
  clear h; intro eT M h
  refine av h ?_
  clear h; intro M h
  refine av h ?_
  clear h; intro M h
  refine aQ h ?_
  generalize DN : ({ x with w := w, d := d' } : Sc) = x1 at F2 xC
  have q1 : x1.ps = x.ps := by rw [← DN]
  have XY : x1.ms = x.ms := by rw [← DN]
  have q3 : x1.gl = x.gl := by rw [← DN]
  have q4 : x1.w = w := by rw [← DN]
  have q5 : x1.d = d' := by rw [← DN]
  have q6 : dM b wb db a x1 = dM b wb db a x := by rw [← DN]
  have q7 : aC x1 m = aC x m := by rw [← DN]; rfl
  have hf := jv (m := m) (l := w.ready) (z := x1) (by rw [q7]; exact i0) (by rw [q7, q1]; exact i1)
  rw [← q1, ← XY, ← q3, ← q4, ← q5, ← q6] at h
  rw [← q4] at kN hgw hr
  rw [show w.ready = x1.w.ready from by rw [q4]] at F2 xC hf ⊢
  clear DN
  have key : ∀ j, j ≤ x1.w.ready.length → ((x1.w.ready.take j).foldl (aN m) x1).ms = x1.ms ∧ ((x1.w.ready.take j).foldl (aN m) x1).ps.length = x1.ps.length ∧ ((x1.w.ready.take j).foldl (aN m) x1).w = x1.w ∧ ((x1.w.ready.take j).foldl (aN m) x1).d = x1.d ∧ ((x1.w.ready.take j).foldl (aN m) x1).c = x1.c ∧ ((x1.w.ready.take j).foldl (aN m) x1).steps = x1.steps ∧ ∀ bs, bV bs ((x1.w.ready.take j).foldl (aN m) x1).ps = bV bs x1.ps :=
   fun j _ => jv (m := m) (l := x1.w.ready.take j) (z := x1) (by rw [q7]; exact i0) (by rw [q7, q1]; exact i1)
  refine ⟨fun d vs M => ∃ j : Nat, vs = [.int .i64 (j : Int)] ∧ d = x1.w.ready.length - j ∧ j ≤ x1.w.ready.length ∧ ((x1.w.ready.take j).foldl (aN m) x1).gl.length ≤ 1000000 + 1030 * j ∧
    Hp R (fR (dM b wb db a x1) ((x1.w.ready.take j).foldl (aN m) x1).gl :: aB (bG pa p) wb x1.w :: aB (cu .nilFunc) db x1.d :: cv a.ap a.cp (bV a.lb x1.ps) :: bn bN a.lb (((x1.w.ready.take j).foldl (aN m) x1).ps.map cX.q) :: cz (some ⟨q2, 0, none⟩) a.cm x1.ms :: Au eT kp A x1.w.ready.length c :: pt k1 [.int .i64 0, .int .i64 0, .int .i64 0, .slice none 0 0] 47 :: L') M,
   ⟨_, 0, rfl, rfl, by omega, by rw [List.take_zero, List.foldl_nil, q3]; omega, h.sub bz⟩, ?_⟩
  clear h
  rintro d _ nn M ⟨j, he3, hd, hj, W8, h⟩
  simp only [List.cons.injEq, Value.int.injEq, and_true, true_and] at he3
  subst he3
  obtain ⟨z1, z2, z3, z4, z5, z6, z7⟩ := key j hj
  refine aP.2 ⟨fun hlt => ?_, fun hge => ?_⟩
  ·obtain ⟨rv, hrv⟩ := aR (l := x1.w.ready) (i := j) (by omega)
   refine ⟨by omega, hlt, ?_⟩
   obtain ⟨rb, ro, hrb⟩ := kN.some (by omega) (by decide)
   have aab := kN
   rw [hrb] at aab
   refine IF hrb ?_
   simp only [Int.toNat_natCast]
   refine aZ (Src.at (aab.src (L := _)) h (i := j) (j := 0) hrv rfl (by simp [bl])) ?_
   have hstep : (x1.w.ready.take (j + 1)).foldl (aN m) x1 = aN m ((x1.w.ready.take j).foldl (aN m) x1) rv := by rw [cC hrv, List.foldl_append]; rfl
   generalize hz : (x1.w.ready.take j).foldl (aN m) x1 = z at h hstep z1 z2 z3 z4 z5 z6 z7 W8
   have hmz : aC z m = aC x m := by unfold aC; rw [z1, XY]
   have hps : z.ps.length = x.ps.length := by rw [z2, q1]
   rw [JY h]
   refine aT ?_
   refine aZ (Src.at (h.src (A := some ⟨q2, 0, none⟩)) h (i := m.toNat) (j := 0) (a := aC x m) (by rw [XY]; exact nu) rfl (by show _ = 0 + (m.toNat * 3 + 0); simp)) ?_
   refine ⟨i0, by rw [q1]; exact i1, ?_⟩
   have hlz : a.lb.length = z.ps.length := by rw [hps]; exact hl
   obtain ⟨lb, hlb, jC, hrow⟩ := qC (i := (aC x m).p) (x := z) hlz i0 (by rw [hps]; exact i1)
   rw [z7] at hrow
   obtain ⟨q, hq⟩ := h.bx (A := a.ap) (l := bV a.lb x1.ps) (by rw [jR (by rw [q1]; exact hl), q1]; omega) (by decide)
   have hs0 := (h.src (A := a.ap)) M h
   rw [hq] at hs0
   refine IF hq ?_
   refine lR (Sl.at hs0 (i := (aC x m).p.toNat * 3 + 0) (by simp) (gp.iJ (E := nt) hrow rfl)) ?_
   clear hs0
   have hqz : (z.ps.map cX.q)[(aC x m).p.toNat]? = some (aJ z (aC x m).p).q := by rw [List.getElem?_map, jC]; rfl
   replace h := h.dn bN hlb hqz
   replace h : Hp R (aB bN lb (aJ z (aC x m).p).q :: fR (dM b wb db a x1) z.gl :: lV bN a.lb (z.ps.map cX.q) (aC x m).p.toNat :: aB (bG pa p) wb x1.w :: aB (cu .nilFunc) db x1.d :: cv a.ap a.cp (bV a.lb x1.ps) :: cz (some ⟨q2, 0, none⟩) a.cm x1.ms :: Au eT kp A x1.w.ready.length c :: pt k1 [.int .i64 0, .int .i64 0, .int .i64 0, .slice none 0 0] 47 :: L') M := h.sub bz
   have hbd := wG h (b := lb)
   have kK := LW (q := (aJ z (aC x m).p).q) (r := rv) (gl := z.gl)
   refine FB (P := dM b wb db a x1) xI h (by omega) ?_
   clear h; intro M h
   refine ck ?_
   replace h := h.eu bN lb hlb (by rw [List.length_map]; omega)
   refine ⟨x1.w.ready.length - (j + 1), by omega, j + 1, by rw [aU (by omega)], rfl, by omega, ?_, ?_⟩
   ·rw [hstep]
    unfold aN
    rw [hmz]
    dsimp only
    obtain ⟨b1, b2, b3⟩ := hbd
    omega
   ·rw [hstep]
    have e2 : (aN m z rv).ps.map cX.q = (z.ps.map cX.q).set (aC x m).p.toNat ((aJ z (aC x m).p).q.ready rv z.gl).1 := by
     unfold aN; rw [hmz]; simp [Sc.cT, List.map_set]
    have e3 : (aN m z rv).gl = ((aJ z (aC x m).p).q.ready rv z.gl).2.1 := by unfold aN; rw [hmz]
    rw [e2, e3]
    exact h.sub bz
  ·have yj : j = x1.w.ready.length := by omega
   subst yj
   rw [List.take_length] at z1 z2 z3 z4 z5 z6 z7 W8 h
   clear key hf
   generalize hrd : x1.w.ready = rd at *
   generalize hz : rd.foldl (aN m) x1 = z at h z1 z2 z3 z4 z5 z6 z7 W8 F2 xC
   have hmz : aC z m = aC x m := by unfold aC; rw [z1, XY]
   have ez : dM b wb db a z = dM b wb db a x1 := by unfold dM eK; rw [z1, z2, z5, z6]
   have hlz : a.lb.length = z.ps.length := by rw [z2, q1]; exact hl
   rw [← ez, ← z3, ← z4, ← z7, ← z1] at h
   have hmcz : z.ms[m.toNat]? = some (aC z m) := qD m0 (by rw [z1, XY]; exact m1)
   have m1z : m < z.ms.length := by rw [z1, XY]; exact m1
   have m2z : m.toNat < z.ms.length := by omega
   rw [← hmz] at l1 l2
   refine aZ (Src.at (h.src (A := some ⟨q2, 0, none⟩)) h (i := m.toNat) (j := 2) hmcz rfl (by show _ = 0 + (m.toNat * 3 + 2); omega)) ?_
   rw [cY (by omega) (by omega)]
   refine iK (E := fk) (a' := { aC z m with left := (aC z m).left - 1 }) m.toNat 2 h hmcz (by decide) rfl rfl ?_
   clear h; intro M h
   replace h : Hp R (fR (dM b wb db a z) z.gl :: aB (bG pa p) wb z.w :: aB (cu .nilFunc) db z.d :: cv a.ap a.cp (bV a.lb z.ps) :: bn bN a.lb (z.ps.map cX.q) :: cz (some ⟨q2, 0, none⟩) a.cm (z.ms.set m.toNat { aC z m with left := (aC z m).left - 1 }) :: Au eT kp A rd.length c :: pt k1 [.int .i64 0, .int .i64 0, .int .i64 0, .slice none 0 0] 47 :: L') M := h.sub bz
   refine Jd h ?_
   have hgz : g < z.w.gs.length := by rw [z3]; exact hgw
   have park : (¬ (gX w g rest = true ∧ (aC z m).left - 1 ≠ 0)) → ∀ M', Hp R (aB (dD pa p wb db) b { z.jt m { aC z m with left := (aC z m).left - 1, g := -1 } with gl := if (au z.w g).st = 1 then z.gl ++ [g] else z.gl } :: L') M' → K (IA ⟨7, m, g, rd⟩ A c) M' := by
    intro hno M' h'
    unfold Sc.ju at F2 xC
    rw [if_neg hno] at F2 xC
    dsimp only at F2 xC
    subst xC
    exact k R A c M' (Mem.le_refl _) kN (by rw [← F2]; exact h')
   cases hk : kp with
   | false =>
    subst hk
    refine ai ?_
    exact F0 h JX hlz m0 m1z g0 hgz (by omega) (park (fun hc => by rw [← hkp] at hc; cases hc.1))
   | true =>
    subst hk
    refine aj ?_
    refine aZ (Src.at (h.src (A := some ⟨q2, 0, none⟩)) h (i := m.toNat) (j := 2) (a := { aC z m with left := (aC z m).left - 1 }) (by simp [m2z]) rfl (by show _ = 0 + (m.toNat * 3 + 2); omega)) ?_
    refine aY.2 ⟨fun e0 => ?_, fun e0 => ?_⟩
    ·exact F0 h JX hlz m0 m1z g0 hgz (by omega) (park (fun hc => hc.2 e0))
    ·refine aQ h ?_
     refine jS h ?_
     clear h; intro M h
     refine oK h ?_
     unfold Sc.ju at F2 xC
     rw [if_pos ⟨hkp.symm, e0⟩] at F2 xC
     dsimp only at F2 xC
     subst xC
     refine k R A c M (Mem.le_refl _) kN ?_
     rw [← F2]
     refine gh (a := a) (x := z.jt m { aC z m with left := (aC z m).left - 1 }) hlz ?_
     rw [Ao]
     show Hp R (_ :: _ :: _ :: _ :: _ :: cz a.am a.cm (z.ms.set m.toNat { aC z m with left := (aC z m).left - 1 }) :: _) M
     rw [JX]
     exact h.sub bz
 ·cases he
end
section
variable {R : Mem} {L L' L2 : List HP} {M : Mem} {K : Value → Mem → Prop} {Kp : List PanicEntry → Mem → Prop} {pa : PA} {p : b6} {b wb db : Nat} {x : Sc} {m i : Int}
theorem LY {y : Sc} {o : lF} (h : Hp R L M) [q : lE b L pa p wb db x L'] (hp : kF R pa p) (hd : x.d.k.Ok) (he : x.run p m = some (y, o)) (k : Pz R pa p b wb db L' K Kp y o) :
  aa Tryz.prog 102 #[.pointer (some ⟨b, 0, none⟩), .int .i64 m] M K Kp := by
 unfold Sc.run at he
 split at he
 ·rename_i hpre
  have F3 := hpre
  obtain ⟨m0, m1, i0, i1, W4, W5, l1, l2, g0⟩ := F3
  split at he
  ·rename_i vb
   have Aq : x.d.Ok := ⟨hd, by omega⟩
   refine tD ?_
   refine aq h ?_
   clear h
   intro k1 M h
   have h' := ei h (b := b)
   clear h
   obtain ⟨a, hl, h⟩ := h'
   have nu := qD m0 m1
   obtain ⟨q2, ny⟩ := h.bx (A := a.am) (l := x.ms) (by omega) (by decide)
   replace h : Hp R (fR (dM b wb db a x) x.gl :: aB (bG pa p) wb x.w :: aB (cu .nilFunc) db x.d :: cv a.ap a.cp (bV a.lb x.ps) :: bn bN a.lb (x.ps.map cX.q) :: cz (some ⟨q2, 0, none⟩) a.cm x.ms :: pt k1 [.int .i64 0, .int .i64 0, .int .i64 0, .slice none 0 0] 47 :: L') M := by
    unfold dU at h
    rw [show cz a.am a.cm x.ms = cz (some ⟨q2, 0, none⟩) a.cm x.ms from by rw [ny]] at h
    exact h.sub bz
   rw [xJ h]
   refine aT ⟨m0, m1, ?_⟩
   refine IF ny ?_
   refine aZ (Src.at (h.src (A := some ⟨q2, 0, none⟩)) h (i := m.toNat) (j := 1) nu rfl (by show _ = 0 + (m.toNat * 3 + 1); omega)) ?_
   simp only [Nat.zero_add]
   rw [Z6 h]
   refine g8 ?_
   rw [show M.ld ⟨b, 8, none⟩ = some (.pointer (some ⟨db, 0, none⟩)) from W3 h]
   refine g8 ⟨trivial, ?_⟩
   replace h : Hp R (aB (bG pa p) wb x.w :: aB (cu .nilFunc) db x.d :: fR (dM b wb db a x) x.gl :: cv a.ap a.cp (bV a.lb x.ps) :: bn bN a.lb (x.ps.map cX.q) :: cz (some ⟨q2, 0, none⟩) a.cm x.ms :: pt k1 [.int .i64 0, .int .i64 0, .int .i64 0, .slice none 0 0] 47 :: L') M := h.sub bz
   generalize PB : (fR (dM b wb db a x) x.gl :: cv a.ap a.cp (bV a.lb x.ps) :: bn bN a.lb (x.ps.map cX.q) :: cz (some ⟨q2, 0, none⟩) a.cm x.ms :: pt k1 [.int .i64 0, .int .i64 0, .int .i64 0, .slice none 0 0] 47 :: L') = LL at h
   have hds : match asks p { x.w with ready := [] } (aC x m).g with
     | none => (aB (cu .nilFunc) db (bR x.d (asks p { x.w with ready := [] } (aC x m).g)).1 :: LL) = (aB (cu .nilFunc) db x.d :: LL)
     | some (kd, n) => iU R (.func (.func 98) #[.pointer (some ⟨db, 0, none⟩)] #[]) kd n (bR x.d (asks p { x.w with ready := [] } (aC x m).g)).2 (aB (cu .nilFunc) db x.d :: LL) (aB (cu .nilFunc) db (bR x.d (asks p { x.w with ready := [] } (aC x m).g)).1 :: LL) := by
    cases hak : asks p { x.w with ready := [] } (aC x m).g with
    | none => rfl
    | some kn =>
     obtain ⟨kd, n⟩ := kn
     rw [hak] at vb
     exact LR Aq (of_decide_eq_true vb) W5
   have Im : ∀ l, (bR x.d (asks p { x.w with ready := [] } (aC x m).g)).2 = .cO l → Cv l (wQ l) := by
    intro l hl
    cases hak : asks p { x.w with ready := [] } (aC x m).g with
    | none => rw [hak] at hl; cases hl
    | some kn =>
     obtain ⟨kd, n⟩ := kn
     rw [hak] at hl
     exact (FZ (x' := (x.d.draw kd n).1) (by rw [← hl]; rfl)).2
   generalize xF : bR x.d (asks p { x.w with ready := [] } (aC x m).g) = dd at he hds Im
   obtain ⟨d', dr⟩ := dd
   dsimp only at he hds Im
   cases hex : oJ p x.w (aC x m).g dr with
   | none => rw [hex] at he; cases he
   | some rr =>
    obtain ⟨r, rest⟩ := rr
    rw [hex] at he
    refine LI h hp ⟨_, _, _, rfl⟩ hex hds ?_
    cases r with
    | cO l w =>
     dsimp only at he
     simp only [Option.some.injEq, Prod.mk.injEq] at he
     obtain ⟨F2, xC⟩ := he
     obtain ⟨vA, hw⟩ := CL hex
     refine ⟨wQ l, Im l vA, ?_⟩
     intro M h
     subst xC
     refine k M ?_
     rw [← F2]
     rw [← PB] at h
     have h9 : Hp R (fR (dM b wb db a { x with w := w, d := d' }) x.gl :: aB (bG pa p) wb w :: aB (cu .nilFunc) db d' :: cv a.ap a.cp (bV a.lb x.ps) :: bn bN a.lb (x.ps.map cX.q) :: cz a.am a.cm x.ms :: L') M := by
      rw [show cz a.am a.cm x.ms = cz (some ⟨q2, 0, none⟩) a.cm x.ms from by rw [ny], show dM b wb db a { x with w := w, d := d' } = dM b wb db a x from rfl]
      exact h.sub bz
     exact gh (a := a) (x := { x with w := w, d := d' }) hl h9
    | on w =>
     intro R' A c M hle kN h
     rw [← PB] at h
     have h2 : Hp R' (fR (dM b wb db a x) x.gl :: aB (bG pa p) wb w :: aB (cu .nilFunc) db d' :: cv a.ap a.cp (bV a.lb x.ps) :: bn bN a.lb (x.ps.map cX.q) :: cz (some ⟨q2, 0, none⟩) a.cm x.ms :: pt k1 [.int .i64 0, .int .i64 0, .int .i64 0, .slice none 0 0] 47 :: L') M := h.sub bz
     refine F1 (K := K) (Kp := Kp) (w := w) (g := (aC x m).g) (kp := gX w (aC x m).g rest) (rest := rest) h2 kN ny hl hpre rfl rfl he ?_
     cases o with
     | ev e => exact fun R2 A2 c2 M2 wS => k R2 A2 c2 M2 (Mem.le_trans hle wS)
     | cO l =>
      dsimp only at he
      unfold gk at he
      split at he
      ·simp only [Option.some.injEq, Prod.mk.injEq] at he; cases he.2
      ·cases he
    | eR n w =>
     intro R' A c M hle kN h
     rw [← PB] at h
     have h2 : Hp R' (fR (dM b wb db a x) x.gl :: aB (bG pa p) wb { w with end_ := 2, code := n } :: aB (cu .nilFunc) db d' :: cv a.ap a.cp (bV a.lb x.ps) :: bn bN a.lb (x.ps.map cX.q) :: cz (some ⟨q2, 0, none⟩) a.cm x.ms :: pt k1 [.int .i64 0, .int .i64 0, .int .i64 0, .slice none 0 0] 47 :: L') M := h.sub bz
     refine F1 (K := K) (Kp := Kp) (w := { w with end_ := 2, code := n }) (g := (aC x m).g) (kp := gX { w with end_ := 2, code := n } (aC x m).g rest) (rest := rest) h2 kN ny hl hpre rfl rfl he ?_
     cases o with
     | ev e => exact fun R2 A2 c2 M2 wS => k R2 A2 c2 M2 (Mem.le_trans hle wS)
     | cO l =>
      dsimp only at he
      unfold gk at he
      split at he
      ·simp only [Option.some.injEq, Prod.mk.injEq] at he; cases he.2
      ·cases he
  ·cases he
 ·cases he
theorem PC {e : Ev} {o : lF} {y z : Sc} (h : DW (z, .ev e) = (y, o)) : o = .ev e ∧ y = { z with steps := z.steps + 1 } := by
 unfold DW at h; cases h; exact ⟨rfl, rfl⟩
theorem Av {y : Sc} {o : lF} (h : Hp R L M) [q : lE b L pa p wb db x L'] (hp : kF R pa p) (hd : x.d.k.Ok) (he : x.step p = some (y, o)) (k : Pz R pa p b wb db L' K Kp y o) :
  aa Tryz.prog 50 #[.pointer (some ⟨b, 0, none⟩)] M K Kp := by
 unfold Sc.step at he
 split at he
 ·rename_i hpre
  obtain ⟨hgs, hcM, hps, hms, W5, hst0, hst1⟩ := hpre
  refine r7 ?_
  refine aq h ?_
  clear h
  intro k1 M h
  refine iW h hgs ?_
  refine ck ?_
  split at he
  ·rename_i hst
   simp only [Option.some.injEq, Prod.mk.injEq] at he
   obtain ⟨F2, xC⟩ := he
   subst F2; subst xC
   refine cK.2 ⟨fun _ => ?_, fun hn => absurd hn hst⟩
   refine jS h ?_
   clear h; intro M h
   refine oK h ?_
   exact k R none 0 M (Mem.le_refl _) (RS.nil _ _) (h.drop.pick q.pick)
  ·rename_i hst
   refine cK.2 ⟨fun hn => absurd hn hst, fun _ => ?_⟩
   have h' := ei h (b := b)
   clear h
   obtain ⟨a, hl, h⟩ := h'
   rw [W3 h]
   refine g8 ?_
   rw [Z5 h]
   refine ck ?_
   have Aq : x.d.Ok := ⟨hd, by omega⟩
   have hnw : IntKind.wrap .i64 (x.c.M + 1) = x.c.M + 1 := cY (by omega) (by omega)
   rw [hnw]
   replace h : Hp R (aB (cu .nilFunc) db x.d :: fR (dM b wb db a x) x.gl :: aB (bG pa p) wb x.w :: cv a.ap a.cp (bV a.lb x.ps) :: bn bN a.lb (x.ps.map cX.q) :: cz a.am a.cm x.ms :: pt k1 [.int .i64 0, .int .i64 0, .int .i64 0, .slice none 0 0] 47 :: L') M := h.sub bz
   refine qz h Aq (by omega) (by omega) ?_
   clear h
   have hok2 := mq (kind := 1) (n := x.c.M + 1) hd
   have Iz : ∀ x' v, x.d.draw 1 (x.c.M + 1) = (x', .num v) → 0 ≤ v ∧ v < x.c.M + 1 ∧ x'.taken = x.d.taken ++ [(1, v)] := by
    intro x' v hv
    have := nv hd hv
    rw [show mH (x.c.M + 1) = x.c.M + 1 from by unfold mH; rw [if_neg (by omega)]] at this
    exact this
   generalize xF : x.d.draw 1 (x.c.M + 1) = dd at he hok2 Iz
   obtain ⟨d', dr⟩ := dd
   have mk : ∀ {M : Mem}, Hp R (aB (cu .nilFunc) db d' :: fR (dM b wb db a x) x.gl :: aB (bG pa p) wb x.w :: cv a.ap a.cp (bV a.lb x.ps) :: bn bN a.lb (x.ps.map cX.q) :: cz a.am a.cm x.ms :: pt k1 [.int .i64 0, .int .i64 0, .int .i64 0, .slice none 0 0] 47 :: L') M → Hp R (aB (dD pa p wb db) b { x with d := d' } :: pt k1 [.int .i64 0, .int .i64 0, .int .i64 0, .slice none 0 0] 47 :: L') M :=
    fun h => gh (a := a) (x := { x with d := d' }) hl (h.sub bz)
   cases dr with
   | cO l =>
    dsimp only at he ⊢
    simp only [Option.some.injEq, Prod.mk.injEq] at he
    obtain ⟨F2, xC⟩ := he
    intro M h
    subst xC
    refine k M ?_
    rw [← F2]
    exact (mk h).b7
   | num mm =>
    dsimp only at he ⊢
    obtain ⟨v0, v1, htk2⟩ := Iz d' mm rfl
    intro M h
    replace h := mk h
    clear mk
    refine ck ?_
    generalize DN : ({ x with d := d' } : Sc) = x1 at h he
    have e1 : x1.c = x.c := by rw [← DN]
    have e2 : x1.ms = x.ms := by rw [← DN]
    have e3 : x1.ps = x.ps := by rw [← DN]
    have e4 : x1.d.k.Ok := by rw [← DN]; exact hok2
    have e5 : x1.steps = x.steps := by rw [← DN]
    clear DN
    refine aq h ?_
    clear h; intro fC M h
    replace h : Hp R (aB (dD pa p wb db) b x1 :: pt k1 [.int .i64 0, .int .i64 0, .int .i64 0, .slice none 0 0] 47 :: pt fC [.int .i64 0, .int .i64 0, .int .i64 0, .slice none 0 0] 47 :: L') M := h.sub bz
    have fin : ∀ (R' : Mem) (A : Option Addr) (c : Nat) (M : Mem) (z : Sc) (e : Ev), R.le R' → RS bl R' A c e.ready → z.steps = x.steps → DW (z, .ev e) = (y, o) → Hp R' (aB (dD pa p wb db) b z :: pt k1 [.int .i64 0, .int .i64 0, .int .i64 0, .slice none 0 0] 47 :: pt fC [.int .i64 0, .int .i64 0, .int .i64 0, .slice none 0 0] 47 :: L') M →
      aO M ⟨fC, 0, none⟩ (.int .i64 e.kind) fun mX => aO mX ⟨fC, (0 + 1), none⟩ (.int .i64 e.m) fun uz => aO uz ⟨fC, (0 + 2), none⟩ (.int .i64 e.g) fun mI => aO mI ⟨fC, (0 + 3), none⟩ (.slice A e.ready.length c) fun qP =>
      aK (Mem.ld qP ⟨b, (0 + 9), none⟩) .i64 fun yq => aO qP ⟨b, (0 + 9), none⟩ (.int .i64 (IntKind.wrap .i64 (yq + 1))) fun Dl =>
      aK (Mem.ld Dl ⟨fC, 0, none⟩) .i64 fun KJ => aK (Mem.ld Dl ⟨fC, (0 + 1), none⟩) .i64 fun Ji => aK (Mem.ld Dl ⟨fC, (0 + 2), none⟩) .i64 fun P8 => aD (Mem.ld Dl ⟨fC, (0 + 3), none⟩) fun KS D9 lU =>
      aO Dl ⟨k1, 0, none⟩ (.int .i64 KJ) fun xy => aO xy ⟨k1, (0 + 1), none⟩ (.int .i64 Ji) fun lW => aO lW ⟨k1, (0 + 2), none⟩ (.int .i64 P8) fun xz => aO xz ⟨k1, (0 + 3), none⟩ (.slice KS D9 lU) fun qR =>
      aK (Mem.ld qR ⟨k1, 0, none⟩) .i64 fun xV => aK (Mem.ld qR ⟨k1, (0 + 1), none⟩) .i64 fun Ds => aK (Mem.ld qR ⟨k1, (0 + 2), none⟩) .i64 fun Ca => aD (Mem.ld qR ⟨k1, (0 + 3), none⟩) fun P5 jX jy =>
      K (.agg #[(.int .i64 xV), (.int .i64 Ds), (.int .i64 Ca), (.slice P5 jX jy)]) qR := by
     intro R' A c M z e hle kN hzs hinc h
     obtain ⟨ho, hy⟩ := PC hinc
     subst ho; subst hy
     refine jS h ?_
     clear h; intro M h
     have h' := ei h (b := b)
     clear h
     obtain ⟨a3, RD, h⟩ := h'
     have h' := oy h
     clear h
     obtain ⟨A4, c4, h⟩ := h'
     refine aH h ?_
     rw [cY (by omega) (by omega)]
     refine av h ?_
     clear h; intro M h
     refine oK h ?_
     refine jS h ?_
     clear h; intro M h
     refine oK h ?_
     refine k R' A c M hle kN (gh (a := a3) (x := { z with steps := z.steps + 1 }) RD ?_)
     exact yD (x := { z with steps := z.steps + 1 }) (h.sub bz)
    have h' := ei h (b := b)
    clear h
    obtain ⟨a5, hl5, h⟩ := h'
    rw [Z5 h]
    refine ck ?_
    have CI : ∀ {M : Mem}, Hp R (fR (dM b wb db a5 x1) x1.gl :: aB (bG pa p) wb x1.w :: aB (cu .nilFunc) db x1.d :: dU a5 x1 (pt k1 [.int .i64 0, .int .i64 0, .int .i64 0, .slice none 0 0] 47 :: pt fC [.int .i64 0, .int .i64 0, .int .i64 0, .slice none 0 0] 47 :: L')) M → Hp R (aB (dD pa p wb db) b x1 :: pt k1 [.int .i64 0, .int .i64 0, .int .i64 0, .slice none 0 0] 47 :: pt fC [.int .i64 0, .int .i64 0, .int .i64 0, .slice none 0 0] 47 :: L') M := fun h => gh (a := a5) hl5 h
    unfold Sc.act at he
    refine aY.2 ⟨fun em => ?_, fun em => ?_⟩
    ·rw [if_pos em] at he
     split at he
     ·rename_i htick
      simp only [Option.map_some, Option.some.injEq] at he
      refine IB (CI h) htick ?_
      clear h; intro R' A c M hle kN h
      refine ⟨_, _, _, _, _, _, rfl, ?_⟩
      exact fin R' A c M _ _ hle kN (by rw [← e5]; rfl) he h
     ·cases he
    rw [if_neg em] at he
    have mlt : mm < x1.ms.length := by
     have a1 : x1.c.M = x.c.M := by rw [e1]
     have a2 : x1.ms.length = x.ms.length := by rw [e2]
     omega
    have nu := qD v0 mlt
    obtain ⟨q2, ny⟩ := h.bx (A := a5.am) (l := x1.ms) (by omega) (by decide)
    have hs0 := (h.src (A := a5.am)) M h
    rw [ny] at hs0
    rw [xJ h]
    refine aT ⟨v0, mlt, ?_⟩
    refine IF ny ?_
    refine aZ (Sl.at hs0 (i := mm.toNat * 3 + 0) (by simp) (gp.iJ (E := fk) nu rfl)) ?_
    refine aY.2 ⟨fun ep => ?_, fun ep => ?_⟩
    ·rw [if_pos ep] at he
     simp only [Option.map_some, Option.some.injEq] at he
     refine IC (CI h) v0 mlt (by rw [e3]; omega) ?_
     clear h hs0; intro M h
     have GR : (x1.hold mm).2.ready = [] := by unfold Sc.hold; split <;> rfl
     have tN : (x1.hold mm).1.steps = x.steps := by rw [← e5]; unfold Sc.hold; split <;> rfl
     refine ⟨_, _, _, _, _, _, rfl, ?_⟩
     exact fin R none 0 M _ _ (Mem.le_refl _) (by rw [GR]; exact RS.nil _ _) tN he h
    rw [if_neg ep] at he
    refine aT ⟨v0, mlt, ?_⟩
    refine IF ny ?_
    refine aZ (Sl.at hs0 (i := mm.toNat * 3 + 1) (by simp) (gp.iJ (E := fk) nu rfl)) ?_
    clear hs0
    refine aY.2 ⟨fun eg => ?_, fun eg => ?_⟩
    ·rw [if_pos eg] at he
     split at he
     ·rename_i hfo
      simp only [Option.map_some, Option.some.injEq] at he
      have tN : (x1.find mm).1.steps = x.steps := by
       rw [← e5]
       have Cz : ∀ (z : Sc) a b c d e, (z.bL a b c d e).1.steps = z.steps := by intro z a b c d e; unfold Sc.bL; split <;> rfl
       unfold Sc.find
       dsimp only
       split
       ·rfl
       ·split
        ·split
         ·rfl
         ·split <;> exact Cz ..
        ·exact Cz ..
      have hrd : ∀ e, (x1.find mm).2 = .ev e → e.ready = [] := by
       have Cz : ∀ (z : Sc) a b c d e, (z.bL a b c d e).2.ready = [] := by intro z a b c d e; unfold Sc.bL; split <;> rfl
       intro e GR
       unfold Sc.find at GR
       dsimp only at GR
       split at GR
       ·cases GR; rfl
       ·split at GR
        ·split at GR
         ·cases GR
         ·split at GR <;> · cases GR; exact Cz ..
        ·cases GR; exact Cz ..
      refine ID (CI h) hfo e4 ?_
      clear h
      generalize Nu : x1.find mm = ff at he tN hrd ⊢
      obtain ⟨z, oo⟩ := ff
      cases oo with
      | ev e =>
       dsimp only at tN hrd ⊢
       intro M h
       refine ⟨_, _, _, _, _, _, rfl, ?_⟩
       have hr0 : e.ready = [] := hrd e rfl
       exact fin R none 0 M _ e (Mem.le_refl _) (by rw [hr0]; exact RS.nil _ _) tN he h
      | cO l =>
       dsimp only
       intro M h
       unfold DW at he
       cases he
       exact k M h.b7
     ·cases he
    rw [if_neg eg] at he
    cases hrun : x1.run p mm with
    | none => rw [hrun] at he; cases he
    | some rr =>
     obtain ⟨z, oo⟩ := rr
     rw [hrun] at he
     simp only [Option.map_some, Option.some.injEq] at he
     refine LY (CI h) hp e4 hrun ?_
     clear h
     have tN : z.steps = x.steps := by
      rw [← e5]
      unfold Sc.run at hrun
      split at hrun
      ·rename_i hpre2
       obtain ⟨_, _, i0, i1, _⟩ := hpre2
       have GG : ∀ d w rest, gk x1 mm (aC x1 mm).g d w rest = some (z, oo) → z.steps = x1.steps := by
        intro d w rest GG
        unfold gk at GG
        split at GG
        ·simp only [Option.some.injEq, Prod.mk.injEq] at GG
         rw [← GG.1]
         have := jv (m := mm) w.ready { x1 with w := w, d := d } i0 i1
         unfold Sc.ju
         split <;> exact this.2.2.2.2.2.1
        ·cases GG
       split at hrun
       ·split at hrun
        ·cases hrun
        ·simp only [Option.some.injEq, Prod.mk.injEq] at hrun; rw [← hrun.1]
        ·exact GG _ _ _ hrun
        ·exact GG _ _ _ hrun
       ·cases hrun
      ·cases hrun
     cases oo with
     | ev e =>
      intro R' A c M hle kN h
      refine ⟨_, _, _, _, _, _, rfl, ?_⟩
      exact fin R' A c M _ e hle kN tN he h
     | cO l =>
      intro M h
      unfold DW at he
      cases he
      exact k M h.b7
 ·cases he
end
structure PrcS where
 next : Int
 ring : List Int
 turns : Int
 gH : Int
def Sc.new (p : b6) (c : Gp) (d : iD) : Sc := ⟨Wd.new p, c, List.replicate c.P.toNat ⟨⟨-1, eZ c.R, []⟩, 0, -1⟩, List.replicate c.M.toNat ⟨-1, -1, 0⟩, [0], d, 0⟩
theorem JZ : bg Tryz.prog 132 141 3 24 [.pointer none, .int .i64 0, .int .i64 0] := bg.mk' (zv := .agg #[.pointer none, .int .i64 0, .int .i64 0]) (by kernel_rfl) (by kernel_rfl) rfl (by omega)
theorem Sb : bg Tryz.prog 133 143 3 24 [.int .i64 0, .int .i64 0, .int .i64 0] := bg.mk' (zv := .agg #[.int .i64 0, .int .i64 0, .int .i64 0]) (by kernel_rfl) (by kernel_rfl) rfl (by omega)
theorem CM {bs : List Nat} {ps : List cX} {b : Nat} {y : cX} (h : bs.length = ps.length) : bV (bs ++ [b]) (ps ++ [y]) = bV bs ps ++ [(b, y.turns, y.gH)] := by
 unfold bV; rw [List.zipWith_append h]; rfl
section
variable {R : Mem} {L L' L2 : List HP} {M : Mem} {K : Value → Mem → Prop} {Kp : List PanicEntry → Mem → Prop} {pa : PA} {p : b6} {b wb db : Nat} {x : Sc} {m i : Int}
theorem wT {c : Gp} {d : iD} (h : Hp R L M) [o : cq (cu .nilFunc) db L d L'] (yx : RS bl R pa.c pa.cc p.dI) (hc : p.dI.length ≤ 1000000) (hk : 0 ≤ p.aL ∧ p.aL ≤ 1000000) (hP : 0 ≤ c.P ∧ c.P ≤ 1000000) (hM : 0 ≤ c.M ∧ c.M ≤ 1000000)
  (k : ∀ b wb M', Hp R (aB (dD pa p wb db) b (Sc.new p c d) :: L') M' → K (.pointer (some ⟨b, 0, none⟩)) M') :
  aa Tryz.prog 16 #[.agg #[.slice pa.f p.funcs.length pa.fc, .slice pa.c p.dI.length pa.cc, .int .i64 p.aL, .slice pa.k p.cases.length pa.kc], .agg #[.int .i64 c.P, .int .i64 c.M, .int .i64 c.R, .int .i64 c.S], .pointer (some ⟨db, 0, none⟩)] M K Kp := by
 refine Dr ?_
 replace h := h.front (cu .nilFunc) db
 refine aq h ?_
 clear h; intro k1 M h
 refine aq h ?_
 clear h; intro k3 M h
 refine aQ h (aQ h (aH h (aQ h ?_)))
 refine aH h (aH h (aH h (aH h ?_)))
 refine Lv (p := p) (pa := pa) h yx hc hk ?_
 clear h; intro wb M h
 refine g8 ⟨ay (aA h) (ay (aA h) (ay (aA h) (ay (aA h) ae))), ?_⟩
 refine aq h ?_
 clear h; intro b M h
 refine aH h ?_
 replace h := ((((h.bX nt 141).uD bN).bX fk 143).bX bl 3)
 obtain ⟨nP, hnP⟩ := Int.eq_ofNat_of_zero_le hP.1
 obtain ⟨nM, hnM⟩ := Int.eq_ofNat_of_zero_le hM.1
 refine ⟨fun dd vs M => ∃ (j : Nat) (A : Option Addr) (ca : Nat) (vC : List Nat), vs = [.int .i64 (j : Int)] ∧ dd = nP - j ∧ j ≤ nP ∧ vC.length = j ∧
   Hp R (pt b [.pointer (some ⟨wb, 0, none⟩), .int .i64 c.P, .int .i64 c.M, .int .i64 c.R, .int .i64 c.S, .slice A j ca, .slice none 0 0, .slice none 0 0, .pointer (some ⟨db, 0, none⟩), .int .i64 0] 137 ::
    cv A ca (bV vC (List.replicate j ⟨⟨-1, eZ c.R, []⟩, 0, -1⟩)) :: bn bN vC (List.replicate j ⟨-1, eZ c.R, []⟩) :: cz none 0 [] :: kD none 0 [] :: aB (bG pa p) wb (Wd.new p) :: aB (cu .nilFunc) db d :: pt k3 [.int .i64 c.P, .int .i64 c.M, .int .i64 c.R, .int .i64 c.S] 26 :: L') M,
  ⟨_, 0, none, 0, [], rfl, rfl, by omega, rfl, h.sub bz⟩, ?_⟩
 clear h
 rintro dd _ nn M ⟨j, A, ca, vC, he, hd, hj, hlb, h⟩
 simp only [List.cons.injEq, Value.int.injEq, and_true, true_and] at he
 subst he
 refine aP.2 ⟨fun hlt => ?_, fun hge => ?_⟩
 ·have kK : (List.replicate j (⟨⟨-1, eZ c.R, []⟩, 0, -1⟩ : cX)).length = j := List.length_replicate
  refine ⟨fun vs M => ∃ (A : Option Addr) (ca : Nat) (lb : Nat),
   Hp R (pt b [.pointer (some ⟨wb, 0, none⟩), .int .i64 c.P, .int .i64 c.M, .int .i64 c.R, .int .i64 c.S, .slice A (j + 1) ca, .slice none 0 0, .slice none 0 0, .pointer (some ⟨db, 0, none⟩), .int .i64 0] 137 ::
    cv A ca (bV (vC ++ [lb]) (List.replicate (j + 1) ⟨⟨-1, eZ c.R, []⟩, 0, -1⟩)) :: bn bN (vC ++ [lb]) (List.replicate (j + 1) ⟨-1, eZ c.R, []⟩) :: cz none 0 [] :: kD none 0 [] :: aB (bG pa p) wb (Wd.new p) :: aB (cu .nilFunc) db d :: pt k3 [.int .i64 c.P, .int .i64 c.M, .int .i64 c.R, .int .i64 c.S] 26 :: L') M, aH h ⟨?_, ?_, trivial⟩, ?_⟩
  ·refine aQ h ?_
   refine Cq h ?_
   clear h; intro lb M h
   refine g8 ?_
   refine aq h ?_
   clear h; intro tX M h
   refine h.dx (A := A) JZ [(lb, 0, -1)] rfl (by rw [jR (by rw [hlb, kK]), kK]) rfl (by rw [jR (by rw [hlb, kK]), kK]; simp only [List.length_singleton]; omega) ?_
   clear h; intro A' c' M h
   refine aT ?_
   refine av h ?_
   clear h; intro M h
   replace h := h.kM bN lb (by rw [hlb, List.length_replicate])
   refine ⟨A', c', lb, ?_⟩
   have e1 : bV (vC ++ [lb]) (List.replicate (j + 1) (⟨⟨-1, eZ c.R, []⟩, 0, -1⟩ : cX)) = bV vC (List.replicate j ⟨⟨-1, eZ c.R, []⟩, 0, -1⟩) ++ [(lb, 0, -1)] := by
    rw [List.replicate_succ', CM (by rw [hlb, kK])]
   have e2 : List.replicate (j + 1) (⟨-1, eZ c.R, []⟩ : Loc) = List.replicate j ⟨-1, eZ c.R, []⟩ ++ [⟨-1, eZ c.R, []⟩] := List.replicate_succ'
   rw [e1, e2]
   exact h.sub bz
  ·refine Cq h ?_
   clear h; intro lb M h
   refine g8 ?_
   refine aQ h ?_
   refine aq h ?_
   clear h; intro tX M h
   refine h.dx (A := A) JZ [(lb, 0, -1)] rfl (by rw [jR (by rw [hlb, kK]), kK]) rfl (by rw [jR (by rw [hlb, kK]), kK]; simp only [List.length_singleton]; omega) ?_
   clear h; intro A' c' M h
   refine aT ?_
   refine av h ?_
   clear h; intro M h
   replace h := h.kM bN lb (by rw [hlb, List.length_replicate])
   refine ⟨A', c', lb, ?_⟩
   have e1 : bV (vC ++ [lb]) (List.replicate (j + 1) (⟨⟨-1, eZ c.R, []⟩, 0, -1⟩ : cX)) = bV vC (List.replicate j ⟨⟨-1, eZ c.R, []⟩, 0, -1⟩) ++ [(lb, 0, -1)] := by
    rw [List.replicate_succ', CM (by rw [hlb, kK])]
   have e2 : List.replicate (j + 1) (⟨-1, eZ c.R, []⟩ : Loc) = List.replicate j ⟨-1, eZ c.R, []⟩ ++ [⟨-1, eZ c.R, []⟩] := List.replicate_succ'
   rw [e1, e2]
   exact h.sub bz
  ·clear h
   rintro _ M ⟨A', c', lb, h⟩
   rw [aU (by omega)]
   exact ⟨nP - (j + 1), by omega, j + 1, A', c', vC ++ [lb], rfl, rfl, by omega, by simp [hlb], h⟩
 have XD : j = nP := by omega
 subst XD
 refine aH h ?_
 refine ⟨fun dd vs M => ∃ (q : Nat) (B : Option Addr) (cb : Nat), vs = [.int .i64 (q : Int)] ∧ dd = nM - q ∧ q ≤ nM ∧
   Hp R (pt b [.pointer (some ⟨wb, 0, none⟩), .int .i64 c.P, .int .i64 c.M, .int .i64 c.R, .int .i64 c.S, .slice A j ca, .slice B q cb, .slice none 0 0, .pointer (some ⟨db, 0, none⟩), .int .i64 0] 137 ::
    cv A ca (bV vC (List.replicate j ⟨⟨-1, eZ c.R, []⟩, 0, -1⟩)) :: bn bN vC (List.replicate j ⟨-1, eZ c.R, []⟩) :: cz B cb (List.replicate q ⟨-1, -1, 0⟩) :: kD none 0 [] :: aB (bG pa p) wb (Wd.new p) :: aB (cu .nilFunc) db d :: pt k3 [.int .i64 c.P, .int .i64 c.M, .int .i64 c.R, .int .i64 c.S] 26 :: L') M,
  ⟨_, 0, none, 0, rfl, rfl, by omega, h.sub bz⟩, ?_⟩
 clear h
 rintro dd _ nn M ⟨q, B, cb, he, Qe, hq, h⟩
 simp only [List.cons.injEq, Value.int.injEq, and_true, true_and] at he
 subst he
 refine aP.2 ⟨fun hlt => ?_, fun Sd => ?_⟩
 ·refine aQ h ?_
  refine aq h ?_
  clear h; intro sG M h
  refine h.dx (A := B) Sb [(⟨-1, -1, 0⟩ : CG)] rfl (by simp) rfl (by simp; omega) ?_
  clear h; intro B' cb' M h
  refine aT ?_
  refine av h ?_
  clear h; intro M h
  rw [aU (by omega)]
  have e : List.replicate q (⟨-1, -1, 0⟩ : CG) ++ [⟨-1, -1, 0⟩] = List.replicate (q + 1) ⟨-1, -1, 0⟩ := List.replicate_succ'.symm
  rw [e] at h
  exact ⟨nM - (q + 1), by omega, q + 1, B', cb', rfl, rfl, by omega, h.sub bz⟩
 have hqn : q = nM := by omega
 subst hqn
 refine aq h ?_
 clear h; intro Gj M h
 have e0 : Sc.new p c d = ⟨Wd.new p, c, List.replicate j ⟨⟨-1, eZ c.R, []⟩, 0, -1⟩, List.replicate q ⟨-1, -1, 0⟩, [0], d, 0⟩ := by
  unfold Sc.new; rw [hnP, hnM]; rfl
 have e3 : (List.replicate j (⟨⟨-1, eZ c.R, []⟩, 0, -1⟩ : cX)).map cX.q = List.replicate j ⟨-1, eZ c.R, []⟩ := by simp
 replace h := (h.pt Gj).gU (E := bl) (l := [0]) rfl
 generalize hz : (⟨Wd.new p, c, List.replicate j ⟨⟨-1, eZ c.R, []⟩, 0, -1⟩, List.replicate q ⟨-1, -1, 0⟩, [0], d, 0⟩ : Sc) = z at e0
 have z1 : eK wb db ⟨A, ca, vC, B, cb⟩ z none 0 0 = [.pointer (some ⟨wb, 0, none⟩), .int .i64 c.P, .int .i64 c.M, .int .i64 c.R, .int .i64 c.S, .slice A j ca, .slice B q cb, .slice none 0 0, .pointer (some ⟨db, 0, none⟩), .int .i64 0] := by
  rw [← hz]; simp [eK]
 rw [← z1] at h
 have h2 : Hp R (pt b (eK wb db ⟨A, ca, vC, B, cb⟩ z none 0 0) 137 :: kD none 0 [] :: kD (some ⟨Gj, 0, none⟩) 1 [0] :: aB (bG pa p) wb (Wd.new p) :: aB (cu .nilFunc) db d :: cv A ca (bV vC (List.replicate j ⟨⟨-1, eZ c.R, []⟩, 0, -1⟩)) :: bn bN vC (List.replicate j ⟨-1, eZ c.R, []⟩) :: cz B cb (List.replicate q ⟨-1, -1, 0⟩) :: L') M := h.sub bz
 have h3 : Hp R (fR (dM b wb db ⟨A, ca, vC, B, cb⟩ z) [] :: kD (some ⟨Gj, 0, none⟩) 1 [0] :: aB (bG pa p) wb (Wd.new p) :: aB (cu .nilFunc) db d :: cv A ca (bV vC (List.replicate j ⟨⟨-1, eZ c.R, []⟩, 0, -1⟩)) :: bn bN vC (List.replicate j ⟨-1, eZ c.R, []⟩) :: cz B cb (List.replicate q ⟨-1, -1, 0⟩) :: L') M := Fz (P := dM b wb db ⟨A, ca, vC, B, cb⟩ z) h2 rfl
 clear h h2
 refine ot (P := dM b wb db ⟨A, ca, vC, B, cb⟩ z) xI h3 (Src.row (A := some ⟨Gj, 0, none⟩)) rfl (by simp) ?_
 clear h3; intro M h
 refine ⟨rfl, ?_⟩
 refine k b wb M ?_
 rw [e0]
 refine gh (a := ⟨A, ca, vC, B, cb⟩) (x := z) (by rw [← hz]; simp [hlb]) ?_
 rw [← hz] at h ⊢
 unfold dU
 dsimp only at h ⊢
 rw [e3]
 exact h.sub bz
theorem Aw (h : Hp R L M) [o : lE b L pa p wb db x L'] (hs : x.ms.length ≤ 1000000) (k : ∀ A c M', Hp R (bD fk 55 A c x.ms :: aB (dD pa p wb db) b x :: L') M' → K (.slice A x.ms.length c) M') : aa Tryz.prog 20 #[.pointer (some ⟨b, 0, none⟩)] M K Kp := by
 refine m7 ?_
 have h' := ei h (b := b)
 clear h
 obtain ⟨a, hl, h⟩ := h'
 rw [xJ h]
 refine aT ?_
 have elm : bg Tryz.prog 56 55 3 24 [.int .i64 0, .int .i64 0, .int .i64 0] := bg.mk' (zv := .agg #[.int .i64 0, .int .i64 0, .int .i64 0]) (by kernel_rfl) (by kernel_rfl) rfl (by omega)
 replace h := h.bX fk 55
 refine ⟨fun dd vs M => ∃ (j : Nat) (A : Option Addr) (c : Nat), vs = [.slice A j c, .int .i64 (j : Int)] ∧ dd = x.ms.length - j ∧ j ≤ x.ms.length ∧ Hp R (bD fk 55 A c (x.ms.take j) :: fR (dM b wb db a x) x.gl :: aB (bG pa p) wb x.w :: aB (cu .nilFunc) db x.d :: dU a x L') M, ⟨_, 0, none, 0, rfl, rfl, by omega, h⟩, ?_⟩
 clear h
 rintro dd _ A n c nn M ⟨j, A', c', he, hd, hj, h⟩
 simp only [List.cons.injEq, Value.int.injEq, Value.slice.injEq, and_true, true_and] at he
 obtain ⟨⟨rfl, rfl, rfl⟩, rfl⟩ := he
 refine aP.2 ⟨fun hlt => ?_, fun hge => ?_⟩
 ·obtain ⟨y, hy⟩ := aR (l := x.ms) (i := n) (by omega)
  refine ⟨by omega, hlt, ?_⟩
  obtain ⟨q2, ny⟩ := h.bx (A := a.am) (l := x.ms) (by omega) (by decide)
  have hs0 := (h.src (A := a.am)) M h
  rw [ny] at hs0
  refine IF ny ?_
  refine aZ (Sl.at hs0 (i := n * 3 + 0) (by simp) (gp.iJ (E := fk) hy rfl)) ?_
  refine aZ (Sl.at hs0 (i := n * 3 + 1) (by simp <;> omega) (gp.iJ (E := fk) hy rfl)) ?_
  refine aZ (Sl.at hs0 (i := n * 3 + 2) (by simp <;> omega) (gp.iJ (E := fk) hy rfl)) ?_
  clear hs0
  refine aq h ?_
  clear h; intro en M h
  refine av h ?_
  clear h; intro M h
  refine av h ?_
  clear h; intro M h
  refine av h ?_
  clear h; intro M h
  refine aH h (aH h (aH h ?_))
  refine aq h ?_
  clear h; intro lT M h
  refine h.dx (A := A) elm [y] rfl (by rw [List.length_take]; omega) rfl (by rw [List.length_take]; simp only [List.length_singleton]; omega) ?_
  clear h; intro A2 c2 M h
  refine aT ?_
  rw [← cC hy] at h
  rw [aU (by omega)]
  exact ⟨x.ms.length - (n + 1), by omega, n + 1, A2, c2, rfl, rfl, by omega, h.sub bz⟩
 ·have yj : n = x.ms.length := by omega
  subst yj
  rw [List.take_length] at h
  exact k _ _ _ ((gh hl (h.sub bz)).swap)
end
section
variable {p : b6} {x y : Sc} {o : lF} {m : Int}
theorem nw {i k g : Int} {t : Bool} : (x.bL m i k g t).1.d = x.d := by unfold Sc.bL; split <;> rfl
theorem PD (h : x.d.k.Ok) : (x.find m).1.d.k.Ok := by
 unfold Sc.find
 dsimp only
 split
 ·exact h
 ·split
  ·have hd : (x.own (aC x m).p).1.d = x.d := rfl
   have := mq (kind := 2) (n := x.c.P) h
   rw [hd]
   split
   ·rename_i xF; rw [xF] at this; exact this
   ·rename_i xF
    rw [xF] at this
    split <;> · rw [nw]; exact this
  ·rw [nw]; exact h
theorem J0 {g : Int} {d : iD} {w : Wd} {rest : Bool} (h : gk x m g d w rest = some (y, o)) (i0 : 0 ≤ (aC x m).p) (i1 : (aC x m).p < x.ps.length) : y.d = d := by
 unfold gk at h
 split at h
 ·simp only [Option.some.injEq, Prod.mk.injEq] at h
  rw [← h.1]
  have := jv (m := m) w.ready { x with w := w, d := d } i0 i1
  unfold Sc.ju
  split <;> exact this.2.2.2.1
 ·cases h
theorem tO {a : Option (Int × Int)} {d : iD} (h : d.k.Ok) : (bR d a).1.k.Ok := by
 cases a with
 | none => exact h
 | some q => exact mq h
theorem Se (h : x.d.k.Ok) (he : x.run p m = some (y, o)) : y.d.k.Ok := by
 unfold Sc.run at he
 split at he
 ·rename_i hpre
  obtain ⟨m0, m1, i0, i1, _⟩ := hpre
  split at he
  ·split at he
   ·cases he
   ·simp only [Option.some.injEq, Prod.mk.injEq] at he
    rw [← he.1]
    exact tO h
   ·rw [J0 he i0 i1]; exact tO h
   ·rw [J0 he i0 i1]; exact tO h
  ·cases he
 ·cases he
theorem IG {z : Sc × lF} : (DW z).1.d = z.1.d := by
 obtain ⟨z, o⟩ := z
 cases o <;> rfl
theorem vn (h : x.d.k.Ok) (he : x.step p = some (y, o)) : y.d.k.Ok := by
 unfold Sc.step at he
 split at he
 ·split at he
  ·cases he; exact h
  ·have hk := mq (kind := 1) (n := x.c.M + 1) h
   split at he
   ·rename_i hd; rw [hd] at hk; cases he; exact hk
   ·rename_i d' mm hd
    rw [hd] at hk
    dsimp only at hk
    unfold Sc.act at he
    split at he
    ·split at he
     ·simp only [Option.map_some, Option.some.injEq] at he
      cases he; exact hk
     ·cases he
    ·split at he
     ·simp only [Option.map_some, Option.some.injEq] at he
      have e : y.d = (Sc.hold { x with d := d' } mm).1.d := by rw [← (IG (z := ((Sc.hold { x with d := d' } mm).1, .ev (Sc.hold { x with d := d' } mm).2))), he]
      rw [e]
      unfold Sc.hold
      split <;> exact hk
     ·split at he
      ·split at he
       ·simp only [Option.map_some, Option.some.injEq] at he
        have e : y.d = (Sc.find { x with d := d' } mm).1.d := by rw [← (IG (z := Sc.find { x with d := d' } mm)), he]
        rw [e]
        exact PD hk
       ·cases he
      ·cases hr : Sc.run p { x with d := d' } mm with
       | none => rw [hr] at he; cases he
       | some z =>
        rw [hr] at he
        simp only [Option.map_some, Option.some.injEq] at he
        have e : y.d = z.1.d := by rw [← (IG (z := z)), he]
        rw [e]
        exact Se (y := z.1) (o := z.2) hk hr
 ·cases he
end
def lO (ps : List cX) (a : Int) : Nat := ((ps.map cX.q).flatMap Loc.all).count a
def DX (ms : List CG) (a : Int) : Nat := (ms.flatMap fun m => dB m.g).count a
def lG (x : Sc) (a : Int) : Nat := lO x.ps a + x.gl.count a + DX x.ms a
def Qf (q : Loc) : Prop := q.l.length ≤ q.room ∧ q.room ≤ 1024 ∧ 0 < q.room
def MV (P : Nat) (m : CG) : Prop := (m.p = -1 ∧ m.g = -1 ∧ m.left = 0) ∨ (0 ≤ m.p ∧ m.p < P ∧ -1 ≤ m.g ∧ 0 ≤ m.left ∧ m.left ≤ 1024 ∧ (0 ≤ m.g → 1 ≤ m.left))
structure SV (p : b6) (N : Nat) (x : Sc) : Prop where
 w : WV p x.w
 one : ∀ a, At x.w a 1 → lG x a = 1
 zero : ∀ a, ¬ At x.w a 1 → lG x a = 0
 cP : x.c.P = x.ps.length
 cM : x.c.M = x.ms.length
 P1 : 1 ≤ x.ps.length ∧ x.ps.length ≤ 64
 M1 : 1 ≤ x.ms.length ∧ x.ms.length ≤ 64
 cS : 1 ≤ x.c.S ∧ x.c.S ≤ 1024
 room : ∀ pr ∈ x.ps, Qf pr.q
 gd : ∀ pr ∈ x.ps, 0 ≤ pr.turns ∧ pr.turns ≤ N
 ms : ∀ m ∈ x.ms, MV x.ps.length m
 gH : ∀ (i : Nat) m, x.ms[i]? = some m → m.p ≠ -1 → (aJ x m.p).gH = i
 st : 0 ≤ x.steps ∧ x.steps ≤ N
 tk : x.d.taken.length ≤ 3 * N
 k : x.d.k.Ok
section
variable {p : b6} {N : Nat} {x y z : Sc} {m i g a : Int}
theorem qF {ps : List cX} {j : Nat} {pr Tu : cX} (h : ps[j]? = some pr) : lO (ps.set j Tu) a + pr.q.all.count a = lO ps a + Tu.q.all.count a := by
 unfold lO
 rw [List.map_set]
 exact Ru a (by rw [List.getElem?_map, h]; rfl)
theorem Ax : ∀ {ms : List CG} {j : Nat} {mc vo : CG}, ms[j]? = some mc → DX (ms.set j vo) a + (dB mc.g).count a = DX ms a + (dB vo.g).count a
 | [], _, _, _, h => by simp at h
 | z :: ms, 0, mc, vo, h => by
  simp only [List.getElem?_cons_zero, Option.some.injEq] at h; subst h
  simp only [DX, List.set_cons_zero, List.flatMap_cons, List.count_append]; omega
 | z :: ms, j + 1, mc, vo, h => by
  have := Ax (ms := ms) (vo := vo) (j := j) (by simpa using h)
  simp only [DX, List.set_cons_succ, List.flatMap_cons, List.count_append] at *; omega
theorem tP {α : Type} (f : α → List Int) : ∀ (l : List α) (b : α), b ∈ l → (f b).count a ≤ (l.flatMap f).count a
 | c :: l, b, h => by
  simp only [List.flatMap_cons, List.count_append]
  rcases List.mem_cons.1 h with rfl | h
  ·omega
  ·have := tP f l b h; omega
theorem SV.le1 (h : SV p N x) : lG x a ≤ 1 := by
 by_cases e : At x.w a 1
 ·rw [h.one a e]; omega
 ·rw [h.zero a e]; omega
theorem SV.at_ (h : SV p N x) (hc : 0 < lG x a) : At x.w a 1 := Classical.byContradiction fun e => by rw [h.zero a e] at hc; omega
theorem SV.glpos (h : SV p N x) : ∀ v ∈ x.gl, 0 ≤ v := fun v hv => (h.at_ (a := v) (by have : 0 < x.gl.count v := List.count_pos_iff.2 hv; unfold lG; omega)).1
theorem SV.qpos (h : SV p N x) {pr : cX} (hp : pr ∈ x.ps) : pr.q.Pos := by
 have gS : ∀ v ∈ pr.q.all, 0 ≤ v := fun v hv => (h.at_ (a := v) (by
  have h1 := tP (a := v) Loc.all (x.ps.map cX.q) pr.q (List.mem_map.2 ⟨pr, hp, rfl⟩)
  have : 0 < pr.q.all.count v := List.count_pos_iff.2 hv
  unfold lG lO; omega)).1
 refine ⟨?_, fun v hv => gS v (by unfold Loc.all; simp [hv])⟩
 by_cases hn : pr.q.next = -1
 ·omega
 ·have := gS pr.q.next (by unfold Loc.all; rw [if_neg hn]; simp)
  omega
theorem SV.PE (h : SV p N x) : x.gl.length ≤ 100 := by
 have h1 := qX (b := 1) x.w.gs.length x.gl (fun v hv => by
  have := h.at_ (a := v) (by have : 0 < x.gl.count v := List.count_pos_iff.2 hv; unfold lG; omega)
  exact ⟨this.1, this.2.1⟩) (fun v => by have := h.le1 (a := v); unfold lG at this; omega)
 have := h.w.n2
 omega
theorem SV.mg (h : SV p N x) {mc : CG} (hm : mc ∈ x.ms) (h0 : 0 ≤ mc.g) : At x.w mc.g 1 := h.at_ (by
 have h1 := tP (a := mc.g) (fun m : CG => dB m.g) x.ms mc hm
 have : (dB mc.g).count mc.g = 1 := by rw [iT h0]; simp
 unfold lG DX; omega)
theorem wU (h0 : 0 ≤ m) (hm : m < x.ms.length) : x.ms[m.toNat]? = some (aC x m) := by
 obtain ⟨y, hy⟩ := aR (l := x.ms) (i := m.toNat) (by omega)
 rw [hy]; simp [aC, hy]
theorem DY (h0 : 0 ≤ i) (hi : i < x.ps.length) : x.ps[i.toNat]? = some (aJ x i) := by
 obtain ⟨y, hy⟩ := aR (l := x.ps) (i := i.toNat) (by omega)
 rw [hy]; simp [aJ, hy]
def tY : cX := ⟨⟨-1, 0, []⟩, 0, -1⟩
theorem SV.go (h : SV p N x) (m0 : 0 ≤ m) (m1 : m < x.ms.length) (i0 : 0 ≤ i) (i1 : i < x.ps.length) (ps' : List cX) (vo : CG) (LX : List Int) (d' : iD)
  (hl : ps'.length = x.ps.length) (hr : ∀ pr ∈ ps', Qf pr.q ∧ 0 ≤ pr.turns ∧ pr.turns ≤ N + 1) (hb : ∀ j : Nat, j ≠ i.toNat → (ps'.getD j tY).gH = (x.ps.getD j tY).gH)
  (hbi : vo.p = -1 ∨ vo.p = i ∧ (ps'.getD i.toNat tY).gH = m) (hold : (aC x m).p = i ∨ (aJ x i).gH = -1) (II : MV x.ps.length vo)
  (hc : ∀ a, lO ps' a + LX.count a + (dB vo.g).count a = lO x.ps a + x.gl.count a + (dB (aC x m).g).count a) (hd : d'.taken.length ≤ 3 * N + 3) (hk : d'.k.Ok) :
  SV p (N + 1) { x with ps := ps', ms := x.ms.set m.toNat vo, gl := LX, d := d' } := by
 have nu := wU m0 m1
 have hS : ∀ a, lG { x with ps := ps', ms := x.ms.set m.toNat vo, gl := LX, d := d' } a = lG x a := fun a => by
  have e1 := Ax (a := a) (vo := vo) nu
  have e2 := hc a
  unfold lG
  dsimp only
  omega
 refine ⟨h.w, fun a ha => by rw [hS]; exact h.one a ha, fun a ha => by rw [hS]; exact h.zero a ha, by rw [hl]; exact h.cP, by simpa using h.cM, by rw [hl]; exact h.P1, by simpa using h.M1, h.cS, fun pr hp => (hr pr hp).1, fun pr hp => (by have := (hr pr hp).2; omega), fun mc EU => ?_, fun j mc hj hne => ?_, by have := h.st; dsimp only; omega, by dsimp only; omega, hk⟩
 ·rw [hl]
  rcases jB EU with EU | rfl
  ·exact h.ms mc EU
  ·exact II
 ·by_cases e : j = m.toNat
  ·subst e
   rw [List.getElem?_set_self (by omega)] at hj
   simp only [Option.some.injEq] at hj
   subst hj
   rcases hbi with hbi | ⟨e1, e2⟩
   ·exact absurd hbi hne
   ·show (ps'.getD vo.p.toNat tY).gH = _
    rw [e1, e2]; omega
  ·rw [List.getElem?_set_ne (Ne.symm e)] at hj
   have hby := h.gH j mc hj hne
   have hmv2 := h.ms mc (List.mem_of_getElem? hj)
   have hpi : mc.p.toNat ≠ i.toNat := by
    intro e2
    have e3 : mc.p = i := by rcases hmv2 with hh | hh; exact absurd hh.1 hne; omega
    rw [e3] at hby
    rcases hold with e4 | e4
    ·have := h.gH m.toNat (aC x m) nu (by rw [e4]; omega)
     rw [e4, hby] at this
     omega
    ·rw [e4] at hby; omega
   show (ps'.getD mc.p.toNat tY).gH = _
   rw [hb _ hpi]
   exact hby
end
section
variable {p : b6} {N : Nat} {x y z : Sc} {m i g a : Int}
theorem Sf {q : Loc} (h : ∀ v ∈ q.all, 0 ≤ v) : q.Pos := by
 refine ⟨?_, fun v hv => h v (by unfold Loc.all; simp [hv])⟩
 by_cases hn : q.next = -1
 ·omega
 ·have := h q.next (by unfold Loc.all; rw [if_neg hn]; simp)
  omega
theorem Sg {q : Loc} (h : q.Pos) : ∀ v ∈ q.all, 0 ≤ v := by
 intro v hv
 unfold Loc.all at hv
 rcases List.mem_append.1 hv with hv | hv
 ·split at hv
  ·cases hv
  ·simp only [List.mem_singleton] at hv; subst hv; have := h.1; omega
 ·exact h.2 v hv
theorem Sh {q : Loc} {t : Int} {gl : List Int} (hq : q.Pos) (hb : Qf q) (hg : ∀ v ∈ gl, 0 ≤ v) :
  Qf (sy q t gl).1 ∧ (∀ a, (sy q t gl).1.all.count a + (sy q t gl).2.1.count a + (dB (sy q t gl).2.2.1).count a = q.all.count a + gl.count a) ∧
   ((sy q t gl).2.2.2 = true → 0 ≤ (sy q t gl).2.2.1) ∧ ((sy q t gl).2.2.2 = false → (sy q t gl).2.2.1 = -1) := by
 have c1 := O4 q gl
 have b1 := Rv hb gl
 unfold sy
 generalize q.gd gl = r at c1 b1
 obtain ⟨q1, g1, n1⟩ := r
 dsimp only at c1 b1 ⊢
 have nn : ∀ v, 0 < q.all.count v + gl.count v → 0 ≤ v := fun v hv => by
  by_cases e : v ∈ gl
  ·exact hg v e
  ·rw [List.count_eq_zero.2 e] at hv
   exact Sg hq v (List.count_pos_iff.1 (by omega))
 have p1 : q1.Pos := Sf fun v hv => nn v (by have : 0 < q1.all.count v := List.count_pos_iff.2 hv; have := c1 v; omega)
 have Ly : ∀ v ∈ g1, 0 ≤ v := fun v hv => nn v (by have : 0 < g1.count v := List.count_pos_iff.2 hv; have := c1 v; omega)
 split
 ·rename_i hh
  cases g1 with
  | nil => simp at hh
  | cons v l =>
   refine ⟨b1, fun a => ?_, fun _ => Ly v (by simp), fun e => by cases e⟩
   have := c1 a
   simp only [List.drop_succ_cons, List.drop_zero, List.headD_cons]
   rw [iT (Ly v (by simp))]
   simp only [List.count_cons, List.count_nil] at *
   omega
 ·split
  ·rename_i hh
   have hgp := JL p1
   have h0 : 0 ≤ q1.get.2 := by
    rcases hgp with ⟨e1, e2, _⟩ | ⟨_, h0⟩
    ·unfold wM at hh
     rw [e1, e2] at hh
     cases hh
    ·exact h0
   refine ⟨O7 b1, fun a => ?_, fun _ => h0, fun e => by cases e⟩
   have := c1 a
   have := JK q1 p1 a
   dsimp only
   omega
  ·rename_i hh
   have e1 : q1.next = -1 ∧ q1.l = [] := by
    unfold wM at hh
    simp only [Bool.or_eq_true, bne_iff_ne, ne_eq, Bool.not_eq_true', List.isEmpty_eq_false_iff, not_or, Decidable.not_not] at hh
    exact hh
   have eg : q1.get = (q1, -1) := by
    unfold Loc.get
    rw [if_neg (by rw [e1.1]; decide), e1.2]
   rw [eg]
   dsimp only
   have c2 := Lq q1 g1 Ly 0
   refine ⟨O8 b1 _ _, fun a => ?_, fun e => ?_, fun e => ?_⟩
   ·have := c1 a
    have := c2 a
    omega
   ·rcases Ct (x := q1) Ly 0 with ⟨e2, _⟩ | ⟨_, h0⟩
    ·rw [e2] at e; cases e
    ·exact h0
   ·rcases Ct (x := q1) Ly 0 with ⟨_, h0⟩ | ⟨e2, _⟩
    ·exact h0
    ·cases g1 with
     | nil => exact absurd rfl e2
     | cons v l => cases e
theorem SV.mono {N' : Nat} (h : SV p N x) (hn : N ≤ N') : SV p N' x :=
 ⟨h.w, h.one, h.zero, h.cP, h.cM, h.P1, h.M1, h.cS, h.room, fun pr hp => by have := h.gd pr hp; omega, h.ms, h.gH, by have := h.st; omega, by have := h.tk; omega, h.k⟩
theorem SV.inc (h : SV p (N + 1) y) (hs : 0 ≤ y.steps ∧ y.steps ≤ N) : SV p (N + 1) { y with steps := y.steps + 1 } :=
 ⟨h.w, h.one, h.zero, h.cP, h.cM, h.P1, h.M1, h.cS, h.room, h.gd, h.ms, h.gH, by dsimp only; omega, h.tk, h.k⟩
theorem SV.draw {d' : iD} (h : SV p N x) (hd : d'.taken.length ≤ 3 * N + 3) (hk : d'.k.Ok) : SV p (N + 1) { x with d := d' } :=
 ⟨h.w, h.one, h.zero, h.cP, h.cM, h.P1, h.M1, h.cS, h.room, fun pr hp => by have := h.gd pr hp; omega, h.ms, h.gH, by have := h.st; dsimp only; omega, by dsimp only; omega, hk⟩
theorem eC {l : List cX} {n : Nat} {b : cX} (h : n < l.length) : (l.set n b).getD n tY = b := by simp [List.getD_eq_getElem?_getD, List.getElem?_set_self h]
theorem getD_set_ne {l : List cX} {n j : Nat} {b : cX} (h : j ≠ n) : (l.set n b).getD j tY = l.getD j tY := by simp [List.getD_eq_getElem?_getD, List.getElem?_set_ne (Ne.symm h)]
theorem SV.hold {d' : iD} (h : SV p N x) (m0 : 0 ≤ m) (m1 : m < x.ms.length) (hm : (aC x m).p = -1) (hd : d'.taken.length ≤ 3 * N + 3) (hk : d'.k.Ok) : SV p (N + 1) (Sc.hold { x with d := d' } m).1 ∧ (Sc.hold { x with d := d' } m).1.steps = x.steps := by
 unfold Sc.hold
 dsimp only
 have nu := wU m0 m1
 split
 ·rename_i n hn
  obtain ⟨hlt, hb, _⟩ := List.findIdx?_eq_some_iff_getElem.1 hn
  have jC := DY (x := x) (i := (n : Int)) (by omega) (by omega)
  rw [Int.toNat_natCast] at jC
  have eb : (aJ x (n : Int)).gH = -1 := by
   rw [List.getElem?_eq_getElem hlt, Option.some.injEq] at jC
   rw [← jC]; simpa using hb
  have II := h.ms _ (List.mem_of_getElem? nu)
  have hg : (aC x m).g = -1 ∧ (aC x m).left = 0 := by rcases II with e | e; exact e.2; omega
  refine ⟨?_, rfl⟩
  refine h.go (i := (n : Int)) m0 m1 (by omega) (by omega) (x.ps.set n { aJ x (n : Int) with gH := m }) { aC x m with p := (n : Int) } x.gl d' (by simp) (fun pr hp => ?_) (fun j hj => ?_) (.inr ⟨rfl, ?_⟩) (.inr eb) (.inr ⟨by dsimp only; omega, by dsimp only; omega, by dsimp only; omega, by dsimp only; omega, by dsimp only; omega, by dsimp only; omega⟩) (fun a => ?_) hd hk
  ·rcases List.mem_or_eq_of_mem_set hp with hp | rfl
   ·exact ⟨h.room pr hp, by have := h.gd pr hp; omega⟩
   ·have hm := List.mem_of_getElem? jC
    exact ⟨h.room (aJ x (n : Int)) hm, by have := h.gd _ hm; dsimp only; omega⟩
  ·rw [Int.toNat_natCast] at hj
   rw [getD_set_ne hj]
  ·rw [Int.toNat_natCast, eC hlt]
  ·have := qF (a := a) (Tu := { aJ x (n : Int) with gH := m }) jC
   dsimp only at *
   omega
 ·exact ⟨h.draw hd hk, rfl⟩
theorem SV.tick {d' : iD} (h : SV p N x) (hd : d'.taken.length ≤ 3 * N + 3) (hk : d'.k.Ok) : wL { x with d := d' } ∧ SV p (N + 1) (Sc.tick { x with d := d' }).1 ∧ (Sc.tick { x with d := d' }).1.steps = x.steps := by
 obtain ⟨t1, t2, t3, t4⟩ := R0 h.w
 have hg := h.PE
 refine ⟨⟨by have := h.w.JR; dsimp only; omega, t1, by dsimp only; omega⟩, ?_, rfl⟩
 unfold Sc.tick
 dsimp only
 obtain ⟨a1, l, a2, a3, a4, a5⟩ := t3
 rw [List.nil_append] at a2
 rw [a2]
 have hS : ∀ a, lG { x with w := x.w.tick, gl := x.gl ++ l, d := d' } a = lG x a + l.count a := fun a => by
  unfold lG; dsimp only; rw [List.count_append]; omega
 have hA : ∀ a, At x.w.tick a 1 ↔ At x.w a 1 ∨ a ∈ l := fun a => by
  constructor
  ·rintro ⟨b1, b2, b3⟩
   by_cases e : a ∈ l
   ·exact .inr e
   ·refine .inl ⟨b1, by rw [a1] at b2; exact b2, ?_⟩
    rw [a5 a b1 e] at b3; exact b3
  ·rintro (⟨b1, b2, b3⟩ | e)
   ·by_cases e : a ∈ l
    ·exact ⟨b1, by rw [a1]; exact b2, (a4 a e).2.2.2⟩
    ·exact ⟨b1, by rw [a1]; exact b2, by rw [a5 a b1 e]; exact b3⟩
   ·obtain ⟨c1, c2, c3, c4⟩ := a4 a e
    exact ⟨c1, by rw [a1]; exact c2, c4⟩
 have hn : ∀ a, a ∈ l → ¬ At x.w a 1 := fun a e hh => (a4 a e).2.2.1 hh.2.2
 refine ⟨t2, fun a ha => ?_, fun a ha => ?_, h.cP, h.cM, h.P1, h.M1, h.cS, h.room, fun pr hp => by have := h.gd pr hp; omega, h.ms, h.gH, by have := h.st; dsimp only; omega, by dsimp only; omega, hk⟩
 ·rw [hS]
  rcases (hA a).1 ha with e | e
  ·rw [h.one a e, List.count_eq_zero.2 (fun hm => hn a hm e)]
  ·rw [h.zero a (hn a e), Nat.le_antisymm (List.nodup_iff_count.1 a3 a) (List.count_pos_iff.2 e)]
 ·rw [hS, h.zero a (fun e => ha ((hA a).2 (.inl e))), List.count_eq_zero.2 (fun e => ha ((hA a).2 (.inr e)))]
end
section
variable {p : b6} {N : Nat} {x y z : Sc} {m i g a kind : Int}
theorem SV.bL {DZ : List cX} {glz : List Int} {dz : iD} {t : Bool} (h : SV p N x) (m0 : 0 ≤ m) (m1 : m < x.ms.length) (hmp : (aC x m).p = i) (i0 : 0 ≤ i) (i1 : i < x.ps.length) (hg : (aC x m).g = -1)
  (hl : DZ.length = x.ps.length) (hr : ∀ pr ∈ DZ, Qf pr.q ∧ 0 ≤ pr.turns ∧ pr.turns ≤ N) (hb : ∀ j : Nat, (DZ.getD j tY).gH = (x.ps.getD j tY).gH)
  (hc : ∀ a, lO DZ a + glz.count a + (dB g).count a = lO x.ps a + x.gl.count a) (hok : t = true → 0 ≤ g) (hno : t = false → dB g = []) (hd : dz.taken.length ≤ 3 * N + 3) (hk : dz.k.Ok) :
  SV p (N + 1) (Sc.bL { x with ps := DZ, gl := glz, d := dz } m i kind g t).1 ∧ (Sc.bL { x with ps := DZ, gl := glz, d := dz } m i kind g t).1.steps = x.steps := by
 have nu := wU m0 m1
 have e0 : dB (aC x m).g = [] := by rw [hg]; rfl
 have hpi : DZ[i.toNat]? = some (DZ.getD i.toNat tY) := by
  rw [List.getD_eq_getElem?_getD, List.getElem?_eq_getElem (by omega)]; rfl
 have hmem := List.mem_of_getElem? hpi
 have hby : (x.ps.getD i.toNat tY).gH = m := by
  have := h.gH m.toNat (aC x m) nu (by rw [hmp]; omega)
  rw [hmp] at this
  show (aJ x i).gH = m
  rw [this]; omega
 have zN : ∀ b : cX, b.q = (DZ.getD i.toNat tY).q → ∀ a, lO (DZ.set i.toNat b) a = lO DZ a := fun b e a => by
  have := qF (a := a) (Tu := b) hpi
  rw [e] at this
  omega
 unfold Sc.bL
 cases t with
 | true =>
  rw [if_pos rfl]
  refine ⟨?_, rfl⟩
  have II := h.ms _ (List.mem_of_getElem? nu)
  refine h.go (i := i) m0 m1 i0 i1 (DZ.set i.toNat { DZ.getD i.toNat tY with turns := (DZ.getD i.toNat tY).turns + 1 }) ⟨(aC x m).p, g, x.c.S⟩ glz dz (by simp [hl]) (fun pr hp => ?_) (fun j hj => by rw [getD_set_ne hj]; exact hb j) (.inr ⟨hmp, ?_⟩) (.inl hmp) (.inr ⟨by dsimp only; omega, by dsimp only; omega, by dsimp only; have := hok rfl; omega, by have := h.cS; dsimp only; omega, by have := h.cS; dsimp only; omega, fun _ => by have := h.cS; dsimp only; omega⟩) (fun a => ?_) hd hk
  ·rcases List.mem_or_eq_of_mem_set hp with hp | rfl
   ·have := hr pr hp; exact ⟨this.1, by omega⟩
   ·have := hr _ hmem; exact ⟨this.1, by dsimp only; omega⟩
  ·rw [eC (by omega)]
   exact (hb _).trans hby
  ·rw [zN { DZ.getD i.toNat tY with turns := (DZ.getD i.toNat tY).turns + 1 } rfl, e0]
   have := hc a
   simp only [List.count_nil]
   omega
 | false =>
  rw [if_neg (by decide)]
  refine ⟨?_, rfl⟩
  refine h.go (i := i) m0 m1 i0 i1 (DZ.set i.toNat { DZ.getD i.toNat tY with gH := -1 }) ⟨-1, -1, 0⟩ glz dz (by simp [hl]) (fun pr hp => ?_) (fun j hj => by rw [getD_set_ne hj]; exact hb j) (.inl rfl) (.inl hmp) (.inl ⟨rfl, rfl, rfl⟩) (fun a => ?_) hd hk
  ·rcases List.mem_or_eq_of_mem_set hp with hp | rfl
   ·have := hr pr hp; exact ⟨this.1, by omega⟩
   ·have := hr _ hmem; exact ⟨this.1, by dsimp only; omega⟩
  ·rw [zN { DZ.getD i.toNat tY with gH := -1 } rfl, e0]
   have := hc a
   rw [hno rfl] at this
   simp only [List.count_nil] at *
   have e1 : dB (-1) = [] := rfl
   rw [e1, List.count_nil]
   omega
theorem Ay {d : iD} {k n : Int} (hk : d.k.Ok) : (d.draw k n).1.taken.length ≤ d.taken.length + 1 := by
 generalize xF : d.draw k n = r
 obtain ⟨d', o⟩ := r
 cases o with
 | num v =>
  have := (nv hk xF).2.2
  dsimp only
  rw [this]; simp
 | cO l =>
  have := (FZ xF).1
  dsimp only
  rw [this]; omega
theorem SV.find {d' : iD} (h : SV p N x) (m0 : 0 ≤ m) (m1 : m < x.ms.length) (hp : (aC x m).p ≠ -1) (hg : (aC x m).g = -1) (hN : N ≤ 10000000) (hd : d'.taken.length ≤ 3 * N + 1) (hk : d'.k.Ok) :
  tM { x with d := d' } m ∧ SV p (N + 1) (Sc.find { x with d := d' } m).1 ∧ (Sc.find { x with d := d' } m).1.steps = x.steps := by
 have nu := wU m0 m1
 have II := h.ms _ (List.mem_of_getElem? nu)
 have hr : 0 ≤ (aC x m).p ∧ (aC x m).p < x.ps.length ∧ 0 ≤ (aC x m).left ∧ (aC x m).left ≤ 1024 := by
  rcases II with e | e
  ·exact absurd e.1 hp
  ·omega
 obtain ⟨i0, i1, l0, l1⟩ := hr
 have jC := DY i0 i1
 have hpm := List.mem_of_getElem? jC
 have ht := h.gd _ hpm
 have hroom := h.room _ hpm
 have hpos := h.qpos hpm
 have e0 : dB (aC x m).g = [] := by rw [hg]; rfl
 have hcP := h.cP
 have hP1 := h.P1
 refine ⟨⟨m0, m1, i0, i1, by have := h.PE; dsimp only; omega, ht.1, by have := ht.2; show (aJ x (aC x m).p).turns < 1000000000; omega, by dsimp only; omega, by dsimp only; omega, by dsimp only; omega⟩, ?_⟩
 have own := Sh (t := (aJ x (aC x m).p).turns) hpos hroom h.glpos
 unfold Sc.find
 dsimp only
 have em : aC { x with d := d' } m = aC x m := rfl
 have ep : ∀ j, aJ { x with d := d' } j = aJ x j := fun _ => rfl
 rw [em]
 simp only [ep]
 generalize hi : (aC x m).p = i at *
 have zN : ∀ b : cX, ∀ a, lO (x.ps.set i.toNat b) a + (aJ x i).q.all.count a = lO x.ps a + b.q.all.count a := fun b a => qF jC
 split
 ·rename_i hn
  refine ⟨?_, rfl⟩
  have hgp := JL hpos
  have h0 : 0 ≤ (aJ x i).q.get.2 := by
   rcases hgp with ⟨e1, _⟩ | ⟨_, h0⟩
   ·exact absurd e1 hn.2
   ·exact h0
  have hby : (aJ x i).gH = m := by
   have := h.gH m.toNat (aC x m) nu (by rw [hi]; omega)
   rw [hi] at this
   rw [this]; omega
  refine h.go (i := i) m0 m1 i0 i1 (x.ps.set i.toNat { aJ x i with q := (aJ x i).q.get.1 }) ⟨i, (aJ x i).q.get.2, (aC x m).left⟩ x.gl d' (by simp) (fun pr hp => ?_) (fun j hj => by rw [getD_set_ne hj]) (.inr ⟨rfl, by rw [eC (by omega)]; exact hby⟩) (.inl hi) (.inr ⟨by dsimp only; omega, by dsimp only; omega, by dsimp only; omega, l0, l1, fun _ => by have := hn.1; dsimp only; omega⟩) (fun a => ?_) (by omega) hk
  ·rcases List.mem_or_eq_of_mem_set hp with hp | rfl
   ·exact ⟨h.room pr hp, by have := h.gd pr hp; omega⟩
   ·exact ⟨O7 hroom, by dsimp only; omega⟩
  ·have a1 := zN { aJ x i with q := (aJ x i).q.get.1 } a
   have a2 := JK _ hpos a
   rw [e0]
   simp only [List.count_nil] at *
   try dsimp only at *
   omega
 ·
  have hown : Sc.own { x with d := d' } i = ({ x with ps := x.ps.set i.toNat { aJ x i with q := (sy (aJ x i).q (aJ x i).turns x.gl).1 }, gl := (sy (aJ x i).q (aJ x i).turns x.gl).2.1, d := d' }, (sy (aJ x i).q (aJ x i).turns x.gl).2.2.1, (sy (aJ x i).q (aJ x i).turns x.gl).2.2.2) := rfl
  rw [hown]
  generalize sy (aJ x i).q (aJ x i).turns x.gl = r at own
  obtain ⟨q1, g1, v1, has⟩ := r
  obtain ⟨o1, o2, o3, o4⟩ := own
  dsimp only at o1 o2 o3 o4 ⊢
  have W9 : ∀ pr ∈ x.ps.set i.toNat { aJ x i with q := q1 }, Qf pr.q ∧ 0 ≤ pr.turns ∧ pr.turns ≤ N := fun pr hp => by
   rcases List.mem_or_eq_of_mem_set hp with hp | rfl
   ·exact ⟨h.room pr hp, h.gd pr hp⟩
   ·exact ⟨o1, ht⟩
  have Si : ∀ j : Nat, ((x.ps.set i.toNat { aJ x i with q := q1 }).getD j tY).gH = (x.ps.getD j tY).gH := fun j => by
   by_cases e : j = i.toNat
   ·subst e
    rw [eC (by omega)]
    rfl
   ·rw [getD_set_ne e]
  have Z4 : ∀ a, lO (x.ps.set i.toNat { aJ x i with q := q1 }) a + g1.count a + (dB v1).count a = lO x.ps a + x.gl.count a := fun a => by
   have a1 := zN { aJ x i with q := q1 } a
   have a2 := o2 a
   dsimp only at *
   omega
  split
  ·rename_i hh
   have ev1 : dB v1 = [] := by rw [o4 hh.1]; rfl
   have Db := Ay (k := 2) (n := x.c.P) hk
   have Aq := mq (kind := 2) (n := x.c.P) hk
   split
   ·rename_i d2 l xF
    rw [xF] at Db Aq
    refine ⟨?_, rfl⟩
    have : SV p (N + 1) { x with ps := x.ps.set i.toNat { aJ x i with q := q1 }, ms := x.ms.set m.toNat (aC x m), gl := g1, d := d2 } :=
     h.go (i := i) m0 m1 i0 i1 _ (aC x m) g1 d2 (by simp) (fun pr hp => by have := W9 pr hp; exact ⟨this.1, by omega⟩) (fun j hj => Si j) (.inr ⟨hi, by
      rw [Si]
      have := h.gH m.toNat (aC x m) nu (by rw [hi]; omega)
      rw [hi] at this
      show (aJ x i).gH = m
      rw [this]; omega⟩) (.inl hi) II (fun a => by have := Z4 a; rw [ev1] at this; simp only [List.count_nil] at this; exact congrArg (· + (dB (aC x m).g).count a) this) (by dsimp only at Db; omega) Aq
    rw [eW _ _ _ nu] at this
    exact this
   ·rename_i d2 v xF
    rw [xF] at Db Aq
    have hvr := nv hk xF
    have Yc : mH x.c.P = x.c.P := by unfold mH; rw [if_neg (by omega)]
    rw [Yc] at hvr
    dsimp only at Db Aq ⊢
    split
    ·exact h.bL (g := -1) m0 m1 hi i0 i1 hg (by simp) W9 Si (fun a => by have := Z4 a; rw [ev1] at this; exact this) (fun e => by cases e) (fun _ => rfl) (by omega) Aq
    ·rename_i W7
     have hne : v.toNat ≠ i.toNat := by omega
     have epi : aJ { x with ps := x.ps.set i.toNat { aJ x i with q := q1 }, gl := g1, d := d2 } i = { aJ x i with q := q1 } := eC (by omega)
     have epv : aJ { x with ps := x.ps.set i.toNat { aJ x i with q := q1 }, gl := g1, d := d2 } v = aJ x v := getD_set_ne hne
     have Pw := DY (x := x) (i := v) hvr.1 (by omega)
     have hvm := List.mem_of_getElem? Pw
     have PF := h.qpos hvm
     have Xa := h.room _ hvm
     have hst := Lr q1 (aJ x v).q PF o1.1
     have hsb := O9 o1 Xa
     have hsp := Ls (x := q1) PF o1.1
     rw [epi, epv]
     dsimp only
     generalize q1.cR (aJ x v).q = s at hst hsb hsp
     obtain ⟨s1, s2, s3⟩ := s
     dsimp only at hst hsb hsp ⊢
     have hz : Sc.cT (Sc.cT { x with ps := x.ps.set i.toNat { aJ x i with q := q1 }, gl := g1, d := d2 } i { aJ x i with q := s1 }) v { aJ x v with q := s2 } = { x with ps := (x.ps.set i.toNat { aJ x i with q := s1 }).set v.toNat { aJ x v with q := s2 }, gl := g1, d := d2 } := by
      unfold Sc.cT
      dsimp only
      rw [List.set_set]
     rw [hz]
     refine h.bL (g := s3) m0 m1 hi i0 i1 hg (by simp) (fun pr hp => ?_) (fun j => ?_) (fun a => ?_) (fun e => ?_) (fun e => ?_) (by omega) Aq
     ·rcases List.mem_or_eq_of_mem_set hp with hp | rfl
      ·rcases List.mem_or_eq_of_mem_set hp with hp | rfl
       ·exact ⟨h.room pr hp, h.gd pr hp⟩
       ·exact ⟨hsb.1, ht⟩
      ·exact ⟨hsb.2, h.gd (aJ x v) hvm⟩
     ·by_cases e : j = v.toNat
      ·subst e
       rw [eC (by simp; omega)]
       rfl
      ·rw [getD_set_ne e]
       by_cases e2 : j = i.toNat
       ·subst e2
        rw [eC (by omega)]
        rfl
       ·rw [getD_set_ne e2]
     ·have a1 := zN { aJ x i with q := s1 } a
      have a2 := qF (ps := x.ps.set i.toNat { aJ x i with q := s1 }) (a := a) (Tu := { aJ x v with q := s2 }) (j := v.toNat) (pr := aJ x v) (by rw [List.getElem?_set_ne (Ne.symm hne)]; exact Pw)
      have a3 := hst a
      have a4 := o2 a
      rw [ev1] at a4
      simp only [List.count_nil] at a4
      dsimp only at *
      omega
     ·unfold iX at e
      rcases hsp with ⟨e1, e2⟩ | ⟨_, e2⟩
      ·rw [e1] at e
       have h1 := PF.1
       simp at e
       omega
      ·exact e2
     ·unfold iX at e
      simp only [Bool.or_eq_false_iff, bne_eq_false_iff_eq] at e
      rw [e.1]; rfl
  ·rename_i hh
   exact h.bL (g := v1) m0 m1 hi i0 i1 hg (by simp) W9 Si Z4 o3 (fun e => by rw [o4 e]; rfl) (by omega) hk
end
section
variable {p : b6} {N : Nat} {x y z : Sc} {m i g a kind : Int}
theorem Sj {w : Wd} {k n : Int} (hp : fK p) (h : asks p w g = some (k, n)) : 1 ≤ n ∧ n < 1099511627776 := by
 unfold asks at h
 split at h
 ·split at h
  ·cases h
  ·rename_i ins hi
   have hio : ∃ f ∈ p.funcs, ins ∈ f := by
    unfold CA at hi
    split at hi
    ·cases hi
    ·rename_i code hc
     exact ⟨code, List.mem_of_getElem? hc, List.mem_of_getElem? hi⟩
   obtain ⟨f, hf, hm⟩ := hio
   have hok := (hp.code f hf).2.2 ins hm
   split at h
   ·rename_i e
    simp only [Option.some.injEq, Prod.mk.injEq] at h
    have := hok.2.2.2.2.2.2.2.2.2.2.2.2 e
    omega
   ·split at h
    ·split at h
     ·cases h
     ·rename_i hne
      simp only [Option.some.injEq, Prod.mk.injEq] at h
      have h1 : (enabled (aF p ins) w.aE).length ≤ (aF p ins).length := E4 _ _ _
      have h2 : (aF p ins).length ≤ p.cases.length := by
       unfold aF
       rw [List.length_take, List.length_drop]; omega
      have := hp.cs
      have h3 : 0 < (enabled (aF p ins) w.aE).length := by
       rcases hl : enabled (aF p ins) w.aE with _ | ⟨q, t⟩
       ·exact absurd hl hne
       ·simp
      omega
    ·cases h
 ·cases h
theorem CN : ∀ (l : List Int) (z : Sc), 0 ≤ (aC z m).p → (aC z m).p < z.ps.length → (∀ v ∈ l, 0 ≤ v) → (∀ pr ∈ z.ps, Qf pr.q) →
  (∀ a, lO (l.foldl (aN m) z).ps a + (l.foldl (aN m) z).gl.count a = lO z.ps a + z.gl.count a + l.count a) ∧
  (∀ pr ∈ (l.foldl (aN m) z).ps, Qf pr.q) ∧ (∀ j : Nat, ((l.foldl (aN m) z).ps.getD j tY).gH = (z.ps.getD j tY).gH ∧ ((l.foldl (aN m) z).ps.getD j tY).turns = (z.ps.getD j tY).turns)
 | [], z, _, _, _, hr => ⟨fun a => by simp, hr, fun j => ⟨rfl, rfl⟩⟩
 | r :: l, z, h0, h1, hv, hr => by
  have jC := DY (x := z) h0 h1
  have hps : (aN m z r).ps.length = z.ps.length := by simp [aN, Sc.cT]
  have nu : aC (aN m z r) m = aC z m := rfl
  have hrm := hr _ (List.mem_of_getElem? jC)
  have RB : ∀ pr ∈ (aN m z r).ps, Qf pr.q := fun pr hp => by
   rcases List.mem_or_eq_of_mem_set hp with hp | rfl
   ·exact hr pr hp
   ·exact O6 hrm _ _
  obtain ⟨a1, a2, a3⟩ := CN l (aN m z r) (by rw [nu]; exact h0) (by rw [nu, hps]; exact h1) (fun v hm => hv v (List.mem_cons_of_mem _ hm)) RB
  rw [List.foldl_cons]
  refine ⟨fun a => ?_, a2, fun j => ?_⟩
  ·have b1 := a1 a
   have b2 := Lp (aJ z (aC z m).p).q r (by have := hv r (by simp); omega) z.gl a
   have b3 := qF (a := a) (Tu := { aJ z (aC z m).p with q := ((aJ z (aC z m).p).q.ready r z.gl).1 }) jC
   have b4 : lO (aN m z r).ps a = lO (z.ps.set (aC z m).p.toNat { aJ z (aC z m).p with q := ((aJ z (aC z m).p).q.ready r z.gl).1 }) a := rfl
   have b5 : (aN m z r).gl = ((aJ z (aC z m).p).q.ready r z.gl).2.1 := rfl
   rw [b4, b5] at b1
   simp only [List.count_cons, List.count_nil] at *
   try dsimp only at *
   omega
  ·obtain ⟨c1, c2⟩ := a3 j
   rw [c1, c2]
   show ((z.ps.set (aC z m).p.toNat _).getD j tY).gH = _ ∧ ((z.ps.set (aC z m).p.toNat _).getD j tY).turns = _
   by_cases e : j = (aC z m).p.toNat
   ·subst e
    rw [eC (by omega)]
    exact ⟨rfl, rfl⟩
   ·rw [getD_set_ne e]
    exact ⟨rfl, rfl⟩
theorem Sk {w y : Wd} (hy : WV p y) (h : iy g w y) : y.ready.length ≤ 100 := by
 have h1 := qX (b := 1) y.gs.length y.ready (fun v hv => ⟨(h.2.2.1 v hv).1, (h.2.2.1 v hv).2.1⟩) (fun v => List.nodup_iff_count.1 h.1 v)
 have := hy.n2
 omega
theorem Xb {w y : Wd} (h : iy g w y) (h0 : 0 ≤ g) (hg : g < w.gs.length) : (At y a 1 ↔ (a = g ∧ (au y g).st = 1) ∨ a ∈ y.ready ∨ (a ≠ g ∧ At w a 1)) := by
 obtain ⟨_, a2, a3, a4, a5, a6⟩ := h
 constructor
 ·rintro ⟨b1, b2, b3⟩
  by_cases e : a = g
  ·exact .inl ⟨e, by rw [← e]; exact b3⟩
  ·by_cases er : a ∈ y.ready
   ·exact .inr (.inl er)
   ·refine .inr (.inr ⟨e, b1, ?_, by rw [← a4 a b1 e er]; exact b3⟩)
    by_cases hl : a < w.gs.length
    ·exact hl
    ·exact absurd (a6 a (by omega) b2) er
 ·rintro (⟨rfl, e⟩ | e | ⟨e, b1, b2, b3⟩)
  ·exact ⟨h0, by omega, e⟩
  ·exact ⟨(a3 a e).1, (a3 a e).2.1, (a3 a e).2.2.2⟩
  ·by_cases er : a ∈ y.ready
   ·exact ⟨(a3 a er).1, (a3 a er).2.1, (a3 a er).2.2.2⟩
   ·exact ⟨b1, by omega, by rw [a4 a b1 e er]; exact b3⟩
theorem SV.gk {d' : iD} {y : Wd} {rest : Bool} (h : SV p N x) (m0 : 0 ≤ m) (m1 : m < x.ms.length) (hp : (aC x m).p ≠ -1) (hg : 0 ≤ (aC x m).g) (hy : WV p y) (hr : iy (aC x m).g { x.w with ready := [] } y)
  (hd : d'.taken.length ≤ 3 * N + 3) (hk : d'.k.Ok) {d0 : iD} : ∃ z o, gk { x with d := d0 } m (aC x m).g d' y rest = some (z, o) ∧ SV p (N + 1) z ∧ z.steps = x.steps := by
 have nu := wU m0 m1
 have EU := List.mem_of_getElem? nu
 have II := h.ms _ EU
 have Tp := h.mg EU hg
 have hbd : 0 ≤ (aC x m).p ∧ (aC x m).p < x.ps.length ∧ 1 ≤ (aC x m).left ∧ (aC x m).left ≤ 1024 := by
  rcases II with e | e
  ·exact absurd e.1 hp
  ·have := e.2.2.2.2.2 hg; omega
 obtain ⟨i0, i1, l0, l1⟩ := hbd
 have kK := Sk hy hr
 have hglt : (aC x m).g < y.gs.length := by have := hr.2.2.2.2.1; have := Tp.2.1; dsimp only at *; omega
 unfold Proofs.gk
 rw [if_pos ⟨by omega, hglt⟩]
 have f1 := jv (m := m) y.ready { x with w := y, d := d' } i0 i1
 have f2 := CN (m := m) y.ready { x with w := y, d := d' } i0 i1 (fun v hv => (hr.2.2.1 v hv).1) h.room
 (try dsimp only at f1 f2 ⊢)
 generalize List.foldl (aN m) { x with w := y, d := d' } y.ready = z at f1 f2
 obtain ⟨z1, z2, z3, z4, z5, z6, _⟩ := f1
 obtain ⟨c1, c2, c3⟩ := f2
 have hran := fun a => Xb (a := a) hr hg Tp.2.1
 have Tx : ∀ a, a ∈ y.ready → ¬ At x.w a 1 ∧ a ≠ (aC x m).g ∧ y.ready.count a = 1 := fun a ha =>
  ⟨(hr.2.2.1 a ha).2.2.1, fun e => hr.2.1 (e ▸ ha), Nat.le_antisymm (List.nodup_iff_count.1 hr.1 a) (List.count_pos_iff.2 ha)⟩
 have turnz : ∀ pr ∈ z.ps, 0 ≤ pr.turns ∧ pr.turns ≤ N := fun pr jC => by
  obtain ⟨j, hj, e⟩ := List.getElem_of_mem jC
  have e2 : z.ps.getD j tY = pr := by rw [List.getD_eq_getElem?_getD, List.getElem?_eq_getElem hj, e]; rfl
  have Mg : j < x.ps.length := by omega
  have e3 : x.ps.getD j tY = x.ps[j] := by rw [List.getD_eq_getElem?_getD, List.getElem?_eq_getElem Mg]; rfl
  have := (c3 j).2
  rw [e2, e3] at this
  rw [this]
  exact h.gd _ (List.getElem_mem Mg)
 have done : ∀ (vo : CG) (LX : List Int), vo.p = (aC x m).p → 0 ≤ vo.left → vo.left ≤ 1024 → -1 ≤ vo.g → (0 ≤ vo.g → 1 ≤ vo.left) →
   (∀ a, LX.count a + (dB vo.g).count a = z.gl.count a + (if (au y (aC x m).g).st = 1 then [(aC x m).g].count a else 0)) →
   SV p (N + 1) { z with ms := z.ms.set m.toNat vo, gl := LX } := by
  intro vo LX e1 e2 e3 e4 e5 e6
  have hS : ∀ a, lG { z with ms := z.ms.set m.toNat vo, gl := LX } a + [(aC x m).g].count a = lG x a + y.ready.count a + (if (au y (aC x m).g).st = 1 then [(aC x m).g].count a else 0) := fun a => by
   have q1 := Ax (a := a) (vo := vo) nu
   have q2 := c1 a
   have q3 := e6 a
   rw [iT hg] at q1
   unfold lG
   (try dsimp only)
   rw [z1]
   (try dsimp only at q2)
   omega
  have hwz : z.w = y := z3
  refine ⟨by (try dsimp only); rw [hwz]; exact hy, fun a ha => ?_, fun a ha => ?_, by (try dsimp only); rw [z5, z2]; exact h.cP, by (try dsimp only); rw [z5, z1]; simpa using h.cM, by (try dsimp only); rw [z2]; exact h.P1, by (try dsimp only); rw [z1]; simpa using h.M1, by (try dsimp only); rw [z5]; exact h.cS, c2, fun pr jC => by have := turnz pr jC; omega, fun mc PG => ?_, fun j mc hj hne => ?_, by have := h.st; (try dsimp only); rw [z6]; (try dsimp only); omega, by (try dsimp only); rw [z4]; (try dsimp only); omega, by (try dsimp only); rw [z4]; exact hk⟩
  ·(try dsimp only at ha)
   rw [hwz] at ha
   have hs := hS a
   rcases (hran a).1 ha with ⟨e, es⟩ | e | ⟨e, ew⟩
   ·subst e
    have n1 : y.ready.count (aC x m).g = 0 := List.count_eq_zero.2 hr.2.1
    have n2 := h.one _ Tp
    rw [if_pos es] at hs
    omega
   ·obtain ⟨w1, w2, w3⟩ := Tx a e
    have n2 := h.zero a w1
    have n3 : [(aC x m).g].count a = 0 := List.count_eq_zero.2 (by simpa using w2)
    rw [n3] at hs
    have : (if (au y (aC x m).g).st = 1 then 0 else 0) = 0 := by split <;> rfl
    omega
   ·have n3 : [(aC x m).g].count a = 0 := List.count_eq_zero.2 (by simpa using e)
    have n2 := h.one a ew
    have n1 : y.ready.count a = 0 := List.count_eq_zero.2 (fun e2 => (Tx a e2).1 ew)
    rw [n3] at hs
    have : (if (au y (aC x m).g).st = 1 then 0 else 0) = 0 := by split <;> rfl
    omega
  ·(try dsimp only at ha)
   rw [hwz] at ha
   have hs := hS a
   have hn := fun e => ha ((hran a).2 e)
   by_cases e : a = (aC x m).g
   ·subst e
    have n1 : y.ready.count (aC x m).g = 0 := List.count_eq_zero.2 hr.2.1
    have n2 := h.one _ Tp
    have n3 : [(aC x m).g].count (aC x m).g = 1 := by simp
    rw [if_neg (fun es => hn (.inl ⟨rfl, es⟩))] at hs
    omega
   ·have n3 : [(aC x m).g].count a = 0 := List.count_eq_zero.2 (by simpa using e)
    have n2 := h.zero a (fun ew => hn (.inr (.inr ⟨e, ew⟩)))
    have n1 : y.ready.count a = 0 := List.count_eq_zero.2 (fun e2 => hn (.inr (.inl e2)))
    rw [n3] at hs
    have : (if (au y (aC x m).g).st = 1 then 0 else 0) = 0 := by split <;> rfl
    omega
  ·(try dsimp only at PG ⊢)
   rw [z2]
   rw [z1] at PG
   rcases jB PG with PG | rfl
   ·exact h.ms mc PG
   ·exact .inr ⟨by omega, by (try dsimp only); omega, e4, e2, e3, e5⟩
  ·(try dsimp only at hj)
   rw [z1] at hj
   show (z.ps.getD mc.p.toNat tY).gH = _
   rw [(c3 _).1]
   by_cases e : j = m.toNat
   ·subst e
    rw [List.getElem?_set_self (by (try dsimp only); omega)] at hj
    simp only [Option.some.injEq] at hj
    subst hj
    rw [e1]
    exact h.gH m.toNat _ nu hp
   ·rw [List.getElem?_set_ne (Ne.symm e)] at hj
    exact h.gH j mc hj hne
 have hzm : aC z m = aC x m := by unfold aC; rw [z1]
 have hzs : z.steps = x.steps := z6
 unfold Sc.ju
 rw [hzm]
 split
 ·rename_i hkp
  refine ⟨_, _, rfl, ?_, hzs⟩
  have hst : (au y (aC x m).g).st = 1 := by
   have := hkp.1
   unfold gX at this
   simp only [Bool.and_eq_true, beq_iff_eq] at this
   exact this.2
  exact done { aC x m with left := (aC x m).left - 1 } z.gl rfl (by (try dsimp only); omega) (by (try dsimp only); omega) (by (try dsimp only); omega) (fun _ => by (try dsimp only); omega) (fun a => by rw [if_pos hst]; (try dsimp only); rw [iT hg])
 ·refine ⟨_, _, rfl, ?_, hzs⟩
  refine done { aC x m with left := (aC x m).left - 1, g := -1 } _ rfl (by (try dsimp only); omega) (by (try dsimp only); omega) (by (try dsimp only); omega) (fun e => by (try dsimp only at e); omega) (fun a => ?_)
  have e1 : dB (-1) = [] := rfl
  (try dsimp only)
  rw [e1, z3]
  split
  ·rw [List.count_append]; simp
  ·simp
end
section
variable {p : b6} {N : Nat} {x y z : Sc} {m i g a kind : Int}
theorem SV.PI (h : SV p N x) {r : List Int} {d' : iD} (hd : d'.taken.length ≤ 3 * N + 3) (hk : d'.k.Ok) : SV p (N + 1) { x with w := { x.w with ready := r }, d := d' } :=
 ⟨h.w.ready, h.one, h.zero, h.cP, h.cM, h.P1, h.M1, h.cS, h.room, fun pr hp => by have := h.gd pr hp; omega, h.ms, h.gH, by have := h.st; dsimp only; omega, by dsimp only; omega, hk⟩
theorem SV.run {d' : iD} (h : SV p N x) (hp : fK p) (m0 : 0 ≤ m) (m1 : m < x.ms.length) (hmp : (aC x m).p ≠ -1) (hg : (aC x m).g ≠ -1) (hN : N ≤ 1000000) (hd : d'.taken.length ≤ 3 * N + 1) (hk : d'.k.Ok) :
  ∃ z o, Sc.run p { x with d := d' } m = some (z, o) ∧ SV p (N + 1) z ∧ z.steps = x.steps := by
 have nu := wU m0 m1
 have EU := List.mem_of_getElem? nu
 have II := h.ms _ EU
 have hbd : 0 ≤ (aC x m).p ∧ (aC x m).p < x.ps.length ∧ 0 ≤ (aC x m).g ∧ 1 ≤ (aC x m).left ∧ (aC x m).left ≤ 1024 := by
  rcases II with e | e
  ·exact absurd e.1 hmp
  ·have := e.2.2.2.2.2; omega
 obtain ⟨i0, i1, g0, l0, l1⟩ := hbd
 have Tp := h.mg EU g0
 unfold Sc.run
 have em : aC { x with d := d' } m = aC x m := rfl
 rw [em]
 rw [if_pos (show wR p { x with d := d' } m from ⟨m0, m1, i0, i1, by have := h.PE; dsimp only; omega, by dsimp only; omega, l0, by show (aC x m).left < 1000000000; omega, g0⟩)]
 dsimp only
 generalize vb : asks p { x.w with ready := [] } (aC x m).g = ak
 have hbk : ∀ k n, ak = some (k, n) → 1 ≤ n ∧ n < 1099511627776 := fun k n e => Sj hp (by rw [vb]; exact e)
 rw [if_pos (show Tw ak = true from by
  cases ak with
  | none => rfl
  | some kn => obtain ⟨k, n⟩ := kn; have := hbk k n rfl; exact decide_eq_true (by omega))]
 have vA : ∀ d2 dr, bR d' ak = (d2, dr) → d2.k.Ok ∧ d2.taken.length ≤ 3 * N + 2 ∧ (∀ v kd n, dr = .num v → ak = some (kd, n) → 0 ≤ v ∧ v < n) := by
  intro d2 dr e
  cases ak with
  | none =>
   unfold bR at e
   cases e
   exact ⟨hk, by omega, fun v kd n _ e => by cases e⟩
  | some kn =>
   obtain ⟨k, n⟩ := kn
   unfold bR at e
   dsimp only at e
   have a1 := mq (kind := k) (n := n) hk
   have a2 := Ay (k := k) (n := n) hk
   rw [e] at a1 a2
   dsimp only at a1 a2
   refine ⟨a1, by omega, fun v kd n' e1 e2 => ?_⟩
   subst e1
   cases e2
   have := nv hk e
   have hb := hbk _ _ rfl
   rw [show mH n = n from by unfold mH; rw [if_neg (by omega)]] at this
   exact ⟨this.1, this.2.1⟩
 generalize xF : bR d' ak = dd at vA
 obtain ⟨d2, dr⟩ := dd
 obtain ⟨k2, t2, v2⟩ := vA d2 dr rfl
 dsimp only
 obtain ⟨r, rest, hex, hres⟩ := Pt (d := dr) h.w hp g0 (fun v kd n e1 e2 => v2 v kd n e1 (by rw [← vb]; exact e2))
 rw [hex]
 rcases hres with ⟨hres, _⟩ | ⟨l, e1, e2, _⟩
 ·cases r with
  | on y => exact h.gk m0 m1 hmp g0 hres.1 hres.2 (by omega) k2
  | eR n y => exact h.gk (y := { y with end_ := 2, code := n }) m0 m1 hmp g0 (hres.1.fin (e := 2) (c := n)) (hres.2.LN rfl rfl fun _ _ _ => rfl) (by omega) k2
  | cO l y => exact hres.elim
 ·subst e2
  exact ⟨_, _, rfl, h.PI (by omega) k2, rfl⟩
theorem SV.step (h : SV p N x) (hp : fK p) (hN : N ≤ 1000000) : ∃ y o, x.step p = some (y, o) ∧ SV p (N + 1) y := by
 have hst := h.st
 have W5 := h.tk
 have hM := h.cM
 have hM1 := h.M1
 have hP1 := h.P1
 unfold Sc.step
 rw [if_pos (show vl x from ⟨by have := h.w.n2; omega, hM, by omega, by omega, by omega, hst.1, by omega⟩)]
 split
 ·exact ⟨_, _, rfl, h.mono (by omega)⟩
 ·rename_i hs
  have Db := Ay (k := 1) (n := x.c.M + 1) h.k
  have Aq := mq (kind := 1) (n := x.c.M + 1) h.k
  split
  ·rename_i d' l xF
   rw [xF] at Db Aq
   dsimp only at Db Aq
   exact ⟨_, _, rfl, h.draw (by omega) Aq⟩
  ·rename_i d' m xF
   rw [xF] at Db Aq
   dsimp only at Db Aq
   have hv := nv h.k xF
   rw [show mH (x.c.M + 1) = x.c.M + 1 from by unfold mH; rw [if_neg (by omega)]] at hv
   obtain ⟨m0, mM, _⟩ := hv
   have fin : ∀ z o, SV p (N + 1) z → z.steps = x.steps → ∃ y o', Option.map DW (some (z, o)) = some (y, o') ∧ SV p (N + 1) y := fun z o hz hzs => by
    cases o with
    | ev e => exact ⟨_, _, rfl, hz.inc (by rw [hzs]; exact hst)⟩
    | cO l => exact ⟨_, _, rfl, hz⟩
   unfold Sc.act
   dsimp only
   split
   ·obtain ⟨t1, t2, t3⟩ := h.tick (d' := d') (by omega) Aq
    rw [if_pos t1]
    exact fin _ _ t2 t3
   ·rename_i hmM
    have m1 : m < x.ms.length := by omega
    have em : aC { x with d := d' } m = aC x m := rfl
    rw [em]
    split
    ·rename_i hmp
     obtain ⟨t2, t3⟩ := h.hold (d' := d') m0 m1 hmp (by omega) Aq
     exact fin _ _ t2 t3
    ·rename_i hmp
     split
     ·rename_i hmg
      obtain ⟨t1, t2, t3⟩ := h.find (d' := d') m0 m1 hmp hmg (by omega) (by omega) Aq
      rw [if_pos t1]
      exact fin _ _ t2 t3
     ·rename_i hmg
      obtain ⟨z, o, t1, t2, t3⟩ := h.run (d' := d') hp m0 m1 hmp hmg hN (by omega) Aq
      rw [t1]
      exact fin _ _ t2 t3
theorem SV.new {c : Gp} {d : iD} (hp : fK p) (hP : 1 ≤ c.P ∧ c.P ≤ 64) (hM : 1 ≤ c.M ∧ c.M ≤ 64) (hS : 1 ≤ c.S ∧ c.S ≤ 1024) (hd : d.taken = []) (hk : d.k.Ok) : SV p 0 (Sc.new p c d) := by
 have hw := WZ hp
 have hA : ∀ a, At (Wd.new p) a 1 ↔ a = 0 := fun a => by
  constructor
  ·rintro ⟨b1, b2, _⟩
   simp [Wd.new] at b2
   omega
  ·rintro rfl
   exact ⟨by decide, by simp [Wd.new], rfl⟩
 have hQ : ∀ a, lO (List.replicate c.P.toNat ⟨⟨-1, eZ c.R, []⟩, 0, -1⟩) a = 0 := fun a => by
  unfold lO
  rw [List.count_eq_zero]
  intro hm
  obtain ⟨q, hq, h2⟩ := List.mem_flatMap.1 hm
  obtain ⟨pr, jC, rfl⟩ := List.mem_map.1 hq
  rw [List.eq_of_mem_replicate jC] at h2
  simp [Loc.all] at h2
 have hMm : ∀ a, DX (List.replicate c.M.toNat ⟨-1, -1, 0⟩) a = 0 := fun a => by
  unfold DX
  rw [List.count_eq_zero]
  intro hm
  obtain ⟨q, hq, h2⟩ := List.mem_flatMap.1 hm
  rw [List.eq_of_mem_replicate hq] at h2
  simp [dB] at h2
 have hC : ∀ a, lG (Sc.new p c d) a = [(0 : Int)].count a := fun a => by
  unfold lG Sc.new
  dsimp only
  rw [hQ, hMm]; omega
 have cap := JI c.R
 refine ⟨hw, fun a ha => ?_, fun a ha => ?_, by simp [Sc.new]; omega, by simp [Sc.new]; omega, by simp [Sc.new]; omega, by simp [Sc.new]; omega, hS, fun pr jC => ?_, fun pr jC => ?_, fun mc nu => ?_, fun j mc hj hne => ?_, by simp [Sc.new], by simp [Sc.new, hd], hk⟩
 ·rw [hC, (hA a).1 ha]; rfl
 ·rw [hC]
  exact List.count_eq_zero.2 (fun e => ha ((hA a).2 (by simpa using e)))
 ·rw [List.eq_of_mem_replicate jC]
  exact ⟨by simp, cap.2, cap.1⟩
 ·rw [List.eq_of_mem_replicate jC]
  simp
 ·rw [List.eq_of_mem_replicate nu]
  exact .inl ⟨rfl, rfl, rfl⟩
 ·have := List.eq_of_mem_replicate (List.mem_of_getElem? hj)
  rw [this] at hne
  exact absurd rfl hne
end
def tp (F : List (Int × Int)) (d : iD) : iD := ⟨.tape F d.taken.length, d.taken⟩
def Sc.bK (x : Sc) (F : List (Int × Int)) : Sc := { x with d := tp F x.d }
def fy.AN : fy → Prop
 | .vB _ _ => True
 | .tape _ _ => False
def iD.AN (d : iD) : Prop := d.k.AN ∧ ∀ v ∈ d.taken, 0 ≤ v.2 ∧ v.2 < 18446744073709551616
section
variable {F : List (Int × Int)} {d d1 : iD} {kind n v : Int} {l : List PanicEntry} {p : b6} {x y z : Sc} {o : lF} {m : Int}
theorem Xc {α : Type} {a F : List α} {b : α} (h : a ++ [b] <+: F) : F[a.length]? = some b := by
 obtain ⟨t, rfl⟩ := h
 simp
theorem D0 (h : d.AN) (ok : d.k.Ok) (e : d.draw kind n = (d1, .num v)) : d1.taken = d.taken ++ [(kind, v)] ∧ d1.AN := by
 obtain ⟨k, tk⟩ := d
 cases k with
 | tape l i => exact h.1.elim
 | vB l i =>
  unfold iD.draw fy.next at e
  dsimp only at e
  cases hl : l[i]? with
  | none => rw [hl] at e; cases e
  | some w =>
   rw [hl] at e; cases e
   refine ⟨rfl, trivial, fun u hu => ?_⟩
   rcases List.mem_append.1 hu with hu | hu
   ·exact h.2 u hu
   ·rw [List.mem_singleton.1 hu]
    have hw := ok.2.2 w (List.mem_of_getElem? hl)
    have hm := vk n
    obtain ⟨a, rfl⟩ := Int.eq_ofNat_of_zero_le hw.1
    obtain ⟨b, hb⟩ := Int.eq_ofNat_of_zero_le (show 0 ≤ mH n by omega)
    rw [hb, Go.AF.mS]
    have := Nat.mod_le a b
    dsimp only
    omega
theorem yE (h : d.AN) (e : d.draw kind n = (d1, .cO l)) : d1 = d ∧ l = DU := by
 obtain ⟨k, tk⟩ := d
 cases k with
 | tape l i => exact h.1.elim
 | vB l i =>
  unfold iD.draw fy.next at e
  dsimp only at e
  cases hl : l[i]? with
  | none => rw [hl] at e; cases e; exact ⟨rfl, rfl⟩
  | some w => rw [hl] at e; cases e
theorem Az (h : d.AN) (ok : d.k.Ok) (e : d.draw kind n = (d1, .num v)) (hp : d1.taken <+: F) : (tp F d).draw kind n = (tp F d1, .num v) := by
 obtain ⟨h1, h2⟩ := D0 h ok e
 have hv := (nv ok e).2.1
 rw [h1] at hp
 have hF := Xc hp
 unfold tp iD.draw fy.next
 dsimp only
 rw [hF]
 dsimp only
 rw [if_neg (fun hne => hne rfl), if_neg (by omega)]
 simp [h1]
theorem IJ (h : d.AN) (e : d.draw kind n = (d1, .cO l)) (hp : d1.taken = F) : (tp F d).draw kind n = (tp F d1, .cO l) := by
 obtain ⟨rfl, rfl⟩ := yE h e
 subst hp
 unfold tp iD.draw fy.next
 simp
theorem ask_o {a : Option (Int × Int)} (h : d.AN) (ok : d.k.Ok) : d.taken <+: (bR d a).1.taken ∧ (bR d a).1.AN ∧ (∀ v, (bR d a).2 = .num v → (bR d a).1.taken <+: F → bR (tp F d) a = (tp F (bR d a).1, .num v)) ∧ (∀ l, (bR d a).2 = .cO l → (bR d a).1.taken = F → bR (tp F d) a = (tp F (bR d a).1, .cO l)) := by
 cases a with
 | none => exact ⟨List.prefix_refl _, h, fun v e _ => by cases e; rfl, fun l e => by cases e⟩
 | some q =>
  obtain ⟨k, n⟩ := q
  unfold bR
  dsimp only
  cases hd : d.draw k n with
  | mk d1 r =>
   cases r with
   | num v =>
    obtain ⟨h1, h2⟩ := D0 h ok hd
    refine ⟨by rw [h1]; exact List.prefix_append _ _, h2, fun w e hp => ?_, fun l e => by cases e⟩
    cases e
    exact Az h ok hd hp
   | cO l =>
    obtain ⟨h1, h2⟩ := yE h hd
    refine ⟨by rw [h1]; exact List.prefix_refl _, by rw [h1]; exact h, fun w e => (by cases e), fun w e hp => ?_⟩
    cases e
    exact IJ h hd hp
theorem Xd (e : iD) : Sc.hold { x with d := e } m = ({ (x.hold m).1 with d := e }, (x.hold m).2) := by
 unfold Sc.hold
 dsimp only
 split <;> rfl
theorem CO {i k g : Int} {t : Bool} (e : iD) : Sc.bL { x with d := e } m i k g t = ({ (x.bL m i k g t).1 with d := e }, (x.bL m i k g t).2) := by
 unfold Sc.bL
 split <;> rfl
def oA (y : Sc) (m i v : Int) : Sc × Ev :=
 ((y.cT i { aJ y i with q := ((aJ y i).q.cR (aJ y v).q).1 }).cT v { aJ y v with q := ((aJ y i).q.cR (aJ y v).q).2.1 }).bL m i 5 ((aJ y i).q.cR (aJ y v).q).2.2 (iX (aJ y v).q ((aJ y i).q.cR (aJ y v).q).2.2)
theorem J1 {i v : Int} (e : iD) : oA { x with d := e } m i v = ({ (oA x m i v).1 with d := e }, (oA x m i v).2) :=
 CO (x := (x.cT i { aJ x i with q := ((aJ x i).q.cR (aJ x v).q).1 }).cT v { aJ x v with q := ((aJ x i).q.cR (aJ x v).q).2.1 }) e
theorem IK (e : iD) : ∀ (r : List Int) (x : Sc), r.foldl (aN m) { x with d := e } = { r.foldl (aN m) x with d := e }
 | [], x => rfl
 | a :: r, x => by
  rw [List.foldl_cons, List.foldl_cons]
  have : aN m { x with d := e } a = { aN m x a with d := e } := rfl
  rw [this, IK e r]
theorem AA {g : Int} {kp : Bool} {r : List Int} (e : iD) : Sc.ju { x with d := e } m g kp r = ({ (x.ju m g kp r).1 with d := e }, (x.ju m g kp r).2) := by
 unfold Sc.ju
 have em : aC { x with d := e } m = aC x m := rfl
 rw [em]
 by_cases hc : kp = true ∧ (aC x m).left - 1 ≠ 0
 ·rw [if_pos hc, if_pos hc]; rfl
 ·rw [if_neg hc, if_neg hc]; rfl
theorem J2 {g : Int} {w : Wd} {rest : Bool} {e0 e1 e2 : iD} (h : gk { x with d := e0 } m g d w rest = some (y, o)) : gk { x with d := e1 } m g e2 w rest = some ({ y with d := e2 }, o) ∧ y.d = d ∧ ∃ e, o = .ev e := by
 unfold gk at h ⊢
 split at h
 ·rename_i hc
  rw [if_pos hc]
  simp only [Option.some.injEq, Prod.mk.injEq] at h
  obtain ⟨rfl, rfl⟩ := h
  have f1 : w.ready.foldl (aN m) { x with w := w, d := d } = { w.ready.foldl (aN m) { x with w := w } with d := d } := IK d w.ready { x with w := w }
  have f2 : w.ready.foldl (aN m) { x with w := w, d := e2 } = { w.ready.foldl (aN m) { x with w := w } with d := e2 } := IK e2 w.ready { x with w := w }
  dsimp only
  rw [f1, f2]
  generalize w.ready.foldl (aN m) { x with w := w } = z
  refine ⟨?_, ?_, _, rfl⟩
  ·rw [AA (x := z) e2, AA (x := z) d]
  ·rw [AA]
 ·cases h
theorem Xe (h : x.d.AN) (ok : x.d.k.Ok) (he : x.find m = (y, o)) : x.d.taken <+: y.d.taken ∧ y.d.AN ∧ (y.d.taken <+: F → (∀ l, o = .cO l → y.d.taken = F) → Sc.find (x.bK F) m = (y.bK F, o)) := by
 unfold Sc.find at he
 unfold Sc.find Sc.bK
 dsimp only at he ⊢
 have em : aC { x with d := tp F x.d } m = aC x m := rfl
 have ep : ∀ i, aJ { x with d := tp F x.d } i = aJ x i := fun i => rfl
 have eo : ∀ i, Sc.own { x with d := tp F x.d } i = ({ (x.own i).1 with d := tp F x.d }, (x.own i).2) := fun i => rfl
 rw [em, ep, eo]
 split at he
 ·rename_i hc
  rw [if_pos hc]
  cases he
  exact ⟨List.prefix_refl _, h, fun _ _ => rfl⟩
 ·rename_i hc
  rw [if_neg hc]
  have hd : (x.own (aC x m).p).1.d = x.d := rfl
  split at he
  ·rename_i xS
   rw [if_pos xS]
   rw [hd] at he
   cases vA : x.d.draw 2 x.c.P with
   | mk d1 r =>
    rw [vA] at he
    cases r with
    | cO l =>
     dsimp only at he
     cases he
     obtain ⟨h1, h2⟩ := yE h vA
     refine ⟨by dsimp only; rw [h1]; exact List.prefix_refl _, by dsimp only; rw [h1]; exact h, fun hp hl => ?_⟩
     dsimp only
     rw [IJ h vA (hl l rfl)]
    | num v =>
     obtain ⟨h1, h2⟩ := D0 h ok vA
     dsimp only at he
     split at he
     ·rename_i hv
      cases he
      rw [nw]
      refine ⟨by dsimp only; rw [h1]; exact List.prefix_append _ _, h2, fun hp _ => ?_⟩
      dsimp only
      rw [Az h ok vA hp]
      dsimp only
      rw [if_pos hv]
      all_goals rfl
     ·rename_i hv
      cases he
      rw [nw]
      refine ⟨by show x.d.taken <+: d1.taken; rw [h1]; exact List.prefix_append _ _, h2, fun hp _ => ?_⟩
      dsimp only
      rw [Az h ok vA hp]
      dsimp only
      rw [if_neg hv]
      show (((oA { (x.own (aC x m).p).1 with d := tp F d1 } m (aC x m).p v).1, lF.ev (oA { (x.own (aC x m).p).1 with d := tp F d1 } m (aC x m).p v).2) : Sc × lF) = ({ (oA { (x.own (aC x m).p).1 with d := d1 } m (aC x m).p v).1 with d := tp F d1 }, lF.ev (oA { (x.own (aC x m).p).1 with d := d1 } m (aC x m).p v).2)
      rw [J1 (x := (x.own (aC x m).p).1) (tp F d1), J1 (x := (x.own (aC x m).p).1) d1]
  ·rename_i xS
   rw [if_neg xS]
   cases he
   rw [nw]
   refine ⟨List.prefix_refl _, h, fun _ _ => ?_⟩
   rw [CO]
   all_goals rfl
theorem CP {q : Int × Int} {g : Int} {w : Wd} {r : Out Wd} {rest : Bool} (ha : asks p { w with ready := [] } g = some q) (he : oJ p w g (.cO l) = some (r, rest)) : ∃ y, r = .cO l y := by
 unfold asks at ha
 split at ha
 ·rename_i LJ
  split at ha
  ·cases ha
  ·rename_i i Aj
   unfold CA at Aj
   unfold oJ at he
   dsimp only at he Aj
   rw [if_pos LJ] at he
   split at he
   ·cases hf : p.funcs[(au { w with ready := [] } g).top.fn.toNat]? with
    | none => rw [hf] at Aj; cases Aj
    | some code =>
     rw [hf] at Aj he
     dsimp only at Aj he
     rw [Aj] at he
     dsimp only at he
     split at ha
     ·rename_i WN
      rw [if_neg (by omega), if_neg (by omega), if_pos WN] at he
      split at he
      ·split at he
       ·cases he; exact ⟨_, rfl⟩
       ·cases he
      ·cases he
     ·split at ha
      ·rename_i tI
       split at ha
       ·cases ha
       ·rename_i hen
        rw [if_neg (by omega), if_pos tI] at he
        split at he
        ·split at he
         ·have e : ∃ y, Wd.choose p { w with ready := [] } g i (.cO l) = .cO l y := by
           unfold Wd.choose
           rw [if_neg hen]
           exact ⟨_, rfl⟩
          obtain ⟨y, e⟩ := e
          rw [e] at he
          cases he
          exact ⟨_, rfl⟩
         ·cases he
        ·cases he
      ·cases ha
   ·cases he
 ·cases ha
theorem J3 {a : Option (Int × Int)} (e : (bR d a).2 = .cO l) : ∃ q, a = some q := by
 cases a with
 | none => cases e
 | some q => exact ⟨q, rfl⟩
theorem run_o (h : x.d.AN) (ok : x.d.k.Ok) (he : x.run p m = some (y, o)) : x.d.taken <+: y.d.taken ∧ y.d.AN ∧ (y.d.taken <+: F → (∀ l, o = .cO l → y.d.taken = F) → Sc.run p (x.bK F) m = some (y.bK F, o)) := by
 unfold Sc.run at he
 split at he
 ·rename_i hpre
  split at he
  ·rename_i vb
   obtain ⟨a1, a2, a3, a4⟩ := ask_o (F := F) (a := asks p { x.w with ready := [] } (aC x m).g) h ok
   have F3 : wR p (x.bK F) m := hpre
   have em : aC (x.bK F) m = aC x m := rfl
   have ew : (x.bK F).w = x.w := rfl
   have ed : (x.bK F).d = tp F x.d := rfl
   have key : ∀ r, (bR x.d (asks p { x.w with ready := [] } (aC x m).g)).2 = r → bR (tp F x.d) (asks p { x.w with ready := [] } (aC x m).g) = (tp F (bR x.d (asks p { x.w with ready := [] } (aC x m).g)).1, r) →
     Sc.run p (x.bK F) m = match oJ p x.w (aC x m).g r with
      | none => none
      | some (.cO l y, _) => some ({ x.bK F with w := y, d := tp F (bR x.d (asks p { x.w with ready := [] } (aC x m).g)).1 }, .cO (wQ l))
      | some (.on y, rest) => gk (x.bK F) m (aC x m).g (tp F (bR x.d (asks p { x.w with ready := [] } (aC x m).g)).1) y rest
      | some (.eR n y, rest) => gk (x.bK F) m (aC x m).g (tp F (bR x.d (asks p { x.w with ready := [] } (aC x m).g)).1) { y with end_ := 2, code := n } rest := by
    intro r _ e2
    unfold Sc.run
    rw [if_pos F3, em, ew, if_pos vb, ed, e2]
    all_goals rfl
   generalize hr : (bR x.d (asks p { x.w with ready := [] } (aC x m).g)).2 = r at he a3 a4
   generalize hd1 : (bR x.d (asks p { x.w with ready := [] } (aC x m).g)).1 = d1 at he a1 a2 a3 a4 key
   have both : d1.taken <+: F → (∀ l, r = .cO l → d1.taken = F) → bR (tp F x.d) (asks p { x.w with ready := [] } (aC x m).g) = (tp F d1, r) := fun hp hl => by
    cases r with
    | num v => exact a3 v rfl hp
    | cO l => exact a4 l rfl (hl l rfl)
   split at he
   ·cases he
   ·rename_i l' w rest hex
    cases he
    refine ⟨a1, a2, fun hp hl => ?_⟩
    rw [key r hr (both hp fun l _ => hl _ rfl), hex]
    all_goals rfl
   ·rename_i w rest hex
    have GG := J2 (e0 := x.d) (e1 := tp F x.d) (e2 := tp F d1) (x := x) he
    obtain ⟨o1, o2, e, o3⟩ := GG
    rw [o2]
    refine ⟨a1, a2, fun hp hl => ?_⟩
    have XW : ∀ l, r = .cO l → d1.taken = F := fun l jD => by
     rw [jD] at hex
     obtain ⟨q, hq⟩ := J3 (hr.trans jD)
     obtain ⟨y', hy'⟩ := CP hq hex
     cases hy'
    rw [key r hr (both hp XW), hex]
    dsimp only
    unfold Sc.bK
    rw [o2]
    exact o1
   ·rename_i n w rest hex
    have GG := J2 (e0 := x.d) (e1 := tp F x.d) (e2 := tp F d1) (x := x) he
    obtain ⟨o1, o2, e, o3⟩ := GG
    rw [o2]
    refine ⟨a1, a2, fun hp hl => ?_⟩
    have XW : ∀ l, r = .cO l → d1.taken = F := fun l jD => by
     rw [jD] at hex
     obtain ⟨q, hq⟩ := J3 (hr.trans jD)
     obtain ⟨y', hy'⟩ := CP hq hex
     cases hy'
    rw [key r hr (both hp XW), hex]
    dsimp only
    unfold Sc.bK
    rw [o2]
    exact o1
  ·cases he
 ·cases he
theorem act_o (h : x.d.AN) (ok : x.d.k.Ok) (he : x.act p m = some (y, o)) : x.d.taken <+: y.d.taken ∧ y.d.AN ∧ (y.d.taken <+: F → (∀ l, o = .cO l → y.d.taken = F) → Sc.act p (x.bK F) m = some (y.bK F, o)) := by
 unfold Sc.act at he
 have em : aC (x.bK F) m = aC x m := rfl
 have ec : (x.bK F).c = x.c := rfl
 unfold Sc.act
 rw [em, ec]
 split at he
 ·rename_i h1
  rw [if_pos h1]
  split at he
  ·rename_i h2
   cases he
   have Tq : wL (x.bK F) := h2
   rw [if_pos Tq]
   exact ⟨List.prefix_refl _, h, fun _ _ => rfl⟩
  ·cases he
 ·rename_i h1
  rw [if_neg h1]
  split at he
  ·rename_i h2
   rw [if_pos h2]
   cases he
   have e : ∀ e, Sc.hold { x with d := e } m = ({ (x.hold m).1 with d := e }, (x.hold m).2) := fun e => Xd e
   have ed : (x.hold m).1.d = x.d := by have := e x.d; rw [show ({ x with d := x.d } : Sc) = x from rfl] at this; rw [this]
   rw [ed]
   refine ⟨List.prefix_refl _, h, fun _ _ => ?_⟩
   unfold Sc.bK
   rw [e, ed]
  ·rename_i h2
   rw [if_neg h2]
   split at he
   ·rename_i h3
    rw [if_pos h3]
    split at he
    ·rename_i h4
     simp only [Option.some.injEq] at he
     have h4' : tM (x.bK F) m := h4
     rw [if_pos h4']
     obtain ⟨f1, f2, f3⟩ := Xe (F := F) h ok he
     exact ⟨f1, f2, fun hp hl => by rw [f3 hp hl]⟩
    ·cases he
   ·rename_i h3
    rw [if_neg h3]
    exact run_o h ok he
theorem IL (h : x.d.AN) (ok : x.d.k.Ok) (he : x.step p = some (y, o)) : x.d.taken <+: y.d.taken ∧ y.d.AN ∧ (y.d.taken <+: F → (∀ l, o = .cO l → y.d.taken = F) → Sc.step p (x.bK F) = some (y.bK F, o)) := by
 unfold Sc.step at he
 split at he
 ·rename_i hpre
  have F3 : vl (x.bK F) := hpre
  have es : (x.bK F).status = x.status := rfl
  have ec : (x.bK F).c = x.c := rfl
  have ed : (x.bK F).d = tp F x.d := rfl
  unfold Sc.step
  rw [if_pos F3, es, ec, ed]
  split at he
  ·rename_i hs
   rw [if_pos hs]
   cases he
   exact ⟨List.prefix_refl _, h, fun _ _ => rfl⟩
  ·rename_i hs
   rw [if_neg hs]
   split at he
   ·rename_i d' l hd
    cases he
    obtain ⟨h1, h2⟩ := yE h hd
    refine ⟨by dsimp only; rw [h1]; exact List.prefix_refl _, by dsimp only; rw [h1]; exact h, fun hp hl => ?_⟩
    rw [IJ h hd (hl l rfl)]
    all_goals rfl
   ·rename_i d' m hd
    obtain ⟨h1, h2⟩ := D0 h ok hd
    have ok' : d'.k.Ok := by have := mq (kind := 1) (n := x.c.M + 1) ok; rw [hd] at this; exact this
    cases hz : Sc.act p { x with d := d' } m with
    | none => rw [hz] at he; cases he
    | some z =>
     obtain ⟨z, o'⟩ := z
     rw [hz] at he
     obtain ⟨a1, a2, a3⟩ := act_o (F := F) (x := { x with d := d' }) h2 ok' hz
     have a0 : x.d.taken <+: d'.taken := by rw [h1]; exact List.prefix_append _ _
     cases o' with
     | ev e =>
      cases he
      refine ⟨a0.trans a1, a2, fun hp hl => ?_⟩
      rw [Az h ok hd (a1.trans hp)]
      dsimp only
      have := a3 hp (fun l hl => by cases hl)
      unfold Sc.bK at this ⊢
      dsimp only at this ⊢
      rw [this]
      all_goals rfl
     | cO l =>
      cases he
      refine ⟨a0.trans a1, a2, fun hp hl => ?_⟩
      rw [Az h ok hd (a1.trans hp)]
      dsimp only
      have := a3 hp hl
      unfold Sc.bK at this ⊢
      dsimp only at this ⊢
      rw [this]
      all_goals rfl
 ·cases he
def D1 (p : b6) : Sc → List Ev → Sc → Prop
 | x, [], y => x = y
 | x, e :: es, y => ∃ z, x.step p = some (z, .ev e) ∧ D1 p z es y
theorem D1.snoc {e : Ev} : ∀ {es : List Ev} {x : Sc}, D1 p x es y → y.step p = some (z, .ev e) → D1 p x (es ++ [e]) z
 | [], x, h, hs => by cases h; exact ⟨z, hs, rfl⟩
 | a :: es, x, ⟨w, h1, h2⟩, hs => ⟨w, h1, h2.snoc hs⟩
theorem D1.ok_ : ∀ {es : List Ev} {x : Sc}, D1 p x es y → x.d.AN → x.d.k.Ok → x.d.taken <+: y.d.taken ∧ y.d.AN ∧ y.d.k.Ok
 | [], x, h, ho, ok => by cases h; exact ⟨List.prefix_refl _, ho, ok⟩
 | a :: es, x, ⟨w, h1, h2⟩, ho, ok => by
  obtain ⟨a1, a2, _⟩ := IL (F := []) ho ok h1
  obtain ⟨b1, b2, b3⟩ := h2.ok_ a2 (vn ok h1)
  exact ⟨a1.trans b1, b2, b3⟩
theorem SV.bK {N : Nat} (h : SV p N x) (hp : x.d.taken <+: F) (hl : F.length ≤ 1000000000) (hb : ∀ v ∈ F, 0 ≤ v.2 ∧ v.2 < 18446744073709551616) : SV p N (x.bK F) :=
 ⟨h.w, h.one, h.zero, h.cP, h.cM, h.P1, h.M1, h.cS, h.room, h.gd, h.ms, h.gH, h.st, h.tk, ⟨hl, hp.length_le, hb⟩⟩
theorem step_end {N : Nat} (h : SV p N (x.bK F)) (hok : fK p) (hN : N ≤ 1000000) (hF : x.d.taken = F) (hs : x.status = 0) : Sc.step p (x.bK F) = some (x.bK F, .cO DU) := by
 obtain ⟨y, o, he, _⟩ := h.step hok hN
 unfold Sc.step at he ⊢
 split at he
 ·rename_i hpre
  rw [if_pos hpre]
  have es : (x.bK F).status = x.status := rfl
  rw [es, hs, if_neg (by decide)]
  have ed : (x.bK F).d.draw 1 ((x.bK F).c.M + 1) = (tp F x.d, .cO DU) := by
   show (tp F x.d).draw 1 _ = _
   unfold tp iD.draw fy.next
   simp [hF]
  rw [ed]
  all_goals rfl
 ·cases he
end
end Go.Proofs
