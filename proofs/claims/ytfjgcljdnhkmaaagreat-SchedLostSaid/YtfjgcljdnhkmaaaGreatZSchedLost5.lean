/- A part of proofs about one program. -/
import Derived.ChangeArms
import Derived.Deep.Slices
import Derived.OpenShut
import Derived.Recover
import Derived.Scope
import Derived.Test.YtfjgcljdnhkmaaaGreatProg
import Derived.WalkKit
import Derived.Test.YtfjgcljdnhkmaaaGreatZSchedLostBase
import Derived.Test.YtfjgcljdnhkmaaaGreatZSchedLostOps
import Derived.Test.YtfjgcljdnhkmaaaGreatZSchedLostOpsB
import Derived.Test.YtfjgcljdnhkmaaaGreatZSchedLostOpC
import Derived.Test.YtfjgcljdnhkmaaaGreatZSchedLostFrame
import Derived.Test.YtfjgcljdnhkmaaaGreatZSchedLostReg
import Derived.Test.YtfjgcljdnhkmaaaGreatZSchedLostRegB
import Derived.Test.YtfjgcljdnhkmaaaGreatZSchedLostRegL
import Derived.Test.YtfjgcljdnhkmaaaGreatZSchedLostRegC
import Derived.Test.YtfjgcljdnhkmaaaGreatZSchedLostExec
import Derived.Test.YtfjgcljdnhkmaaaGreatZSchedLostSound
import Derived.Test.YtfjgcljdnhkmaaaGreatZSchedLostSoundB
import Derived.Test.YtfjgcljdnhkmaaaGreatZSchedLostLib
import Derived.Test.YtfjgcljdnhkmaaaGreatZSchedLostHp
import Derived.Test.YtfjgcljdnhkmaaaGreatZSchedLostRow
import Derived.Test.YtfjgcljdnhkmaaaGreatZSchedLostBig
import Derived.Test.YtfjgcljdnhkmaaaGreatZSchedLostStC
import Derived.Test.YtfjgcljdnhkmaaaGreatZSchedLostMod
import Derived.Test.YtfjgcljdnhkmaaaGreatZSchedLostOpen
import Derived.Test.YtfjgcljdnhkmaaaGreatZSchedLostArgs
import Derived.Test.YtfjgcljdnhkmaaaGreatZSchedLostDefer
import Derived.Test.YtfjgcljdnhkmaaaGreatZSchedLostDefer2
import Derived.Test.YtfjgcljdnhkmaaaGreatZSchedLostAgg
import Derived.Test.YtfjgcljdnhkmaaaGreatZSchedLost0
import Derived.Test.YtfjgcljdnhkmaaaGreatZSchedLost1
import Derived.Test.YtfjgcljdnhkmaaaGreatZSchedLost2
import Derived.Test.YtfjgcljdnhkmaaaGreatZSchedLost3
import Derived.Test.YtfjgcljdnhkmaaaGreatZSchedLost4
set_option linter.unusedVariables false
namespace Go.Proofs
open Go.AF
set_option maxRecDepth 100000
set_option maxHeartbeats 1000000
attribute [local irreducible] aK cD fH bL aD fx aI aO bj aS bI aV
def Kx : gy (Int × Int) := ⟨2, fun w => [.int .i64 w.1, .int .u64 w.2], fun _ => rfl, fun w v hv => by
 simp only [List.mem_cons, List.not_mem_nil, or_false] at hv; obtain rfl | rfl := hv <;> rfl⟩
inductive gv where
 | xk (l : List Int) (at_ : Nat)
 | tape (l : List (Int × Int)) (at_ : Nat)
structure lP where
 k : gv
 taken : List (Int × Int)
def Ky : List PanicEntry := [{ v := .iface 227 (.agg #[]), recovered := false }]
def Wm (at_ kind n k v : Int) : List PanicEntry := [{ v := .iface 155 (.agg #[.int .i64 at_, .int .i64 kind, .int .i64 n, .int .i64 k, .int .u64 v]), recovered := false }]
def mQ (n : Int) : Int := if 1 > n then 1 else n
def gv.next (k : gv) (kind m : Int) : gv × jz := match k with
 | .xk l i => match l[i]? with
  | none => (.xk l i, .dG Ky)
  | some v => (.xk l (i + 1), .num (Int.tmod v m))
 | .tape l i => match l[i]? with
  | none => (.tape l i, .dG Ky)
  | some (q, v) => if q ≠ kind then (.tape l i, .dG (Wm i kind m q v)) else if v ≥ m then (.tape l i, .dG (Wm i kind m q v)) else (.tape l (i + 1), .num v)
def lP.draw (x : lP) (kind n : Int) : lP × jz := match x.k.next kind (mQ n) with
 | (k', .num v) => (⟨k', x.taken ++ [(kind, v)]⟩, .num v)
 | (k', .dG l) => (⟨k', x.taken⟩, .dG l)
def gv.Ok : gv → Prop
 | .xk l i => l.length ≤ 1000000000 ∧ i ≤ l.length ∧ ∀ v ∈ l, 0 ≤ v ∧ v < 18446744073709551616
 | .tape l i => l.length ≤ 1000000000 ∧ i ≤ l.length ∧ ∀ v ∈ l, 0 ≤ v.2 ∧ v.2 < 18446744073709551616
def lP.Ok (x : lP) : Prop := x.k.Ok ∧ x.taken.length ≤ 1000000000
abbrev ta (A : Option Addr) (c : Nat) (l : List (Int × Int)) : HP := bG Kx 153 A c l
abbrev Yp (A : Option Addr) (c : Nat) (l : List Int) : HP := bG zP 36 A c l
def kR : tu gv := ⟨fun b k => match k with
 | .xk l i => exs fun A : Option Addr => exs fun c : Nat => sep [pt b [.slice A l.length c, .int .i64 (i : Int)] 147, Yp A c l]
 | .tape l i => exs fun A : Option Addr => exs fun c : Nat => sep [pt b [.slice A l.length c, .int .i64 (i : Int)] 175, ta A c l]⟩
def wM : gv → Nat → Value
 | .xk _ _, b => .func (.func 54) #[.pointer (some ⟨b, 0, none⟩)] #[]
 | .tape _ _, b => .func (.func 66) #[.pointer (some ⟨b, 0, none⟩)] #[]
def zg : gv → Nat → Value
 | .xk _ _, b => .func (.func 55) #[.pointer (some ⟨b, 0, none⟩)] #[]
 | .tape _ _, b => .func (.func 67) #[.pointer (some ⟨b, 0, none⟩)] #[]
def cv (RY : Value) : tu lP := ⟨fun b x => exs fun A : Option Addr => exs fun c : Nat => exs fun kb : Nat =>
 sep [pt b [wM x.k kb, zg x.k kb, .slice A x.taken.length c, RY] 151, ta A c x.taken, aB kR kb x.k]⟩
theorem Vs : bh Tryz.prog 97 153 2 16 [.int .i64 0, .int .u64 0] := bh.mk' (zv := .agg #[.int .i64 0, .int .u64 0]) (by kernel_rfl) (by kernel_rfl) rfl (by omega)
theorem Vt : bh Tryz.prog 35 36 1 8 [.int .u64 0] := bh.mk' (zv := .int .u64 0) (by kernel_rfl) (by kernel_rfl) rfl (by omega)
theorem qd {C : Ctx} {g : Nat} {first : Array Value} {args : List Value} {M : Mem} {K : Value → Mem → Prop} {Kp : List PanicEntry → Mem → Prop} (hg : 1 < g ∧ g < C.ok) (h : ae C.P g (first.toList ++ args).toArray M K Kp) : iu C (.func (.func g) first #[]) args M K Kp := by
 unfold iu
 simp only
 rw [if_pos hg]
 simpa using h
theorem zh (n : Int) : 1 ≤ mQ n := by unfold mQ; split <;> omega
theorem EV {z : Int} (h0 : 0 ≤ z) (h : z < 18446744073709551616) : IntKind.wrap .u64 z = z := by
 obtain ⟨n, rfl⟩ := Int.eq_ofNat_of_zero_le h0
 rw [IntKind.wrap_u64]; omega
section
variable {R : Mem} {L L' L2 : List HP} {M : Mem} {K : Value → Mem → Prop} {Kp : List PanicEntry → Mem → Prop} {b : Nat} {x : lP} {RY : Value}
theorem zi {k : gv} {kind m : Int} (hok : k.Ok) (hm : 1 ≤ m) {k' : gv} {v : Int} (h : k.next kind m = (k', .num v)) : 0 ≤ v ∧ v < m := by
 cases k with
 | xk l i =>
  unfold gv.next at h
  dsimp only at h
  split at h
  ·cases h
  ·rename_i w hw
   cases h
   have := hok.2.2 w (List.mem_of_getElem? hw)
   exact ⟨Int.tmod_nonneg _ this.1, Int.tmod_lt_of_pos _ (by omega)⟩
 | tape l i =>
  unfold gv.next at h
  dsimp only at h
  split at h
  ·cases h
  ·rename_i q w hw
   have := hok.2.2 _ (List.mem_of_getElem? hw)
   split at h
   ·cases h
   ·split at h
    ·cases h
    ·cases h
     exact ⟨this.1, by omega⟩
theorem QG {k : gv} {kind m : Int} (hok : k.Ok) : (k.next kind m).1.Ok := by
 cases k with
 | xk l i =>
  unfold gv.next
  dsimp only
  split
  ·exact hok
  ·rename_i w hw
   have := (List.getElem?_eq_some_iff.1 hw).1
   exact ⟨hok.1, by omega, hok.2.2⟩
 | tape l i =>
  unfold gv.next
  dsimp only
  split
  ·exact hok
  ·rename_i q w hw
   have := (List.getElem?_eq_some_iff.1 hw).1
   split
   ·exact hok
   ·split
    ·exact hok
    ·exact ⟨hok.1, by omega, hok.2.2⟩
theorem He {k : gv} {kind m : Int} {kb : Nat} : wM (k.next kind m).1 kb = wM k kb ∧ zg (k.next kind m).1 kb = zg k kb := by
 cases k with
 | xk l i => unfold gv.next; dsimp only; split <;> exact ⟨rfl, rfl⟩
 | tape l i =>
  unfold gv.next; dsimp only; split
  ·exact ⟨rfl, rfl⟩
  ·split
   ·exact ⟨rfl, rfl⟩
   ·split <;> exact ⟨rfl, rfl⟩
theorem Vu {k : gv} {kb : Nat} {kind m : Int} (h : Hp R (aB kR kb k :: L) M) (hok : k.Ok) (hm : 1 ≤ m) (Yq : m < 9223372036854775808)
  (g : match (k.next kind m).2 with
   | .num v => ∀ M', Hp R (aB kR kb (k.next kind m).1 :: L) M' → K (.int .u64 v) M'
   | .dG l => ∀ M', Hp R (aB kR kb (k.next kind m).1 :: L) M' → Kp l M') :
  iu Cx (wM k kb) [.int .i64 kind, .int .i64 m] M K Kp := by
 cases k with
 | xk l i =>
  refine qd ⟨by decide, by show _ < 228; decide⟩ ?_
  refine oB ?_
  obtain ⟨o1, o2, o3⟩ := hok
  unfold gv.next at g
  dsimp only at g
  have h2 := h.obj kR kb
  simp only [kR, Hp.dQ, Hp.bl, List.cons_append, List.nil_append] at h2
  obtain ⟨A, c, h2⟩ := h2
  clear h
  have h := h2
  clear h2
  have mk : ∀ {M : Mem} {i : Nat}, Hp R (pt kb [.slice A l.length c, .int .i64 (i : Int)] 147 :: Yp A c l :: L) M → Hp R (aB kR kb (.xk l i) :: L) M := by
   intro M i h
   refine Hp.wS ?_
   simp only [kR, Hp.dQ, Hp.bl, List.cons_append, List.nil_append]
   exact ⟨_, _, h⟩
  refine aJ h (aR h ?_)
  refine aP.2 ⟨fun hge => ?_, fun hlt => ?_⟩
  ·have e : l[i]? = none := List.getElem?_eq_none_iff.2 (by omega)
   rw [e] at g
   exact g _ (mk h)
  ·obtain ⟨w, hw⟩ := aQ (l := l) (i := i) (by omega)
   rw [hw] at g
   have hwb := o3 w (List.mem_of_getElem? hw)
   refine aJ h ?_
   rw [aT (by omega)]
   refine az h ?_
   clear h; intro M h
   refine aR h (aJ h ?_)
   have e : IntKind.wrap .i64 (((i + 1 : Nat) : Int) - 1) = (i : Int) := by rw [cO (by omega) (by omega)]; omega
   rw [e]
   obtain ⟨q, rfl⟩ := h.bx (A := A) (by omega) (by decide)
   refine ⟨by omega, by omega, br ?_⟩
   refine be (Src.at (h.src (A := some ⟨q, 0, none⟩)) h (i := i) (j := 0) hw rfl (by simp [zP])) ?_
   rw [EV (by omega) (by omega)]
   exact ⟨by omega, g _ (mk h)⟩
 | tape l i =>
  refine qd ⟨by decide, by show _ < 228; decide⟩ ?_
  refine rh ?_
  obtain ⟨o1, o2, o3⟩ := hok
  unfold gv.next at g
  dsimp only at g
  have h2 := h.obj kR kb
  simp only [kR, Hp.dQ, Hp.bl, List.cons_append, List.nil_append] at h2
  obtain ⟨A, c, h2⟩ := h2
  clear h
  have h := h2
  clear h2
  have mk : ∀ {M : Mem} {i : Nat}, Hp R (pt kb [.slice A l.length c, .int .i64 (i : Int)] 175 :: ta A c l :: L) M → Hp R (aB kR kb (.tape l i) :: L) M := by
   intro M i h
   refine Hp.wS ?_
   simp only [kR, Hp.dQ, Hp.bl, List.cons_append, List.nil_append]
   exact ⟨_, _, h⟩
  refine aJ h (aR h ?_)
  refine aP.2 ⟨fun hge => ?_, fun hlt => ?_⟩
  ·have e : l[i]? = none := List.getElem?_eq_none_iff.2 (by omega)
   rw [e] at g
   exact g _ (mk h)
  ·obtain ⟨⟨q, w⟩, hw⟩ := aQ (l := l) (i := i) (by omega)
   rw [hw] at g
   dsimp only at g
   have hwb := o3 _ (List.mem_of_getElem? hw)
   dsimp only at hwb
   refine aR h (aJ h ?_)
   obtain ⟨q0, rfl⟩ := h.bx (A := A) (by omega) (by decide)
   refine ⟨by omega, by omega, br ?_⟩
   refine be (Src.at (h.src (A := some ⟨q0, 0, none⟩)) h (i := i) (j := 0) hw rfl (by simp [Kx])) ?_
   refine be (Src.at (h.src (A := some ⟨q0, 0, none⟩)) h (i := i) (j := 1) hw rfl (by simp [Kx])) ?_
   refine av h ?_
   clear h; intro kk M h
   refine az h ?_
   clear h; intro M h
   refine az h ?_
   clear h; intro M h
   refine aJ h ?_
   refine de.2 ⟨fun hne => ?_, fun heq => ?_⟩
   ·rw [if_pos hne] at g
    refine aJ h (aJ h (aJ h ?_))
    exact g _ (mk (h.sub (by repeat (first | exact .refl | refine .cons (by repeat (first | exact .here | apply aF.there)) ?_ | apply Sub.drop))))
   ·rw [if_neg (by simpa using heq)] at g
    refine aJ h ?_
    rw [EV (by omega) (by omega)]
    refine aP.2 ⟨fun hge => ?_, fun Ey => ?_⟩
    ·rw [if_pos hge] at g
     refine aJ h (aJ h (aJ h ?_))
     exact g _ (mk (h.sub (by repeat (first | exact .refl | refine .cons (by repeat (first | exact .here | apply aF.there)) ?_ | apply Sub.drop))))
    ·rw [if_neg Ey] at g
     refine aJ h ?_
     rw [aT (by omega)]
     refine az h ?_
     clear h; intro M h
     refine aJ h ?_
     exact g _ (mk (h.sub (by repeat (first | exact .refl | refine .cons (by repeat (first | exact .here | apply aF.there)) ?_ | apply Sub.drop))))
theorem Oe (h : Hp R L M) [o : b7 (cv RY) b L x L'] : ∃ A c kb, Hp R (pt b [wM x.k kb, zg x.k kb, .slice A x.taken.length c, RY] 151 :: ta A c x.taken :: aB kR kb x.k :: L') M := by
 have := h.obj (cv RY) b
 simpa only [cv, Hp.dQ, Hp.bl, List.cons_append, List.nil_append] using this
theorem Hf {A : Option Addr} {c kb : Nat} (h : Hp R (pt b [wM x.k kb, zg x.k kb, .slice A x.taken.length c, RY] 151 :: ta A c x.taken :: aB kR kb x.k :: L) M) : Hp R (aB (cv RY) b x :: L) M := by
 refine Hp.wS ?_
 simp only [cv, Hp.dQ, Hp.bl, List.cons_append, List.nil_append]
 exact ⟨_, _, _, h⟩
theorem qe {kind n : Int} (h : Hp R L M) [o : b7 (cv .nilFunc) b L x L'] (hok : x.Ok) (hn : n < 9223372036854775808) (ht : x.taken.length < 100000000)
  (g : match (x.draw kind n).2 with
   | .num v => ∀ M', Hp R (aB (cv .nilFunc) b (x.draw kind n).1 :: L') M' → K (.int .i64 v) M'
   | .dG l => ∀ M', Hp R (aB (cv .nilFunc) b (x.draw kind n).1 :: L') M' → Kp l M') :
  ae Tryz.prog 98 #[.pointer (some ⟨b, 0, none⟩), .int .i64 kind, .int .i64 n] M K Kp := by
 refine oC ?_
 have h' := Oe (RY := .nilFunc) h (b := b)
 clear h
 obtain ⟨A, c, kb, h⟩ := h'
 refine LJ h ?_
 have em : (if (1 : Int) > n then 1 else n) = mQ n := rfl
 rw [em]
 have hm1 := zh n
 have Yq : mQ n < 9223372036854775808 := by unfold mQ; split <;> omega
 have hnv := He (k := x.k) (kind := kind) (m := mQ n) (kb := kb)
 obtain ⟨Qa, xX⟩ := hnv
 have Hg := fun k' v => zi (k := x.k) (kind := kind) hok.1 hm1 (k' := k') (v := v)
 unfold lP.draw at g
 replace h : Hp R (aB kR kb x.k :: pt b [wM x.k kb, zg x.k kb, .slice A x.taken.length c, .nilFunc] 151 :: ta A c x.taken :: L') M := h.sub (by repeat (first | exact .refl | refine .cons (by repeat (first | exact .here | apply aF.there)) ?_ | apply Sub.drop))
 refine Vu (kind := kind) h hok.1 hm1 Yq ?_
 clear h
 generalize hr : x.k.next kind (mQ n) = r at g Qa xX Hg
 obtain ⟨k', d⟩ := r
 dsimp only at Qa xX ⊢
 rw [← Qa, ← xX]
 cases d with
 | dG l =>
  dsimp only at g ⊢
  intro M h
  exact g _ (Hf (x := ⟨k', x.taken⟩) (h.sub (by repeat (first | exact .refl | refine .cons (by repeat (first | exact .here | apply aF.there)) ?_ | apply Sub.drop))))
 | num v =>
  dsimp only at g ⊢
  obtain ⟨v0, v1⟩ := Hg k' v rfl
  intro M h
  refine cE ?_
  refine av h ?_
  clear h; intro k5 M h
  refine az h ?_
  clear h; intro M h
  refine az h ?_
  clear h; intro M h
  refine aR h (aJ h (aJ h ?_))
  refine av h ?_
  clear h; intro fX M h
  refine h.bO (A := A) Vs [(kind, v)] rfl rfl (by simp only [List.length_singleton]; omega) ?_
  clear h; intro A' c' M h
  refine aY ?_
  refine az h ?_
  clear h; intro M h
  refine LJ h ?_
  unfold HD
  dsimp only
  refine au (aJ h ?_)
  rw [cO (by omega) (by omega)]
  exact g _ (Hf (x := ⟨k', x.taken ++ [(kind, v)]⟩) (h.sub (by repeat (first | exact .refl | refine .cons (by repeat (first | exact .here | apply aF.there)) ?_ | apply Sub.drop))))
theorem sg {B : Option Addr} {m cb : Nat} {l : List Int} (h : Hp R L M) (hB : Src R L B (zP.cells l)) (hm : m = l.length) (hl : l.length ≤ 1000000000)
  (g : ∀ b M', Hp R (aB (cv .nilFunc) b ⟨.xk l 0, []⟩ :: L) M' → K (.pointer (some ⟨b, 0, none⟩)) M') :
  ae Tryz.prog 17 #[.slice B m cb] M K Kp := by
 refine vo ?_
 refine av h ?_
 clear h; intro k1 M h
 refine h.jX zP Vt l hB.cons hm (by omega) ?_
 clear h; intro A' c' M h
 refine aY ?_
 refine av h ?_
 clear h; intro k8 M h
 refine av h ?_
 clear h; intro eA M h
 have h2 := h.bT Kx 153
 refine g eA _ (Hf (x := ⟨.xk l 0, []⟩) (A := none) (c := 0) (kb := k8) ?_)
 have h3 : Hp R (aB kR k8 (.xk l 0) :: ta none 0 [] :: pt eA [wM (.xk l 0) k8, zg (.xk l 0) k8, .slice none 0 0, .nilFunc] 151 :: L) M := by
  refine Hp.wS ?_
  simp only [kR, Hp.dQ, Hp.bl, List.cons_append, List.nil_append]
  exact ⟨A', c', h2.sub (by repeat (first | exact .refl | refine .cons (by repeat (first | exact .here | apply aF.there)) ?_ | apply Sub.drop))⟩
 exact h3.sub (by repeat (first | exact .refl | refine .cons (by repeat (first | exact .here | apply aF.there)) ?_ | apply Sub.drop))
theorem Kz {kind n : Int} (hok : x.Ok) (hn : n < 9223372036854775808) (ht : x.taken.length < 100000000) :
  iK R (.func (.func 98) #[.pointer (some ⟨b, 0, none⟩)] #[]) kind n (x.draw kind n).2 (aB (cv .nilFunc) b x :: L) (aB (cv .nilFunc) b (x.draw kind n).1 :: L) := by
 intro Q M K Kp h k
 refine qd ⟨by decide, by show _ < 228; decide⟩ ?_
 refine qe h hok hn ht ?_
 cases hd : (x.draw kind n).2 with
 | num v => rw [hd] at k; exact fun M' h' => k M' h'.swap
 | dG l => rw [hd] at k; exact fun M' h' => k M' h'.swap
end
end Go.Proofs
namespace Go.Proofs
open Go.AF
set_option maxRecDepth 100000
set_option maxHeartbeats 1000000
attribute [local irreducible] aK cD fH bL aD fx aI aO bj aS bI aV
structure cN where
 q : Loc
 turns : Int
 gA : Int
structure BI where
 p : Int
 g : Int
 left : Int
 deriving DecidableEq
structure Hh where
 P : Int
 M : Int
 R : Int
 S : Int
structure Sc where
 w : Wd
 c : Hh
 ps : List cN
 ms : List BI
 gl : List Int
 d : lP
 steps : Int
structure Ev where
 kind : Int
 m : Int
 g : Int
 ready : List Int
def mR : gy (Nat × Int × Int) := ⟨3, fun w => [.pointer (some ⟨w.1, 0, none⟩), .int .i64 w.2.1, .int .i64 w.2.2], fun _ => rfl, fun w v hv => by
 simp only [List.mem_cons, List.not_mem_nil, or_false] at hv; obtain rfl | rfl | rfl := hv <;> rfl⟩
def eV : gy BI := ⟨3, fun w => [.int .i64 w.p, .int .i64 w.g, .int .i64 w.left], fun _ => rfl, fun w v hv => by
 simp only [List.mem_cons, List.not_mem_nil, or_false] at hv; obtain rfl | rfl | rfl := hv <;> rfl⟩
def bQ (bs : List Nat) (ps : List cN) : List (Nat × Int × Int) := List.zipWith (fun b (p : cN) => (b, p.turns, p.gA)) bs ps
def aC (x : Sc) (m : Int) : BI := x.ms.getD m.toNat ⟨-1, -1, 0⟩
def aL (x : Sc) (i : Int) : cN := x.ps.getD i.toNat ⟨⟨-1, 0, []⟩, 0, -1⟩
def Sc.jb (x : Sc) (m : Int) (y : BI) : Sc := { x with ms := x.ms.set m.toNat y }
def Sc.cZ (x : Sc) (i : Int) (y : cN) : Sc := { x with ps := x.ps.set i.toNat y }
structure SA where
 ap : Option Addr
 cp : Nat
 lb : List Nat
 am : Option Addr
 cm : Nat
abbrev b6 (A : Option Addr) (c : Nat) (l : List (Nat × Int × Int)) : HP := bG mR 141 A c l
abbrev ck (A : Option Addr) (c : Nat) (l : List BI) : HP := bG eV 143 A c l
abbrev eu (wb db : Nat) (a : SA) (x : Sc) (A : Option Addr) (n c : Nat) : List Value :=
 [.pointer (some ⟨wb, 0, none⟩), .int .i64 x.c.P, .int .i64 x.c.M, .int .i64 x.c.R, .int .i64 x.c.S, .slice a.ap x.ps.length a.cp, .slice a.am x.ms.length a.cm, .slice A n c, .pointer (some ⟨db, 0, none⟩), .int .i64 x.steps]
abbrev dH (b wb db : Nat) (a : SA) (x : Sc) : Option Addr → Nat → Nat → HP := fun A n c => pt b (eu wb db a x A n c) 137
theorem wN {b wb db : Nat} {a : SA} {x : Sc} : P8 b (0 + 7) (dH b wb db a x) :=
 ⟨fun R L M A n c h => aj h, fun R L M A A' n c n' c' G h k => az h k⟩
abbrev ei (a : SA) (x : Sc) (L : List HP) : List HP := b6 a.ap a.cp (bQ a.lb x.ps) :: bn bK a.lb (x.ps.map cN.q) :: ck a.am a.cm x.ms :: L
def dy (pa : PA) (p : bZ) (wb db : Nat) : tu Sc := ⟨fun b x => exs fun a : SA =>
 sep (fO (dH b wb db a x) x.gl :: aB (bF pa p) wb x.w :: aB (cv .nilFunc) db x.d :: fact (a.lb.length = x.ps.length) :: ei a x [])⟩
class mS (b : Nat) (L : List HP) (pa : outParam PA) (p : outParam bZ) (wb db : outParam Nat) (x : outParam Sc) (L' : outParam (List HP)) : Prop where
 pick : aF L (aB (dy pa p wb db) b x) L'
instance mS.here {pa : PA} {p : bZ} {wb db b : Nat} {x : Sc} {L : List HP} : mS b (aB (dy pa p wb db) b x :: L) pa p wb db x L := ⟨.here⟩
instance (priority := low) mS.there {pa : PA} {p : bZ} {wb db b : Nat} {x : Sc} {Q : HP} {L L' : List HP} [h : mS b L pa p wb db x L'] : mS b (Q :: L) pa p wb db x (Q :: L') := ⟨.there h.pick⟩
section
variable {R : Mem} {L L' L2 : List HP} {M : Mem} {K : Value → Mem → Prop} {Kp : List PanicEntry → Mem → Prop} {pa : PA} {p : bZ} {b wb db : Nat} {x : Sc} {m i : Int}
theorem eR (h : Hp R L M) [o : mS b L pa p wb db x L'] : ∃ a : SA, a.lb.length = x.ps.length ∧ Hp R (fO (dH b wb db a x) x.gl :: aB (bF pa p) wb x.w :: aB (cv .nilFunc) db x.d :: ei a x L') M := by
 have := h.pick o.pick
 unfold aB at this
 simp only [dy, ei, Hp.dQ, Hp.bl, List.cons_append, List.nil_append] at this
 obtain ⟨a, h⟩ := this
 refine ⟨a, ?_⟩
 have h2 := h.pick (P := fact (a.lb.length = x.ps.length)) (.there (.there (.there .here)))
 obtain ⟨e, h3⟩ := Hp.fJ.1 h2
 exact ⟨e, h3⟩
theorem gP {a : SA} (hl : a.lb.length = x.ps.length) (h : Hp R (fO (dH b wb db a x) x.gl :: aB (bF pa p) wb x.w :: aB (cv .nilFunc) db x.d :: ei a x L) M) : Hp R (aB (dy pa p wb db) b x :: L) M := by
 refine Hp.wS ?_
 simp only [dy, ei, Hp.dQ, Hp.bl, List.cons_append, List.nil_append]
 refine ⟨a, ?_⟩
 have h2 : Hp R (fact (a.lb.length = x.ps.length) :: fO (dH b wb db a x) x.gl :: aB (bF pa p) wb x.w :: aB (cv .nilFunc) db x.d :: ei a x L) M := Hp.fJ.2 ⟨hl, h⟩
 exact h2.nj (.there (.there (.there .here)))
theorem nR {a : SA} (h : Hp R (fO (dH b wb db a x) x.gl :: L) M) : ∃ A c, Hp R (pt b (eu wb db a x A x.gl.length c) 137 :: j6 A c x.gl :: L) M := iI (P := dH b wb db a x) h
theorem xK {a : SA} {A : Option Addr} {c n : Nat} {l : List Int} (h : Hp R (pt b (eu wb db a x A n c) 137 :: j6 A c l :: L) M) (e : n = l.length := by first | rfl | simp) : Hp R (fO (dH b wb db a x) l :: L) M := Ez (P := dH b wb db a x) h e
theorem IL {bs : List Nat} {ps : List cN} {i lb : Nat} {pr : cN} (h1 : bs[i]? = some lb) (h2 : ps[i]? = some pr) : (bQ bs ps)[i]? = some (lb, pr.turns, pr.gA) := F6 h1 h2
theorem zj {bs : List Nat} {ps : List cN} {i lb : Nat} {pr : cN} (h1 : bs[i]? = some lb) : (bQ bs ps).set i (lb, pr.turns, pr.gA) = bQ bs (ps.set i pr) := nC (f := fun b (p : cN) => (b, p.turns, p.gA)) h1
theorem jA {bs : List Nat} {ps : List cN} (h : bs.length = ps.length) : (bQ bs ps).length = ps.length := by simp [bQ, h]
theorem EW (h : Hp R L M) [o : mS b L pa p wb db x L'] (k : K (.pointer (some ⟨wb, 0, none⟩)) M) : ae Tryz.prog 21 #[.pointer (some ⟨b, 0, none⟩)] M K Kp := by
 refine pN ?_
 obtain ⟨a, hl, h⟩ := eR h (b := b)
 obtain ⟨A, c, h⟩ := nR h
 exact tL h k
theorem EX (h : Hp R L M) [o : mS b L pa p wb db x L'] (k : K (.int .i64 x.steps) M) : ae Tryz.prog 33 #[.pointer (some ⟨b, 0, none⟩)] M K Kp := by
 refine pO ?_
 obtain ⟨a, hl, h⟩ := eR h (b := b)
 obtain ⟨A, c, h⟩ := nR h
 exact aJ h k
theorem CX (h : Hp R L M) [o : mS b L pa p wb db x L'] (hs : x.gl.length ≤ 1000000) (k : ∀ A c M', Hp R (j6 A c x.gl :: aB (dy pa p wb db) b x :: L') M' → K (.slice A x.gl.length c) M') : ae Tryz.prog 25 #[.pointer (some ⟨b, 0, none⟩)] M K Kp := by
 refine oE ?_
 have h' := eR h (b := b)
 clear h
 obtain ⟨a, hl, h⟩ := h'
 refine EA (P := dH b wb db a x) wN h (by omega) ?_
 clear h; intro A c M h
 refine aY ?_
 exact k _ _ _ ((gP hl (h.sub (by repeat (first | exact .refl | refine .cons (by repeat (first | exact .here | apply aF.there)) ?_ | apply Sub.drop)))).swap)
def Sc.status (x : Sc) : Int := if x.w.end_ = 1 then 1 else if x.w.end_ = 2 then 2 else if x.w.stuck then 3 else 0
theorem nS (h : Hp R L M) [o : mS b L pa p wb db x L'] (hs : x.w.gs.length ≤ 1000000) (k : K (.int .i64 x.status) M) : ae Tryz.prog 23 #[.pointer (some ⟨b, 0, none⟩)] M K Kp := by
 refine oD ?_
 have h' := eR h (b := b)
 clear h
 obtain ⟨a, hl, h⟩ := h'
 have h' := nR h
 clear h
 obtain ⟨A, c, h⟩ := h'
 unfold Sc.status at k
 refine tL h ?_
 refine BA h ?_
 refine ⟨_, _, rfl, ?_⟩
 refine aZ.2 ⟨fun e => ?_, fun e => ?_⟩
 ·rw [if_pos e] at k; exact k
 rw [if_neg e] at k
 refine aZ.2 ⟨fun e => ?_, fun e => ?_⟩
 ·rw [if_pos e] at k; exact k
 rw [if_neg e] at k
 refine tL h ?_
 refine EU h hs ?_
 refine mu ?_
 cases hst : x.w.stuck with
 | true => rw [hst] at k; exact aq k
 | false => rw [hst] at k; exact au k
def Sc.tick (x : Sc) : Sc × Ev := ({ x with w := x.w.tick, gl := x.gl ++ x.w.tick.ready }, ⟨1, -1, -1, x.w.tick.ready⟩)
def Hi (e : Ev) (A : Option Addr) (c : Nat) : Value := .agg #[.int .i64 e.kind, .int .i64 e.m, .int .i64 e.g, .slice A e.ready.length c]
abbrev evPt (k1 : Nat) (e : Ev) (A : Option Addr) (c : Nat) : HP := pt k1 [.int .i64 e.kind, .int .i64 e.m, .int .i64 e.g, .slice A e.ready.length c] 47
theorem jS {k1 T n : Nat} {v1 v2 v3 v4 : Value} {e1 e2 e3 : Int} {A : Option Addr} {c : Nat} {G : Mem → Prop} (h : Hp R L M) [q : jE k1 L [v1, v2, v3, v4] T L']
  (k : ∀ M', Hp R (pt k1 [.int .i64 e1, .int .i64 e2, .int .i64 e3, .slice A n c] T :: L') M' → G M') :
  aO M ⟨k1, 0, none⟩ (.int .i64 e1) fun M1 => aO M1 ⟨k1, (0 + 1), none⟩ (.int .i64 e2) fun M2 => aO M2 ⟨k1, (0 + 2), none⟩ (.int .i64 e3) fun M3 => aO M3 ⟨k1, (0 + 3), none⟩ (.slice A n c) G := by
 have h := h.pick q.pick
 refine az h ?_
 clear h; intro M h
 refine az h ?_
 clear h; intro M h
 refine az h ?_
 clear h; intro M h
 refine az h ?_
 clear h; intro M h
 exact k _ h
theorem qf {k1 T n : Nat} {e1 e2 e3 : Int} {A : Option Addr} {c : Nat} {G : Int → Int → Int → Option Addr → Nat → Nat → Prop} (h : Hp R L M) [q : jE k1 L [.int .i64 e1, .int .i64 e2, .int .i64 e3, .slice A n c] T L'] (g : G e1 e2 e3 A n c) :
  aK (Mem.ld M ⟨k1, 0, none⟩) .i64 fun n1 => aK (Mem.ld M ⟨k1, (0 + 1), none⟩) .i64 fun n2 => aK (Mem.ld M ⟨k1, (0 + 2), none⟩) .i64 fun n3 => aD (Mem.ld M ⟨k1, (0 + 3), none⟩) fun A k l => G n1 n2 n3 A k l := by
 have h := h.pick q.pick
 exact aJ h (aJ h (aJ h (aR h g)))
def zk (x : Sc) : Prop := x.w.hl.length ≤ 1000000 ∧ (∀ y ∈ (dO x.w.hl.length x.w.hl (IntKind.wrap .u64 (x.w.clock + 1))).2, 0 ≤ y.id ∧ y.id < x.w.gs.length) ∧ x.gl.length + x.w.tick.ready.length ≤ 1000000
instance (x : Sc) : Decidable (zk x) := by unfold zk; infer_instance
theorem Hj (h : Hp R L M) [o : mS b L pa p wb db x L'] (hk : zk x)
  (k : ∀ R' A c M', R.le R' → RS bu R' A c x.tick.2.ready → Hp R' (aB (dy pa p wb db) b x.tick.1 :: L') M' → K (Hi x.tick.2 A c) M') : ae Tryz.prog 99 #[.pointer (some ⟨b, 0, none⟩)] M K Kp := by
 refine rD ?_
 refine av h ?_
 clear h
 intro k1 M h
 have h' := eR h (b := b)
 clear h
 obtain ⟨a, hl, h⟩ := h'
 have h' := nR h
 clear h
 obtain ⟨A, c, h⟩ := h'
 refine tL h ?_
 refine G5 h hk.1 hk.2.1 ?_
 clear h; intro R2 Ar cr M hle nN h
 refine aY ?_
 replace h : Hp R2 (pt b (eu wb db a x A x.gl.length c) 137 :: j6 A c x.gl :: aB (bF pa p) wb x.w.tick :: aB (cv .nilFunc) db x.d :: b6 a.ap a.cp (bQ a.lb x.ps) :: bn bK a.lb (x.ps.map cN.q) :: ck a.am a.cm x.ms :: pt k1 [.int .i64 0, .int .i64 0, .int .i64 0, .slice none 0 0] 47 :: L') M := h.sub (by repeat (first | exact .refl | refine .cons (by repeat (first | exact .here | apply aF.there)) ?_ | apply Sub.drop))
 replace h := xK h
 refine nL (P := dH b wb db a x) wN h (nN.src) rfl (by have := hk.2.2; omega) ?_
 clear h; intro M h
 refine ⟨rfl, ?_⟩
 refine jS h ?_
 clear h; intro M h
 refine qf h ?_
 exact k R2 Ar cr _ hle nN (gP (a := a) (x := x.tick.1) hl (h.sub (by repeat (first | exact .refl | refine .cons (by repeat (first | exact .here | apply aF.there)) ?_ | apply Sub.drop))))
end
end Go.Proofs
namespace Go.Proofs
open Go.AF
set_option maxRecDepth 100000
set_option maxHeartbeats 1000000
attribute [local irreducible] aK cD fH bL aD fx aI aO bj aS bI aV
def vK (q : Loc) : Bool := q.next != -1 || !q.l.isEmpty
def rQ (q : Loc) (turns : Int) (gl : List Int) : Loc × List Int × Int × Bool :=
 let a := q.fW gl
 if Int.tmod turns 7 = 6 ∧ 0 < a.2.1.length then (a.1, a.2.1.drop 1, a.2.1.headD 0, true)
 else if vK a.1 then (a.1.get.1, a.2.1, a.1.get.2, true)
 else ((a.1.get.1.ee a.2.1 0).1, (a.1.get.1.ee a.2.1 0).2.1, (a.1.get.1.ee a.2.1 0).2.2, !a.2.1.isEmpty)
def jB (f : Loc) (v : Int) : Bool := v != -1 || !f.l.isEmpty
theorem Of {q : Loc} {gl : List Int} : (q.fW gl).2.1.length ≤ gl.length + q.l.length + 1 := by
 unfold Loc.fW
 split
 ·simp; omega
 ·unfold Loc.put
  split
  ·simp; omega
  ·simp; omega
section
variable {R : Mem} {L L' L2 : List HP} {M : Mem} {K : Value → Mem → Prop} {Kp : List PanicEntry → Mem → Prop} {pa : PA} {p : bZ} {b wb db : Nat} {x : Sc} {m i : Int}
def Sc.hold (x : Sc) (m : Int) : Sc × Ev := match x.ps.findIdx? (fun pr => pr.gA == -1) with
 | some i => (((x.cZ (i : Int) { aL x (i : Int) with gA := m }).jb m { aC x m with p := (i : Int) }), ⟨2, m, -1, []⟩)
 | none => (x, ⟨3, m, -1, []⟩)
theorem zl {a : SA} {y : cN} : dH b wb db a (x.cZ i y) = dH b wb db a x := by
 unfold dH eu Sc.cZ; simp
theorem zm {a : SA} {y : BI} : dH b wb db a (x.jb i y) = dH b wb db a x := by
 unfold dH eu Sc.jb; simp
theorem QH {q o0 o1 o2 o3 j lb : Nat} {pr : cN} {bs : List Nat} {ps : List cN} {G : Option Addr → Int → Int → Prop} (h : Hp R L M) (hs : Src R L (some ⟨q, o0, none⟩) (mR.cells (bQ bs ps))) (h1 : bs[j]? = some lb) (h2 : ps[j]? = some pr)
  (e1 : o1 = o0 + j * 3) (e2 : o2 = o0 + j * 3 + 1) (e3 : o3 = o0 + j * 3 + 2) (g : G (some ⟨lb, 0, none⟩) pr.turns pr.gA) :
  bL (M.ld ⟨q, o1, none⟩) fun A => aK (M.ld ⟨q, o2, none⟩) .i64 fun n => aK (M.ld ⟨q, o3, none⟩) .i64 fun d => G A n d := by
 have h3 := IL h1 h2
 refine lB (Src.at hs h (i := j) (j := 0) h3 rfl (by rw [e1]; rfl)) ?_
 refine be (Src.at hs h (i := j) (j := 1) h3 rfl (by rw [e2]; show _ = o0 + (j * 3 + 1); omega)) ?_
 exact be (Src.at hs h (i := j) (j := 2) h3 rfl (by rw [e3]; show _ = o0 + (j * 3 + 2); omega)) g
theorem qg {a : SA} (hl : a.lb.length = x.ps.length) (h0 : 0 ≤ i) (h1 : i < x.ps.length) : ∃ lb, a.lb[i.toNat]? = some lb ∧ x.ps[i.toNat]? = some (aL x i) ∧ (bQ a.lb x.ps)[i.toNat]? = some (lb, (aL x i).turns, (aL x i).gA) := by
 obtain ⟨lb, hlb⟩ := aQ (l := a.lb) (i := i.toNat) (by omega)
 obtain ⟨y, hy⟩ := aQ (l := x.ps) (i := i.toNat) (by omega)
 have e : aL x i = y := by simp [aL, hy]
 rw [e]
 exact ⟨lb, hlb, hy, IL hlb hy⟩
theorem qh (h0 : 0 ≤ m) (h1 : m < x.ms.length) : x.ms[m.toNat]? = some (aC x m) := by
 obtain ⟨y, hy⟩ := aQ (l := x.ms) (i := m.toNat) (by omega)
 have e : aC x m = y := by simp [aC, hy]
 rw [e]; exact hy
theorem vL {ps : List cN} {j : Nat} {pr y : cN} (h : ps[j]? = some pr) (e : y.q = pr.q) : (ps.set j y).map cN.q = ps.map cN.q := by
 obtain ⟨hj, rfl⟩ := List.getElem?_eq_some_iff.1 h
 rw [List.map_set, e]
 have h2 : (ps.map cN.q)[j]'(by simpa using hj) = ps[j].q := by simp
 rw [← h2]
 exact List.set_getElem_self _
theorem vM {a : SA} {A : Option Addr} {c : Nat} {cs : List Value} {l : List Int} {pw : List (Nat × Int × Int)} {qs : List Loc} {ms : List BI} {L0 L1 L2 L3 L4 L5 L6 : List HP} (h : Hp R L M) (b : Nat)
  [p0 : jE b L cs 137 L0] [p1 : cG A L0 Int bu 3 c l L1] [p2 : Iz wb L1 pa p x.w L2] [p3 : b7 (cv .nilFunc) db L2 x.d L3] [p4 : cG a.ap L3 (Nat × Int × Int) mR 141 a.cp pw L4]
  [p5 : fD bK L4 a.lb qs L5] [p6 : cG a.am L5 BI eV 143 a.cm ms L6] (hc : cs = eu wb db a x A x.gl.length c) (hg : l = x.gl) (hl : a.lb.length = x.ps.length) (hp : pw = bQ a.lb x.ps) (hq : x.ps.map cN.q = qs) (hm : ms = x.ms) : Hp R (aB (dy pa p wb db) b x :: L6) M := by
 subst hc; subst hg; subst hp; subst hq; subst hm
 have h2 : Hp R (pt b (eu wb db a x A x.gl.length c) 137 :: j6 A c x.gl :: aB (bF pa p) wb x.w :: aB (cv .nilFunc) db x.d :: ei a x L6) M :=
  h.sub (.cons p0.pick (.cons p1.pick (.cons p2.pick (.cons p3.pick (.cons p4.pick (.cons p5.pick (.cons p6.pick .refl)))))))
 exact gP (a := a) hl (xK h2)
theorem Hl (h : Hp R L M) [o : mS b L pa p wb db x L'] (h0 : 0 ≤ m) (h1 : m < x.ms.length) (hs : x.ps.length ≤ 1000000)
  (k : ∀ M', Hp R (aB (dy pa p wb db) b (x.hold m).1 :: L') M' → K (Hi (x.hold m).2 none 0) M') : ae Tryz.prog 100 #[.pointer (some ⟨b, 0, none⟩), .int .i64 m] M K Kp := by
 refine rE ?_
 refine av h ?_
 clear h
 intro k1 M h
 have h' := eR h (b := b)
 clear h
 obtain ⟨a, hl, h⟩ := h'
 have h' := nR h
 clear h
 obtain ⟨A, c, h⟩ := h'
 refine aR h ?_
 unfold Sc.hold at k
 have hprl := jA hl
 refine ⟨fun d vs M => ∃ j : Nat, vs = [.int .i64 (j : Int)] ∧ d = x.ps.length - j ∧ j ≤ x.ps.length ∧ (∀ q pr, q < j → x.ps[q]? = some pr → pr.gA ≠ -1) ∧
   Hp R (pt b (eu wb db a x A x.gl.length c) 137 :: j6 A c x.gl :: pt k1 [.int .i64 0, .int .i64 0, .int .i64 0, .slice none 0 0] 47 :: aB (bF pa p) wb x.w :: aB (cv .nilFunc) db x.d :: ei a x L') M,
  ⟨_, 0, rfl, rfl, by omega, fun q pr hq => by omega, h.sub (by repeat (first | exact .refl | refine .cons (by repeat (first | exact .here | apply aF.there)) ?_ | apply Sub.drop))⟩, ?_⟩
 clear h
 rintro d _ nn M ⟨j, he, hd, hj, hp, h⟩
 simp only [List.cons.injEq, Value.int.injEq, and_true, true_and] at he
 subst he
 refine aP.2 ⟨fun hlt => ?_, fun hge => ?_⟩
 ·obtain ⟨lb, hlb, jj, hrow⟩ := qg (i := (j : Int)) hl (by omega) hlt
  simp only [Int.toNat_natCast] at hlb jj hrow
  obtain ⟨q, hq⟩ := h.bx (A := a.ap) (l := bQ a.lb x.ps) (by omega) (by decide)
  have Wj := h.src (A := a.ap)
  rw [hq] at Wj
  refine aR h ⟨by omega, hlt, ?_⟩
  rw [hq]
  refine br ?_
  refine be (Src.at Wj h (i := j) (j := 2) hrow rfl (by show _ = 0 + (j * 3 + 2); simp)) ?_
  refine aZ.2 ⟨fun e => ?_, fun e => ?_⟩
  ·have W7 : x.ps.findIdx? (fun pr => pr.gA == -1) = some j := by
    refine List.findIdx?_eq_some_iff_getElem.2 ⟨by omega, ?_, fun q hq => ?_⟩
    ·have := (List.getElem?_eq_some_iff.1 jj).2
     rw [this]; simpa using e
    ·have := hp q _ hq (List.getElem?_eq_getElem (by omega))
     simpa using this
   rw [W7] at k
   dsimp only at k
   clear Wj
   obtain ⟨q2, mX⟩ := h.bx (A := a.am) (l := x.ms) (by omega) (by decide)
   have ea := aj h (b := b) (o := 0 + 5) (v := .slice a.ap x.ps.length a.cp)
   rw [hq] at ea
   refine (show ∀ {G}, G (some ⟨q, 0, none⟩) x.ps.length a.cp → aD (M.ld ⟨b, 0 + 5, none⟩) G from fun g => by rw [ea]; exact aY g) ?_
   refine aR h ⟨by omega, hlt, br ?_⟩
   have hap : a.ap = some ⟨q, 0, none⟩ := hq
   have IM : a.am = some ⟨q2, 0, none⟩ := mX
   obtain ⟨ap, cp, uP, am, cm⟩ := a
   dsimp only at hap IM hrow hlb hl hprl h
   subst hap; subst IM
   refine iB (E := mR) (a' := (lb, (aL x (j : Int)).turns, m)) j 2 h hrow (by decide) rfl (by show _ = j * 3 + 2; simp) ?_
   clear h; intro M h
   refine ⟨h0, h1, br ?_⟩
   refine iB (E := eV) (a' := { aC x m with p := (j : Int) }) m.toNat 0 h (qh h0 h1) (by decide) rfl (by show _ = m.toNat * 3 + 0; simp) ?_
   clear h; intro M h
   refine jS h ?_
   clear h; intro M h
   refine qf h ?_
   rw [zj (pr := { aL x (j : Int) with gA := m }) hlb] at h
   have e3 := vL (y := { aL x (j : Int) with gA := m }) jj rfl
   exact k _ (Hp.bX (vM (A := A) (c := c) (a := ⟨some ⟨q, 0, none⟩, cp, uP, some ⟨q2, 0, none⟩, cm⟩) (x := (x.cZ (j : Int) { aL x (j : Int) with gA := m }).jb m { aC x m with p := (j : Int) }) h b (by simp [Sc.cZ, Sc.jb, eu]) (by rfl) (by simpa [Sc.cZ, Sc.jb] using hl) (by rfl) (by exact e3) (by rfl)))
  ·refine ⟨x.ps.length - (j + 1), by omega, j + 1, by rw [aT (by omega)], rfl, by omega, fun q' RZ hq' Vv => ?_, h⟩
   rcases Nat.lt_or_ge q' j with h8 | h8
   ·exact hp q' RZ h8 Vv
   ·have : q' = j := by omega
    subst this
    rw [jj] at Vv; cases Vv; exact e
 ·have W7 : x.ps.findIdx? (fun pr => pr.gA == -1) = none := by
   refine List.findIdx?_eq_none_iff.2 fun pr jj => ?_
   obtain ⟨q, hq, e⟩ := List.getElem_of_mem jj
   have := hp q pr (by omega) (by rw [← e]; exact List.getElem?_eq_getElem hq)
   simpa using this
  rw [W7] at k
  dsimp only at k
  refine jS h ?_
  clear h; intro M h
  refine qf h ?_
  refine k _ (gP (a := a) hl ?_)
  have h2 := xK (h.sub (show Sub _ (pt b (eu wb db a x A x.gl.length c) 137 :: j6 A c x.gl :: aB (bF pa p) wb x.w :: aB (cv .nilFunc) db x.d :: ei a x L') from (by repeat (first | exact .refl | refine .cons (by repeat (first | exact .here | apply aF.there)) ?_ | apply Sub.drop))))
  exact h2
theorem zn {bs : List Nat} {ps : List cN} {j : Nat} {pr y : cN} (h : ps[j]? = some pr) (e1 : y.turns = pr.turns) (e2 : y.gA = pr.gA) : bQ bs (ps.set j y) = bQ bs ps := by
 obtain ⟨hj, rfl⟩ := List.getElem?_eq_some_iff.1 h
 unfold bQ
 refine List.ext_getElem (by simp) fun n h1 h2 => ?_
 simp only [List.getElem_zipWith, List.getElem_set]
 split
 ·rename_i he
  subst he
  rw [e1, e2]
 ·rfl
def Sc.own (x : Sc) (i : Int) : Sc × Int × Bool :=
 let r := rQ (aL x i).q (aL x i).turns x.gl
 ({ x.cZ i { aL x i with q := r.1 } with gl := r.2.1 }, r.2.2.1, r.2.2.2)
theorem KA {q : Nat} {a : SA} (h : Hp R L M) [o : rO (dH b wb db a x) L x.gl L'] [o2 : cG (some ⟨q, 0, none⟩) L' (Nat × Int × Int) mR 141 a.cp (bQ a.lb x.ps) L2] {L3 : List HP} [o3 : fD bK L2 a.lb (x.ps.map cN.q) L3]
  (hap : a.ap = some ⟨q, 0, none⟩) (hl : a.lb.length = x.ps.length) (h0 : 0 ≤ i) (h1 : i < x.ps.length) (hs : x.gl.length ≤ 1000000) (ht : 0 ≤ (aL x i).turns)
  (k : ∀ M', Hp R (fO (dH b wb db a x) (x.own i).1.gl :: b6 (some ⟨q, 0, none⟩) a.cp (bQ a.lb x.ps) :: bn bK a.lb ((x.own i).1.ps.map cN.q) :: L3) M' → K (.tuple #[.int .i64 (x.own i).2.1, .bool (x.own i).2.2]) M') :
  ae Tryz.prog 132 #[.pointer (some ⟨b, 0, none⟩), .pointer (some ⟨q, i.toNat * 3, none⟩)] M K Kp := by
 refine sV ?_
 obtain ⟨lb, hlb, jj, hrow⟩ := qg (i := i) hl h0 h1
 have h2 : Hp R (fO (dH b wb db a x) x.gl :: b6 (some ⟨q, 0, none⟩) a.cp (bQ a.lb x.ps) :: bn bK a.lb (x.ps.map cN.q) :: L3) M := h.sub (.cons o.pick (.cons o2.pick (.cons o3.pick .refl)))
 clear h
 have h := h2
 clear h2
 have hq : (x.ps.map cN.q)[i.toNat]? = some (aL x i).q := by rw [List.getElem?_map, jj]; rfl
 unfold Sc.own at k
 dsimp only at k
 have yQ : ∀ q', (x.cZ i { aL x i with q := q' }).ps.map cN.q = (x.ps.map cN.q).set i.toNat q' := fun q' => by simp [Sc.cZ, List.map_set]
 simp only [yQ] at k
 unfold rQ at k
 dsimp only at k
 refine lB (Src.at (Src.row (A := some ⟨q, 0, none⟩) : Src R _ _ (mR.cells (bQ a.lb x.ps))) h (i := i.toNat) (j := 0) hrow rfl (by show _ = 0 + (i.toNat * 3 + 0); simp)) ?_
 replace h := h.cY bK hlb hq
 replace h : Hp R (aB bK lb (aL x i).q :: fO (dH b wb db a x) x.gl :: lD bK a.lb (x.ps.map cN.q) i.toNat :: b6 (some ⟨q, 0, none⟩) a.cp (bQ a.lb x.ps) :: L3) M := h.sub (by repeat (first | exact .refl | refine .cons (by repeat (first | exact .here | apply aF.there)) ?_ | apply Sub.drop))
 have hbd := vF h (b := lb)
 refine GV (P := dH b wb db a x) wN h (by omega) ?_
 clear h; intro M h
 have ZF := Of (q := (aL x i).q) (gl := x.gl)
 refine cE ?_
 generalize htr : (aL x i).q.fW x.gl = r at h k ZF
 obtain ⟨q1, g1, n1⟩ := r
 dsimp only at h k ZF
 have Kh : g1.length ≤ 100000000 := by obtain ⟨a1, a2, a3⟩ := hbd; omega
 refine be (Src.at (h.src (A := some ⟨q, 0, none⟩)) h (i := i.toNat) (j := 1) hrow rfl (by show _ = 0 + (i.toNat * 3 + 1); omega)) ?_
 refine ⟨by decide, ?_⟩
 have rest : ∀ {M : Mem}, (Hp R (aB bK lb q1 :: fO (dH b wb db a x) g1 :: lD bK a.lb (x.ps.map cN.q) i.toNat :: b6 (some ⟨q, 0, none⟩) a.cp (bQ a.lb x.ps) :: L3) M) → ¬ (Int.tmod (aL x i).turns 7 = 6 ∧ 0 < g1.length) →
   bL (Mem.ld M ⟨q, i.toNat * 3, none⟩) fun nY =>
    ae Tryz.prog 131 #[(.pointer nY)] M (fun Co eT =>
    ∃ hU : Int, ∃ t18 : Bool, (Co = (.tuple #[(.int .i64 hU), (.bool t18)])) ∧
    aV t18
     (K (.tuple #[(.int .i64 hU), (.bool true)]) eT)
     (bL (Mem.ld eT ⟨q, i.toNat * 3, none⟩) fun zH =>
     ae Tryz.prog 179 #[(.pointer zH), (.pointer (some ⟨b, (0 + 7), none⟩)), (.int .i64 0)] eT (fun v20 iP =>
     ∃ rU : Int, ∃ t23 : Bool, (v20 = (.tuple #[(.int .i64 rU), (.bool t23)])) ∧
     K (.tuple #[(.int .i64 rU), (.bool t23)]) iP) Kp)) Kp := by
  intro M h hno
  rw [if_neg hno] at k
  refine lB (Src.at (h.src (A := some ⟨q, 0, none⟩)) h (i := i.toNat) (j := 0) hrow rfl (by show _ = 0 + (i.toNat * 3 + 0); simp)) ?_
  refine Bw h (b := lb) ?_
  clear h; intro t M ZK ZL h
  refine ⟨_, _, rfl, ?_⟩
  by_cases hh : vK q1 = true
  ·rw [if_pos hh] at k
   have : t = true := ZL (by unfold vK at hh; simpa using hh)
   subst this
   refine aq ?_
   replace h := h.dU bK lb hlb (by rw [List.length_map]; omega)
   exact k _ (h.sub (by repeat (first | exact .refl | refine .cons (by repeat (first | exact .here | apply aF.there)) ?_ | apply Sub.drop)))
  ·rw [if_neg hh] at k
   have hn : q1.next = -1 ∧ q1.l = [] := by
    unfold vK at hh
    rw [Bool.or_eq_true] at hh
    constructor
    ·exact Decidable.byContradiction fun e => hh (.inl (by simpa using e))
    ·cases Yr : q1.l with
     | nil => rfl
     | cons _ _ => exact absurd (.inr (by rw [Yr]; rfl)) hh
   have hg : q1.get.2 = -1 := by unfold Loc.get; rw [if_neg (by simpa using hn.1), hn.2]
   have : t = false := ZK hg hn.1 hn.2
   subst this
   refine au ?_
   refine lB (Src.at (h.src (A := some ⟨q, 0, none⟩)) h (i := i.toNat) (j := 0) hrow rfl (by show _ = 0 + (i.toNat * 3 + 0); simp)) ?_
   replace h : Hp R (aB bK lb q1.get.1 :: fO (dH b wb db a x) g1 :: lD bK a.lb (x.ps.map cN.q) i.toNat :: b6 (some ⟨q, 0, none⟩) a.cp (bQ a.lb x.ps) :: L3) M := h.sub (by repeat (first | exact .refl | refine .cons (by repeat (first | exact .here | apply aF.there)) ?_ | apply Sub.drop))
   refine ED (P := dH b wb db a x) wN h Kh (by decide) ?_
   clear h; intro t2 M ht3 ht4 h
   refine ⟨_, _, rfl, ?_⟩
   have ht5 : t2 = !g1.isEmpty := by
    cases g1 with
    | nil => exact ht3 (by unfold Loc.ee; simp) rfl
    | cons _ _ => exact ht4 (by simp)
   subst ht5
   replace h := h.dU bK lb hlb (by rw [List.length_map]; omega)
   exact k _ (h.sub (by repeat (first | exact .refl | refine .cons (by repeat (first | exact .here | apply aF.there)) ?_ | apply Sub.drop)))
 refine aZ.2 ⟨fun e6 => ?_, fun e6 => ?_⟩
 ·replace h : Hp R (fO (dH b wb db a x) g1 :: aB bK lb q1 :: lD bK a.lb (x.ps.map cN.q) i.toNat :: b6 (some ⟨q, 0, none⟩) a.cp (bQ a.lb x.ps) :: L3) M := h.sub (by repeat (first | exact .refl | refine .cons (by repeat (first | exact .here | apply aF.there)) ?_ | apply Sub.drop))
  refine pX (P := dH b wb db a x) (n := 1) wN h (by omega) ?_
  clear h; intro A2 c2 M h
  refine aY ?_
  have e1 : (1 : Int).toNat = 1 := rfl
  rw [e1] at h ⊢
  by_cases hg : 0 < g1.length
  ·rw [if_pos ⟨e6, hg⟩] at k
   have hlen : (g1.take 1).length = 1 := by rw [List.length_take]; omega
   rw [hlen]
   refine aq ⟨by omega, by omega, ?_⟩
   obtain ⟨q9, rfl⟩ := h.bx (A := A2) (by omega) (by decide)
   refine br ?_
   obtain ⟨v, hv⟩ := aQ (l := g1) (i := 0) hg
   have Ff : (g1.take 1)[0]? = some v := by rw [List.getElem?_take, if_pos (by omega)]; exact hv
   refine be (Src.at (h.src (A := some ⟨q9, 0, none⟩)) h (i := 0) (j := 0) Ff rfl rfl) ?_
   have hvd : g1.headD 0 = v := by
    cases g1 with
    | nil => simp at hg
    | cons w _ => simp at hv; simpa using hv
   rw [hvd] at k
   replace h : Hp R (aB bK lb q1 :: lD bK a.lb (x.ps.map cN.q) i.toNat :: fO (dH b wb db a x) (g1.drop 1) :: b6 (some ⟨q, 0, none⟩) a.cp (bQ a.lb x.ps) :: L3) M := h.sub (by repeat (first | exact .refl | refine .cons (by repeat (first | exact .here | apply aF.there)) ?_ | apply Sub.drop))
   replace h := h.dU bK lb hlb (by rw [List.length_map]; omega)
   exact k _ (h.sub (by repeat (first | exact .refl | refine .cons (by repeat (first | exact .here | apply aF.there)) ?_ | apply Sub.drop)))
  ·have Ve : g1 = [] := List.eq_nil_of_length_eq_zero (by omega)
   subst Ve
   refine au ?_
   exact rest (h.sub (by repeat (first | exact .refl | refine .cons (by repeat (first | exact .here | apply aF.there)) ?_ | apply Sub.drop))) (fun hc => by simp at hc)
 ·exact rest (h.sub (by repeat (first | exact .refl | refine .cons (by repeat (first | exact .here | apply aF.there)) ?_ | apply Sub.drop))) (fun hc => e6 hc.1)
end
end Go.Proofs
namespace Go.Proofs
open Go.AF
set_option maxRecDepth 100000
set_option maxHeartbeats 1000000
attribute [local irreducible] aK cD fH bL aD fx aI aO bj aS bI aV
inductive oM where
 | ev (e : Ev)
 | dG (l : List PanicEntry)
def Sc.bU (x : Sc) (m i kind g : Int) (ok : Bool) : Sc × Ev :=
 if ok then ((x.cZ i { aL x i with turns := (aL x i).turns + 1 }).jb m ⟨(aC x m).p, g, x.c.S⟩, ⟨kind, m, g, []⟩)
 else ((x.cZ i { aL x i with gA := -1 }).jb m ⟨-1, -1, 0⟩, ⟨6, m, -1, []⟩)
def Sc.find (x : Sc) (m : Int) : Sc × oM :=
 let i := (aC x m).p
 if 0 < (aC x m).left ∧ (aL x i).q.next ≠ -1 then
  ((x.cZ i { aL x i with q := (aL x i).q.get.1 }).jb m { aC x m with g := (aL x i).q.get.2 }, .ev ⟨4, m, (aL x i).q.get.2, []⟩)
 else
  let y := (x.own i).1
  if (x.own i).2.2 = false ∧ 1 < x.c.P then match y.d.draw 2 x.c.P with
   | (d', .dG l) => ({ y with d := d' }, .dG l)
   | (d', .num v) =>
    let y := { y with d := d' }
    if v = i then ((y.bU m i 5 (-1) false).1, .ev (y.bU m i 5 (-1) false).2)
    else
     let s := (aL y i).q.dh (aL y v).q
     let z := (y.cZ i { aL y i with q := s.1 }).cZ v { aL y v with q := s.2.1 }
     ((z.bU m i 5 s.2.2 (jB (aL y v).q s.2.2)).1, .ev (z.bU m i 5 s.2.2 (jB (aL y v).q s.2.2)).2)
  else ((y.bU m i 4 (x.own i).2.1 (x.own i).2.2).1, .ev (y.bU m i 4 (x.own i).2.1 (x.own i).2.2).2)
section
variable {R : Mem} {L L' L2 : List HP} {M : Mem} {K : Value → Mem → Prop} {Kp : List PanicEntry → Mem → Prop} {pa : PA} {p : bZ} {b wb db : Nat} {x : Sc} {m i : Int}
theorem vN {lb : Nat} (k : K (.tuple #[.int .i64 (-1), .bool false]) M) : ae Tryz.prog 133 #[.pointer (some ⟨lb, 0, none⟩), .pointer (some ⟨lb, 0, none⟩)] M K Kp := by
 refine jv ?_
 exact ⟨fun _ => aq k, fun hne => absurd rfl hne⟩
theorem qi {y : cN} : (x.cZ i y).ps.length = x.ps.length := by simp [Sc.cZ]
theorem KB {a : SA} {q q2 k1 : Nat} {kind g : Int} {t : Bool}
  (h : Hp R (fO (dH b wb db a x) x.gl :: aB (bF pa p) wb x.w :: aB (cv .nilFunc) db x.d :: b6 (some ⟨q, 0, none⟩) a.cp (bQ a.lb x.ps) :: bn bK a.lb (x.ps.map cN.q) :: ck (some ⟨q2, 0, none⟩) a.cm x.ms :: pt k1 [.int .i64 0, .int .i64 0, .int .i64 0, .slice none 0 0] 47 :: L') M)
  (hap : a.ap = some ⟨q, 0, none⟩) (IM : a.am = some ⟨q2, 0, none⟩) (hl : a.lb.length = x.ps.length) (m0 : 0 ≤ m) (m1 : m < x.ms.length) (i0 : 0 ≤ i) (i1 : i < x.ps.length) (ht : 0 ≤ (aL x i).turns ∧ (aL x i).turns < 1000000000)
  (k : ∀ M', Hp R (aB (dy pa p wb db) b (x.bU m i kind g t).1 :: L') M' → K (Hi (x.bU m i kind g t).2 none 0) M') :
  aV (!t)
   (aD (Mem.ld M ⟨b, (0 + 6), none⟩) fun S4 Gd vr =>
   aO M ⟨q, ((i.toNat * 3) + 2), none⟩ (.int .i64 (-1)) fun Dg =>
   ((0 : Int) ≤ m) ∧
   ((m : Int) < ((Gd : Nat) : Int)) ∧
   aI S4 fun K3 Ij =>
   aO Dg ⟨K3, (Ij + ((Int.toNat m) * 3)), none⟩ (.int .i64 (-1)) fun zG =>
   aO zG ⟨K3, ((Ij + ((Int.toNat m) * 3)) + 1), none⟩ (.int .i64 (-1)) fun SP =>
   aO SP ⟨K3, ((Ij + ((Int.toNat m) * 3)) + 2), none⟩ (.int .i64 0) fun Cl =>
   aO Cl ⟨k1, 0, none⟩ (.int .i64 6) fun SQ =>
   aO SQ ⟨k1, (0 + 1), none⟩ (.int .i64 m) fun jK =>
   aO jK ⟨k1, (0 + 2), none⟩ (.int .i64 (-1)) fun Tq =>
   aO Tq ⟨k1, (0 + 3), none⟩ (.slice none 0 0) fun yE =>
   aK (Mem.ld yE ⟨k1, 0, none⟩) .i64 fun Po =>
   aK (Mem.ld yE ⟨k1, (0 + 1), none⟩) .i64 fun JC =>
   aK (Mem.ld yE ⟨k1, (0 + 2), none⟩) .i64 fun JD =>
   aD (Mem.ld yE ⟨k1, (0 + 3), none⟩) fun Xv Tr Wc =>
   K (.agg #[(.int .i64 Po), (.int .i64 JC), (.int .i64 JD), (.slice Xv Tr Wc)]) yE)
   (aK (Mem.ld M ⟨q, ((i.toNat * 3) + 1), none⟩) .i64 fun tS =>
   aO M ⟨q, ((i.toNat * 3) + 1), none⟩ (.int .i64 (IntKind.wrap .i64 (tS + 1))) fun gF =>
   aD (Mem.ld gF ⟨b, (0 + 6), none⟩) fun yF j5 z9 =>
   aD (Mem.ld gF ⟨b, (0 + 6), none⟩) fun Cy w8 JQ =>
   aK (Mem.ld gF ⟨b, ((0 + 1) + 3), none⟩) .i64 fun yA =>
   ((0 : Int) ≤ m) ∧
   ((m : Int) < ((j5 : Nat) : Int)) ∧
   aI yF fun Aa JR =>
   aO gF ⟨Aa, ((JR + ((Int.toNat m) * 3)) + 1), none⟩ (.int .i64 g) fun nG =>
   ((0 : Int) ≤ m) ∧
   ((m : Int) < ((w8 : Nat) : Int)) ∧
   aI Cy fun Gh Cz =>
   aO nG ⟨Gh, ((Cz + ((Int.toNat m) * 3)) + 2), none⟩ (.int .i64 yA) fun sS =>
   aO sS ⟨k1, 0, none⟩ (.int .i64 kind) fun Gi =>
   aO Gi ⟨k1, (0 + 1), none⟩ (.int .i64 m) fun oF =>
   aO oF ⟨k1, (0 + 2), none⟩ (.int .i64 g) fun vt =>
   aO vt ⟨k1, (0 + 3), none⟩ (.slice none 0 0) fun lU =>
   aK (Mem.ld lU ⟨k1, 0, none⟩) .i64 fun Ad =>
   aK (Mem.ld lU ⟨k1, (0 + 1), none⟩) .i64 fun yB =>
   aK (Mem.ld lU ⟨k1, (0 + 2), none⟩) .i64 fun yC =>
   aD (Mem.ld lU ⟨k1, (0 + 3), none⟩) fun Gj CA D8 =>
   K (.agg #[(.int .i64 Ad), (.int .i64 yB), (.int .i64 yC), (.slice Gj CA D8)]) lU) := by
 obtain ⟨lb, hlb, jj, hrow⟩ := qg (i := i) hl i0 i1
 have mT := qh m0 m1
 have m2 : m.toNat < x.ms.length := by omega
 obtain ⟨ap, cp, uP, am, cm⟩ := a
 dsimp only at hap IM hl hlb hrow h
 subst hap; subst IM
 obtain ⟨A, c, h2⟩ := nR h
 clear h
 have h := h2
 clear h2
 unfold Sc.bU at k
 cases t with
 | false =>
  simp only [Bool.false_eq_true, if_false] at k
  refine aq ?_
  refine aR h ?_
  refine iB (E := mR) (a' := (lb, (aL x i).turns, -1)) i.toNat 2 h hrow (by decide) rfl rfl ?_
  clear h; intro M h
  refine ⟨m0, m1, br ?_⟩
  refine iB (E := eV) (a' := ⟨-1, (aC x m).g, (aC x m).left⟩) m.toNat 0 h mT (by decide) rfl (by show _ = m.toNat * 3 + 0; omega) ?_
  clear h; intro M h
  refine iB (E := eV) (a := ⟨-1, (aC x m).g, (aC x m).left⟩) (a' := ⟨-1, -1, (aC x m).left⟩) m.toNat 1 h (by simp [m2]) (by decide) rfl (by show _ = m.toNat * 3 + 1; omega) ?_
  clear h; intro M h
  refine iB (E := eV) (a := ⟨-1, -1, (aC x m).left⟩) (a' := ⟨-1, -1, 0⟩) m.toNat 2 h (by simp [m2]) (by decide) rfl (by show _ = m.toNat * 3 + 2; omega) ?_
  clear h; intro M h
  rw [iF, iF, zj (pr := { aL x i with gA := -1 }) hlb] at h
  refine jS h ?_
  clear h; intro M h
  refine qf h ?_
  have e3 := vL (y := { aL x i with gA := -1 }) jj rfl
  exact k _ (Hp.bX (vM (A := A) (c := c) (a := ⟨some ⟨q, 0, none⟩, cp, uP, some ⟨q2, 0, none⟩, cm⟩) (x := (x.cZ i { aL x i with gA := -1 }).jb m ⟨-1, -1, 0⟩) h b (by simp [Sc.cZ, Sc.jb, eu]) (by rfl) (by simpa [Sc.cZ, Sc.jb] using hl) (by rfl) (by exact e3) (by rfl)))
 | true =>
  simp only [if_true] at k
  refine au ?_
  refine be (Src.at (h.src (A := some ⟨q, 0, none⟩)) h (i := i.toNat) (j := 1) hrow rfl (by show _ = 0 + (i.toNat * 3 + 1); omega)) ?_
  rw [iY ht.1 (by omega)]
  refine iB (E := mR) (a' := (lb, (aL x i).turns + 1, (aL x i).gA)) i.toNat 1 h hrow (by decide) rfl rfl ?_
  clear h; intro M h
  refine aR h (aR h (aJ h ⟨m0, m1, br ?_⟩))
  refine iB (E := eV) (a' := ⟨(aC x m).p, g, (aC x m).left⟩) m.toNat 1 h mT (by decide) rfl (by show _ = m.toNat * 3 + 1; omega) ?_
  clear h; intro M h
  refine ⟨m0, m1, br ?_⟩
  refine iB (E := eV) (a := ⟨(aC x m).p, g, (aC x m).left⟩) (a' := ⟨(aC x m).p, g, x.c.S⟩) m.toNat 2 h (by simp [m2]) (by decide) rfl (by show _ = m.toNat * 3 + 2; omega) ?_
  clear h; intro M h
  rw [iF, zj (pr := { aL x i with turns := (aL x i).turns + 1 }) hlb] at h
  refine jS h ?_
  clear h; intro M h
  refine qf h ?_
  have e3 := vL (y := { aL x i with turns := (aL x i).turns + 1 }) jj rfl
  exact k _ (Hp.bX (vM (A := A) (c := c) (a := ⟨some ⟨q, 0, none⟩, cp, uP, some ⟨q2, 0, none⟩, cm⟩) (x := (x.cZ i { aL x i with turns := (aL x i).turns + 1 }).jb m ⟨(aC x m).p, g, x.c.S⟩) h b (by simp [Sc.cZ, Sc.jb, eu]) (by rfl) (by simpa [Sc.cZ, Sc.jb] using hl) (by rfl) (by exact e3) (by rfl)))
def vO (x : Sc) (m : Int) : Prop := 0 ≤ m ∧ m < x.ms.length ∧ 0 ≤ (aC x m).p ∧ (aC x m).p < x.ps.length ∧ x.gl.length ≤ 1000000 ∧ 0 ≤ (aL x (aC x m).p).turns ∧ (aL x (aC x m).p).turns < 1000000000 ∧ x.d.taken.length < 100000000 ∧ x.c.P ≤ x.ps.length ∧ x.c.P < 1000000
instance (x : Sc) (m : Int) : Decidable (vO x m) := by unfold vO; infer_instance
theorem KC {j : Int} (h0 : 0 ≤ i) (hi : i < x.ps.length) (hj : 0 ≤ j) : (aL (x.own i).1 j).turns = (aL x j).turns := by
 unfold Sc.own Sc.cZ aL
 dsimp only
 by_cases e : i.toNat = j.toNat
 ·rw [e]
  rw [List.getD_eq_getElem?_getD, List.getElem?_set_self (by omega)]; rfl
 ·rw [List.getD_eq_getElem?_getD, List.getElem?_set_ne e, ← List.getD_eq_getElem?_getD]
end
end Go.Proofs
namespace Go.Proofs
open Go.AF
set_option maxRecDepth 100000
set_option maxHeartbeats 1000000
attribute [local irreducible] aK cD fH bL aD fx aI aO bj aS bI aV
section
variable {R : Mem} {L L' L2 : List HP} {M : Mem} {K : Value → Mem → Prop} {Kp : List PanicEntry → Mem → Prop} {pa : PA} {p : bZ} {b wb db : Nat} {x : Sc} {m i : Int} {a : SA} {g : List Int}
theorem IN (h : Hp R (fO (dH b wb db a x) g :: L) M) : M.ld ⟨b, 0 + 5, none⟩ = some (.slice a.ap x.ps.length a.cp) := by
 obtain ⟨A, c, h9⟩ := iI (P := dH b wb db a x) h; exact aj h9
theorem wO (h : Hp R (fO (dH b wb db a x) g :: L) M) : M.ld ⟨b, 0 + 6, none⟩ = some (.slice a.am x.ms.length a.cm) := by
 obtain ⟨A, c, h9⟩ := iI (P := dH b wb db a x) h; exact aj h9
theorem sc_P (h : Hp R (fO (dH b wb db a x) g :: L) M) : M.ld ⟨b, 0 + 1, none⟩ = some (.int .i64 x.c.P) := by
 obtain ⟨A, c, h9⟩ := iI (P := dH b wb db a x) h; exact aj h9
theorem Ys (h : Hp R (fO (dH b wb db a x) g :: L) M) : M.ld ⟨b, (0 + 1) + 1, none⟩ = some (.int .i64 x.c.M) := by
 obtain ⟨A, c, h9⟩ := iI (P := dH b wb db a x) h; exact aj h9
theorem Vw (h : Hp R (fO (dH b wb db a x) g :: L) M) : M.ld ⟨b, 0 + 8, none⟩ = some (.pointer (some ⟨db, 0, none⟩)) := by
 obtain ⟨A, c, h9⟩ := iI (P := dH b wb db a x) h; exact aj h9
theorem Yt (h : Hp R (fO (dH b wb db a x) g :: L) M) : M.ld ⟨b, 0, none⟩ = some (.pointer (some ⟨wb, 0, none⟩)) := by
 obtain ⟨A, c, h9⟩ := iI (P := dH b wb db a x) h; exact aj h9
theorem QI : dH b wb db a (x.own i).1 = dH b wb db a x := by
 unfold Sc.own dH eu Sc.cZ; simp
def ZM (R : Mem) (pa : PA) (p : bZ) (b wb db : Nat) (a : SA) (L' : List HP) (K : Value → Mem → Prop) (m i : Int) (q q2 k1 : Nat) (z : Sc) (kind g : Int) (t : Bool) (M : Mem) : Prop :=
 Hp R (fO (dH b wb db a z) z.gl :: aB (bF pa p) wb z.w :: aB (cv .nilFunc) db z.d :: b6 (some ⟨q, 0, none⟩) a.cp (bQ a.lb z.ps) :: bn bK a.lb (z.ps.map cN.q) :: ck (some ⟨q2, 0, none⟩) a.cm z.ms :: pt k1 [.int .i64 0, .int .i64 0, .int .i64 0, .slice none 0 0] 47 :: L') M ∧
 a.lb.length = z.ps.length ∧ m < z.ms.length ∧ i < z.ps.length ∧ (0 ≤ (aL z i).turns ∧ (aL z i).turns < 1000000000) ∧
 (∀ M', Hp R (aB (dy pa p wb db) b (z.bU m i kind g t).1 :: L') M' → K (Hi (z.bU m i kind g t).2 none 0) M')
theorem EY {y : cN} {j : Int} (hi : 0 ≤ i) (h1 : i < x.ps.length) (hj : 0 ≤ j) : aL (x.cZ i y) j = if i = j then y else aL x j := by
 unfold aL Sc.cZ
 dsimp only
 by_cases e : i = j
 ·subst e
  rw [if_pos rfl, List.getD_eq_getElem?_getD, List.getElem?_set_self (by omega)]; rfl
 ·rw [if_neg e, List.getD_eq_getElem?_getD, List.getElem?_set_ne (by omega), ← List.getD_eq_getElem?_getD]
theorem BJ {q q2 k1 : Nat}
  (h : Hp R (fO (dH b wb db a x) x.gl :: aB (bF pa p) wb x.w :: aB (cv .nilFunc) db x.d :: b6 (some ⟨q, 0, none⟩) a.cp (bQ a.lb x.ps) :: bn bK a.lb (x.ps.map cN.q) :: ck (some ⟨q2, 0, none⟩) a.cm x.ms :: pt k1 [.int .i64 0, .int .i64 0, .int .i64 0, .slice none 0 0] 47 :: L') M)
  (hap : a.ap = some ⟨q, 0, none⟩) (IM : a.am = some ⟨q2, 0, none⟩) (hl : a.lb.length = x.ps.length) (hk : vO x m) (hi : i = (aC x m).p) (hd : x.d.Ok)
  (k : let y := (x.own i).1
   if (x.own i).2.2 = false ∧ 1 < x.c.P then match y.d.draw 2 x.c.P with
    | (d', .dG l) => ∀ M', Hp R (aB (dy pa p wb db) b { y with d := d' } :: L') M' → Kp l M'
    | (d', .num v) =>
     let y := { y with d := d' }
     let s := (aL y i).q.dh (aL y v).q
     let z := if v = i then y else (y.cZ i { aL y i with q := s.1 }).cZ v { aL y v with q := s.2.1 }
     let r := if v = i then (-1, false) else (s.2.2, jB (aL y v).q s.2.2)
     ∀ M', Hp R (aB (dy pa p wb db) b (z.bU m i 5 r.1 r.2).1 :: L') M' → K (Hi (z.bU m i 5 r.1 r.2).2 none 0) M'
   else ∀ M', Hp R (aB (dy pa p wb db) b (y.bU m i 4 (x.own i).2.1 (x.own i).2.2).1 :: L') M' → K (Hi (y.bU m i 4 (x.own i).2.1 (x.own i).2.2).2 none 0) M') :
  ae Tryz.prog 132 #[(.pointer (some ⟨b, 0, none⟩)), (.pointer (some ⟨q, (i.toNat * 3), none⟩))] M (fun MF mV =>
 ∃ Dh : Int, ∃ t57 : Bool, (MF = (.tuple #[(.int .i64 Dh), (.bool t57)])) ∧
 aV (!t57)
  (aK (Mem.ld mV ⟨b, (0 + 1), none⟩) .i64 fun DW =>
  ∃ To : List Value → Mem → Prop, (aV (decide ((DW : Int) > 1))
   (bL (Mem.ld mV ⟨b, (0 + 8), none⟩) fun A60 =>
    aK (Mem.ld mV ⟨b, (0 + 1), none⟩) .i64 fun JA =>
    ae Tryz.prog 98 #[(.pointer A60), (.int .i64 2), (.int .i64 JA)] mV (fun SY wk =>
    aK (some SY) .i64 fun n64 =>
    bL (Mem.ld wk ⟨q, (i.toNat * 3), none⟩) fun PF =>
    aD (Mem.ld wk ⟨b, (0 + 5), none⟩) fun MG w7 Ih =>
    ((0 : Int) ≤ n64) ∧
    ((n64 : Int) < ((w7 : Nat) : Int)) ∧
    aI MG fun Ii Bg =>
    bL (Mem.ld wk ⟨Ii, (Bg + ((Int.toNat n64) * 3)), none⟩) fun JK =>
    ae Tryz.prog 133 #[(.pointer PF), (.pointer JK)] wk (fun v72 z0 =>
    ∃ Ig : Int, ∃ t75 : Bool, (v72 = (.tuple #[(.int .i64 Ig), (.bool t75)])) ∧
    To [(.int .i64 5), (.int .i64 Ig), (.bool t75)] z0) Kp) Kp)
   (To [(.int .i64 4), (.int .i64 Dh), (.bool t57)] mV)) ∧
  ∀ Tp : Nat → Value, ∀ DY : Int, ∀ Gg : Int, ∀ t79 : Bool, ∀ xC : Mem, (To [(.int .i64 DY), (.int .i64 Gg), (.bool t79)] xC) → aV (!t79)
   (aD (Mem.ld xC ⟨b, (0 + 6), none⟩) fun S4 Gd vr =>
   aO xC ⟨q, ((i.toNat * 3) + 2), none⟩ (.int .i64 (-1)) fun Dg =>
   ((0 : Int) ≤ m) ∧
   ((m : Int) < ((Gd : Nat) : Int)) ∧
   aI S4 fun K3 Ij =>
   aO Dg ⟨K3, (Ij + ((Int.toNat m) * 3)), none⟩ (.int .i64 (-1)) fun zG =>
   aO zG ⟨K3, ((Ij + ((Int.toNat m) * 3)) + 1), none⟩ (.int .i64 (-1)) fun SP =>
   aO SP ⟨K3, ((Ij + ((Int.toNat m) * 3)) + 2), none⟩ (.int .i64 0) fun Cl =>
   aO Cl ⟨k1, 0, none⟩ (.int .i64 6) fun SQ =>
   aO SQ ⟨k1, (0 + 1), none⟩ (.int .i64 m) fun jK =>
   aO jK ⟨k1, (0 + 2), none⟩ (.int .i64 (-1)) fun Tq =>
   aO Tq ⟨k1, (0 + 3), none⟩ (.slice none 0 0) fun yE =>
   aK (Mem.ld yE ⟨k1, 0, none⟩) .i64 fun Po =>
   aK (Mem.ld yE ⟨k1, (0 + 1), none⟩) .i64 fun JC =>
   aK (Mem.ld yE ⟨k1, (0 + 2), none⟩) .i64 fun JD =>
   aD (Mem.ld yE ⟨k1, (0 + 3), none⟩) fun Xv Tr Wc =>
   K (.agg #[(.int .i64 Po), (.int .i64 JC), (.int .i64 JD), (.slice Xv Tr Wc)]) yE)
   (aK (Mem.ld xC ⟨q, ((i.toNat * 3) + 1), none⟩) .i64 fun tS =>
   aO xC ⟨q, ((i.toNat * 3) + 1), none⟩ (.int .i64 (IntKind.wrap .i64 (tS + 1))) fun gF =>
   aD (Mem.ld gF ⟨b, (0 + 6), none⟩) fun yF j5 z9 =>
   aD (Mem.ld gF ⟨b, (0 + 6), none⟩) fun Cy w8 JQ =>
   aK (Mem.ld gF ⟨b, ((0 + 1) + 3), none⟩) .i64 fun yA =>
   ((0 : Int) ≤ m) ∧
   ((m : Int) < ((j5 : Nat) : Int)) ∧
   aI yF fun Aa JR =>
   aO gF ⟨Aa, ((JR + ((Int.toNat m) * 3)) + 1), none⟩ (.int .i64 Gg) fun nG =>
   ((0 : Int) ≤ m) ∧
   ((m : Int) < ((w8 : Nat) : Int)) ∧
   aI Cy fun Gh Cz =>
   aO nG ⟨Gh, ((Cz + ((Int.toNat m) * 3)) + 2), none⟩ (.int .i64 yA) fun sS =>
   aO sS ⟨k1, 0, none⟩ (.int .i64 DY) fun Gi =>
   aO Gi ⟨k1, (0 + 1), none⟩ (.int .i64 m) fun oF =>
   aO oF ⟨k1, (0 + 2), none⟩ (.int .i64 Gg) fun vt =>
   aO vt ⟨k1, (0 + 3), none⟩ (.slice none 0 0) fun lU =>
   aK (Mem.ld lU ⟨k1, 0, none⟩) .i64 fun Ad =>
   aK (Mem.ld lU ⟨k1, (0 + 1), none⟩) .i64 fun yB =>
   aK (Mem.ld lU ⟨k1, (0 + 2), none⟩) .i64 fun yC =>
   aD (Mem.ld lU ⟨k1, (0 + 3), none⟩) fun Gj CA D8 =>
   K (.agg #[(.int .i64 Ad), (.int .i64 yB), (.int .i64 yC), (.slice Gj CA D8)]) lU))
  (∃ MH : List Value → Mem → Prop, (MH [(.int .i64 4), (.int .i64 Dh), (.bool t57)] mV) ∧
  ∀ PJ : Nat → Value, ∀ yG : Int, ∀ xe : Int, ∀ t129 : Bool, ∀ kP : Mem, (MH [(.int .i64 yG), (.int .i64 xe), (.bool t129)] kP) → aV (!t129)
   (aD (Mem.ld kP ⟨b, (0 + 6), none⟩) fun xg D9 JN =>
   aO kP ⟨q, ((i.toNat * 3) + 2), none⟩ (.int .i64 (-1)) fun MC =>
   ((0 : Int) ≤ m) ∧
   ((m : Int) < ((D9 : Nat) : Int)) ∧
   aI xg fun Ae oG =>
   aO MC ⟨Ae, (oG + ((Int.toNat m) * 3)), none⟩ (.int .i64 (-1)) fun JO =>
   aO JO ⟨Ae, ((oG + ((Int.toNat m) * 3)) + 1), none⟩ (.int .i64 (-1)) fun MI =>
   aO MI ⟨Ae, ((oG + ((Int.toNat m) * 3)) + 2), none⟩ (.int .i64 0) fun yD =>
   aO yD ⟨k1, 0, none⟩ (.int .i64 6) fun CB =>
   aO CB ⟨k1, (0 + 1), none⟩ (.int .i64 m) fun CC =>
   aO CC ⟨k1, (0 + 2), none⟩ (.int .i64 (-1)) fun Eb =>
   aO Eb ⟨k1, (0 + 3), none⟩ (.slice none 0 0) fun yH =>
   aK (Mem.ld yH ⟨k1, 0, none⟩) .i64 fun MJ =>
   aK (Mem.ld yH ⟨k1, (0 + 1), none⟩) .i64 fun MK =>
   aK (Mem.ld yH ⟨k1, (0 + 2), none⟩) .i64 fun Ec =>
   aD (Mem.ld yH ⟨k1, (0 + 3), none⟩) fun Ts ML Tt =>
   K (.agg #[(.int .i64 MJ), (.int .i64 MK), (.int .i64 Ec), (.slice Ts ML Tt)]) yH)
   (aK (Mem.ld kP ⟨q, ((i.toNat * 3) + 1), none⟩) .i64 fun Ea =>
   aO kP ⟨q, ((i.toNat * 3) + 1), none⟩ (.int .i64 (IntKind.wrap .i64 (Ea + 1))) fun yI =>
   aD (Mem.ld yI ⟨b, (0 + 6), none⟩) fun MM MN ME =>
   aD (Mem.ld yI ⟨b, (0 + 6), none⟩) fun Tu JS Tv =>
   aK (Mem.ld yI ⟨b, ((0 + 1) + 3), none⟩) .i64 fun Tw =>
   ((0 : Int) ≤ m) ∧
   ((m : Int) < ((MN : Nat) : Int)) ∧
   aI MM fun Tx Ty =>
   aO yI ⟨Tx, ((Ty + ((Int.toNat m) * 3)) + 1), none⟩ (.int .i64 xe) fun vv =>
   ((0 : Int) ≤ m) ∧
   ((m : Int) < ((JS : Nat) : Int)) ∧
   aI Tu fun MO MP =>
   aO vv ⟨MO, ((MP + ((Int.toNat m) * 3)) + 2), none⟩ (.int .i64 Tw) fun MQ =>
   aO MQ ⟨k1, 0, none⟩ (.int .i64 yG) fun MR =>
   aO MR ⟨k1, (0 + 1), none⟩ (.int .i64 m) fun MS =>
   aO MS ⟨k1, (0 + 2), none⟩ (.int .i64 xe) fun CD =>
   aO CD ⟨k1, (0 + 3), none⟩ (.slice none 0 0) fun yJ =>
   aK (Mem.ld yJ ⟨k1, 0, none⟩) .i64 fun MT =>
   aK (Mem.ld yJ ⟨k1, (0 + 1), none⟩) .i64 fun MU =>
   aK (Mem.ld yJ ⟨k1, (0 + 2), none⟩) .i64 fun MW =>
   aD (Mem.ld yJ ⟨k1, (0 + 3), none⟩) fun Tz JT TA =>
   K (.agg #[(.int .i64 MT), (.int .i64 MU), (.int .i64 MW), (.slice Tz JT TA)]) yJ))) Kp := by
 obtain ⟨m0, m1, i0, i1, Wn, ht0, ZK, Vx, hP, hP2⟩ := hk
 rw [← hi] at i0 i1 ht0 ZK
 have go : ∀ (z : Sc) (kind g : Int) (t : Bool) (M : Mem), ZM R pa p b wb db a L' K m i q q2 k1 z kind g t M → _ := fun z kind g t M ⟨h, a1, a2, a3, a4, a5⟩ => KB h hap IM a1 m0 a2 i0 a3 a4 a5
 refine KA (i := i) (q := q) (a := a) (x := x) (b := b) (wb := wb) (db := db) h hap hl i0 i1 Wn ht0 ?_
 clear h; intro M h
 refine ⟨_, _, rfl, ?_⟩
 dsimp only at k
 have ey : dH b wb db a (x.own i).1 = dH b wb db a x := QI
 have ep : bQ a.lb (x.own i).1.ps = bQ a.lb x.ps := by
  obtain ⟨lb, hlb, jj, hrow⟩ := qg (i := i) hl i0 i1
  exact zn jj rfl rfl
 have el : (x.own i).1.ps.length = x.ps.length := by simp [Sc.own, Sc.cZ]
 have et : ∀ j, 0 ≤ j → (aL (x.own i).1 j).turns = (aL x j).turns := fun j hj => KC i0 i1 hj
 have em : (x.own i).1.ms = x.ms := rfl
 have ew : (x.own i).1.w = x.w := rfl
 have ed : (x.own i).1.d = x.d := rfl
 rw [← ey, ← ep] at h
 have hR : Hp R (fO (dH b wb db a (x.own i).1) (x.own i).1.gl :: aB (bF pa p) wb (x.own i).1.w :: aB (cv .nilFunc) db (x.own i).1.d :: b6 (some ⟨q, 0, none⟩) a.cp (bQ a.lb (x.own i).1.ps) :: bn bK a.lb ((x.own i).1.ps.map cN.q) :: ck (some ⟨q2, 0, none⟩) a.cm (x.own i).1.ms :: pt k1 [.int .i64 0, .int .i64 0, .int .i64 0, .slice none 0 0] 47 :: L') M := h.sub (by repeat (first | exact .refl | refine .cons (by repeat (first | exact .here | apply aF.there)) ?_ | apply Sub.drop))
 clear h
 have h := hR
 clear hR
 have ec : (x.own i).1.c = x.c := rfl
 generalize hy : x.own i = r at h k ey ep el et em ew ed ec
 obtain ⟨y, v1, t1⟩ := r
 dsimp only at h k ey ep el et em ew ed ec ⊢
 have NI := et i i0
 have R0 : ∀ M, Hp R (fO (dH b wb db a y) y.gl :: aB (bF pa p) wb y.w :: aB (cv .nilFunc) db y.d :: b6 (some ⟨q, 0, none⟩) a.cp (bQ a.lb y.ps) :: bn bK a.lb (y.ps.map cN.q) :: ck (some ⟨q2, 0, none⟩) a.cm y.ms :: pt k1 [.int .i64 0, .int .i64 0, .int .i64 0, .slice none 0 0] 47 :: L') M → ¬ (t1 = false ∧ 1 < x.c.P) → ZM R pa p b wb db a L' K m i q q2 k1 y 4 v1 t1 M := by
  intro M h hno
  rw [if_neg hno] at k
  exact ⟨h, by omega, by rw [em]; exact m1, by omega, by omega, k⟩
 cases t1 with
 | true =>
  refine au ?_
  refine ⟨fun vs M => ∃ (z : Sc) (kind g : Int) (t : Bool), vs = [.int .i64 kind, .int .i64 g, .bool t] ∧ ZM R pa p b wb db a L' K m i q q2 k1 z kind g t M, ⟨y, 4, v1, true, rfl, R0 M h (fun hc => by cases hc.1)⟩, ?_⟩
  clear h
  rintro _ n1 n2 t3 M ⟨z, kind, g, t, he, hz⟩
  simp only [List.cons.injEq, Value.int.injEq, Value.bool.injEq, and_true, true_and] at he
  obtain ⟨rfl, rfl, rfl⟩ := he
  exact go z n1 n2 t3 M hz
 | false =>
  refine aq ?_
  rw [sc_P h]
  refine cE ?_
  refine ⟨fun vs M => ∃ (z : Sc) (kind g : Int) (t : Bool), vs = [.int .i64 kind, .int .i64 g, .bool t] ∧ ZM R pa p b wb db a L' K m i q q2 k1 z kind g t M, ?_, ?_⟩
  ·rw [ec]
   refine aP.2 ⟨fun hgt => ?_, fun hle => ?_⟩
   ·rw [if_pos ⟨rfl, hgt⟩] at k
    rw [Vw h]
    refine jk ?_
    refine cE ?_
    rw [ed] at k h
    replace h : Hp R (aB (cv .nilFunc) db x.d :: fO (dH b wb db a y) y.gl :: aB (bF pa p) wb y.w :: b6 (some ⟨q, 0, none⟩) a.cp (bQ a.lb y.ps) :: bn bK a.lb (y.ps.map cN.q) :: ck (some ⟨q2, 0, none⟩) a.cm y.ms :: pt k1 [.int .i64 0, .int .i64 0, .int .i64 0, .slice none 0 0] 47 :: L') M := h.sub (by repeat (first | exact .refl | refine .cons (by repeat (first | exact .here | apply aF.there)) ?_ | apply Sub.drop))
    refine qe h hd (by omega) Vx ?_
    clear h
    have Hg := fun k' v => zi (k := x.d.k) (kind := 2) hd.1 (zh x.c.P) (k' := k') (v := v)
    have An : ∀ v, (x.d.draw 2 x.c.P).2 = .num v → 0 ≤ v ∧ v < x.c.P := by
     intro v hv
     unfold lP.draw at hv
     split at hv
     ·rename_i k' v' hn
      cases hv
      have := Hg k' _ hn
      have e : mQ x.c.P = x.c.P := by unfold mQ; rw [if_neg (by omega)]
      rw [e] at this
      exact this
     ·cases hv
    generalize wK : x.d.draw 2 x.c.P = dd at k An
    obtain ⟨d', o⟩ := dd
    cases o with
    | dG l =>
     dsimp only at k An ⊢
     intro M h
     have hsc : dH b wb db a y = dH b wb db a { y with d := d' } := rfl
     rw [hsc] at h
     have h9 : Hp R (fO (dH b wb db a { y with d := d' }) y.gl :: aB (bF pa p) wb y.w :: aB (cv .nilFunc) db d' :: b6 a.ap a.cp (bQ a.lb y.ps) :: bn bK a.lb (y.ps.map cN.q) :: ck a.am a.cm y.ms :: pt k1 [.int .i64 0, .int .i64 0, .int .i64 0, .slice none 0 0] 47 :: L') M := by
      rw [show b6 a.ap a.cp (bQ a.lb y.ps) = b6 (some ⟨q, 0, none⟩) a.cp (bQ a.lb y.ps) from by rw [hap], show ck a.am a.cm y.ms = ck (some ⟨q2, 0, none⟩) a.cm y.ms from by rw [IM]]
      exact h.sub (by repeat (first | exact .refl | refine .cons (by repeat (first | exact .here | apply aF.there)) ?_ | apply Sub.drop))
     exact k M (Hp.bX (gP (a := a) (x := { y with d := d' }) (by rw [el]; exact hl) h9))
    | num v =>
     dsimp only at k An ⊢
     obtain ⟨v0, v1'⟩ := An v rfl
     intro M h
     refine cE ?_
     have hsc : dH b wb db a y = dH b wb db a { y with d := d' } := rfl
     rw [hsc] at h
     generalize hyz : ({ y with d := d' } : Sc) = y2 at h k
     have p1 : y2.ps = y.ps := by rw [← hyz]
     have p2 : y2.ms = y.ms := by rw [← hyz]
     have p3 : y2.gl = y.gl := by rw [← hyz]
     have p4 : y2.w = y.w := by rw [← hyz]
     have p5 : y2.d = d' := by rw [← hyz]
     rw [← p1, ← p2, ← p3, ← p4, ← p5] at h
     replace h : Hp R (fO (dH b wb db a y2) y2.gl :: aB (bF pa p) wb y2.w :: aB (cv .nilFunc) db y2.d :: b6 (some ⟨q, 0, none⟩) a.cp (bQ a.lb y2.ps) :: bn bK a.lb (y2.ps.map cN.q) :: ck (some ⟨q2, 0, none⟩) a.cm y2.ms :: pt k1 [.int .i64 0, .int .i64 0, .int .i64 0, .slice none 0 0] 47 :: L') M := h.sub (by repeat (first | exact .refl | refine .cons (by repeat (first | exact .here | apply aF.there)) ?_ | apply Sub.drop))
     have kM : a.lb.length = y2.ps.length := by rw [p1, el]; exact hl
     have K4 : i < y2.ps.length := by rw [p1, el]; exact i1
     have Ff : v < y2.ps.length := by rw [p1, el]; omega
     have Yq : m < y2.ms.length := by rw [p2, em]; exact m1
     have ZL : ∀ j, aL y2 j = aL y j := fun j => by unfold aL; rw [p1]
     obtain ⟨lbi, Yu, Yv, Yw⟩ := qg (i := i) kM i0 K4
     obtain ⟨lbv, Vy, Og, Yx⟩ := qg (i := v) kM v0 Ff
     refine lB (Src.at (Src.row (A := some ⟨q, 0, none⟩) : Src R _ _ (mR.cells (bQ a.lb y2.ps))) h (i := i.toNat) (j := 0) Yw rfl (by show _ = 0 + (i.toNat * 3 + 0); simp)) ?_
     rw [IN h]
     refine aY ⟨v0, Ff, ?_⟩
     rw [hap]
     refine br ?_
     rw [Nat.zero_add]
     refine lB (Src.at (Src.row (A := some ⟨q, 0, none⟩) : Src R _ _ (mR.cells (bQ a.lb y2.ps))) h (i := v.toNat) (j := 0) Yx rfl (by show _ = 0 + (v.toNat * 3 + 0); simp)) ?_
     by_cases ZN : v = i
     ·subst ZN
      rw [Yu] at Vy
      cases Vy
      refine vN ?_
      refine ⟨_, _, rfl, ?_⟩
      simp only [if_true] at k
      exact ⟨y2, 5, -1, false, rfl, h, kM, Yq, K4, by rw [ZL]; omega, k⟩
     ·simp only [if_neg ZN] at k
      have ZO : (y2.ps.map cN.q)[i.toNat]? = some (aL y2 i).q := by rw [List.getElem?_map, Yv]; rfl
      have hqv : (y2.ps.map cN.q)[v.toNat]? = some (aL y2 v).q := by rw [List.getElem?_map, Og]; rfl
      obtain ⟨X, hX, BK⟩ := h.Na bK (i := i.toNat) (j := v.toNat) (by omega) Yu ZO Vy hqv
      clear h
      refine EE hX ?_
      clear hX; intro t M g1 g2 h
      refine ⟨_, _, rfl, ?_⟩
      have hte : t = jB (aL y2 v).q ((aL y2 i).q.dh (aL y2 v).q).2.2 := by
       unfold jB
       by_cases hc : ((aL y2 i).q.dh (aL y2 v).q).2.2 ≠ -1 ∨ (aL y2 v).q.l ≠ []
       ·rw [g2 hc]
        rcases hc with hc | hc
        ·simp [hc]
        ·cases hq : (aL y2 v).q.l with
         | nil => exact absurd hq hc
         | cons _ _ => simp
       ·have Oh : ((aL y2 i).q.dh (aL y2 v).q).2.2 = -1 := Decidable.byContradiction fun e => hc (.inl e)
        have Cq : (aL y2 v).q.l = [] := by
         cases hq : (aL y2 v).q.l with
         | nil => rfl
         | cons _ _ => exact absurd (.inr (by rw [hq]; simp)) hc
        rw [g1 Oh Cq, Oh, Cq]; rfl
      subst hte
      replace h := BK (L2 := _) h
      generalize hs : (aL y2 i).q.dh (aL y2 v).q = s at h k ⊢
      obtain ⟨s1, s2, s3⟩ := s
      dsimp only at h k ⊢
      have e1 : bQ a.lb ((y2.cZ i { aL y2 i with q := s1 }).cZ v { aL y2 v with q := s2 }).ps = bQ a.lb y2.ps := by
       show bQ a.lb ((y2.ps.set i.toNat _).set v.toNat _) = _
       rw [zn (ps := y2.ps.set i.toNat { aL y2 i with q := s1 }) (j := v.toNat) (pr := aL y2 v) (y := { aL y2 v with q := s2 }) (by rw [List.getElem?_set_ne (by omega)]; exact Og) rfl rfl]
       exact zn Yv rfl rfl
      have e2 : ((y2.cZ i { aL y2 i with q := s1 }).cZ v { aL y2 v with q := s2 }).ps.map cN.q = ((y2.ps.map cN.q).set i.toNat s1).set v.toNat s2 := by
       simp [Sc.cZ, List.map_set]
      have e3 : dH b wb db a ((y2.cZ i { aL y2 i with q := s1 }).cZ v { aL y2 v with q := s2 }) = dH b wb db a y2 := by rw [zl, zl]
      rw [← e1, ← e2, ← e3] at h
      have e4 : (aL ((y2.cZ i { aL y2 i with q := s1 }).cZ v { aL y2 v with q := s2 }) i).turns = (aL y2 i).turns := by
       rw [EY v0 (by rw [qi]; exact Ff) i0, if_neg ZN, EY i0 K4 i0, if_pos rfl]
      refine ⟨(y2.cZ i { aL y2 i with q := s1 }).cZ v { aL y2 v with q := s2 }, 5, s3, _, rfl, h.sub (by repeat (first | exact .refl | refine .cons (by repeat (first | exact .here | apply aF.there)) ?_ | apply Sub.drop)), ?_, Yq, ?_, ?_, k⟩
      ·rw [qi, qi]; exact kM
      ·rw [qi, qi]; exact K4
      ·rw [e4, ZL]; omega
   ·exact ⟨y, 4, v1, false, rfl, R0 M h (fun hc => hle hc.2)⟩
  ·clear h
   rintro _ n1 n2 t3 M ⟨z, kind, g, t, he, hz⟩
   simp only [List.cons.injEq, Value.int.injEq, Value.bool.injEq, and_true, true_and] at he
   obtain ⟨rfl, rfl, rfl⟩ := he
   exact go z n1 n2 t3 M hz
end
end Go.Proofs
namespace Go.Proofs
open Go.AF
set_option maxRecDepth 100000
set_option maxHeartbeats 1000000
attribute [local irreducible] aK cD fH bL aD fx aI aO bj aS bI aV
def xl (l : List PanicEntry) : List PanicEntry := l ++ l.map fun e => { e with recovered := true }
theorem BL : Bz Ky (xl Ky) := fun b v M K Kp h => J1 h
theorem EZ {a k n q v : Int} : Bz (Wm a k n q v) (xl (Wm a k n q v)) := fun b w M K Kp h => CI h
theorem Oi {k k' : gv} {kind m : Int} {l : List PanicEntry} (h : k.next kind m = (k', .dG l)) : k' = k ∧ Bz l (xl l) := by
 cases k with
 | xk l i =>
  unfold gv.next at h
  dsimp only at h
  split at h
  ·cases h; exact ⟨rfl, BL⟩
  ·cases h
 | tape l i =>
  unfold gv.next at h
  dsimp only at h
  split at h
  ·cases h; exact ⟨rfl, BL⟩
  ·split at h
   ·cases h; exact ⟨rfl, EZ⟩
   ·split at h
    ·cases h; exact ⟨rfl, EZ⟩
    ·cases h
theorem E0 {x x' : lP} {kind n : Int} {l : List PanicEntry} (h : x.draw kind n = (x', .dG l)) : x' = x ∧ Bz l (xl l) := by
 unfold lP.draw at h
 split at h
 ·cases h
 ·rename_i k' l' hn
  cases h
  obtain ⟨e, h2⟩ := Oi hn
  subst e
  exact ⟨rfl, h2⟩
theorem nT {x : lP} {kind n : Int} (h : x.k.Ok) : (x.draw kind n).1.k.Ok := by
 unfold lP.draw
 have := QG (kind := kind) (m := mQ n) h
 split
 ·rename_i k' v hn; rw [hn] at this; exact this
 ·rename_i k' v hn; rw [hn] at this; exact this
theorem qj {x x' : lP} {kind n v : Int} (hok : x.k.Ok) (h : x.draw kind n = (x', .num v)) : 0 ≤ v ∧ v < mQ n ∧ x'.taken = x.taken ++ [(kind, v)] := by
 unfold lP.draw at h
 split at h
 ·rename_i k' v' hn
  cases h
  have := zi hok (zh n) hn
  exact ⟨this.1, this.2, rfl⟩
 ·cases h
def aU (m : Int) (x : Sc) (r : Int) : Sc :=
 let i := (aC x m).p
 { x.cZ i { aL x i with q := ((aL x i).q.ready r x.gl).1 } with gl := ((aL x i).q.ready r x.gl).2.1 }
def Sc.td (x : Sc) (m g : Int) (keep : Bool) (ready : List Int) : Sc × Ev :=
 if keep = true ∧ (aC x m).left - 1 ≠ 0 then (x.jb m { aC x m with left := (aC x m).left - 1 }, ⟨7, m, g, ready⟩)
 else ({ x.jb m { aC x m with left := (aC x m).left - 1, g := -1 } with gl := if (ay x.w g).st = 1 then x.gl ++ [g] else x.gl }, ⟨7, m, g, ready⟩)
def zo (p : bZ) (x : Sc) (m : Int) : Prop := 0 ≤ m ∧ m < x.ms.length ∧ 0 ≤ (aC x m).p ∧ (aC x m).p < x.ps.length ∧ x.gl.length ≤ 1000000 ∧ x.d.taken.length < 100000000 ∧ 1 ≤ (aC x m).left ∧ (aC x m).left < 1000000000 ∧ 0 ≤ (aC x m).g
instance (p : bZ) (x : Sc) (m : Int) : Decidable (zo p x m) := by unfold zo; infer_instance
def R7 : Option (Int × Int) → Bool
 | none => true
 | some (_, n) => decide (n < 9223372036854775808)
def jC (x : Sc) (m g : Int) (d : lP) (y : Wd) (rest : Bool) : Option (Sc × oM) :=
 if y.ready.length ≤ 10000 ∧ g < y.gs.length then
  some (((y.ready.foldl (aU m) { x with w := y, d := d }).td m g (gN y g rest) y.ready).1, .ev ((y.ready.foldl (aU m) { x with w := y, d := d }).td m g (gN y g rest) y.ready).2)
 else none
def fF (d : lP) : Option (Int × Int) → lP × jz
 | none => (d, .num 0)
 | some (k, n) => d.draw k n
def Sc.run (p : bZ) (x : Sc) (m : Int) : Option (Sc × oM) :=
 if zo p x m then
  if R7 (asks p { x.w with ready := [] } (aC x m).g) then
   match uD p x.w (aC x m).g (fF x.d (asks p { x.w with ready := [] } (aC x m).g)).2 with
   | none => none
   | some (.dG l y, _) => some ({ x with w := y, d := (fF x.d (asks p { x.w with ready := [] } (aC x m).g)).1 }, .dG (xl l))
   | some (.on y, rest) => jC x m (aC x m).g (fF x.d (asks p { x.w with ready := [] } (aC x m).g)).1 y rest
   | some (.eJ n y, rest) => jC x m (aC x m).g (fF x.d (asks p { x.w with ready := [] } (aC x m).g)).1 { y with end_ := 2, code := n } rest
  else none
 else none
def CY : Sc × oM → Sc × oM
 | (x, .ev e) => ({ x with steps := x.steps + 1 }, .ev e)
 | (x, .dG l) => (x, .dG l)
def xL (x : Sc) : Prop := x.w.gs.length ≤ 1000000 ∧ x.c.M = x.ms.length ∧ x.ps.length ≤ 1000000 ∧ x.ms.length ≤ 1000000 ∧ x.d.taken.length < 10000000 ∧ 0 ≤ x.steps ∧ x.steps < 1000000000
instance (x : Sc) : Decidable (xL x) := by unfold xL; infer_instance
def Sc.act (p : bZ) (x : Sc) (m : Int) : Option (Sc × oM) :=
 if m = x.c.M then (if zk x then some (x.tick.1, .ev x.tick.2) else none)
 else if (aC x m).p = -1 then some ((x.hold m).1, .ev (x.hold m).2)
 else if (aC x m).g = -1 then (if vO x m then some (x.find m) else none)
 else x.run p m
def Sc.step (p : bZ) (x : Sc) : Option (Sc × oM) :=
 if xL x then
  if x.status ≠ 0 then some (x, .ev ⟨0, 0, 0, []⟩)
  else match x.d.draw 1 (x.c.M + 1) with
   | (d', .dG l) => some ({ x with d := d' }, .dG l)
   | (d', .num m) => (Sc.act p { x with d := d' } m).map CY
 else none
section
variable {R : Mem} {L L' L2 : List HP} {M : Mem} {K : Value → Mem → Prop} {Kp : List PanicEntry → Mem → Prop} {pa : PA} {p : bZ} {b wb db : Nat} {x : Sc} {m i : Int}
theorem Ho (h : Hp R L M) [o : mS b L pa p wb db x L'] (hk : vO x m) (hd : x.d.k.Ok)
  (k : match (x.find m).2 with
   | .ev e => ∀ M', Hp R (aB (dy pa p wb db) b (x.find m).1 :: L') M' → K (Hi e none 0) M'
   | .dG l => ∀ M', Hp R (aB (dy pa p wb db) b (x.find m).1 :: L') M' → Kp l M') : ae Tryz.prog 101 #[.pointer (some ⟨b, 0, none⟩), .int .i64 m] M K Kp := by
 refine rF ?_
 have hk' := hk
 obtain ⟨m0, m1, i0, i1, Wn, ht0, ZK, Vx, hP, hP2⟩ := hk'
 have zp : x.d.Ok := ⟨hd, by omega⟩
 refine av h ?_
 clear h
 intro k1 M h
 have h' := eR h (b := b)
 clear h
 obtain ⟨a, hl, h⟩ := h'
 obtain ⟨lb, hlb, jj, hrow⟩ := qg (i := (aC x m).p) hl i0 i1
 have mT := qh m0 m1
 have m2 : m.toNat < x.ms.length := by omega
 obtain ⟨q, hq⟩ := h.bx (A := a.ap) (l := bQ a.lb x.ps) (by rw [jA hl]; omega) (by decide)
 obtain ⟨q2, mX⟩ := h.bx (A := a.am) (l := x.ms) (by omega) (by decide)
 replace h : Hp R (fO (dH b wb db a x) x.gl :: aB (bF pa p) wb x.w :: aB (cv .nilFunc) db x.d :: b6 (some ⟨q, 0, none⟩) a.cp (bQ a.lb x.ps) :: bn bK a.lb (x.ps.map cN.q) :: ck (some ⟨q2, 0, none⟩) a.cm x.ms :: pt k1 [.int .i64 0, .int .i64 0, .int .i64 0, .slice none 0 0] 47 :: L') M := by
  unfold ei at h
  rw [show b6 a.ap a.cp (bQ a.lb x.ps) = b6 (some ⟨q, 0, none⟩) a.cp (bQ a.lb x.ps) from by rw [hq], show ck a.am a.cm x.ms = ck (some ⟨q2, 0, none⟩) a.cm x.ms from by rw [mX]] at h
  exact h.sub (by repeat (first | exact .refl | refine .cons (by repeat (first | exact .here | apply aF.there)) ?_ | apply Sub.drop))
 rw [IN h]
 refine aY ?_
 rw [wO h]
 refine aY ⟨m0, m1, ?_⟩
 rw [mX]
 refine br ?_
 refine be (Src.at (h.src (A := some ⟨q2, 0, none⟩)) h (i := m.toNat) (j := 0) mT rfl (by show _ = 0 + (m.toNat * 3 + 0); simp)) ?_
 refine ⟨i0, i1, ?_⟩
 rw [hq]
 refine br ?_
 refine aY ⟨m0, m1, br ?_⟩
 refine be (Src.at (h.src (A := some ⟨q2, 0, none⟩)) h (i := m.toNat) (j := 2) mT rfl (by show _ = 0 + (m.toNat * 3 + 2); omega)) ?_
 simp only [Nat.zero_add]
 have hno : ¬ (0 < (aC x m).left ∧ (aL x (aC x m).p).q.next ≠ -1) → (let y := (x.own (aC x m).p).1
   if (x.own (aC x m).p).2.2 = false ∧ 1 < x.c.P then match y.d.draw 2 x.c.P with
    | (d', .dG l) => ∀ M', Hp R (aB (dy pa p wb db) b { y with d := d' } :: L') M' → Kp l M'
    | (d', .num v) =>
     let y := { y with d := d' }
     let s := (aL y (aC x m).p).q.dh (aL y v).q
     let z := if v = (aC x m).p then y else (y.cZ (aC x m).p { aL y (aC x m).p with q := s.1 }).cZ v { aL y v with q := s.2.1 }
     let r := if v = (aC x m).p then (-1, false) else (s.2.2, jB (aL y v).q s.2.2)
     ∀ M', Hp R (aB (dy pa p wb db) b (z.bU m (aC x m).p 5 r.1 r.2).1 :: L') M' → K (Hi (z.bU m (aC x m).p 5 r.1 r.2).2 none 0) M'
   else ∀ M', Hp R (aB (dy pa p wb db) b (y.bU m (aC x m).p 4 (x.own (aC x m).p).2.1 (x.own (aC x m).p).2.2).1 :: L') M' → K (Hi (y.bU m (aC x m).p 4 (x.own (aC x m).p).2.1 (x.own (aC x m).p).2.2).2 none 0) M') := by
  intro hn
  unfold Sc.find at k
  dsimp only at k ⊢
  rw [if_neg hn] at k
  split
  ·rename_i hc
   rw [if_pos hc] at k
   split
   ·rename_i d' l wK
    rw [wK] at k
    exact k
   ·rename_i d' v wK
    rw [wK] at k
    dsimp only at k ⊢
    by_cases hv : v = (aC x m).p
    ·simp only [if_pos hv] at k ⊢
     exact k
    ·simp only [if_neg hv] at k ⊢
     exact k
  ·rename_i hc
   rw [if_neg hc] at k
   exact k
 refine aP.2 ⟨fun hgt => ?_, fun hle => ?_⟩
 ·refine lB (Src.at (h.src (A := some ⟨q, 0, none⟩)) h (i := (aC x m).p.toNat) (j := 0) hrow rfl (by show _ = 0 + ((aC x m).p.toNat * 3 + 0); simp)) ?_
  have ZO : (x.ps.map cN.q)[(aC x m).p.toNat]? = some (aL x (aC x m).p).q := by rw [List.getElem?_map, jj]; rfl
  have h3 := h.cY bK hlb ZO
  refine yY h3 ?_
  refine cE ?_
  refine ⟨fun vs M => vs = [] ∧ (aL x (aC x m).p).q.next = -1 ∧ Hp R (fO (dH b wb db a x) x.gl :: aB (bF pa p) wb x.w :: aB (cv .nilFunc) db x.d :: b6 (some ⟨q, 0, none⟩) a.cp (bQ a.lb x.ps) :: bn bK a.lb (x.ps.map cN.q) :: ck (some ⟨q2, 0, none⟩) a.cm x.ms :: pt k1 [.int .i64 0, .int .i64 0, .int .i64 0, .slice none 0 0] 47 :: L') M, ?_, ?_⟩
  ·refine de.2 ⟨fun hne => ?_, fun heq => ⟨rfl, by simpa using heq, h⟩⟩
   clear h3
   unfold Sc.find at k
   dsimp only at k
   rw [if_pos ⟨by omega, hne⟩] at k
   dsimp only at k
   refine lB (Src.at (h.src (A := some ⟨q, 0, none⟩)) h (i := (aC x m).p.toNat) (j := 0) hrow rfl (by show _ = 0 + ((aC x m).p.toNat * 3 + 0); simp)) ?_
   rw [show M.ld ⟨b, 6, none⟩ = some (.slice a.am x.ms.length a.cm) from wO h]
   refine aY ?_
   replace h := h.cY bK hlb ZO
   refine Bw h (b := lb) ?_
   clear h; intro t M _ _ h
   refine ⟨_, _, rfl, ?_⟩
   replace h := h.dU bK lb hlb (by rw [List.length_map]; omega)
   replace h : Hp R (fO (dH b wb db a x) x.gl :: aB (bF pa p) wb x.w :: aB (cv .nilFunc) db x.d :: b6 (some ⟨q, 0, none⟩) a.cp (bQ a.lb x.ps) :: bn bK a.lb ((x.ps.map cN.q).set (aC x m).p.toNat (aL x (aC x m).p).q.get.1) :: ck (some ⟨q2, 0, none⟩) a.cm x.ms :: pt k1 [.int .i64 0, .int .i64 0, .int .i64 0, .slice none 0 0] 47 :: L') M := h.sub (by repeat (first | exact .refl | refine .cons (by repeat (first | exact .here | apply aF.there)) ?_ | apply Sub.drop))
   refine ⟨wO h, m0, m1, ?_⟩
   rw [mX]
   refine br ?_
   refine iB (E := eV) (a' := ⟨(aC x m).p, (aL x (aC x m).p).q.get.2, (aC x m).left⟩) m.toNat 1 h mT (by decide) rfl (by show _ = m.toNat * 3 + 1; omega) ?_
   clear h; intro M h
   replace h : Hp R (fO (dH b wb db a x) x.gl :: aB (bF pa p) wb x.w :: aB (cv .nilFunc) db x.d :: b6 (some ⟨q, 0, none⟩) a.cp (bQ a.lb x.ps) :: bn bK a.lb ((x.ps.map cN.q).set (aC x m).p.toNat (aL x (aC x m).p).q.get.1) :: ck (some ⟨q2, 0, none⟩) a.cm (x.ms.set m.toNat ⟨(aC x m).p, (aL x (aC x m).p).q.get.2, (aC x m).left⟩) :: pt k1 [.int .i64 0, .int .i64 0, .int .i64 0, .slice none 0 0] 47 :: L') M := h.sub (by repeat (first | exact .refl | refine .cons (by repeat (first | exact .here | apply aF.there)) ?_ | apply Sub.drop))
   refine ⟨by have := wO h; rw [mX] at this; exact this, ?_⟩
   rw [show M.ld ⟨b, 6, none⟩ = some (.slice a.am x.ms.length a.cm) from wO h, mX]
   refine aY ⟨m0, m1, br ?_⟩
   refine be (Src.at (h.src (A := some ⟨q2, 0, none⟩)) h (i := m.toNat) (j := 1) (a := ⟨(aC x m).p, (aL x (aC x m).p).q.get.2, (aC x m).left⟩) (by simp [m2]) rfl (by show _ = 0 + (m.toNat * 3 + 1); omega)) ?_
   dsimp only
   refine jS h ?_
   clear h; intro M h
   refine qf h ?_
   have e1 : bQ a.lb (x.cZ (aC x m).p { aL x (aC x m).p with q := (aL x (aC x m).p).q.get.1 }).ps = bQ a.lb x.ps := zn jj rfl rfl
   have e2 : ((x.cZ (aC x m).p { aL x (aC x m).p with q := (aL x (aC x m).p).q.get.1 }).ps).map cN.q = (x.ps.map cN.q).set (aC x m).p.toNat (aL x (aC x m).p).q.get.1 := by simp [Sc.cZ, List.map_set]
   have h9 : Hp R (fO (dH b wb db a ((x.cZ (aC x m).p { aL x (aC x m).p with q := (aL x (aC x m).p).q.get.1 }).jb m { aC x m with g := (aL x (aC x m).p).q.get.2 })) x.gl :: aB (bF pa p) wb x.w :: aB (cv .nilFunc) db x.d :: b6 a.ap a.cp (bQ a.lb ((x.cZ (aC x m).p { aL x (aC x m).p with q := (aL x (aC x m).p).q.get.1 }).jb m { aC x m with g := (aL x (aC x m).p).q.get.2 }).ps) :: bn bK a.lb (((x.cZ (aC x m).p { aL x (aC x m).p with q := (aL x (aC x m).p).q.get.1 }).jb m { aC x m with g := (aL x (aC x m).p).q.get.2 }).ps.map cN.q) :: ck a.am a.cm (x.ms.set m.toNat ⟨(aC x m).p, (aL x (aC x m).p).q.get.2, (aC x m).left⟩) :: L') M := by
    rw [zm, zl]
    show Hp R (_ :: _ :: _ :: b6 a.ap a.cp (bQ a.lb (x.cZ (aC x m).p { aL x (aC x m).p with q := (aL x (aC x m).p).q.get.1 }).ps) :: bn bK a.lb ((x.cZ (aC x m).p { aL x (aC x m).p with q := (aL x (aC x m).p).q.get.1 }).ps.map cN.q) :: _) M
    rw [e1, e2, hq, mX]
    exact h.sub (by repeat (first | exact .refl | refine .cons (by repeat (first | exact .here | apply aF.there)) ?_ | apply Sub.drop))
   exact k _ (gP (a := a) (x := (x.cZ (aC x m).p { aL x (aC x m).p with q := (aL x (aC x m).p).q.get.1 }).jb m { aC x m with g := (aL x (aC x m).p).q.get.2 }) (by simpa [Sc.cZ, Sc.jb] using hl) h9)
  ·clear h h3
   rintro _ M ⟨_, hnx, h⟩
   exact BJ h hq mX hl hk rfl zp (hno (fun hc => hc.2 hnx))
 ·refine ⟨fun vs M => vs = [] ∧ Hp R (fO (dH b wb db a x) x.gl :: aB (bF pa p) wb x.w :: aB (cv .nilFunc) db x.d :: b6 (some ⟨q, 0, none⟩) a.cp (bQ a.lb x.ps) :: bn bK a.lb (x.ps.map cN.q) :: ck (some ⟨q2, 0, none⟩) a.cm x.ms :: pt k1 [.int .i64 0, .int .i64 0, .int .i64 0, .slice none 0 0] 47 :: L') M, ⟨rfl, h⟩, ?_⟩
  clear h
  rintro _ M ⟨_, h⟩
  exact BJ h hq mX hl hk rfl zp (hno (fun hc => hle (by omega)))
end
end Go.Proofs
namespace Go.Proofs
open Go.AF
set_option maxRecDepth 100000
set_option maxHeartbeats 1000000
attribute [local irreducible] aK cD fH bL aD fx aI aO bj aS bI aV
theorem BM {p : bZ} {x : Wd} {k v : Int} {l : List PanicEntry} {y : Wd} : x.put p k v ≠ .dG l y := by
 unfold Wd.put; dsimp only; split <;> simp
theorem Hq {p : bZ} {x : Wd} {g : Int} {i : cC} {l : List PanicEntry} {y : Wd} (h : nO p x g i = some (.dG l y)) : False := by
 unfold nO at h
 by_cases e : i.op = 10
 ·rw [if_pos e] at h; obtain ⟨_, h⟩ := cK h; cases h
 rw [if_neg e] at h; clear e
 by_cases e : i.op = 11
 ·rw [if_pos e] at h; obtain ⟨_, h⟩ := cK h; unfold Wd.spawn at h; split at h <;> cases h
 rw [if_neg e] at h; clear e
 by_cases e : i.op = 13
 ·rw [if_pos e] at h; obtain ⟨_, h⟩ := cK h
  unfold Wd.send at h
  split at h
  ·cases h
  ·rename_i hp; exact BM hp
  ·cases h
  ·cases h
 rw [if_neg e] at h; clear e
 by_cases e : i.op = 14
 ·rw [if_pos e] at h; obtain ⟨_, h⟩ := cK h; cases h
 rw [if_neg e] at h; clear e
 by_cases e : i.op = 15
 ·rw [if_pos e] at h; obtain ⟨_, h⟩ := cK h; unfold Wd.shut at h; dsimp only at h; split at h
  ·cases h
  ·split at h <;> cases h
 rw [if_neg e] at h; clear e
 by_cases e : i.op = 20
 ·rw [if_pos e] at h; obtain ⟨_, h⟩ := cK h; unfold Wd.emit at h; split at h <;> cases h
 rw [if_neg e] at h; clear e
 by_cases e : i.op = 9
 ·rw [if_pos e] at h; obtain ⟨_, h⟩ := cK h; unfold Wd.call at h; split at h <;> cases h
 rw [if_neg e] at h; clear e
 by_cases e : i.op = 12
 ·rw [if_pos e] at h; cases h
 rw [if_neg e] at h; clear e
 by_cases e : i.op = 17
 ·rw [if_pos e] at h; obtain ⟨_, h⟩ := cK h; cases h
 rw [if_neg e] at h; clear e
 by_cases e : i.op = 18
 ·rw [if_pos e] at h; obtain ⟨_, h⟩ := cK h; cases h
 rw [if_neg e] at h; clear e
 by_cases e : i.op = 19
 ·rw [if_pos e] at h; obtain ⟨_, h⟩ := cK h; unfold Wd.unlock at h; split at h
  ·cases h
  ·split at h <;> cases h
 rw [if_neg e] at h; clear e
 by_cases e : i.op = 22
 ·rw [if_pos e] at h; cases h
 rw [if_neg e] at h; cases h
theorem BN {p : bZ} {x : Wd} {g : Int} {d : jz} {l : List PanicEntry} {y : Wd} {rest : Bool} (h : uD p x g d = some (.dG l y, rest)) : d = .dG l ∧ y = { x with ready := [] } := by
 unfold uD at h
 dsimp only at h
 split at h
 ·split at h
  ·split at h
   ·cases h
   ·split at h
    ·cases h
    ·split at h
     ·split at h <;> cases h
     ·split at h
      ·split at h
       ·split at h
        ·rename_i hc
         simp only [Option.some.injEq, Prod.mk.injEq] at h
         obtain ⟨h, _⟩ := h
         unfold Wd.choose at h
         split at h
         ·cases h
         ·cases d with
          | dG l' => cases h; exact ⟨rfl, rfl⟩
          | num v =>
           dsimp only at h
           unfold Wd.pY at h
           dsimp only at h
           split at h
           ·split at h
            ·cases h
            ·rename_i hp; exact absurd hp BM
            ·cases h
           ·cases h
        ·cases h
       ·cases h
      ·split at h
       ·split at h
        ·split at h
         ·simp only [Option.some.injEq, Prod.mk.injEq] at h
          obtain ⟨h, _⟩ := h
          cases d with
          | dG l' => cases h; exact ⟨rfl, rfl⟩
          | num v => cases h
         ·cases h
        ·cases h
       ·split at h
        ·cases h
        ·rename_i r hd
         split at h
         ·simp only [Option.some.injEq, Prod.mk.injEq] at h
          obtain ⟨h, _⟩ := h
          subst h
          exact (Hq hd).elim
         ·cases h
  ·cases h
 ·cases h
theorem KD {q : Loc} {r : Int} {gl : List Int} : (q.ready r gl).2.1.length ≤ gl.length + q.l.length + 1 := by
 unfold Loc.ready
 split
 ·dsimp only; omega
 ·unfold Loc.put
  dsimp only
  split
  ·dsimp only; omega
  ·dsimp only; simp; omega
section
variable {R : Mem} {L L' L2 : List HP} {M : Mem} {K : Value → Mem → Prop} {Kp : List PanicEntry → Mem → Prop} {pa : PA} {p : bZ} {b wb db : Nat} {x : Sc} {m i : Int} {a : SA}
abbrev zq (eE : Nat) (kp : Bool) (A : Option Addr) (n c : Nat) : HP := pt eE [.bool kp, .slice A n c] 120
theorem E1 {q2 k1 eE c : Nat} {g : Int} {kp : Bool} {A : Option Addr} {rd : List Int}
  (h : Hp R (fO (dH b wb db a x) x.gl :: aB (bF pa p) wb x.w :: aB (cv .nilFunc) db x.d :: b6 a.ap a.cp (bQ a.lb x.ps) :: bn bK a.lb (x.ps.map cN.q) :: ck (some ⟨q2, 0, none⟩) a.cm (x.ms.set m.toNat { aC x m with left := (aC x m).left - 1 }) :: zq eE kp A rd.length c :: pt k1 [.int .i64 0, .int .i64 0, .int .i64 0, .slice none 0 0] 47 :: L') M)
  (IM : a.am = some ⟨q2, 0, none⟩) (hl : a.lb.length = x.ps.length) (m0 : 0 ≤ m) (m1 : m < x.ms.length) (g0 : 0 ≤ g) (g1 : g < x.w.gs.length) (Wn : x.gl.length ≤ 100000000)
  (k : ∀ M', Hp R (aB (dy pa p wb db) b { x.jb m { aC x m with left := (aC x m).left - 1, g := -1 } with gl := if (ay x.w g).st = 1 then x.gl ++ [g] else x.gl } :: L') M' → K (Hi ⟨7, m, g, rd⟩ A c) M') :
  aO M ⟨q2, ((m.toNat * 3) + 1), none⟩ (.int .i64 (-1)) fun rY =>
  bL (Mem.ld rY ⟨b, 0, none⟩) fun PE =>
  ae Tryz.prog 65 #[(.pointer PE), (.int .i64 g)] rY (fun HX zE =>
  aK (some HX) .i64 fun zY =>
  aV (zY == 1)
   (bj zE (.cells #[(.int .i64 g)] 3 (0, 0)) fun kj Ct =>
   ae Tryz.prog 53 #[(.pointer (some ⟨b, (0 + 7), none⟩)), (.slice (some ⟨kj, 0, none⟩) 1 1)] Ct (fun MF mV =>
   (MF = (.tuple #[])) ∧
   aD (Mem.ld mV ⟨eE, (0 + 1), none⟩) fun PR rZ DX =>
   aO mV ⟨k1, 0, none⟩ (.int .i64 7) fun xD =>
   aO xD ⟨k1, (0 + 1), none⟩ (.int .i64 m) fun rW =>
   aO rW ⟨k1, (0 + 2), none⟩ (.int .i64 g) fun vf =>
   aO vf ⟨k1, (0 + 3), none⟩ (.slice PR rZ DX) fun qv =>
   aK (Mem.ld qv ⟨k1, 0, none⟩) .i64 fun yj =>
   aK (Mem.ld qv ⟨k1, (0 + 1), none⟩) .i64 fun n64 =>
   aK (Mem.ld qv ⟨k1, (0 + 2), none⟩) .i64 fun vg =>
   aD (Mem.ld qv ⟨k1, (0 + 3), none⟩) fun MG w7 Ih =>
   K (.agg #[(.int .i64 yj), (.int .i64 n64), (.int .i64 vg), (.slice MG w7 Ih)]) qv) Kp)
   (aD (Mem.ld zE ⟨eE, (0 + 1), none⟩) fun XB Bg JI =>
   aO zE ⟨k1, 0, none⟩ (.int .i64 7) fun vj =>
   aO vj ⟨k1, (0 + 1), none⟩ (.int .i64 m) fun z0 =>
   aO z0 ⟨k1, (0 + 2), none⟩ (.int .i64 g) fun Bd =>
   aO Bd ⟨k1, (0 + 3), none⟩ (.slice XB Bg JI) fun yz =>
   aK (Mem.ld yz ⟨k1, 0, none⟩) .i64 fun Mi =>
   aK (Mem.ld yz ⟨k1, (0 + 1), none⟩) .i64 fun DY =>
   aK (Mem.ld yz ⟨k1, (0 + 2), none⟩) .i64 fun Gg =>
   aD (Mem.ld yz ⟨k1, (0 + 3), none⟩) fun S9 Ie Ta =>
   K (.agg #[(.int .i64 Mi), (.int .i64 DY), (.int .i64 Gg), (.slice S9 Ie Ta)]) yz)) Kp := by
 have mT := qh m0 m1
 have m2 : m.toNat < x.ms.length := by omega
 refine iB (E := eV) (a := { aC x m with left := (aC x m).left - 1 }) (a' := ⟨(aC x m).p, -1, (aC x m).left - 1⟩) m.toNat 1 h (by simp [m2]) (by decide) rfl (by show _ = m.toNat * 3 + 1; omega) ?_
 clear h; intro M h
 rw [iF] at h
 replace h : Hp R (fO (dH b wb db a x) x.gl :: aB (bF pa p) wb x.w :: aB (cv .nilFunc) db x.d :: b6 a.ap a.cp (bQ a.lb x.ps) :: bn bK a.lb (x.ps.map cN.q) :: ck (some ⟨q2, 0, none⟩) a.cm (x.ms.set m.toNat ⟨(aC x m).p, -1, (aC x m).left - 1⟩) :: zq eE kp A rd.length c :: pt k1 [.int .i64 0, .int .i64 0, .int .i64 0, .slice none 0 0] 47 :: L') M := h.sub (by repeat (first | exact .refl | refine .cons (by repeat (first | exact .here | apply aF.there)) ?_ | apply Sub.drop))
 rw [Yt h]
 refine jk ?_
 refine uz h g0 g1 ?_
 refine cE ?_
 have fin : ∀ (KE : List Int) (M : Mem), KE = (if (ay x.w g).st = 1 then x.gl ++ [g] else x.gl) → Hp R (fO (dH b wb db a x) KE :: aB (bF pa p) wb x.w :: aB (cv .nilFunc) db x.d :: b6 a.ap a.cp (bQ a.lb x.ps) :: bn bK a.lb (x.ps.map cN.q) :: ck (some ⟨q2, 0, none⟩) a.cm (x.ms.set m.toNat ⟨(aC x m).p, -1, (aC x m).left - 1⟩) :: zq eE kp A rd.length c :: pt k1 [.int .i64 0, .int .i64 0, .int .i64 0, .slice none 0 0] 47 :: L') M →
   aD (Mem.ld M ⟨eE, (0 + 1), none⟩) fun PR rZ DX => aO M ⟨k1, 0, none⟩ (.int .i64 7) fun xD => aO xD ⟨k1, (0 + 1), none⟩ (.int .i64 m) fun rW => aO rW ⟨k1, (0 + 2), none⟩ (.int .i64 g) fun vf => aO vf ⟨k1, (0 + 3), none⟩ (.slice PR rZ DX) fun qv =>
   aK (Mem.ld qv ⟨k1, 0, none⟩) .i64 fun yj => aK (Mem.ld qv ⟨k1, (0 + 1), none⟩) .i64 fun n64 => aK (Mem.ld qv ⟨k1, (0 + 2), none⟩) .i64 fun vg => aD (Mem.ld qv ⟨k1, (0 + 3), none⟩) fun MG w7 Ih =>
   K (.agg #[(.int .i64 yj), (.int .i64 n64), (.int .i64 vg), (.slice MG w7 Ih)]) qv := by
  intro KE M hgl' h
  refine aR h ?_
  refine jS h ?_
  clear h; intro M h
  refine qf h ?_
  refine k _ (gP (a := a) (x := { x.jb m { aC x m with left := (aC x m).left - 1, g := -1 } with gl := if (ay x.w g).st = 1 then x.gl ++ [g] else x.gl }) hl ?_)
  rw [← hgl']
  have e1 : dH b wb db a { x.jb m { aC x m with left := (aC x m).left - 1, g := -1 } with gl := KE } = dH b wb db a x := zm (x := x)
  rw [e1]
  show Hp R (_ :: _ :: _ :: _ :: _ :: ck a.am a.cm (x.ms.set m.toNat ⟨(aC x m).p, -1, (aC x m).left - 1⟩) :: _) M
  rw [IM]
  exact h.sub (by repeat (first | exact .refl | refine .cons (by repeat (first | exact .here | apply aF.there)) ?_ | apply Sub.drop))
 refine aZ.2 ⟨fun e1 => ?_, fun e1 => ?_⟩
 ·refine av h ?_
  clear h; intro kj M h
  replace h := (h.pt kj).gW (E := bu) (l := [g]) rfl
  replace h : Hp R (fO (dH b wb db a x) x.gl :: j6 (some ⟨kj, 0, none⟩) 1 [g] :: aB (bF pa p) wb x.w :: aB (cv .nilFunc) db x.d :: b6 a.ap a.cp (bQ a.lb x.ps) :: bn bK a.lb (x.ps.map cN.q) :: ck (some ⟨q2, 0, none⟩) a.cm (x.ms.set m.toNat ⟨(aC x m).p, -1, (aC x m).left - 1⟩) :: zq eE kp A rd.length c :: pt k1 [.int .i64 0, .int .i64 0, .int .i64 0, .slice none 0 0] 47 :: L') M := h.sub (by repeat (first | exact .refl | refine .cons (by repeat (first | exact .here | apply aF.there)) ?_ | apply Sub.drop))
  refine nL (P := dH b wb db a x) wN h (Src.row (A := some ⟨kj, 0, none⟩)) rfl (by simp; omega) ?_
  clear h; intro M h
  refine ⟨rfl, ?_⟩
  exact fin _ M (by rw [if_pos e1]) (h.sub (by repeat (first | exact .refl | refine .cons (by repeat (first | exact .here | apply aF.there)) ?_ | apply Sub.drop)))
 ·exact fin _ M (by rw [if_neg e1]) h
theorem jc {m : Int} : ∀ (l : List Int) (z : Sc), 0 ≤ (aC z m).p → (aC z m).p < z.ps.length → (l.foldl (aU m) z).ms = z.ms ∧ (l.foldl (aU m) z).ps.length = z.ps.length ∧ (l.foldl (aU m) z).w = z.w ∧ (l.foldl (aU m) z).d = z.d ∧ (l.foldl (aU m) z).c = z.c ∧ (l.foldl (aU m) z).steps = z.steps ∧ ∀ bs, bQ bs (l.foldl (aU m) z).ps = bQ bs z.ps
 | [], z, _, _ => ⟨rfl, rfl, rfl, rfl, rfl, rfl, fun _ => rfl⟩
 | r :: l, z, h0, h1 => by
  have hp : z.ps[(aC z m).p.toNat]? = some (aL z (aC z m).p) := by
   obtain ⟨y, hy⟩ := aQ (l := z.ps) (i := (aC z m).p.toNat) (by omega)
   have e : aL z (aC z m).p = y := by simp [aL, hy]
   rw [e]; exact hy
  have hms : (aU m z r).ms = z.ms := rfl
  have hps : (aU m z r).ps.length = z.ps.length := by simp [aU, Sc.cZ]
  have mT : aC (aU m z r) m = aC z m := rfl
  obtain ⟨a1, a2, a3, a4, a5, a6, a7⟩ := jc l (aU m z r) (by rw [mT]; exact h0) (by rw [mT, hps]; exact h1)
  refine ⟨a1, by rw [List.foldl_cons, a2, hps], a3, a4, a5, a6, fun bs => ?_⟩
  rw [List.foldl_cons, a7]
  exact zn hp rfl rfl
end
end Go.Proofs
namespace Go.Proofs
open Go.AF
set_option maxRecDepth 100000
set_option maxHeartbeats 1000000
attribute [local irreducible] aK cD fH bL aD fx aI aO bj aS bI aV
def Oj (R : Mem) (pa : PA) (p : bZ) (b wb db : Nat) (L' : List HP) (K : Value → Mem → Prop) (Kp : List PanicEntry → Mem → Prop) (y : Sc) : oM → Prop
 | .ev e => ∀ R' A c M', R.le R' → RS bu R' A c e.ready → Hp R' (aB (dy pa p wb db) b y :: L') M' → K (Hi e A c) M'
 | .dG l => ∀ M', Hp R (aB (dy pa p wb db) b y :: L') M' → Kp l M'
section
variable {R : Mem} {L L' L2 : List HP} {M : Mem} {K : Value → Mem → Prop} {Kp : List PanicEntry → Mem → Prop} {pa : PA} {p : bZ} {b wb db : Nat} {x : Sc} {m i : Int} {a : SA}
theorem Hr {A : Option Addr} {q o : Nat} {G : Nat → Nat → Prop} (e : A = some ⟨q, o, none⟩) (g : G q o) : aI A G := by subst e; exact br g
theorem E2 {q2 k1 c : Nat} {g : Int} {kp : Bool} {A : Option Addr} {w : Wd} {d' : lP} {rest : Bool} {y : Sc} {o : oM}
  (h : Hp R (fO (dH b wb db a x) x.gl :: aB (bF pa p) wb w :: aB (cv .nilFunc) db d' :: b6 a.ap a.cp (bQ a.lb x.ps) :: bn bK a.lb (x.ps.map cN.q) :: ck (some ⟨q2, 0, none⟩) a.cm x.ms :: pt k1 [.int .i64 0, .int .i64 0, .int .i64 0, .slice none 0 0] 47 :: L') M)
  (nN : RS bu R A c w.ready) (IM : a.am = some ⟨q2, 0, none⟩) (hl : a.lb.length = x.ps.length) (hpre : zo p x m) (hg : g = (aC x m).g) (hkp : kp = gN w g rest) (he : jC x m g d' w rest = some (y, o)) (k : Oj R pa p b wb db L' K Kp y o) :
  ∃ t13 : Bool, ∃ nY : Option Addr, ∃ fT : Nat, ∃ dF : Nat, ((Value.agg #[.bool kp, .slice A w.ready.length c]) = (.agg #[(.bool t13), (.slice nY fT dF)])) ∧
bj M (.cells #[(.bool false), (.slice none 0 0)] 120 (0, 0)) fun eE mC =>
aO mC ⟨eE, 0, none⟩ (.bool t13) fun hH =>
aO hH ⟨eE, (0 + 1), none⟩ (.slice nY fT dF) fun nx =>
aD (Mem.ld nx ⟨eE, (0 + 1), none⟩) fun Cn gz iL =>
∃ Ue : Nat → List Value → Mem → Prop, (∃ sw : Nat, Ue sw [(.int .i64 0)] nx) ∧
∀ lC : Nat, ∀ Uf : Nat → Value, ∀ wm : Int, ∀ lT : Mem, (Ue lC [(.int .i64 wm)] lT) → aV (decide ((wm : Int) < ((gz : Nat) : Int)))
 (((0 : Int) ≤ wm) ∧
 ((wm : Int) < ((gz : Nat) : Int)) ∧
 aI Cn fun kZ nA =>
 aK (Mem.ld lT ⟨kZ, (nA + (Int.toNat wm)), none⟩) .i64 fun n32 =>
 aD (Mem.ld lT ⟨b, (0 + 5), none⟩) fun Jy tR sA =>
 aK (Mem.ld lT ⟨q2, (m.toNat * 3), none⟩) .i64 fun xB =>
 ((0 : Int) ≤ xB) ∧
 ((xB : Int) < ((tR : Nat) : Int)) ∧
 aI Jy fun wC gL =>
 bL (Mem.ld lT ⟨wC, (gL + ((Int.toNat xB) * 3)), none⟩) fun V2 =>
 ae Tryz.prog 134 #[(.pointer V2), (.int .i64 n32), (.pointer (some ⟨b, (0 + 7), none⟩))] lT (fun H8 wZ =>
 aK (some H8) .i64 fun Pt =>
 ∃ nW : Nat, (nW < lC) ∧
 Ue nW [(.int .i64 (IntKind.wrap .i64 (wm + 1)))] wZ) Kp)
 (aK (Mem.ld lT ⟨q2, ((m.toNat * 3) + 2), none⟩) .i64 fun Df =>
 aO lT ⟨q2, ((m.toNat * 3) + 2), none⟩ (.int .i64 (IntKind.wrap .i64 (Df - 1))) fun mW =>
 cD (Mem.ld mW ⟨eE, 0, none⟩) fun t46 =>
 aV (!t46)
  (aO mW ⟨q2, ((m.toNat * 3) + 1), none⟩ (.int .i64 (-1)) fun rY =>
  bL (Mem.ld rY ⟨b, 0, none⟩) fun PE =>
  ae Tryz.prog 65 #[(.pointer PE), (.int .i64 g)] rY (fun HX zE =>
  aK (some HX) .i64 fun zY =>
  aV (zY == 1)
   (bj zE (.cells #[(.int .i64 g)] 3 (0, 0)) fun kj Ct =>
   ae Tryz.prog 53 #[(.pointer (some ⟨b, (0 + 7), none⟩)), (.slice (some ⟨kj, 0, none⟩) 1 1)] Ct (fun MF mV =>
   (MF = (.tuple #[])) ∧
   aD (Mem.ld mV ⟨eE, (0 + 1), none⟩) fun PR rZ DX =>
   aO mV ⟨k1, 0, none⟩ (.int .i64 7) fun xD =>
   aO xD ⟨k1, (0 + 1), none⟩ (.int .i64 m) fun rW =>
   aO rW ⟨k1, (0 + 2), none⟩ (.int .i64 g) fun vf =>
   aO vf ⟨k1, (0 + 3), none⟩ (.slice PR rZ DX) fun qv =>
   aK (Mem.ld qv ⟨k1, 0, none⟩) .i64 fun yj =>
   aK (Mem.ld qv ⟨k1, (0 + 1), none⟩) .i64 fun n64 =>
   aK (Mem.ld qv ⟨k1, (0 + 2), none⟩) .i64 fun vg =>
   aD (Mem.ld qv ⟨k1, (0 + 3), none⟩) fun MG w7 Ih =>
   K (.agg #[(.int .i64 yj), (.int .i64 n64), (.int .i64 vg), (.slice MG w7 Ih)]) qv) Kp)
   (aD (Mem.ld zE ⟨eE, (0 + 1), none⟩) fun XB Bg JI =>
   aO zE ⟨k1, 0, none⟩ (.int .i64 7) fun vj =>
   aO vj ⟨k1, (0 + 1), none⟩ (.int .i64 m) fun z0 =>
   aO z0 ⟨k1, (0 + 2), none⟩ (.int .i64 g) fun Bd =>
   aO Bd ⟨k1, (0 + 3), none⟩ (.slice XB Bg JI) fun yz =>
   aK (Mem.ld yz ⟨k1, 0, none⟩) .i64 fun Mi =>
   aK (Mem.ld yz ⟨k1, (0 + 1), none⟩) .i64 fun DY =>
   aK (Mem.ld yz ⟨k1, (0 + 2), none⟩) .i64 fun Gg =>
   aD (Mem.ld yz ⟨k1, (0 + 3), none⟩) fun S9 Ie Ta =>
   K (.agg #[(.int .i64 Mi), (.int .i64 DY), (.int .i64 Gg), (.slice S9 Ie Ta)]) yz)) Kp)
  (aK (Mem.ld mW ⟨q2, ((m.toNat * 3) + 2), none⟩) .i64 fun HZ =>
  aV (HZ == 0)
   (aO mW ⟨q2, ((m.toNat * 3) + 1), none⟩ (.int .i64 (-1)) fun Fj =>
   bL (Mem.ld Fj ⟨b, 0, none⟩) fun A84 =>
   ae Tryz.prog 65 #[(.pointer A84), (.int .i64 g)] Fj (fun Xq AW =>
   aK (some Xq) .i64 fun XC =>
   aV (XC == 1)
    (bj AW (.cells #[(.int .i64 g)] 3 (0, 0)) fun D6 Cl =>
    ae Tryz.prog 53 #[(.pointer (some ⟨b, (0 + 7), none⟩)), (.slice (some ⟨D6, 0, none⟩) 1 1)] Cl (fun Mv jK =>
    (Mv = (.tuple #[])) ∧
    aD (Mem.ld jK ⟨eE, (0 + 1), none⟩) fun S5 Mz PC =>
    aO jK ⟨k1, 0, none⟩ (.int .i64 7) fun Ee =>
    aO Ee ⟨k1, (0 + 1), none⟩ (.int .i64 m) fun RB =>
    aO RB ⟨k1, (0 + 2), none⟩ (.int .i64 g) fun K0 =>
    aO K0 ⟨k1, (0 + 3), none⟩ (.slice S5 Mz PC) fun Di =>
    aK (Mem.ld Di ⟨k1, 0, none⟩) .i64 fun JL =>
    aK (Mem.ld Di ⟨k1, (0 + 1), none⟩) .i64 fun tS =>
    aK (Mem.ld Di ⟨k1, (0 + 2), none⟩) .i64 fun Mj =>
    aD (Mem.ld Di ⟨k1, (0 + 3), none⟩) fun yF j5 z9 =>
    K (.agg #[(.int .i64 JL), (.int .i64 tS), (.int .i64 Mj), (.slice yF j5 z9)]) Di) Kp)
    (aD (Mem.ld AW ⟨eE, (0 + 1), none⟩) fun Cy w8 JQ =>
    aO AW ⟨k1, 0, none⟩ (.int .i64 7) fun wX =>
    aO wX ⟨k1, (0 + 1), none⟩ (.int .i64 m) fun ny =>
    aO ny ⟨k1, (0 + 2), none⟩ (.int .i64 g) fun Ug =>
    aO Ug ⟨k1, (0 + 3), none⟩ (.slice Cy w8 JQ) fun nG =>
    aK (Mem.ld nG ⟨k1, 0, none⟩) .i64 fun yn =>
    aK (Mem.ld nG ⟨k1, (0 + 1), none⟩) .i64 fun F0 =>
    aK (Mem.ld nG ⟨k1, (0 + 2), none⟩) .i64 fun Mk =>
    aD (Mem.ld nG ⟨k1, (0 + 3), none⟩) fun Uh JU Ui =>
    K (.agg #[(.int .i64 yn), (.int .i64 F0), (.int .i64 Mk), (.slice Uh JU Ui)]) nG)) Kp)
   (aD (Mem.ld mW ⟨eE, (0 + 1), none⟩) fun Uj CF Uk =>
   aO mW ⟨k1, 0, none⟩ (.int .i64 7) fun Ef =>
   aO Ef ⟨k1, (0 + 1), none⟩ (.int .i64 m) fun Ul =>
   aO Ul ⟨k1, (0 + 2), none⟩ (.int .i64 g) fun JV =>
   aO JV ⟨k1, (0 + 3), none⟩ (.slice Uj CF Uk) fun vw =>
   aK (Mem.ld vw ⟨k1, 0, none⟩) .i64 fun Gt =>
   aK (Mem.ld vw ⟨k1, (0 + 1), none⟩) .i64 fun Um =>
   aK (Mem.ld vw ⟨k1, (0 + 2), none⟩) .i64 fun yG =>
   aD (Mem.ld vw ⟨k1, (0 + 3), none⟩) fun Un MZ Uo =>
   K (.agg #[(.int .i64 Gt), (.int .i64 Um), (.int .i64 yG), (.slice Un MZ Uo)]) vw))) := by
 obtain ⟨m0, m1, i0, i1, Wn, Vx, l1, l2, g0⟩ := hpre
 rw [← hg] at g0
 unfold jC at he
 split at he
 ·rename_i hc
  obtain ⟨hr, hgw⟩ := hc
  simp only [Option.some.injEq, Prod.mk.injEq] at he
  obtain ⟨E3, wH⟩ := he
  have mT := qh m0 m1
  have m2 : m.toNat < x.ms.length := by omega
  refine ⟨_, _, _, _, rfl, ?_⟩
  refine av h ?_
  clear h; intro eE M h
  refine az h ?_
  clear h; intro M h
  refine az h ?_
  clear h; intro M h
  refine aR h ?_
  generalize CQ : ({ x with w := w, d := d' } : Sc) = x1 at E3 wH
  have q1 : x1.ps = x.ps := by rw [← CQ]
  have Wo : x1.ms = x.ms := by rw [← CQ]
  have q3 : x1.gl = x.gl := by rw [← CQ]
  have q4 : x1.w = w := by rw [← CQ]
  have q5 : x1.d = d' := by rw [← CQ]
  have q6 : dH b wb db a x1 = dH b wb db a x := by rw [← CQ]
  have q7 : aC x1 m = aC x m := by rw [← CQ]; rfl
  have hf := jc (m := m) (l := w.ready) (z := x1) (by rw [q7]; exact i0) (by rw [q7, q1]; exact i1)
  rw [← q1, ← Wo, ← q3, ← q4, ← q5, ← q6] at h
  rw [← q4] at nN hgw hr
  rw [show w.ready = x1.w.ready from by rw [q4]] at E3 wH hf ⊢
  clear CQ
  have key : ∀ j, j ≤ x1.w.ready.length → ((x1.w.ready.take j).foldl (aU m) x1).ms = x1.ms ∧ ((x1.w.ready.take j).foldl (aU m) x1).ps.length = x1.ps.length ∧ ((x1.w.ready.take j).foldl (aU m) x1).w = x1.w ∧ ((x1.w.ready.take j).foldl (aU m) x1).d = x1.d ∧ ((x1.w.ready.take j).foldl (aU m) x1).c = x1.c ∧ ((x1.w.ready.take j).foldl (aU m) x1).steps = x1.steps ∧ ∀ bs, bQ bs ((x1.w.ready.take j).foldl (aU m) x1).ps = bQ bs x1.ps :=
   fun j _ => jc (m := m) (l := x1.w.ready.take j) (z := x1) (by rw [q7]; exact i0) (by rw [q7, q1]; exact i1)
  refine ⟨fun d vs M => ∃ j : Nat, vs = [.int .i64 (j : Int)] ∧ d = x1.w.ready.length - j ∧ j ≤ x1.w.ready.length ∧ ((x1.w.ready.take j).foldl (aU m) x1).gl.length ≤ 1000000 + 1030 * j ∧
    Hp R (fO (dH b wb db a x1) ((x1.w.ready.take j).foldl (aU m) x1).gl :: aB (bF pa p) wb x1.w :: aB (cv .nilFunc) db x1.d :: b6 a.ap a.cp (bQ a.lb x1.ps) :: bn bK a.lb (((x1.w.ready.take j).foldl (aU m) x1).ps.map cN.q) :: ck (some ⟨q2, 0, none⟩) a.cm x1.ms :: zq eE kp A x1.w.ready.length c :: pt k1 [.int .i64 0, .int .i64 0, .int .i64 0, .slice none 0 0] 47 :: L') M,
   ⟨_, 0, rfl, rfl, by omega, by rw [List.take_zero, List.foldl_nil, q3]; omega, h.sub (by repeat (first | exact .refl | refine .cons (by repeat (first | exact .here | apply aF.there)) ?_ | apply Sub.drop))⟩, ?_⟩
  clear h
  rintro d _ nn M ⟨j, he3, hd, hj, Vz, h⟩
  simp only [List.cons.injEq, Value.int.injEq, and_true, true_and] at he3
  subst he3
  obtain ⟨z1, z2, z3, z4, z5, z6, z7⟩ := key j hj
  refine aP.2 ⟨fun hlt => ?_, fun hge => ?_⟩
  ·obtain ⟨rv, hrv⟩ := aQ (l := x1.w.ready) (i := j) (by omega)
   refine ⟨by omega, hlt, ?_⟩
   obtain ⟨rb, ro, hrb⟩ := nN.some (by omega) (by decide)
   have Yy := nN
   rw [hrb] at Yy
   refine Hr hrb ?_
   simp only [Int.toNat_natCast]
   refine be (Src.at (Yy.src (L := _)) h (i := j) (j := 0) hrv rfl (by simp [bu])) ?_
   have hstep : (x1.w.ready.take (j + 1)).foldl (aU m) x1 = aU m ((x1.w.ready.take j).foldl (aU m) x1) rv := by rw [cq hrv, List.foldl_append]; rfl
   generalize hz : (x1.w.ready.take j).foldl (aU m) x1 = z at h hstep z1 z2 z3 z4 z5 z6 z7 Vz
   have Yz : aC z m = aC x m := by unfold aC; rw [z1, Wo]
   have hps : z.ps.length = x.ps.length := by rw [z2, q1]
   rw [IN h]
   refine aY ?_
   refine be (Src.at (h.src (A := some ⟨q2, 0, none⟩)) h (i := m.toNat) (j := 0) (a := aC x m) (by rw [Wo]; exact mT) rfl (by show _ = 0 + (m.toNat * 3 + 0); simp)) ?_
   refine ⟨i0, by rw [q1]; exact i1, ?_⟩
   have YA : a.lb.length = z.ps.length := by rw [hps]; exact hl
   obtain ⟨lb, hlb, jj, hrow⟩ := qg (i := (aC x m).p) (x := z) YA i0 (by rw [hps]; exact i1)
   rw [z7] at hrow
   obtain ⟨q, hq⟩ := h.bx (A := a.ap) (l := bQ a.lb x1.ps) (by rw [jA (by rw [q1]; exact hl), q1]; omega) (by decide)
   have hs0 := (h.src (A := a.ap)) M h
   rw [hq] at hs0
   refine Hr hq ?_
   refine lB (Sl.at hs0 (i := (aC x m).p.toNat * 3 + 0) (by simp) (gy.iA (E := mR) hrow rfl)) ?_
   clear hs0
   have hqz : (z.ps.map cN.q)[(aC x m).p.toNat]? = some (aL z (aC x m).p).q := by rw [List.getElem?_map, jj]; rfl
   replace h := h.cY bK hlb hqz
   replace h : Hp R (aB bK lb (aL z (aC x m).p).q :: fO (dH b wb db a x1) z.gl :: lD bK a.lb (z.ps.map cN.q) (aC x m).p.toNat :: aB (bF pa p) wb x1.w :: aB (cv .nilFunc) db x1.d :: b6 a.ap a.cp (bQ a.lb x1.ps) :: ck (some ⟨q2, 0, none⟩) a.cm x1.ms :: zq eE kp A x1.w.ready.length c :: pt k1 [.int .i64 0, .int .i64 0, .int .i64 0, .slice none 0 0] 47 :: L') M := h.sub (by repeat (first | exact .refl | refine .cons (by repeat (first | exact .here | apply aF.there)) ?_ | apply Sub.drop))
   have hbd := vF h (b := lb)
   have kf := KD (q := (aL z (aC x m).p).q) (r := rv) (gl := z.gl)
   refine EB (P := dH b wb db a x1) wN h (by omega) ?_
   clear h; intro M h
   refine cE ?_
   replace h := h.dU bK lb hlb (by rw [List.length_map]; omega)
   refine ⟨x1.w.ready.length - (j + 1), by omega, j + 1, by rw [aT (by omega)], rfl, by omega, ?_, ?_⟩
   ·rw [hstep]
    unfold aU
    rw [Yz]
    dsimp only
    obtain ⟨b1, b2, b3⟩ := hbd
    omega
   ·rw [hstep]
    have e2 : (aU m z rv).ps.map cN.q = (z.ps.map cN.q).set (aC x m).p.toNat ((aL z (aC x m).p).q.ready rv z.gl).1 := by
     unfold aU; rw [Yz]; simp [Sc.cZ, List.map_set]
    have e3 : (aU m z rv).gl = ((aL z (aC x m).p).q.ready rv z.gl).2.1 := by unfold aU; rw [Yz]
    rw [e2, e3]
    exact h.sub (by repeat (first | exact .refl | refine .cons (by repeat (first | exact .here | apply aF.there)) ?_ | apply Sub.drop))
  ·have xu : j = x1.w.ready.length := by omega
   subst xu
   rw [List.take_length] at z1 z2 z3 z4 z5 z6 z7 Vz h
   clear key hf
   generalize hrd : x1.w.ready = rd at *
   generalize hz : rd.foldl (aU m) x1 = z at h z1 z2 z3 z4 z5 z6 z7 Vz E3 wH
   have Yz : aC z m = aC x m := by unfold aC; rw [z1, Wo]
   have ez : dH b wb db a z = dH b wb db a x1 := by unfold dH eu; rw [z1, z2, z5, z6]
   have YA : a.lb.length = z.ps.length := by rw [z2, q1]; exact hl
   rw [← ez, ← z3, ← z4, ← z7, ← z1] at h
   have YB : z.ms[m.toNat]? = some (aC z m) := qh m0 (by rw [z1, Wo]; exact m1)
   have m1z : m < z.ms.length := by rw [z1, Wo]; exact m1
   have m2z : m.toNat < z.ms.length := by omega
   rw [← Yz] at l1 l2
   refine be (Src.at (h.src (A := some ⟨q2, 0, none⟩)) h (i := m.toNat) (j := 2) YB rfl (by show _ = 0 + (m.toNat * 3 + 2); omega)) ?_
   rw [cO (by omega) (by omega)]
   refine iB (E := eV) (a' := { aC z m with left := (aC z m).left - 1 }) m.toNat 2 h YB (by decide) rfl rfl ?_
   clear h; intro M h
   replace h : Hp R (fO (dH b wb db a z) z.gl :: aB (bF pa p) wb z.w :: aB (cv .nilFunc) db z.d :: b6 a.ap a.cp (bQ a.lb z.ps) :: bn bK a.lb (z.ps.map cN.q) :: ck (some ⟨q2, 0, none⟩) a.cm (z.ms.set m.toNat { aC z m with left := (aC z m).left - 1 }) :: zq eE kp A rd.length c :: pt k1 [.int .i64 0, .int .i64 0, .int .i64 0, .slice none 0 0] 47 :: L') M := h.sub (by repeat (first | exact .refl | refine .cons (by repeat (first | exact .here | apply aF.there)) ?_ | apply Sub.drop))
   refine HQ h ?_
   have hgz : g < z.w.gs.length := by rw [z3]; exact hgw
   have YC : (¬ (gN w g rest = true ∧ (aC z m).left - 1 ≠ 0)) → ∀ M', Hp R (aB (dy pa p wb db) b { z.jb m { aC z m with left := (aC z m).left - 1, g := -1 } with gl := if (ay z.w g).st = 1 then z.gl ++ [g] else z.gl } :: L') M' → K (Hi ⟨7, m, g, rd⟩ A c) M' := by
    intro hno M' h'
    unfold Sc.td at E3 wH
    rw [if_neg hno] at E3 wH
    dsimp only at E3 wH
    subst wH
    exact k R A c M' (Mem.le_refl _) nN (by rw [← E3]; exact h')
   cases hk : kp with
   | false =>
    subst hk
    refine aq ?_
    exact E1 h IM YA m0 m1z g0 hgz (by omega) (YC (fun hc => by rw [← hkp] at hc; cases hc.1))
   | true =>
    subst hk
    refine au ?_
    refine be (Src.at (h.src (A := some ⟨q2, 0, none⟩)) h (i := m.toNat) (j := 2) (a := { aC z m with left := (aC z m).left - 1 }) (by simp [m2z]) rfl (by show _ = 0 + (m.toNat * 3 + 2); omega)) ?_
    refine aZ.2 ⟨fun e0 => ?_, fun e0 => ?_⟩
    ·exact E1 h IM YA m0 m1z g0 hgz (by omega) (YC (fun hc => hc.2 e0))
    ·refine aR h ?_
     refine jS h ?_
     clear h; intro M h
     refine qf h ?_
     unfold Sc.td at E3 wH
     rw [if_pos ⟨hkp.symm, e0⟩] at E3 wH
     dsimp only at E3 wH
     subst wH
     refine k R A c M (Mem.le_refl _) nN ?_
     rw [← E3]
     refine gP (a := a) (x := z.jb m { aC z m with left := (aC z m).left - 1 }) YA ?_
     rw [zm]
     show Hp R (_ :: _ :: _ :: _ :: _ :: ck a.am a.cm (z.ms.set m.toNat { aC z m with left := (aC z m).left - 1 }) :: _) M
     rw [IM]
     exact h.sub (by repeat (first | exact .refl | refine .cons (by repeat (first | exact .here | apply aF.there)) ?_ | apply Sub.drop))
 ·cases he
end
end Go.Proofs
namespace Go.Proofs
open Go.AF
set_option maxRecDepth 100000
set_option maxHeartbeats 1000000
attribute [local irreducible] aK cD fH bL aD fx aI aO bj aS bI aV
section
variable {R : Mem} {L L' L2 : List HP} {M : Mem} {K : Value → Mem → Prop} {Kp : List PanicEntry → Mem → Prop} {pa : PA} {p : bZ} {b wb db : Nat} {x : Sc} {m i : Int}
theorem KF {y : Sc} {o : oM} (h : Hp R L M) [q : mS b L pa p wb db x L'] (hp : kU R pa p) (hd : x.d.k.Ok) (he : x.run p m = some (y, o)) (k : Oj R pa p b wb db L' K Kp y o) :
  ae Tryz.prog 102 #[.pointer (some ⟨b, 0, none⟩), .int .i64 m] M K Kp := by
 unfold Sc.run at he
 split at he
 ·rename_i hpre
  have YD := hpre
  obtain ⟨m0, m1, i0, i1, Wn, Vx, l1, l2, g0⟩ := YD
  split at he
  ·rename_i xj
   have zp : x.d.Ok := ⟨hd, by omega⟩
   refine sU ?_
   refine av h ?_
   clear h
   intro k1 M h
   have h' := eR h (b := b)
   clear h
   obtain ⟨a, hl, h⟩ := h'
   have mT := qh m0 m1
   obtain ⟨q2, mX⟩ := h.bx (A := a.am) (l := x.ms) (by omega) (by decide)
   replace h : Hp R (fO (dH b wb db a x) x.gl :: aB (bF pa p) wb x.w :: aB (cv .nilFunc) db x.d :: b6 a.ap a.cp (bQ a.lb x.ps) :: bn bK a.lb (x.ps.map cN.q) :: ck (some ⟨q2, 0, none⟩) a.cm x.ms :: pt k1 [.int .i64 0, .int .i64 0, .int .i64 0, .slice none 0 0] 47 :: L') M := by
    unfold ei at h
    rw [show ck a.am a.cm x.ms = ck (some ⟨q2, 0, none⟩) a.cm x.ms from by rw [mX]] at h
    exact h.sub (by repeat (first | exact .refl | refine .cons (by repeat (first | exact .here | apply aF.there)) ?_ | apply Sub.drop))
   rw [wO h]
   refine aY ⟨m0, m1, ?_⟩
   refine Hr mX ?_
   refine be (Src.at (h.src (A := some ⟨q2, 0, none⟩)) h (i := m.toNat) (j := 1) mT rfl (by show _ = 0 + (m.toNat * 3 + 1); omega)) ?_
   simp only [Nat.zero_add]
   rw [Yt h]
   refine jk ?_
   rw [show M.ld ⟨b, 8, none⟩ = some (.pointer (some ⟨db, 0, none⟩)) from Vw h]
   refine jk ⟨trivial, ?_⟩
   replace h : Hp R (aB (bF pa p) wb x.w :: aB (cv .nilFunc) db x.d :: fO (dH b wb db a x) x.gl :: b6 a.ap a.cp (bQ a.lb x.ps) :: bn bK a.lb (x.ps.map cN.q) :: ck (some ⟨q2, 0, none⟩) a.cm x.ms :: pt k1 [.int .i64 0, .int .i64 0, .int .i64 0, .slice none 0 0] 47 :: L') M := h.sub (by repeat (first | exact .refl | refine .cons (by repeat (first | exact .here | apply aF.there)) ?_ | apply Sub.drop))
   generalize Ol : (fO (dH b wb db a x) x.gl :: b6 a.ap a.cp (bQ a.lb x.ps) :: bn bK a.lb (x.ps.map cN.q) :: ck (some ⟨q2, 0, none⟩) a.cm x.ms :: pt k1 [.int .i64 0, .int .i64 0, .int .i64 0, .slice none 0 0] 47 :: L') = LL at h
   have hds : match asks p { x.w with ready := [] } (aC x m).g with
     | none => (aB (cv .nilFunc) db (fF x.d (asks p { x.w with ready := [] } (aC x m).g)).1 :: LL) = (aB (cv .nilFunc) db x.d :: LL)
     | some (kd, n) => iK R (.func (.func 98) #[.pointer (some ⟨db, 0, none⟩)] #[]) kd n (fF x.d (asks p { x.w with ready := [] } (aC x m).g)).2 (aB (cv .nilFunc) db x.d :: LL) (aB (cv .nilFunc) db (fF x.d (asks p { x.w with ready := [] } (aC x m).g)).1 :: LL) := by
    cases ZP : asks p { x.w with ready := [] } (aC x m).g with
    | none => rfl
    | some kn =>
     obtain ⟨kd, n⟩ := kn
     rw [ZP] at xj
     exact Kz zp (of_decide_eq_true xj) Vx
   have G0 : ∀ l, (fF x.d (asks p { x.w with ready := [] } (aC x m).g)).2 = .dG l → Bz l (xl l) := by
    intro l hl
    cases ZP : asks p { x.w with ready := [] } (aC x m).g with
    | none => rw [ZP] at hl; cases hl
    | some kn =>
     obtain ⟨kd, n⟩ := kn
     rw [ZP] at hl
     exact (E0 (x' := (x.d.draw kd n).1) (by rw [← hl]; rfl)).2
   generalize wK : fF x.d (asks p { x.w with ready := [] } (aC x m).g) = dd at he hds G0
   obtain ⟨d', dr⟩ := dd
   dsimp only at he hds G0
   cases hex : uD p x.w (aC x m).g dr with
   | none => rw [hex] at he; cases he
   | some rr =>
    obtain ⟨r, rest⟩ := rr
    rw [hex] at he
    refine Ks h hp ⟨_, _, _, rfl⟩ hex hds ?_
    cases r with
    | dG l w =>
     dsimp only at he
     simp only [Option.some.injEq, Prod.mk.injEq] at he
     obtain ⟨E3, wH⟩ := he
     obtain ⟨An, hw⟩ := BN hex
     refine ⟨xl l, G0 l An, ?_⟩
     intro M h
     subst wH
     refine k M ?_
     rw [← E3]
     rw [← Ol] at h
     have h9 : Hp R (fO (dH b wb db a { x with w := w, d := d' }) x.gl :: aB (bF pa p) wb w :: aB (cv .nilFunc) db d' :: b6 a.ap a.cp (bQ a.lb x.ps) :: bn bK a.lb (x.ps.map cN.q) :: ck a.am a.cm x.ms :: L') M := by
      rw [show ck a.am a.cm x.ms = ck (some ⟨q2, 0, none⟩) a.cm x.ms from by rw [mX], show dH b wb db a { x with w := w, d := d' } = dH b wb db a x from rfl]
      exact h.sub (by repeat (first | exact .refl | refine .cons (by repeat (first | exact .here | apply aF.there)) ?_ | apply Sub.drop))
     exact gP (a := a) (x := { x with w := w, d := d' }) hl h9
    | on w =>
     intro R' A c M hle nN h
     rw [← Ol] at h
     have h2 : Hp R' (fO (dH b wb db a x) x.gl :: aB (bF pa p) wb w :: aB (cv .nilFunc) db d' :: b6 a.ap a.cp (bQ a.lb x.ps) :: bn bK a.lb (x.ps.map cN.q) :: ck (some ⟨q2, 0, none⟩) a.cm x.ms :: pt k1 [.int .i64 0, .int .i64 0, .int .i64 0, .slice none 0 0] 47 :: L') M := h.sub (by repeat (first | exact .refl | refine .cons (by repeat (first | exact .here | apply aF.there)) ?_ | apply Sub.drop))
     refine E2 (K := K) (Kp := Kp) (w := w) (g := (aC x m).g) (kp := gN w (aC x m).g rest) (rest := rest) h2 nN mX hl hpre rfl rfl he ?_
     cases o with
     | ev e => exact fun R2 A2 c2 M2 tf => k R2 A2 c2 M2 (Mem.le_trans hle tf)
     | dG l =>
      dsimp only at he
      unfold jC at he
      split at he
      ·simp only [Option.some.injEq, Prod.mk.injEq] at he; cases he.2
      ·cases he
    | eJ n w =>
     intro R' A c M hle nN h
     rw [← Ol] at h
     have h2 : Hp R' (fO (dH b wb db a x) x.gl :: aB (bF pa p) wb { w with end_ := 2, code := n } :: aB (cv .nilFunc) db d' :: b6 a.ap a.cp (bQ a.lb x.ps) :: bn bK a.lb (x.ps.map cN.q) :: ck (some ⟨q2, 0, none⟩) a.cm x.ms :: pt k1 [.int .i64 0, .int .i64 0, .int .i64 0, .slice none 0 0] 47 :: L') M := h.sub (by repeat (first | exact .refl | refine .cons (by repeat (first | exact .here | apply aF.there)) ?_ | apply Sub.drop))
     refine E2 (K := K) (Kp := Kp) (w := { w with end_ := 2, code := n }) (g := (aC x m).g) (kp := gN { w with end_ := 2, code := n } (aC x m).g rest) (rest := rest) h2 nN mX hl hpre rfl rfl he ?_
     cases o with
     | ev e => exact fun R2 A2 c2 M2 tf => k R2 A2 c2 M2 (Mem.le_trans hle tf)
     | dG l =>
      dsimp only at he
      unfold jC at he
      split at he
      ·simp only [Option.some.injEq, Prod.mk.injEq] at he; cases he.2
      ·cases he
  ·cases he
 ·cases he
theorem Om {e : Ev} {o : oM} {y z : Sc} (h : CY (z, .ev e) = (y, o)) : o = .ev e ∧ y = { z with steps := z.steps + 1 } := by
 unfold CY at h; cases h; exact ⟨rfl, rfl⟩
theorem zu {y : Sc} {o : oM} (h : Hp R L M) [q : mS b L pa p wb db x L'] (hp : kU R pa p) (hd : x.d.k.Ok) (he : x.step p = some (y, o)) (k : Oj R pa p b wb db L' K Kp y o) :
  ae Tryz.prog 50 #[.pointer (some ⟨b, 0, none⟩)] M K Kp := by
 unfold Sc.step at he
 split at he
 ·rename_i hpre
  obtain ⟨hgs, hcM, hps, hms, Vx, hst0, hst1⟩ := hpre
  refine rz ?_
  refine av h ?_
  clear h
  intro k1 M h
  refine nS h hgs ?_
  refine cE ?_
  split at he
  ·rename_i hst
   simp only [Option.some.injEq, Prod.mk.injEq] at he
   obtain ⟨E3, wH⟩ := he
   subst E3; subst wH
   refine de.2 ⟨fun _ => ?_, fun hn => absurd hn hst⟩
   refine jS h ?_
   clear h; intro M h
   refine qf h ?_
   exact k R none 0 M (Mem.le_refl _) (RS.nil _ _) (h.drop.pick q.pick)
  ·rename_i hst
   refine de.2 ⟨fun hn => absurd hn hst, fun _ => ?_⟩
   have h' := eR h (b := b)
   clear h
   obtain ⟨a, hl, h⟩ := h'
   rw [Vw h]
   refine jk ?_
   rw [Ys h]
   refine cE ?_
   have zp : x.d.Ok := ⟨hd, by omega⟩
   have hnw : IntKind.wrap .i64 (x.c.M + 1) = x.c.M + 1 := cO (by omega) (by omega)
   rw [hnw]
   replace h : Hp R (aB (cv .nilFunc) db x.d :: fO (dH b wb db a x) x.gl :: aB (bF pa p) wb x.w :: b6 a.ap a.cp (bQ a.lb x.ps) :: bn bK a.lb (x.ps.map cN.q) :: ck a.am a.cm x.ms :: pt k1 [.int .i64 0, .int .i64 0, .int .i64 0, .slice none 0 0] 47 :: L') M := h.sub (by repeat (first | exact .refl | refine .cons (by repeat (first | exact .here | apply aF.there)) ?_ | apply Sub.drop))
   refine qe h zp (by omega) (by omega) ?_
   clear h
   have YE := nT (kind := 1) (n := x.c.M + 1) hd
   have Hg : ∀ x' v, x.d.draw 1 (x.c.M + 1) = (x', .num v) → 0 ≤ v ∧ v < x.c.M + 1 ∧ x'.taken = x.d.taken ++ [(1, v)] := by
    intro x' v hv
    have := qj hd hv
    rw [show mQ (x.c.M + 1) = x.c.M + 1 from by unfold mQ; rw [if_neg (by omega)]] at this
    exact this
   generalize wK : x.d.draw 1 (x.c.M + 1) = dd at he YE Hg
   obtain ⟨d', dr⟩ := dd
   have mk : ∀ {M : Mem}, Hp R (aB (cv .nilFunc) db d' :: fO (dH b wb db a x) x.gl :: aB (bF pa p) wb x.w :: b6 a.ap a.cp (bQ a.lb x.ps) :: bn bK a.lb (x.ps.map cN.q) :: ck a.am a.cm x.ms :: pt k1 [.int .i64 0, .int .i64 0, .int .i64 0, .slice none 0 0] 47 :: L') M → Hp R (aB (dy pa p wb db) b { x with d := d' } :: pt k1 [.int .i64 0, .int .i64 0, .int .i64 0, .slice none 0 0] 47 :: L') M :=
    fun h => gP (a := a) (x := { x with d := d' }) hl (h.sub (by repeat (first | exact .refl | refine .cons (by repeat (first | exact .here | apply aF.there)) ?_ | apply Sub.drop)))
   cases dr with
   | dG l =>
    dsimp only at he ⊢
    simp only [Option.some.injEq, Prod.mk.injEq] at he
    obtain ⟨E3, wH⟩ := he
    intro M h
    subst wH
    refine k M ?_
    rw [← E3]
    exact (mk h).bX
   | num mm =>
    dsimp only at he ⊢
    obtain ⟨v0, v1, htk2⟩ := Hg d' mm rfl
    intro M h
    replace h := mk h
    clear mk
    refine cE ?_
    generalize CQ : ({ x with d := d' } : Sc) = x1 at h he
    have e1 : x1.c = x.c := by rw [← CQ]
    have e2 : x1.ms = x.ms := by rw [← CQ]
    have e3 : x1.ps = x.ps := by rw [← CQ]
    have e4 : x1.d.k.Ok := by rw [← CQ]; exact YE
    have e5 : x1.steps = x.steps := by rw [← CQ]
    clear CQ
    refine av h ?_
    clear h; intro fa M h
    replace h : Hp R (aB (dy pa p wb db) b x1 :: pt k1 [.int .i64 0, .int .i64 0, .int .i64 0, .slice none 0 0] 47 :: pt fa [.int .i64 0, .int .i64 0, .int .i64 0, .slice none 0 0] 47 :: L') M := h.sub (by repeat (first | exact .refl | refine .cons (by repeat (first | exact .here | apply aF.there)) ?_ | apply Sub.drop))
    have fin : ∀ (R' : Mem) (A : Option Addr) (c : Nat) (M : Mem) (z : Sc) (e : Ev), R.le R' → RS bu R' A c e.ready → z.steps = x.steps → CY (z, .ev e) = (y, o) → Hp R' (aB (dy pa p wb db) b z :: pt k1 [.int .i64 0, .int .i64 0, .int .i64 0, .slice none 0 0] 47 :: pt fa [.int .i64 0, .int .i64 0, .int .i64 0, .slice none 0 0] 47 :: L') M →
      aO M ⟨fa, 0, none⟩ (.int .i64 e.kind) fun mA => aO mA ⟨fa, (0 + 1), none⟩ (.int .i64 e.m) fun tT => aO tT ⟨fa, (0 + 2), none⟩ (.int .i64 e.g) fun lY => aO lY ⟨fa, (0 + 3), none⟩ (.slice A e.ready.length c) fun qu =>
      aK (Mem.ld qu ⟨b, (0 + 9), none⟩) .i64 fun xB => aO qu ⟨b, (0 + 9), none⟩ (.int .i64 (IntKind.wrap .i64 (xB + 1))) fun Cs =>
      aK (Mem.ld Cs ⟨fa, 0, none⟩) .i64 fun Jw => aK (Mem.ld Cs ⟨fa, (0 + 1), none⟩) .i64 fun HV => aK (Mem.ld Cs ⟨fa, (0 + 2), none⟩) .i64 fun Ia => aD (Mem.ld Cs ⟨fa, (0 + 3), none⟩) fun S0 KQ nW =>
      aO Cs ⟨k1, 0, none⟩ (.int .i64 Jw) fun wD => aO wD ⟨k1, (0 + 1), none⟩ (.int .i64 HV) fun mW => aO mW ⟨k1, (0 + 2), none⟩ (.int .i64 Ia) fun wE => aO wE ⟨k1, (0 + 3), none⟩ (.slice S0 KQ nW) fun rY =>
      aK (Mem.ld rY ⟨k1, 0, none⟩) .i64 fun zI => aK (Mem.ld rY ⟨k1, (0 + 1), none⟩) .i64 fun Fo => aK (Mem.ld rY ⟨k1, (0 + 2), none⟩) .i64 fun Bc => aD (Mem.ld rY ⟨k1, (0 + 3), none⟩) fun SK kj jI =>
      K (.agg #[(.int .i64 zI), (.int .i64 Fo), (.int .i64 Bc), (.slice SK kj jI)]) rY := by
     intro R' A c M z e hle nN hzs hinc h
     obtain ⟨ho, hy⟩ := Om hinc
     subst ho; subst hy
     refine jS h ?_
     clear h; intro M h
     have h' := eR h (b := b)
     clear h
     obtain ⟨a3, Qk, h⟩ := h'
     have h' := nR h
     clear h
     obtain ⟨A4, c4, h⟩ := h'
     refine aJ h ?_
     rw [cO (by omega) (by omega)]
     refine az h ?_
     clear h; intro M h
     refine qf h ?_
     refine jS h ?_
     clear h; intro M h
     refine qf h ?_
     refine k R' A c M hle nN (gP (a := a3) (x := { z with steps := z.steps + 1 }) Qk ?_)
     exact xK (x := { z with steps := z.steps + 1 }) (h.sub (by repeat (first | exact .refl | refine .cons (by repeat (first | exact .here | apply aF.there)) ?_ | apply Sub.drop)))
    have h' := eR h (b := b)
    clear h
    obtain ⟨a5, YF, h⟩ := h'
    rw [Ys h]
    refine cE ?_
    have BK : ∀ {M : Mem}, Hp R (fO (dH b wb db a5 x1) x1.gl :: aB (bF pa p) wb x1.w :: aB (cv .nilFunc) db x1.d :: ei a5 x1 (pt k1 [.int .i64 0, .int .i64 0, .int .i64 0, .slice none 0 0] 47 :: pt fa [.int .i64 0, .int .i64 0, .int .i64 0, .slice none 0 0] 47 :: L')) M → Hp R (aB (dy pa p wb db) b x1 :: pt k1 [.int .i64 0, .int .i64 0, .int .i64 0, .slice none 0 0] 47 :: pt fa [.int .i64 0, .int .i64 0, .int .i64 0, .slice none 0 0] 47 :: L') M := fun h => gP (a := a5) YF h
    unfold Sc.act at he
    refine aZ.2 ⟨fun em => ?_, fun em => ?_⟩
    ·rw [if_pos em] at he
     split at he
     ·rename_i YG
      simp only [Option.map_some, Option.some.injEq] at he
      refine Hj (BK h) YG ?_
      clear h; intro R' A c M hle nN h
      refine ⟨_, _, _, _, _, _, rfl, ?_⟩
      exact fin R' A c M _ _ hle nN (by rw [← e5]; rfl) he h
     ·cases he
    rw [if_neg em] at he
    have ZQ : mm < x1.ms.length := by
     have a1 : x1.c.M = x.c.M := by rw [e1]
     have a2 : x1.ms.length = x.ms.length := by rw [e2]
     omega
    have mT := qh v0 ZQ
    obtain ⟨q2, mX⟩ := h.bx (A := a5.am) (l := x1.ms) (by omega) (by decide)
    have hs0 := (h.src (A := a5.am)) M h
    rw [mX] at hs0
    rw [wO h]
    refine aY ⟨v0, ZQ, ?_⟩
    refine Hr mX ?_
    refine be (Sl.at hs0 (i := mm.toNat * 3 + 0) (by simp) (gy.iA (E := eV) mT rfl)) ?_
    refine aZ.2 ⟨fun ep => ?_, fun ep => ?_⟩
    ·rw [if_pos ep] at he
     simp only [Option.map_some, Option.some.injEq] at he
     refine Hl (BK h) v0 ZQ (by rw [e3]; omega) ?_
     clear h hs0; intro M h
     have FO : (x1.hold mm).2.ready = [] := by unfold Sc.hold; split <;> rfl
     have tg : (x1.hold mm).1.steps = x.steps := by rw [← e5]; unfold Sc.hold; split <;> rfl
     refine ⟨_, _, _, _, _, _, rfl, ?_⟩
     exact fin R none 0 M _ _ (Mem.le_refl _) (by rw [FO]; exact RS.nil _ _) tg he h
    rw [if_neg ep] at he
    refine aY ⟨v0, ZQ, ?_⟩
    refine Hr mX ?_
    refine be (Sl.at hs0 (i := mm.toNat * 3 + 1) (by simp) (gy.iA (E := eV) mT rfl)) ?_
    clear hs0
    refine aZ.2 ⟨fun eg => ?_, fun eg => ?_⟩
    ·rw [if_pos eg] at he
     split at he
     ·rename_i hfo
      simp only [Option.map_some, Option.some.injEq] at he
      have tg : (x1.find mm).1.steps = x.steps := by
       rw [← e5]
       have BC : ∀ (z : Sc) a b c d e, (z.bU a b c d e).1.steps = z.steps := by intro z a b c d e; unfold Sc.bU; split <;> rfl
       unfold Sc.find
       dsimp only
       split
       ·rfl
       ·split
        ·split
         ·rfl
         ·split <;> exact BC ..
        ·exact BC ..
      have hrd : ∀ e, (x1.find mm).2 = .ev e → e.ready = [] := by
       have BC : ∀ (z : Sc) a b c d e, (z.bU a b c d e).2.ready = [] := by intro z a b c d e; unfold Sc.bU; split <;> rfl
       intro e FO
       unfold Sc.find at FO
       dsimp only at FO
       split at FO
       ·cases FO; rfl
       ·split at FO
        ·split at FO
         ·cases FO
         ·split at FO <;> · cases FO; exact BC ..
        ·cases FO; exact BC ..
      refine Ho (BK h) hfo e4 ?_
      clear h
      generalize LW : x1.find mm = ff at he tg hrd ⊢
      obtain ⟨z, oo⟩ := ff
      cases oo with
      | ev e =>
       dsimp only at tg hrd ⊢
       intro M h
       refine ⟨_, _, _, _, _, _, rfl, ?_⟩
       have hr0 : e.ready = [] := hrd e rfl
       exact fin R none 0 M _ e (Mem.le_refl _) (by rw [hr0]; exact RS.nil _ _) tg he h
      | dG l =>
       dsimp only
       intro M h
       unfold CY at he
       cases he
       exact k M h.bX
     ·cases he
    rw [if_neg eg] at he
    cases hrun : x1.run p mm with
    | none => rw [hrun] at he; cases he
    | some rr =>
     obtain ⟨z, oo⟩ := rr
     rw [hrun] at he
     simp only [Option.map_some, Option.some.injEq] at he
     refine KF (BK h) hp e4 hrun ?_
     clear h
     have tg : z.steps = x.steps := by
      rw [← e5]
      unfold Sc.run at hrun
      split at hrun
      ·rename_i YH
       obtain ⟨_, _, i0, i1, _⟩ := YH
       have Lq : ∀ d w rest, jC x1 mm (aC x1 mm).g d w rest = some (z, oo) → z.steps = x1.steps := by
        intro d w rest Lq
        unfold jC at Lq
        split at Lq
        ·simp only [Option.some.injEq, Prod.mk.injEq] at Lq
         rw [← Lq.1]
         have := jc (m := mm) w.ready { x1 with w := w, d := d } i0 i1
         unfold Sc.td
         split <;> exact this.2.2.2.2.2.1
        ·cases Lq
       split at hrun
       ·split at hrun
        ·cases hrun
        ·simp only [Option.some.injEq, Prod.mk.injEq] at hrun; rw [← hrun.1]
        ·exact Lq _ _ _ hrun
        ·exact Lq _ _ _ hrun
       ·cases hrun
      ·cases hrun
     cases oo with
     | ev e =>
      intro R' A c M hle nN h
      refine ⟨_, _, _, _, _, _, rfl, ?_⟩
      exact fin R' A c M _ e hle nN tg he h
     | dG l =>
      intro M h
      unfold CY at he
      cases he
      exact k M h.bX
 ·cases he
end
end Go.Proofs
namespace Go.Proofs
open Go.AF
set_option maxRecDepth 100000
set_option maxHeartbeats 1000000
attribute [local irreducible] aK cD fH bL aD fx aI aO bj aS bI aV
structure PrcS where
 next : Int
 ring : List Int
 turns : Int
 gA : Int
def Sc.new (p : bZ) (c : Hh) (d : lP) : Sc := ⟨Wd.new p, c, List.replicate c.P.toNat ⟨⟨-1, eN c.R, []⟩, 0, -1⟩, List.replicate c.M.toNat ⟨-1, -1, 0⟩, [0], d, 0⟩
theorem IP : bh Tryz.prog 132 141 3 24 [.pointer none, .int .i64 0, .int .i64 0] := bh.mk' (zv := .agg #[.pointer none, .int .i64 0, .int .i64 0]) (by kernel_rfl) (by kernel_rfl) rfl (by omega)
theorem QJ : bh Tryz.prog 133 143 3 24 [.int .i64 0, .int .i64 0, .int .i64 0] := bh.mk' (zv := .agg #[.int .i64 0, .int .i64 0, .int .i64 0]) (by kernel_rfl) (by kernel_rfl) rfl (by omega)
theorem BO {bs : List Nat} {ps : List cN} {b : Nat} {y : cN} (h : bs.length = ps.length) : bQ (bs ++ [b]) (ps ++ [y]) = bQ bs ps ++ [(b, y.turns, y.gA)] := by
 unfold bQ; rw [List.zipWith_append h]; rfl
section
variable {R : Mem} {L L' L2 : List HP} {M : Mem} {K : Value → Mem → Prop} {Kp : List PanicEntry → Mem → Prop} {pa : PA} {p : bZ} {b wb db : Nat} {x : Sc} {m i : Int}
theorem BP {c : Hh} {d : lP} (h : Hp R L M) [o : b7 (cv .nilFunc) db L d L'] (xE : RS bu R pa.c pa.cc p.dk) (hc : p.dk.length ≤ 1000000) (hk : 0 ≤ p.aM ∧ p.aM ≤ 1000000) (hP : 0 ≤ c.P ∧ c.P ≤ 1000000) (hM : 0 ≤ c.M ∧ c.M ≤ 1000000)
  (k : ∀ b wb M', Hp R (aB (dy pa p wb db) b (Sc.new p c d) :: L') M' → K (.pointer (some ⟨b, 0, none⟩)) M') :
  ae Tryz.prog 16 #[.agg #[.slice pa.f p.funcs.length pa.fc, .slice pa.c p.dk.length pa.cc, .int .i64 p.aM, .slice pa.k p.cases.length pa.kc], .agg #[.int .i64 c.P, .int .i64 c.M, .int .i64 c.R, .int .i64 c.S], .pointer (some ⟨db, 0, none⟩)] M K Kp := by
 refine Cw ?_
 replace h := h.front (cv .nilFunc) db
 refine av h ?_
 clear h; intro k1 M h
 refine av h ?_
 clear h; intro k3 M h
 refine aR h (aR h (aJ h (aR h ?_)))
 refine aJ h (aJ h (aJ h (aJ h ?_)))
 refine Ke (p := p) (pa := pa) h xE hc hk ?_
 clear h; intro wb M h
 refine jk ⟨aa (aj h) (aa (aj h) (aa (aj h) (aa (aj h) ai))), ?_⟩
 refine av h ?_
 clear h; intro b M h
 refine aJ h ?_
 replace h := ((((h.bT mR 141).tV bK).bT eV 143).bT bu 3)
 obtain ⟨nP, hnP⟩ := Int.eq_ofNat_of_zero_le hP.1
 obtain ⟨nM, hnM⟩ := Int.eq_ofNat_of_zero_le hM.1
 refine ⟨fun dd vs M => ∃ (j : Nat) (A : Option Addr) (ca : Nat) (uP : List Nat), vs = [.int .i64 (j : Int)] ∧ dd = nP - j ∧ j ≤ nP ∧ uP.length = j ∧
   Hp R (pt b [.pointer (some ⟨wb, 0, none⟩), .int .i64 c.P, .int .i64 c.M, .int .i64 c.R, .int .i64 c.S, .slice A j ca, .slice none 0 0, .slice none 0 0, .pointer (some ⟨db, 0, none⟩), .int .i64 0] 137 ::
    b6 A ca (bQ uP (List.replicate j ⟨⟨-1, eN c.R, []⟩, 0, -1⟩)) :: bn bK uP (List.replicate j ⟨-1, eN c.R, []⟩) :: ck none 0 [] :: j6 none 0 [] :: aB (bF pa p) wb (Wd.new p) :: aB (cv .nilFunc) db d :: pt k3 [.int .i64 c.P, .int .i64 c.M, .int .i64 c.R, .int .i64 c.S] 26 :: L') M,
  ⟨_, 0, none, 0, [], rfl, rfl, by omega, rfl, h.sub (by repeat (first | exact .refl | refine .cons (by repeat (first | exact .here | apply aF.there)) ?_ | apply Sub.drop))⟩, ?_⟩
 clear h
 rintro dd _ nn M ⟨j, A, ca, uP, he, hd, hj, hlb, h⟩
 simp only [List.cons.injEq, Value.int.injEq, and_true, true_and] at he
 subst he
 refine aP.2 ⟨fun hlt => ?_, fun hge => ?_⟩
 ·have kf : (List.replicate j (⟨⟨-1, eN c.R, []⟩, 0, -1⟩ : cN)).length = j := List.length_replicate
  refine ⟨fun vs M => ∃ (A : Option Addr) (ca : Nat) (lb : Nat),
   Hp R (pt b [.pointer (some ⟨wb, 0, none⟩), .int .i64 c.P, .int .i64 c.M, .int .i64 c.R, .int .i64 c.S, .slice A (j + 1) ca, .slice none 0 0, .slice none 0 0, .pointer (some ⟨db, 0, none⟩), .int .i64 0] 137 ::
    b6 A ca (bQ (uP ++ [lb]) (List.replicate (j + 1) ⟨⟨-1, eN c.R, []⟩, 0, -1⟩)) :: bn bK (uP ++ [lb]) (List.replicate (j + 1) ⟨-1, eN c.R, []⟩) :: ck none 0 [] :: j6 none 0 [] :: aB (bF pa p) wb (Wd.new p) :: aB (cv .nilFunc) db d :: pt k3 [.int .i64 c.P, .int .i64 c.M, .int .i64 c.R, .int .i64 c.S] 26 :: L') M, aJ h ⟨?_, ?_, trivial⟩, ?_⟩
  ·refine aR h ?_
   refine Bu h ?_
   clear h; intro lb M h
   refine jk ?_
   refine av h ?_
   clear h; intro vn M h
   refine h.dn (A := A) IP [(lb, 0, -1)] rfl (by rw [jA (by rw [hlb, kf]), kf]) rfl (by rw [jA (by rw [hlb, kf]), kf]; simp only [List.length_singleton]; omega) ?_
   clear h; intro A' c' M h
   refine aY ?_
   refine az h ?_
   clear h; intro M h
   replace h := h.ku bK lb (by rw [hlb, List.length_replicate])
   refine ⟨A', c', lb, ?_⟩
   have e1 : bQ (uP ++ [lb]) (List.replicate (j + 1) (⟨⟨-1, eN c.R, []⟩, 0, -1⟩ : cN)) = bQ uP (List.replicate j ⟨⟨-1, eN c.R, []⟩, 0, -1⟩) ++ [(lb, 0, -1)] := by
    rw [List.replicate_succ', BO (by rw [hlb, kf])]
   have e2 : List.replicate (j + 1) (⟨-1, eN c.R, []⟩ : Loc) = List.replicate j ⟨-1, eN c.R, []⟩ ++ [⟨-1, eN c.R, []⟩] := List.replicate_succ'
   rw [e1, e2]
   exact h.sub (by repeat (first | exact .refl | refine .cons (by repeat (first | exact .here | apply aF.there)) ?_ | apply Sub.drop))
  ·refine Bu h ?_
   clear h; intro lb M h
   refine jk ?_
   refine aR h ?_
   refine av h ?_
   clear h; intro vn M h
   refine h.dn (A := A) IP [(lb, 0, -1)] rfl (by rw [jA (by rw [hlb, kf]), kf]) rfl (by rw [jA (by rw [hlb, kf]), kf]; simp only [List.length_singleton]; omega) ?_
   clear h; intro A' c' M h
   refine aY ?_
   refine az h ?_
   clear h; intro M h
   replace h := h.ku bK lb (by rw [hlb, List.length_replicate])
   refine ⟨A', c', lb, ?_⟩
   have e1 : bQ (uP ++ [lb]) (List.replicate (j + 1) (⟨⟨-1, eN c.R, []⟩, 0, -1⟩ : cN)) = bQ uP (List.replicate j ⟨⟨-1, eN c.R, []⟩, 0, -1⟩) ++ [(lb, 0, -1)] := by
    rw [List.replicate_succ', BO (by rw [hlb, kf])]
   have e2 : List.replicate (j + 1) (⟨-1, eN c.R, []⟩ : Loc) = List.replicate j ⟨-1, eN c.R, []⟩ ++ [⟨-1, eN c.R, []⟩] := List.replicate_succ'
   rw [e1, e2]
   exact h.sub (by repeat (first | exact .refl | refine .cons (by repeat (first | exact .here | apply aF.there)) ?_ | apply Sub.drop))
  ·clear h
   rintro _ M ⟨A', c', lb, h⟩
   rw [aT (by omega)]
   exact ⟨nP - (j + 1), by omega, j + 1, A', c', uP ++ [lb], rfl, rfl, by omega, by simp [hlb], h⟩
 have V0 : j = nP := by omega
 subst V0
 refine aJ h ?_
 refine ⟨fun dd vs M => ∃ (q : Nat) (B : Option Addr) (cb : Nat), vs = [.int .i64 (q : Int)] ∧ dd = nM - q ∧ q ≤ nM ∧
   Hp R (pt b [.pointer (some ⟨wb, 0, none⟩), .int .i64 c.P, .int .i64 c.M, .int .i64 c.R, .int .i64 c.S, .slice A j ca, .slice B q cb, .slice none 0 0, .pointer (some ⟨db, 0, none⟩), .int .i64 0] 137 ::
    b6 A ca (bQ uP (List.replicate j ⟨⟨-1, eN c.R, []⟩, 0, -1⟩)) :: bn bK uP (List.replicate j ⟨-1, eN c.R, []⟩) :: ck B cb (List.replicate q ⟨-1, -1, 0⟩) :: j6 none 0 [] :: aB (bF pa p) wb (Wd.new p) :: aB (cv .nilFunc) db d :: pt k3 [.int .i64 c.P, .int .i64 c.M, .int .i64 c.R, .int .i64 c.S] 26 :: L') M,
  ⟨_, 0, none, 0, rfl, rfl, by omega, h.sub (by repeat (first | exact .refl | refine .cons (by repeat (first | exact .here | apply aF.there)) ?_ | apply Sub.drop))⟩, ?_⟩
 clear h
 rintro dd _ nn M ⟨q, B, cb, he, OS, hq, h⟩
 simp only [List.cons.injEq, Value.int.injEq, and_true, true_and] at he
 subst he
 refine aP.2 ⟨fun hlt => ?_, fun QK => ?_⟩
 ·refine aR h ?_
  refine av h ?_
  clear h; intro rZ M h
  refine h.dn (A := B) QJ [(⟨-1, -1, 0⟩ : BI)] rfl (by simp) rfl (by simp; omega) ?_
  clear h; intro B' cb' M h
  refine aY ?_
  refine az h ?_
  clear h; intro M h
  rw [aT (by omega)]
  have e : List.replicate q (⟨-1, -1, 0⟩ : BI) ++ [⟨-1, -1, 0⟩] = List.replicate (q + 1) ⟨-1, -1, 0⟩ := List.replicate_succ'.symm
  rw [e] at h
  exact ⟨nM - (q + 1), by omega, q + 1, B', cb', rfl, rfl, by omega, h.sub (by repeat (first | exact .refl | refine .cons (by repeat (first | exact .here | apply aF.there)) ?_ | apply Sub.drop))⟩
 have hqn : q = nM := by omega
 subst hqn
 refine av h ?_
 clear h; intro Fk M h
 have e0 : Sc.new p c d = ⟨Wd.new p, c, List.replicate j ⟨⟨-1, eN c.R, []⟩, 0, -1⟩, List.replicate q ⟨-1, -1, 0⟩, [0], d, 0⟩ := by
  unfold Sc.new; rw [hnP, hnM]; rfl
 have e3 : (List.replicate j (⟨⟨-1, eN c.R, []⟩, 0, -1⟩ : cN)).map cN.q = List.replicate j ⟨-1, eN c.R, []⟩ := by simp
 replace h := (h.pt Fk).gW (E := bu) (l := [0]) rfl
 generalize hz : (⟨Wd.new p, c, List.replicate j ⟨⟨-1, eN c.R, []⟩, 0, -1⟩, List.replicate q ⟨-1, -1, 0⟩, [0], d, 0⟩ : Sc) = z at e0
 have z1 : eu wb db ⟨A, ca, uP, B, cb⟩ z none 0 0 = [.pointer (some ⟨wb, 0, none⟩), .int .i64 c.P, .int .i64 c.M, .int .i64 c.R, .int .i64 c.S, .slice A j ca, .slice B q cb, .slice none 0 0, .pointer (some ⟨db, 0, none⟩), .int .i64 0] := by
  rw [← hz]; simp [eu]
 rw [← z1] at h
 have h2 : Hp R (pt b (eu wb db ⟨A, ca, uP, B, cb⟩ z none 0 0) 137 :: j6 none 0 [] :: j6 (some ⟨Fk, 0, none⟩) 1 [0] :: aB (bF pa p) wb (Wd.new p) :: aB (cv .nilFunc) db d :: b6 A ca (bQ uP (List.replicate j ⟨⟨-1, eN c.R, []⟩, 0, -1⟩)) :: bn bK uP (List.replicate j ⟨-1, eN c.R, []⟩) :: ck B cb (List.replicate q ⟨-1, -1, 0⟩) :: L') M := h.sub (by repeat (first | exact .refl | refine .cons (by repeat (first | exact .here | apply aF.there)) ?_ | apply Sub.drop))
 have h3 : Hp R (fO (dH b wb db ⟨A, ca, uP, B, cb⟩ z) [] :: j6 (some ⟨Fk, 0, none⟩) 1 [0] :: aB (bF pa p) wb (Wd.new p) :: aB (cv .nilFunc) db d :: b6 A ca (bQ uP (List.replicate j ⟨⟨-1, eN c.R, []⟩, 0, -1⟩)) :: bn bK uP (List.replicate j ⟨-1, eN c.R, []⟩) :: ck B cb (List.replicate q ⟨-1, -1, 0⟩) :: L') M := Ez (P := dH b wb db ⟨A, ca, uP, B, cb⟩ z) h2 rfl
 clear h h2
 refine nL (P := dH b wb db ⟨A, ca, uP, B, cb⟩ z) wN h3 (Src.row (A := some ⟨Fk, 0, none⟩)) rfl (by simp) ?_
 clear h3; intro M h
 refine ⟨rfl, ?_⟩
 refine k b wb M ?_
 rw [e0]
 refine gP (a := ⟨A, ca, uP, B, cb⟩) (x := z) (by rw [← hz]; simp [hlb]) ?_
 rw [← hz] at h ⊢
 unfold ei
 dsimp only at h ⊢
 rw [e3]
 exact h.sub (by repeat (first | exact .refl | refine .cons (by repeat (first | exact .here | apply aF.there)) ?_ | apply Sub.drop))
theorem zw (h : Hp R L M) [o : mS b L pa p wb db x L'] (hs : x.ms.length ≤ 1000000) (k : ∀ A c M', Hp R (bG eV 55 A c x.ms :: aB (dy pa p wb db) b x :: L') M' → K (.slice A x.ms.length c) M') : ae Tryz.prog 20 #[.pointer (some ⟨b, 0, none⟩)] M K Kp := by
 refine mF ?_
 have h' := eR h (b := b)
 clear h
 obtain ⟨a, hl, h⟩ := h'
 rw [wO h]
 refine aY ?_
 have elm : bh Tryz.prog 56 55 3 24 [.int .i64 0, .int .i64 0, .int .i64 0] := bh.mk' (zv := .agg #[.int .i64 0, .int .i64 0, .int .i64 0]) (by kernel_rfl) (by kernel_rfl) rfl (by omega)
 replace h := h.bT eV 55
 refine ⟨fun dd vs M => ∃ (j : Nat) (A : Option Addr) (c : Nat), vs = [.slice A j c, .int .i64 (j : Int)] ∧ dd = x.ms.length - j ∧ j ≤ x.ms.length ∧ Hp R (bG eV 55 A c (x.ms.take j) :: fO (dH b wb db a x) x.gl :: aB (bF pa p) wb x.w :: aB (cv .nilFunc) db x.d :: ei a x L') M, ⟨_, 0, none, 0, rfl, rfl, by omega, h⟩, ?_⟩
 clear h
 rintro dd _ A n c nn M ⟨j, A', c', he, hd, hj, h⟩
 simp only [List.cons.injEq, Value.int.injEq, Value.slice.injEq, and_true, true_and] at he
 obtain ⟨⟨rfl, rfl, rfl⟩, rfl⟩ := he
 refine aP.2 ⟨fun hlt => ?_, fun hge => ?_⟩
 ·obtain ⟨y, hy⟩ := aQ (l := x.ms) (i := n) (by omega)
  refine ⟨by omega, hlt, ?_⟩
  obtain ⟨q2, mX⟩ := h.bx (A := a.am) (l := x.ms) (by omega) (by decide)
  have hs0 := (h.src (A := a.am)) M h
  rw [mX] at hs0
  refine Hr mX ?_
  refine be (Sl.at hs0 (i := n * 3 + 0) (by simp) (gy.iA (E := eV) hy rfl)) ?_
  refine be (Sl.at hs0 (i := n * 3 + 1) (by simp <;> omega) (gy.iA (E := eV) hy rfl)) ?_
  refine be (Sl.at hs0 (i := n * 3 + 2) (by simp <;> omega) (gy.iA (E := eV) hy rfl)) ?_
  clear hs0
  refine av h ?_
  clear h; intro dS M h
  refine az h ?_
  clear h; intro M h
  refine az h ?_
  clear h; intro M h
  refine az h ?_
  clear h; intro M h
  refine aJ h (aJ h (aJ h ?_))
  refine av h ?_
  clear h; intro lC M h
  refine h.dn (A := A) elm [y] rfl (by rw [List.length_take]; omega) rfl (by rw [List.length_take]; simp only [List.length_singleton]; omega) ?_
  clear h; intro A2 c2 M h
  refine aY ?_
  rw [← cq hy] at h
  rw [aT (by omega)]
  exact ⟨x.ms.length - (n + 1), by omega, n + 1, A2, c2, rfl, rfl, by omega, h.sub (by repeat (first | exact .refl | refine .cons (by repeat (first | exact .here | apply aF.there)) ?_ | apply Sub.drop))⟩
 ·have xu : n = x.ms.length := by omega
  subst xu
  rw [List.take_length] at h
  exact k _ _ _ ((gP hl (h.sub (by repeat (first | exact .refl | refine .cons (by repeat (first | exact .here | apply aF.there)) ?_ | apply Sub.drop)))).swap)
end
end Go.Proofs
namespace Go.Proofs
open Go.AF
set_option maxRecDepth 100000
set_option maxHeartbeats 1000000
attribute [local irreducible] aK cD fH bL aD fx aI aO bj aS bI aV
section
variable {p : bZ} {x y : Sc} {o : oM} {m : Int}
theorem BQ {i k g : Int} {t : Bool} : (x.bU m i k g t).1.d = x.d := by unfold Sc.bU; split <;> rfl
theorem On (h : x.d.k.Ok) : (x.find m).1.d.k.Ok := by
 unfold Sc.find
 dsimp only
 split
 ·exact h
 ·split
  ·have hd : (x.own (aC x m).p).1.d = x.d := rfl
   have := nT (kind := 2) (n := x.c.P) h
   rw [hd]
   split
   ·rename_i wK; rw [wK] at this; exact this
   ·rename_i wK
    rw [wK] at this
    split <;> · rw [BQ]; exact this
  ·rw [BQ]; exact h
theorem IQ {g : Int} {d : lP} {w : Wd} {rest : Bool} (h : jC x m g d w rest = some (y, o)) (i0 : 0 ≤ (aC x m).p) (i1 : (aC x m).p < x.ps.length) : y.d = d := by
 unfold jC at h
 split at h
 ·simp only [Option.some.injEq, Prod.mk.injEq] at h
  rw [← h.1]
  have := jc (m := m) w.ready { x with w := w, d := d } i0 i1
  unfold Sc.td
  split <;> exact this.2.2.2.1
 ·cases h
theorem th {a : Option (Int × Int)} {d : lP} (h : d.k.Ok) : (fF d a).1.k.Ok := by
 cases a with
 | none => exact h
 | some q => exact nT h
theorem QL (h : x.d.k.Ok) (he : x.run p m = some (y, o)) : y.d.k.Ok := by
 unfold Sc.run at he
 split at he
 ·rename_i hpre
  obtain ⟨m0, m1, i0, i1, _⟩ := hpre
  split at he
  ·split at he
   ·cases he
   ·simp only [Option.some.injEq, Prod.mk.injEq] at he
    rw [← he.1]
    exact th h
   ·rw [IQ he i0 i1]; exact th h
   ·rw [IQ he i0 i1]; exact th h
  ·cases he
 ·cases he
theorem Hs {z : Sc × oM} : (CY z).1.d = z.1.d := by
 obtain ⟨z, o⟩ := z
 cases o <;> rfl
theorem E4 (h : x.d.k.Ok) (he : x.step p = some (y, o)) : y.d.k.Ok := by
 unfold Sc.step at he
 split at he
 ·split at he
  ·cases he; exact h
  ·have hk := nT (kind := 1) (n := x.c.M + 1) h
   split at he
   ·rename_i hd; rw [hd] at hk; cases he; exact hk
   ·rename_i d' mm hd
    rw [hd] at hk
    dsimp only at hk
    unfold Sc.act at he
    split at he
    ·split at he
     ·simp only [Option.map_some, Option.some.injEq] at he
      cases he; exact hk
     ·cases he
    ·split at he
     ·simp only [Option.map_some, Option.some.injEq] at he
      have e : y.d = (Sc.hold { x with d := d' } mm).1.d := by rw [← (Hs (z := ((Sc.hold { x with d := d' } mm).1, .ev (Sc.hold { x with d := d' } mm).2))), he]
      rw [e]
      unfold Sc.hold
      split <;> exact hk
     ·split at he
      ·split at he
       ·simp only [Option.map_some, Option.some.injEq] at he
        have e : y.d = (Sc.find { x with d := d' } mm).1.d := by rw [← (Hs (z := Sc.find { x with d := d' } mm)), he]
        rw [e]
        exact On hk
       ·cases he
      ·cases hr : Sc.run p { x with d := d' } mm with
       | none => rw [hr] at he; cases he
       | some z =>
        rw [hr] at he
        simp only [Option.map_some, Option.some.injEq] at he
        have e : y.d = z.1.d := by rw [← (Hs (z := z)), he]
        rw [e]
        exact QL (y := z.1) (o := z.2) hk hr
 ·cases he
end
end Go.Proofs
namespace Go.Proofs
open Go.AF
set_option maxRecDepth 100000
set_option maxHeartbeats 1000000
attribute [local irreducible] aK cD fH bL aD fx aI aO bj aS bI aV
def lu (ps : List cN) (a : Int) : Nat := ((ps.map cN.q).flatMap Loc.all).count a
def CZ (ms : List BI) (a : Int) : Nat := (ms.flatMap fun m => dc m.g).count a
def kW (x : Sc) (a : Int) : Nat := lu x.ps a + x.gl.count a + CZ x.ms a
def OT (q : Loc) : Prop := q.l.length ≤ q.room ∧ q.room ≤ 1024 ∧ 0 < q.room
def MV (P : Nat) (m : BI) : Prop := (m.p = -1 ∧ m.g = -1 ∧ m.left = 0) ∨ (0 ≤ m.p ∧ m.p < P ∧ -1 ≤ m.g ∧ 0 ≤ m.left ∧ m.left ≤ 1024 ∧ (0 ≤ m.g → 1 ≤ m.left))
structure SV (p : bZ) (N : Nat) (x : Sc) : Prop where
 w : WV p x.w
 one : ∀ a, At x.w a 1 → kW x a = 1
 zero : ∀ a, ¬ At x.w a 1 → kW x a = 0
 cP : x.c.P = x.ps.length
 cM : x.c.M = x.ms.length
 P1 : 1 ≤ x.ps.length ∧ x.ps.length ≤ 64
 M1 : 1 ≤ x.ms.length ∧ x.ms.length ≤ 64
 cS : 1 ≤ x.c.S ∧ x.c.S ≤ 1024
 room : ∀ pr ∈ x.ps, OT pr.q
 fW : ∀ pr ∈ x.ps, 0 ≤ pr.turns ∧ pr.turns ≤ N
 ms : ∀ m ∈ x.ms, MV x.ps.length m
 gA : ∀ (i : Nat) m, x.ms[i]? = some m → m.p ≠ -1 → (aL x m.p).gA = i
 st : 0 ≤ x.steps ∧ x.steps ≤ N
 tk : x.d.taken.length ≤ 3 * N
 k : x.d.k.Ok
section
variable {p : bZ} {N : Nat} {x y z : Sc} {m i g a : Int}
theorem qk {ps : List cN} {j : Nat} {pr RZ : cN} (h : ps[j]? = some pr) : lu (ps.set j RZ) a + pr.q.all.count a = lu ps a + RZ.q.all.count a := by
 unfold lu
 rw [List.map_set]
 exact Qc a (by rw [List.getElem?_map, h]; rfl)
theorem zx : ∀ {ms : List BI} {j : Nat} {mc uH : BI}, ms[j]? = some mc → CZ (ms.set j uH) a + (dc mc.g).count a = CZ ms a + (dc uH.g).count a
 | [], _, _, _, h => by simp at h
 | z :: ms, 0, mc, uH, h => by
  simp only [List.getElem?_cons_zero, Option.some.injEq] at h; subst h
  simp only [CZ, List.set_cons_zero, List.flatMap_cons, List.count_append]; omega
 | z :: ms, j + 1, mc, uH, h => by
  have := zx (ms := ms) (uH := uH) (j := j) (by simpa using h)
  simp only [CZ, List.set_cons_succ, List.flatMap_cons, List.count_append] at *; omega
theorem tj {α : Type} (f : α → List Int) : ∀ (l : List α) (b : α), b ∈ l → (f b).count a ≤ (l.flatMap f).count a
 | c :: l, b, h => by
  simp only [List.flatMap_cons, List.count_append]
  rcases List.mem_cons.1 h with rfl | h
  ·omega
  ·have := tj f l b h; omega
theorem SV.ZR (h : SV p N x) : kW x a ≤ 1 := by
 by_cases e : At x.w a 1
 ·rw [h.one a e]; omega
 ·rw [h.zero a e]; omega
theorem SV.at_ (h : SV p N x) (hc : 0 < kW x a) : At x.w a 1 := Classical.byContradiction fun e => by rw [h.zero a e] at hc; omega
theorem SV.YI (h : SV p N x) : ∀ v ∈ x.gl, 0 ≤ v := fun v hv => (h.at_ (a := v) (by have : 0 < x.gl.count v := List.count_pos_iff.2 hv; unfold kW; omega)).1
theorem SV.YJ (h : SV p N x) {pr : cN} (hp : pr ∈ x.ps) : pr.q.Pos := by
 have gJ : ∀ v ∈ pr.q.all, 0 ≤ v := fun v hv => (h.at_ (a := v) (by
  have h1 := tj (a := v) Loc.all (x.ps.map cN.q) pr.q (List.mem_map.2 ⟨pr, hp, rfl⟩)
  have : 0 < pr.q.all.count v := List.count_pos_iff.2 hv
  unfold kW lu; omega)).1
 refine ⟨?_, fun v hv => gJ v (by unfold Loc.all; simp [hv])⟩
 by_cases hn : pr.q.next = -1
 ·omega
 ·have := gJ pr.q.next (by unfold Loc.all; rw [if_neg hn]; simp)
  omega
theorem SV.QM (h : SV p N x) : x.gl.length ≤ 100 := by
 have h1 := qC (b := 1) x.w.gs.length x.gl (fun v hv => by
  have := h.at_ (a := v) (by have : 0 < x.gl.count v := List.count_pos_iff.2 hv; unfold kW; omega)
  exact ⟨this.1, this.2.1⟩) (fun v => by have := h.ZR (a := v); unfold kW at this; omega)
 have := h.w.n2
 omega
theorem SV.mg (h : SV p N x) {mc : BI} (hm : mc ∈ x.ms) (h0 : 0 ≤ mc.g) : At x.w mc.g 1 := h.at_ (by
 have h1 := tj (a := mc.g) (fun m : BI => dc m.g) x.ms mc hm
 have : (dc mc.g).count mc.g = 1 := by rw [iJ h0]; simp
 unfold kW CZ; omega)
theorem vP (h0 : 0 ≤ m) (hm : m < x.ms.length) : x.ms[m.toNat]? = some (aC x m) := by
 obtain ⟨y, hy⟩ := aQ (l := x.ms) (i := m.toNat) (by omega)
 rw [hy]; simp [aC, hy]
theorem C0 (h0 : 0 ≤ i) (hi : i < x.ps.length) : x.ps[i.toNat]? = some (aL x i) := by
 obtain ⟨y, hy⟩ := aQ (l := x.ps) (i := i.toNat) (by omega)
 rw [hy]; simp [aL, hy]
def tx : cN := ⟨⟨-1, 0, []⟩, 0, -1⟩
theorem SV.go (h : SV p N x) (m0 : 0 ≤ m) (m1 : m < x.ms.length) (i0 : 0 ≤ i) (i1 : i < x.ps.length) (ps' : List cN) (uH : BI) (KE : List Int) (d' : lP)
  (hl : ps'.length = x.ps.length) (hr : ∀ pr ∈ ps', OT pr.q ∧ 0 ≤ pr.turns ∧ pr.turns ≤ N + 1) (hb : ∀ j : Nat, j ≠ i.toNat → (ps'.getD j tx).gA = (x.ps.getD j tx).gA)
  (hbi : uH.p = -1 ∨ uH.p = i ∧ (ps'.getD i.toNat tx).gA = m) (hold : (aC x m).p = i ∨ (aL x i).gA = -1) (Ht : MV x.ps.length uH)
  (hc : ∀ a, lu ps' a + KE.count a + (dc uH.g).count a = lu x.ps a + x.gl.count a + (dc (aC x m).g).count a) (hd : d'.taken.length ≤ 3 * N + 3) (hk : d'.k.Ok) :
  SV p (N + 1) { x with ps := ps', ms := x.ms.set m.toNat uH, gl := KE, d := d' } := by
 have mT := vP m0 m1
 have hS : ∀ a, kW { x with ps := ps', ms := x.ms.set m.toNat uH, gl := KE, d := d' } a = kW x a := fun a => by
  have e1 := zx (a := a) (uH := uH) mT
  have e2 := hc a
  unfold kW
  dsimp only
  omega
 refine ⟨h.w, fun a ha => by rw [hS]; exact h.one a ha, fun a ha => by rw [hS]; exact h.zero a ha, by rw [hl]; exact h.cP, by simpa using h.cM, by rw [hl]; exact h.P1, by simpa using h.M1, h.cS, fun pr hp => (hr pr hp).1, fun pr hp => (by have := (hr pr hp).2; omega), fun mc DT => ?_, fun j mc hj hne => ?_, by have := h.st; dsimp only; omega, by dsimp only; omega, hk⟩
 ·rw [hl]
  rcases ji DT with DT | rfl
  ·exact h.ms mc DT
  ·exact Ht
 ·by_cases e : j = m.toNat
  ·subst e
   rw [List.getElem?_set_self (by omega)] at hj
   simp only [Option.some.injEq] at hj
   subst hj
   rcases hbi with hbi | ⟨e1, e2⟩
   ·exact absurd hbi hne
   ·show (ps'.getD uH.p.toNat tx).gA = _
    rw [e1, e2]; omega
  ·rw [List.getElem?_set_ne (Ne.symm e)] at hj
   have hby := h.gA j mc hj hne
   have hmv2 := h.ms mc (List.mem_of_getElem? hj)
   have ZS : mc.p.toNat ≠ i.toNat := by
    intro e2
    have e3 : mc.p = i := by rcases hmv2 with hh | hh; exact absurd hh.1 hne; omega
    rw [e3] at hby
    rcases hold with e4 | e4
    ·have := h.gA m.toNat (aC x m) mT (by rw [e4]; omega)
     rw [e4, hby] at this
     omega
    ·rw [e4] at hby; omega
   show (ps'.getD mc.p.toNat tx).gA = _
   rw [hb _ ZS]
   exact hby
end
end Go.Proofs
namespace Go.Proofs
open Go.AF
set_option maxRecDepth 100000
set_option maxHeartbeats 1000000
attribute [local irreducible] aK cD fH bL aD fx aI aO bj aS bI aV
section
variable {p : bZ} {N : Nat} {x y z : Sc} {m i g a : Int}
theorem QN {q : Loc} (h : ∀ v ∈ q.all, 0 ≤ v) : q.Pos := by
 refine ⟨?_, fun v hv => h v (by unfold Loc.all; simp [hv])⟩
 by_cases hn : q.next = -1
 ·omega
 ·have := h q.next (by unfold Loc.all; rw [if_neg hn]; simp)
  omega
theorem QO {q : Loc} (h : q.Pos) : ∀ v ∈ q.all, 0 ≤ v := by
 intro v hv
 unfold Loc.all at hv
 rcases List.mem_append.1 hv with hv | hv
 ·split at hv
  ·cases hv
  ·simp only [List.mem_singleton] at hv; subst hv; have := h.1; omega
 ·exact h.2 v hv
theorem QS {q : Loc} {t : Int} {gl : List Int} (hq : q.Pos) (hb : OT q) (hg : ∀ v ∈ gl, 0 ≤ v) :
  OT (rQ q t gl).1 ∧ (∀ a, (rQ q t gl).1.all.count a + (rQ q t gl).2.1.count a + (dc (rQ q t gl).2.2.1).count a = q.all.count a + gl.count a) ∧
   ((rQ q t gl).2.2.2 = true → 0 ≤ (rQ q t gl).2.2.1) ∧ ((rQ q t gl).2.2.2 = false → (rQ q t gl).2.2.1 = -1) := by
 have c1 := NO q gl
 have b1 := Qd hb gl
 unfold rQ
 generalize q.fW gl = r at c1 b1
 obtain ⟨q1, g1, n1⟩ := r
 dsimp only at c1 b1 ⊢
 have nn : ∀ v, 0 < q.all.count v + gl.count v → 0 ≤ v := fun v hv => by
  by_cases e : v ∈ gl
  ·exact hg v e
  ·rw [List.count_eq_zero.2 e] at hv
   exact QO hq v (List.count_pos_iff.1 (by omega))
 have p1 : q1.Pos := QN fun v hv => nn v (by have : 0 < q1.all.count v := List.count_pos_iff.2 hv; have := c1 v; omega)
 have Kh : ∀ v ∈ g1, 0 ≤ v := fun v hv => nn v (by have : 0 < g1.count v := List.count_pos_iff.2 hv; have := c1 v; omega)
 split
 ·rename_i hh
  cases g1 with
  | nil => simp at hh
  | cons v l =>
   refine ⟨b1, fun a => ?_, fun _ => Kh v (by simp), fun e => by cases e⟩
   have := c1 a
   simp only [List.drop_succ_cons, List.drop_zero, List.headD_cons]
   rw [iJ (Kh v (by simp))]
   simp only [List.count_cons, List.count_nil] at *
   omega
 ·split
  ·rename_i hh
   have hgp := Iy p1
   have h0 : 0 ≤ q1.get.2 := by
    rcases hgp with ⟨e1, e2, _⟩ | ⟨_, h0⟩
    ·unfold vK at hh
     rw [e1, e2] at hh
     cases hh
    ·exact h0
   refine ⟨NR b1, fun a => ?_, fun _ => h0, fun e => by cases e⟩
   have := c1 a
   have := Ix q1 p1 a
   dsimp only
   omega
  ·rename_i hh
   have e1 : q1.next = -1 ∧ q1.l = [] := by
    unfold vK at hh
    simp only [Bool.or_eq_true, bne_iff_ne, ne_eq, Bool.not_eq_true', List.isEmpty_eq_false_iff, not_or, Decidable.not_not] at hh
    exact hh
   have eg : q1.get = (q1, -1) := by
    unfold Loc.get
    rw [if_neg (by rw [e1.1]; decide), e1.2]
   rw [eg]
   dsimp only
   have c2 := Ka q1 g1 Kh 0
   refine ⟨NS b1 _ _, fun a => ?_, fun e => ?_, fun e => ?_⟩
   ·have := c1 a
    have := c2 a
    omega
   ·rcases Bx (x := q1) Kh 0 with ⟨e2, _⟩ | ⟨_, h0⟩
    ·rw [e2] at e; cases e
    ·exact h0
   ·rcases Bx (x := q1) Kh 0 with ⟨_, h0⟩ | ⟨e2, _⟩
    ·exact h0
    ·cases g1 with
     | nil => exact absurd rfl e2
     | cons v l => cases e
theorem SV.mono {N' : Nat} (h : SV p N x) (hn : N ≤ N') : SV p N' x :=
 ⟨h.w, h.one, h.zero, h.cP, h.cM, h.P1, h.M1, h.cS, h.room, fun pr hp => by have := h.fW pr hp; omega, h.ms, h.gA, by have := h.st; omega, by have := h.tk; omega, h.k⟩
theorem SV.inc (h : SV p (N + 1) y) (hs : 0 ≤ y.steps ∧ y.steps ≤ N) : SV p (N + 1) { y with steps := y.steps + 1 } :=
 ⟨h.w, h.one, h.zero, h.cP, h.cM, h.P1, h.M1, h.cS, h.room, h.fW, h.ms, h.gA, by dsimp only; omega, h.tk, h.k⟩
theorem SV.draw {d' : lP} (h : SV p N x) (hd : d'.taken.length ≤ 3 * N + 3) (hk : d'.k.Ok) : SV p (N + 1) { x with d := d' } :=
 ⟨h.w, h.one, h.zero, h.cP, h.cM, h.P1, h.M1, h.cS, h.room, fun pr hp => by have := h.fW pr hp; omega, h.ms, h.gA, by have := h.st; dsimp only; omega, by dsimp only; omega, hk⟩
theorem dX {l : List cN} {n : Nat} {b : cN} (h : n < l.length) : (l.set n b).getD n tx = b := by simp [List.getD_eq_getElem?_getD, List.getElem?_set_self h]
theorem getD_set_ne {l : List cN} {n j : Nat} {b : cN} (h : j ≠ n) : (l.set n b).getD j tx = l.getD j tx := by simp [List.getD_eq_getElem?_getD, List.getElem?_set_ne (Ne.symm h)]
theorem SV.hold {d' : lP} (h : SV p N x) (m0 : 0 ≤ m) (m1 : m < x.ms.length) (hm : (aC x m).p = -1) (hd : d'.taken.length ≤ 3 * N + 3) (hk : d'.k.Ok) : SV p (N + 1) (Sc.hold { x with d := d' } m).1 ∧ (Sc.hold { x with d := d' } m).1.steps = x.steps := by
 unfold Sc.hold
 dsimp only
 have mT := vP m0 m1
 split
 ·rename_i n hn
  obtain ⟨hlt, hb, _⟩ := List.findIdx?_eq_some_iff_getElem.1 hn
  have jj := C0 (x := x) (i := (n : Int)) (by omega) (by omega)
  rw [Int.toNat_natCast] at jj
  have eb : (aL x (n : Int)).gA = -1 := by
   rw [List.getElem?_eq_getElem hlt, Option.some.injEq] at jj
   rw [← jj]; simpa using hb
  have Ht := h.ms _ (List.mem_of_getElem? mT)
  have hg : (aC x m).g = -1 ∧ (aC x m).left = 0 := by rcases Ht with e | e; exact e.2; omega
  refine ⟨?_, rfl⟩
  refine h.go (i := (n : Int)) m0 m1 (by omega) (by omega) (x.ps.set n { aL x (n : Int) with gA := m }) { aC x m with p := (n : Int) } x.gl d' (by simp) (fun pr hp => ?_) (fun j hj => ?_) (.inr ⟨rfl, ?_⟩) (.inr eb) (.inr ⟨by dsimp only; omega, by dsimp only; omega, by dsimp only; omega, by dsimp only; omega, by dsimp only; omega, by dsimp only; omega⟩) (fun a => ?_) hd hk
  ·rcases List.mem_or_eq_of_mem_set hp with hp | rfl
   ·exact ⟨h.room pr hp, by have := h.fW pr hp; omega⟩
   ·have hm := List.mem_of_getElem? jj
    exact ⟨h.room (aL x (n : Int)) hm, by have := h.fW _ hm; dsimp only; omega⟩
  ·rw [Int.toNat_natCast] at hj
   rw [getD_set_ne hj]
  ·rw [Int.toNat_natCast, dX hlt]
  ·have := qk (a := a) (RZ := { aL x (n : Int) with gA := m }) jj
   dsimp only at *
   omega
 ·exact ⟨h.draw hd hk, rfl⟩
theorem SV.tick {d' : lP} (h : SV p N x) (hd : d'.taken.length ≤ 3 * N + 3) (hk : d'.k.Ok) : zk { x with d := d' } ∧ SV p (N + 1) (Sc.tick { x with d := d' }).1 ∧ (Sc.tick { x with d := d' }).1.steps = x.steps := by
 obtain ⟨t1, t2, t3, t4⟩ := QF h.w
 have hg := h.QM
 refine ⟨⟨by have := h.w.IF; dsimp only; omega, t1, by dsimp only; omega⟩, ?_, rfl⟩
 unfold Sc.tick
 dsimp only
 obtain ⟨a1, l, a2, a3, a4, a5⟩ := t3
 rw [List.nil_append] at a2
 rw [a2]
 have hS : ∀ a, kW { x with w := x.w.tick, gl := x.gl ++ l, d := d' } a = kW x a + l.count a := fun a => by
  unfold kW; dsimp only; rw [List.count_append]; omega
 have hA : ∀ a, At x.w.tick a 1 ↔ At x.w a 1 ∨ a ∈ l := fun a => by
  constructor
  ·rintro ⟨b1, b2, b3⟩
   by_cases e : a ∈ l
   ·exact .inr e
   ·refine .inl ⟨b1, by rw [a1] at b2; exact b2, ?_⟩
    rw [a5 a b1 e] at b3; exact b3
  ·rintro (⟨b1, b2, b3⟩ | e)
   ·by_cases e : a ∈ l
    ·exact ⟨b1, by rw [a1]; exact b2, (a4 a e).2.2.2⟩
    ·exact ⟨b1, by rw [a1]; exact b2, by rw [a5 a b1 e]; exact b3⟩
   ·obtain ⟨c1, c2, c3, c4⟩ := a4 a e
    exact ⟨c1, by rw [a1]; exact c2, c4⟩
 have hn : ∀ a, a ∈ l → ¬ At x.w a 1 := fun a e hh => (a4 a e).2.2.1 hh.2.2
 refine ⟨t2, fun a ha => ?_, fun a ha => ?_, h.cP, h.cM, h.P1, h.M1, h.cS, h.room, fun pr hp => by have := h.fW pr hp; omega, h.ms, h.gA, by have := h.st; dsimp only; omega, by dsimp only; omega, hk⟩
 ·rw [hS]
  rcases (hA a).1 ha with e | e
  ·rw [h.one a e, List.count_eq_zero.2 (fun hm => hn a hm e)]
  ·rw [h.zero a (hn a e), Nat.le_antisymm (List.nodup_iff_count.1 a3 a) (List.count_pos_iff.2 e)]
 ·rw [hS, h.zero a (fun e => ha ((hA a).2 (.inl e))), List.count_eq_zero.2 (fun e => ha ((hA a).2 (.inr e)))]
end
end Go.Proofs
namespace Go.Proofs
open Go.AF
set_option maxRecDepth 100000
set_option maxHeartbeats 1000000
attribute [local irreducible] aK cD fH bL aD fx aI aO bj aS bI aV
section
variable {p : bZ} {N : Nat} {x y z : Sc} {m i g a kind : Int}
theorem SV.bU {C1 : List cN} {YK : List Int} {dz : lP} {t : Bool} (h : SV p N x) (m0 : 0 ≤ m) (m1 : m < x.ms.length) (hmp : (aC x m).p = i) (i0 : 0 ≤ i) (i1 : i < x.ps.length) (hg : (aC x m).g = -1)
  (hl : C1.length = x.ps.length) (hr : ∀ pr ∈ C1, OT pr.q ∧ 0 ≤ pr.turns ∧ pr.turns ≤ N) (hb : ∀ j : Nat, (C1.getD j tx).gA = (x.ps.getD j tx).gA)
  (hc : ∀ a, lu C1 a + YK.count a + (dc g).count a = lu x.ps a + x.gl.count a) (hok : t = true → 0 ≤ g) (hno : t = false → dc g = []) (hd : dz.taken.length ≤ 3 * N + 3) (hk : dz.k.Ok) :
  SV p (N + 1) (Sc.bU { x with ps := C1, gl := YK, d := dz } m i kind g t).1 ∧ (Sc.bU { x with ps := C1, gl := YK, d := dz } m i kind g t).1.steps = x.steps := by
 have mT := vP m0 m1
 have e0 : dc (aC x m).g = [] := by rw [hg]; rfl
 have ZS : C1[i.toNat]? = some (C1.getD i.toNat tx) := by
  rw [List.getD_eq_getElem?_getD, List.getElem?_eq_getElem (by omega)]; rfl
 have hmem := List.mem_of_getElem? ZS
 have hby : (x.ps.getD i.toNat tx).gA = m := by
  have := h.gA m.toNat (aC x m) mT (by rw [hmp]; omega)
  rw [hmp] at this
  show (aL x i).gA = m
  rw [this]; omega
 have yQ : ∀ b : cN, b.q = (C1.getD i.toNat tx).q → ∀ a, lu (C1.set i.toNat b) a = lu C1 a := fun b e a => by
  have := qk (a := a) (RZ := b) ZS
  rw [e] at this
  omega
 unfold Sc.bU
 cases t with
 | true =>
  rw [if_pos rfl]
  refine ⟨?_, rfl⟩
  have Ht := h.ms _ (List.mem_of_getElem? mT)
  refine h.go (i := i) m0 m1 i0 i1 (C1.set i.toNat { C1.getD i.toNat tx with turns := (C1.getD i.toNat tx).turns + 1 }) ⟨(aC x m).p, g, x.c.S⟩ YK dz (by simp [hl]) (fun pr hp => ?_) (fun j hj => by rw [getD_set_ne hj]; exact hb j) (.inr ⟨hmp, ?_⟩) (.inl hmp) (.inr ⟨by dsimp only; omega, by dsimp only; omega, by dsimp only; have := hok rfl; omega, by have := h.cS; dsimp only; omega, by have := h.cS; dsimp only; omega, fun _ => by have := h.cS; dsimp only; omega⟩) (fun a => ?_) hd hk
  ·rcases List.mem_or_eq_of_mem_set hp with hp | rfl
   ·have := hr pr hp; exact ⟨this.1, by omega⟩
   ·have := hr _ hmem; exact ⟨this.1, by dsimp only; omega⟩
  ·rw [dX (by omega)]
   exact (hb _).trans hby
  ·rw [yQ { C1.getD i.toNat tx with turns := (C1.getD i.toNat tx).turns + 1 } rfl, e0]
   have := hc a
   simp only [List.count_nil]
   omega
 | false =>
  rw [if_neg (by decide)]
  refine ⟨?_, rfl⟩
  refine h.go (i := i) m0 m1 i0 i1 (C1.set i.toNat { C1.getD i.toNat tx with gA := -1 }) ⟨-1, -1, 0⟩ YK dz (by simp [hl]) (fun pr hp => ?_) (fun j hj => by rw [getD_set_ne hj]; exact hb j) (.inl rfl) (.inl hmp) (.inl ⟨rfl, rfl, rfl⟩) (fun a => ?_) hd hk
  ·rcases List.mem_or_eq_of_mem_set hp with hp | rfl
   ·have := hr pr hp; exact ⟨this.1, by omega⟩
   ·have := hr _ hmem; exact ⟨this.1, by dsimp only; omega⟩
  ·rw [yQ { C1.getD i.toNat tx with gA := -1 } rfl, e0]
   have := hc a
   rw [hno rfl] at this
   simp only [List.count_nil] at *
   have e1 : dc (-1) = [] := rfl
   rw [e1, List.count_nil]
   omega
theorem zy {d : lP} {k n : Int} (hk : d.k.Ok) : (d.draw k n).1.taken.length ≤ d.taken.length + 1 := by
 generalize wK : d.draw k n = r
 obtain ⟨d', o⟩ := r
 cases o with
 | num v =>
  have := (qj hk wK).2.2
  dsimp only
  rw [this]; simp
 | dG l =>
  have := (E0 wK).1
  dsimp only
  rw [this]; omega
theorem SV.find {d' : lP} (h : SV p N x) (m0 : 0 ≤ m) (m1 : m < x.ms.length) (hp : (aC x m).p ≠ -1) (hg : (aC x m).g = -1) (hN : N ≤ 10000000) (hd : d'.taken.length ≤ 3 * N + 1) (hk : d'.k.Ok) :
  vO { x with d := d' } m ∧ SV p (N + 1) (Sc.find { x with d := d' } m).1 ∧ (Sc.find { x with d := d' } m).1.steps = x.steps := by
 have mT := vP m0 m1
 have Ht := h.ms _ (List.mem_of_getElem? mT)
 have hr : 0 ≤ (aC x m).p ∧ (aC x m).p < x.ps.length ∧ 0 ≤ (aC x m).left ∧ (aC x m).left ≤ 1024 := by
  rcases Ht with e | e
  ·exact absurd e.1 hp
  ·omega
 obtain ⟨i0, i1, l0, l1⟩ := hr
 have jj := C0 i0 i1
 have hpm := List.mem_of_getElem? jj
 have ht := h.fW _ hpm
 have hroom := h.room _ hpm
 have hpos := h.YJ hpm
 have e0 : dc (aC x m).g = [] := by rw [hg]; rfl
 have hcP := h.cP
 have hP1 := h.P1
 refine ⟨⟨m0, m1, i0, i1, by have := h.QM; dsimp only; omega, ht.1, by have := ht.2; show (aL x (aC x m).p).turns < 1000000000; omega, by dsimp only; omega, by dsimp only; omega, by dsimp only; omega⟩, ?_⟩
 have own := QS (t := (aL x (aC x m).p).turns) hpos hroom h.YI
 unfold Sc.find
 dsimp only
 have em : aC { x with d := d' } m = aC x m := rfl
 have ep : ∀ j, aL { x with d := d' } j = aL x j := fun _ => rfl
 rw [em]
 simp only [ep]
 generalize hi : (aC x m).p = i at *
 have yQ : ∀ b : cN, ∀ a, lu (x.ps.set i.toNat b) a + (aL x i).q.all.count a = lu x.ps a + b.q.all.count a := fun b a => qk jj
 split
 ·rename_i hn
  refine ⟨?_, rfl⟩
  have hgp := Iy hpos
  have h0 : 0 ≤ (aL x i).q.get.2 := by
   rcases hgp with ⟨e1, _⟩ | ⟨_, h0⟩
   ·exact absurd e1 hn.2
   ·exact h0
  have hby : (aL x i).gA = m := by
   have := h.gA m.toNat (aC x m) mT (by rw [hi]; omega)
   rw [hi] at this
   rw [this]; omega
  refine h.go (i := i) m0 m1 i0 i1 (x.ps.set i.toNat { aL x i with q := (aL x i).q.get.1 }) ⟨i, (aL x i).q.get.2, (aC x m).left⟩ x.gl d' (by simp) (fun pr hp => ?_) (fun j hj => by rw [getD_set_ne hj]) (.inr ⟨rfl, by rw [dX (by omega)]; exact hby⟩) (.inl hi) (.inr ⟨by dsimp only; omega, by dsimp only; omega, by dsimp only; omega, l0, l1, fun _ => by have := hn.1; dsimp only; omega⟩) (fun a => ?_) (by omega) hk
  ·rcases List.mem_or_eq_of_mem_set hp with hp | rfl
   ·exact ⟨h.room pr hp, by have := h.fW pr hp; omega⟩
   ·exact ⟨NR hroom, by dsimp only; omega⟩
  ·have a1 := yQ { aL x i with q := (aL x i).q.get.1 } a
   have a2 := Ix _ hpos a
   rw [e0]
   simp only [List.count_nil] at *
   try dsimp only at *
   omega
 ·
  have hown : Sc.own { x with d := d' } i = ({ x with ps := x.ps.set i.toNat { aL x i with q := (rQ (aL x i).q (aL x i).turns x.gl).1 }, gl := (rQ (aL x i).q (aL x i).turns x.gl).2.1, d := d' }, (rQ (aL x i).q (aL x i).turns x.gl).2.2.1, (rQ (aL x i).q (aL x i).turns x.gl).2.2.2) := rfl
  rw [hown]
  generalize rQ (aL x i).q (aL x i).turns x.gl = r at own
  obtain ⟨q1, g1, v1, has⟩ := r
  obtain ⟨o1, o2, o3, o4⟩ := own
  dsimp only at o1 o2 o3 o4 ⊢
  have VA : ∀ pr ∈ x.ps.set i.toNat { aL x i with q := q1 }, OT pr.q ∧ 0 ≤ pr.turns ∧ pr.turns ≤ N := fun pr hp => by
   rcases List.mem_or_eq_of_mem_set hp with hp | rfl
   ·exact ⟨h.room pr hp, h.fW pr hp⟩
   ·exact ⟨o1, ht⟩
  have QT : ∀ j : Nat, ((x.ps.set i.toNat { aL x i with q := q1 }).getD j tx).gA = (x.ps.getD j tx).gA := fun j => by
   by_cases e : j = i.toNat
   ·subst e
    rw [dX (by omega)]
    rfl
   ·rw [getD_set_ne e]
  have Yr : ∀ a, lu (x.ps.set i.toNat { aL x i with q := q1 }) a + g1.count a + (dc v1).count a = lu x.ps a + x.gl.count a := fun a => by
   have a1 := yQ { aL x i with q := q1 } a
   have a2 := o2 a
   dsimp only at *
   omega
  split
  ·rename_i hh
   have ev1 : dc v1 = [] := by rw [o4 hh.1]; rfl
   have Cg := zy (k := 2) (n := x.c.P) hk
   have zp := nT (kind := 2) (n := x.c.P) hk
   split
   ·rename_i d2 l wK
    rw [wK] at Cg zp
    refine ⟨?_, rfl⟩
    have : SV p (N + 1) { x with ps := x.ps.set i.toNat { aL x i with q := q1 }, ms := x.ms.set m.toNat (aC x m), gl := g1, d := d2 } :=
     h.go (i := i) m0 m1 i0 i1 _ (aC x m) g1 d2 (by simp) (fun pr hp => by have := VA pr hp; exact ⟨this.1, by omega⟩) (fun j hj => QT j) (.inr ⟨hi, by
      rw [QT]
      have := h.gA m.toNat (aC x m) mT (by rw [hi]; omega)
      rw [hi] at this
      show (aL x i).gA = m
      rw [this]; omega⟩) (.inl hi) Ht (fun a => by have := Yr a; rw [ev1] at this; simp only [List.count_nil] at this; exact congrArg (· + (dc (aC x m).g).count a) this) (by dsimp only at Cg; omega) zp
    rw [eI _ _ _ mT] at this
    exact this
   ·rename_i d2 v wK
    rw [wK] at Cg zp
    have hvr := qj hk wK
    have WB : mQ x.c.P = x.c.P := by unfold mQ; rw [if_neg (by omega)]
    rw [WB] at hvr
    dsimp only at Cg zp ⊢
    split
    ·exact h.bU (g := -1) m0 m1 hi i0 i1 hg (by simp) VA QT (fun a => by have := Yr a; rw [ev1] at this; exact this) (fun e => by cases e) (fun _ => rfl) (by omega) zp
    ·rename_i ZN
     have hne : v.toNat ≠ i.toNat := by omega
     have epi : aL { x with ps := x.ps.set i.toNat { aL x i with q := q1 }, gl := g1, d := d2 } i = { aL x i with q := q1 } := dX (by omega)
     have epv : aL { x with ps := x.ps.set i.toNat { aL x i with q := q1 }, gl := g1, d := d2 } v = aL x v := getD_set_ne hne
     have Og := C0 (x := x) (i := v) hvr.1 (by omega)
     have hvm := List.mem_of_getElem? Og
     have Oo := h.YJ hvm
     have VB := h.room _ hvm
     have hst := Kb q1 (aL x v).q Oo o1.1
     have ZT := NT o1 VB
     have hsp := Kc (x := q1) Oo o1.1
     rw [epi, epv]
     dsimp only
     generalize q1.dh (aL x v).q = s at hst ZT hsp
     obtain ⟨s1, s2, s3⟩ := s
     dsimp only at hst ZT hsp ⊢
     have hz : Sc.cZ (Sc.cZ { x with ps := x.ps.set i.toNat { aL x i with q := q1 }, gl := g1, d := d2 } i { aL x i with q := s1 }) v { aL x v with q := s2 } = { x with ps := (x.ps.set i.toNat { aL x i with q := s1 }).set v.toNat { aL x v with q := s2 }, gl := g1, d := d2 } := by
      unfold Sc.cZ
      dsimp only
      rw [List.set_set]
     rw [hz]
     refine h.bU (g := s3) m0 m1 hi i0 i1 hg (by simp) (fun pr hp => ?_) (fun j => ?_) (fun a => ?_) (fun e => ?_) (fun e => ?_) (by omega) zp
     ·rcases List.mem_or_eq_of_mem_set hp with hp | rfl
      ·rcases List.mem_or_eq_of_mem_set hp with hp | rfl
       ·exact ⟨h.room pr hp, h.fW pr hp⟩
       ·exact ⟨ZT.1, ht⟩
      ·exact ⟨ZT.2, h.fW (aL x v) hvm⟩
     ·by_cases e : j = v.toNat
      ·subst e
       rw [dX (by simp; omega)]
       rfl
      ·rw [getD_set_ne e]
       by_cases e2 : j = i.toNat
       ·subst e2
        rw [dX (by omega)]
        rfl
       ·rw [getD_set_ne e2]
     ·have a1 := yQ { aL x i with q := s1 } a
      have a2 := qk (ps := x.ps.set i.toNat { aL x i with q := s1 }) (a := a) (RZ := { aL x v with q := s2 }) (j := v.toNat) (pr := aL x v) (by rw [List.getElem?_set_ne (Ne.symm hne)]; exact Og)
      have a3 := hst a
      have a4 := o2 a
      rw [ev1] at a4
      simp only [List.count_nil] at a4
      dsimp only at *
      omega
     ·unfold jB at e
      rcases hsp with ⟨e1, e2⟩ | ⟨_, e2⟩
      ·rw [e1] at e
       have h1 := Oo.1
       simp at e
       omega
      ·exact e2
     ·unfold jB at e
      simp only [Bool.or_eq_false_iff, bne_eq_false_iff_eq] at e
      rw [e.1]; rfl
  ·rename_i hh
   exact h.bU (g := v1) m0 m1 hi i0 i1 hg (by simp) VA QT Yr o3 (fun e => by rw [o4 e]; rfl) (by omega) hk
end
end Go.Proofs
namespace Go.Proofs
open Go.AF
set_option maxRecDepth 100000
set_option maxHeartbeats 1000000
attribute [local irreducible] aK cD fH bL aD fx aI aO bj aS bI aV
section
variable {p : bZ} {N : Nat} {x y z : Sc} {m i g a kind : Int}
theorem QU {w : Wd} {k n : Int} (hp : fN p) (h : asks p w g = some (k, n)) : 1 ≤ n ∧ n < 1099511627776 := by
 unfold asks at h
 split at h
 ·split at h
  ·cases h
  ·rename_i ins hi
   have hio : ∃ f ∈ p.funcs, ins ∈ f := by
    unfold EN at hi
    split at hi
    ·cases hi
    ·rename_i code hc
     exact ⟨code, List.mem_of_getElem? hc, List.mem_of_getElem? hi⟩
   obtain ⟨f, hf, hm⟩ := hio
   have hok := (hp.code f hf).2.2 ins hm
   split at h
   ·rename_i e
    simp only [Option.some.injEq, Prod.mk.injEq] at h
    have := hok.2.2.2.2.2.2.2.2.2.2.2.2 e
    omega
   ·split at h
    ·split at h
     ·cases h
     ·rename_i hne
      simp only [Option.some.injEq, Prod.mk.injEq] at h
      have h1 : (enabled (aG p ins) w.aE).length ≤ (aG p ins).length := D3 _ _ _
      have h2 : (aG p ins).length ≤ p.cases.length := by
       unfold aG
       rw [List.length_take, List.length_drop]; omega
      have := hp.cs
      have h3 : 0 < (enabled (aG p ins) w.aE).length := by
       rcases hl : enabled (aG p ins) w.aE with _ | ⟨q, t⟩
       ·exact absurd hl hne
       ·simp
      omega
    ·cases h
 ·cases h
theorem BR : ∀ (l : List Int) (z : Sc), 0 ≤ (aC z m).p → (aC z m).p < z.ps.length → (∀ v ∈ l, 0 ≤ v) → (∀ pr ∈ z.ps, OT pr.q) →
  (∀ a, lu (l.foldl (aU m) z).ps a + (l.foldl (aU m) z).gl.count a = lu z.ps a + z.gl.count a + l.count a) ∧
  (∀ pr ∈ (l.foldl (aU m) z).ps, OT pr.q) ∧ (∀ j : Nat, ((l.foldl (aU m) z).ps.getD j tx).gA = (z.ps.getD j tx).gA ∧ ((l.foldl (aU m) z).ps.getD j tx).turns = (z.ps.getD j tx).turns)
 | [], z, _, _, _, hr => ⟨fun a => by simp, hr, fun j => ⟨rfl, rfl⟩⟩
 | r :: l, z, h0, h1, hv, hr => by
  have jj := C0 (x := z) h0 h1
  have hps : (aU m z r).ps.length = z.ps.length := by simp [aU, Sc.cZ]
  have mT : aC (aU m z r) m = aC z m := rfl
  have hrm := hr _ (List.mem_of_getElem? jj)
  have Qj : ∀ pr ∈ (aU m z r).ps, OT pr.q := fun pr hp => by
   rcases List.mem_or_eq_of_mem_set hp with hp | rfl
   ·exact hr pr hp
   ·exact NQ hrm _ _
  obtain ⟨a1, a2, a3⟩ := BR l (aU m z r) (by rw [mT]; exact h0) (by rw [mT, hps]; exact h1) (fun v hm => hv v (List.mem_cons_of_mem _ hm)) Qj
  rw [List.foldl_cons]
  refine ⟨fun a => ?_, a2, fun j => ?_⟩
  ·have b1 := a1 a
   have b2 := J7 (aL z (aC z m).p).q r (by have := hv r (by simp); omega) z.gl a
   have b3 := qk (a := a) (RZ := { aL z (aC z m).p with q := ((aL z (aC z m).p).q.ready r z.gl).1 }) jj
   have b4 : lu (aU m z r).ps a = lu (z.ps.set (aC z m).p.toNat { aL z (aC z m).p with q := ((aL z (aC z m).p).q.ready r z.gl).1 }) a := rfl
   have b5 : (aU m z r).gl = ((aL z (aC z m).p).q.ready r z.gl).2.1 := rfl
   rw [b4, b5] at b1
   simp only [List.count_cons, List.count_nil] at *
   try dsimp only at *
   omega
  ·obtain ⟨c1, c2⟩ := a3 j
   rw [c1, c2]
   show ((z.ps.set (aC z m).p.toNat _).getD j tx).gA = _ ∧ ((z.ps.set (aC z m).p.toNat _).getD j tx).turns = _
   by_cases e : j = (aC z m).p.toNat
   ·subst e
    rw [dX (by omega)]
    exact ⟨rfl, rfl⟩
   ·rw [getD_set_ne e]
    exact ⟨rfl, rfl⟩
theorem QV {w y : Wd} (hy : WV p y) (h : ia g w y) : y.ready.length ≤ 100 := by
 have h1 := qC (b := 1) y.gs.length y.ready (fun v hv => ⟨(h.2.2.1 v hv).1, (h.2.2.1 v hv).2.1⟩) (fun v => List.nodup_iff_count.1 h.1 v)
 have := hy.n2
 omega
theorem VC {w y : Wd} (h : ia g w y) (h0 : 0 ≤ g) (hg : g < w.gs.length) : (At y a 1 ↔ (a = g ∧ (ay y g).st = 1) ∨ a ∈ y.ready ∨ (a ≠ g ∧ At w a 1)) := by
 obtain ⟨_, a2, a3, a4, a5, a6⟩ := h
 constructor
 ·rintro ⟨b1, b2, b3⟩
  by_cases e : a = g
  ·exact .inl ⟨e, by rw [← e]; exact b3⟩
  ·by_cases er : a ∈ y.ready
   ·exact .inr (.inl er)
   ·refine .inr (.inr ⟨e, b1, ?_, by rw [← a4 a b1 e er]; exact b3⟩)
    by_cases hl : a < w.gs.length
    ·exact hl
    ·exact absurd (a6 a (by omega) b2) er
 ·rintro (⟨rfl, e⟩ | e | ⟨e, b1, b2, b3⟩)
  ·exact ⟨h0, by omega, e⟩
  ·exact ⟨(a3 a e).1, (a3 a e).2.1, (a3 a e).2.2.2⟩
  ·by_cases er : a ∈ y.ready
   ·exact ⟨(a3 a er).1, (a3 a er).2.1, (a3 a er).2.2.2⟩
   ·exact ⟨b1, by omega, by rw [a4 a b1 e er]; exact b3⟩
theorem SV.jC {d' : lP} {y : Wd} {rest : Bool} (h : SV p N x) (m0 : 0 ≤ m) (m1 : m < x.ms.length) (hp : (aC x m).p ≠ -1) (hg : 0 ≤ (aC x m).g) (hy : WV p y) (hr : ia (aC x m).g { x.w with ready := [] } y)
  (hd : d'.taken.length ≤ 3 * N + 3) (hk : d'.k.Ok) {d0 : lP} : ∃ z o, jC { x with d := d0 } m (aC x m).g d' y rest = some (z, o) ∧ SV p (N + 1) z ∧ z.steps = x.steps := by
 have mT := vP m0 m1
 have DT := List.mem_of_getElem? mT
 have Ht := h.ms _ DT
 have RU := h.mg DT hg
 have hbd : 0 ≤ (aC x m).p ∧ (aC x m).p < x.ps.length ∧ 1 ≤ (aC x m).left ∧ (aC x m).left ≤ 1024 := by
  rcases Ht with e | e
  ·exact absurd e.1 hp
  ·have := e.2.2.2.2.2 hg; omega
 obtain ⟨i0, i1, l0, l1⟩ := hbd
 have kf := QV hy hr
 have hglt : (aC x m).g < y.gs.length := by have := hr.2.2.2.2.1; have := RU.2.1; dsimp only at *; omega
 unfold Proofs.jC
 rw [if_pos ⟨by omega, hglt⟩]
 have f1 := jc (m := m) y.ready { x with w := y, d := d' } i0 i1
 have f2 := BR (m := m) y.ready { x with w := y, d := d' } i0 i1 (fun v hv => (hr.2.2.1 v hv).1) h.room
 (try dsimp only at f1 f2 ⊢)
 generalize List.foldl (aU m) { x with w := y, d := d' } y.ready = z at f1 f2
 obtain ⟨z1, z2, z3, z4, z5, z6, _⟩ := f1
 obtain ⟨c1, c2, c3⟩ := f2
 have YL := fun a => VC (a := a) hr hg RU.2.1
 have R8 : ∀ a, a ∈ y.ready → ¬ At x.w a 1 ∧ a ≠ (aC x m).g ∧ y.ready.count a = 1 := fun a ha =>
  ⟨(hr.2.2.1 a ha).2.2.1, fun e => hr.2.1 (e ▸ ha), Nat.le_antisymm (List.nodup_iff_count.1 hr.1 a) (List.count_pos_iff.2 ha)⟩
 have YM : ∀ pr ∈ z.ps, 0 ≤ pr.turns ∧ pr.turns ≤ N := fun pr jj => by
  obtain ⟨j, hj, e⟩ := List.getElem_of_mem jj
  have e2 : z.ps.getD j tx = pr := by rw [List.getD_eq_getElem?_getD, List.getElem?_eq_getElem hj, e]; rfl
  have KO : j < x.ps.length := by omega
  have e3 : x.ps.getD j tx = x.ps[j] := by rw [List.getD_eq_getElem?_getD, List.getElem?_eq_getElem KO]; rfl
  have := (c3 j).2
  rw [e2, e3] at this
  rw [this]
  exact h.fW _ (List.getElem_mem KO)
 have done : ∀ (uH : BI) (KE : List Int), uH.p = (aC x m).p → 0 ≤ uH.left → uH.left ≤ 1024 → -1 ≤ uH.g → (0 ≤ uH.g → 1 ≤ uH.left) →
   (∀ a, KE.count a + (dc uH.g).count a = z.gl.count a + (if (ay y (aC x m).g).st = 1 then [(aC x m).g].count a else 0)) →
   SV p (N + 1) { z with ms := z.ms.set m.toNat uH, gl := KE } := by
  intro uH KE e1 e2 e3 e4 e5 e6
  have hS : ∀ a, kW { z with ms := z.ms.set m.toNat uH, gl := KE } a + [(aC x m).g].count a = kW x a + y.ready.count a + (if (ay y (aC x m).g).st = 1 then [(aC x m).g].count a else 0) := fun a => by
   have q1 := zx (a := a) (uH := uH) mT
   have q2 := c1 a
   have q3 := e6 a
   rw [iJ hg] at q1
   unfold kW
   (try dsimp only)
   rw [z1]
   (try dsimp only at q2)
   omega
  have hwz : z.w = y := z3
  refine ⟨by (try dsimp only); rw [hwz]; exact hy, fun a ha => ?_, fun a ha => ?_, by (try dsimp only); rw [z5, z2]; exact h.cP, by (try dsimp only); rw [z5, z1]; simpa using h.cM, by (try dsimp only); rw [z2]; exact h.P1, by (try dsimp only); rw [z1]; simpa using h.M1, by (try dsimp only); rw [z5]; exact h.cS, c2, fun pr jj => by have := YM pr jj; omega, fun mc Oq => ?_, fun j mc hj hne => ?_, by have := h.st; (try dsimp only); rw [z6]; (try dsimp only); omega, by (try dsimp only); rw [z4]; (try dsimp only); omega, by (try dsimp only); rw [z4]; exact hk⟩
  ·(try dsimp only at ha)
   rw [hwz] at ha
   have hs := hS a
   rcases (YL a).1 ha with ⟨e, es⟩ | e | ⟨e, ew⟩
   ·subst e
    have n1 : y.ready.count (aC x m).g = 0 := List.count_eq_zero.2 hr.2.1
    have n2 := h.one _ RU
    rw [if_pos es] at hs
    omega
   ·obtain ⟨w1, w2, w3⟩ := R8 a e
    have n2 := h.zero a w1
    have n3 : [(aC x m).g].count a = 0 := List.count_eq_zero.2 (by simpa using w2)
    rw [n3] at hs
    have : (if (ay y (aC x m).g).st = 1 then 0 else 0) = 0 := by split <;> rfl
    omega
   ·have n3 : [(aC x m).g].count a = 0 := List.count_eq_zero.2 (by simpa using e)
    have n2 := h.one a ew
    have n1 : y.ready.count a = 0 := List.count_eq_zero.2 (fun e2 => (R8 a e2).1 ew)
    rw [n3] at hs
    have : (if (ay y (aC x m).g).st = 1 then 0 else 0) = 0 := by split <;> rfl
    omega
  ·(try dsimp only at ha)
   rw [hwz] at ha
   have hs := hS a
   have hn := fun e => ha ((YL a).2 e)
   by_cases e : a = (aC x m).g
   ·subst e
    have n1 : y.ready.count (aC x m).g = 0 := List.count_eq_zero.2 hr.2.1
    have n2 := h.one _ RU
    have n3 : [(aC x m).g].count (aC x m).g = 1 := by simp
    rw [if_neg (fun es => hn (.inl ⟨rfl, es⟩))] at hs
    omega
   ·have n3 : [(aC x m).g].count a = 0 := List.count_eq_zero.2 (by simpa using e)
    have n2 := h.zero a (fun ew => hn (.inr (.inr ⟨e, ew⟩)))
    have n1 : y.ready.count a = 0 := List.count_eq_zero.2 (fun e2 => hn (.inr (.inl e2)))
    rw [n3] at hs
    have : (if (ay y (aC x m).g).st = 1 then 0 else 0) = 0 := by split <;> rfl
    omega
  ·(try dsimp only at Oq ⊢)
   rw [z2]
   rw [z1] at Oq
   rcases ji Oq with Oq | rfl
   ·exact h.ms mc Oq
   ·exact .inr ⟨by omega, by (try dsimp only); omega, e4, e2, e3, e5⟩
  ·(try dsimp only at hj)
   rw [z1] at hj
   show (z.ps.getD mc.p.toNat tx).gA = _
   rw [(c3 _).1]
   by_cases e : j = m.toNat
   ·subst e
    rw [List.getElem?_set_self (by (try dsimp only); omega)] at hj
    simp only [Option.some.injEq] at hj
    subst hj
    rw [e1]
    exact h.gA m.toNat _ mT hp
   ·rw [List.getElem?_set_ne (Ne.symm e)] at hj
    exact h.gA j mc hj hne
 have hzm : aC z m = aC x m := by unfold aC; rw [z1]
 have hzs : z.steps = x.steps := z6
 unfold Sc.td
 rw [hzm]
 split
 ·rename_i hkp
  refine ⟨_, _, rfl, ?_, hzs⟩
  have hst : (ay y (aC x m).g).st = 1 := by
   have := hkp.1
   unfold gN at this
   simp only [Bool.and_eq_true, beq_iff_eq] at this
   exact this.2
  exact done { aC x m with left := (aC x m).left - 1 } z.gl rfl (by (try dsimp only); omega) (by (try dsimp only); omega) (by (try dsimp only); omega) (fun _ => by (try dsimp only); omega) (fun a => by rw [if_pos hst]; (try dsimp only); rw [iJ hg])
 ·refine ⟨_, _, rfl, ?_, hzs⟩
  refine done { aC x m with left := (aC x m).left - 1, g := -1 } _ rfl (by (try dsimp only); omega) (by (try dsimp only); omega) (by (try dsimp only); omega) (fun e => by (try dsimp only at e); omega) (fun a => ?_)
  have e1 : dc (-1) = [] := rfl
  (try dsimp only)
  rw [e1, z3]
  split
  ·rw [List.count_append]; simp
  ·simp
end
end Go.Proofs
namespace Go.Proofs
open Go.AF
set_option maxRecDepth 100000
set_option maxHeartbeats 1000000
attribute [local irreducible] aK cD fH bL aD fx aI aO bj aS bI aV
section
variable {p : bZ} {N : Nat} {x y z : Sc} {m i g a kind : Int}
theorem SV.Ot (h : SV p N x) {r : List Int} {d' : lP} (hd : d'.taken.length ≤ 3 * N + 3) (hk : d'.k.Ok) : SV p (N + 1) { x with w := { x.w with ready := r }, d := d' } :=
 ⟨h.w.ready, h.one, h.zero, h.cP, h.cM, h.P1, h.M1, h.cS, h.room, fun pr hp => by have := h.fW pr hp; omega, h.ms, h.gA, by have := h.st; dsimp only; omega, by dsimp only; omega, hk⟩
theorem SV.run {d' : lP} (h : SV p N x) (hp : fN p) (m0 : 0 ≤ m) (m1 : m < x.ms.length) (hmp : (aC x m).p ≠ -1) (hg : (aC x m).g ≠ -1) (hN : N ≤ 1000000) (hd : d'.taken.length ≤ 3 * N + 1) (hk : d'.k.Ok) :
  ∃ z o, Sc.run p { x with d := d' } m = some (z, o) ∧ SV p (N + 1) z ∧ z.steps = x.steps := by
 have mT := vP m0 m1
 have DT := List.mem_of_getElem? mT
 have Ht := h.ms _ DT
 have hbd : 0 ≤ (aC x m).p ∧ (aC x m).p < x.ps.length ∧ 0 ≤ (aC x m).g ∧ 1 ≤ (aC x m).left ∧ (aC x m).left ≤ 1024 := by
  rcases Ht with e | e
  ·exact absurd e.1 hmp
  ·have := e.2.2.2.2.2; omega
 obtain ⟨i0, i1, g0, l0, l1⟩ := hbd
 have RU := h.mg DT g0
 unfold Sc.run
 have em : aC { x with d := d' } m = aC x m := rfl
 rw [em]
 rw [if_pos (show zo p { x with d := d' } m from ⟨m0, m1, i0, i1, by have := h.QM; dsimp only; omega, by dsimp only; omega, l0, by show (aC x m).left < 1000000000; omega, g0⟩)]
 dsimp only
 generalize xj : asks p { x.w with ready := [] } (aC x m).g = ak
 have hbk : ∀ k n, ak = some (k, n) → 1 ≤ n ∧ n < 1099511627776 := fun k n e => QU hp (by rw [xj]; exact e)
 rw [if_pos (show R7 ak = true from by
  cases ak with
  | none => rfl
  | some kn => obtain ⟨k, n⟩ := kn; have := hbk k n rfl; exact decide_eq_true (by omega))]
 have An : ∀ d2 dr, fF d' ak = (d2, dr) → d2.k.Ok ∧ d2.taken.length ≤ 3 * N + 2 ∧ (∀ v kd n, dr = .num v → ak = some (kd, n) → 0 ≤ v ∧ v < n) := by
  intro d2 dr e
  cases ak with
  | none =>
   unfold fF at e
   cases e
   exact ⟨hk, by omega, fun v kd n _ e => by cases e⟩
  | some kn =>
   obtain ⟨k, n⟩ := kn
   unfold fF at e
   dsimp only at e
   have a1 := nT (kind := k) (n := n) hk
   have a2 := zy (k := k) (n := n) hk
   rw [e] at a1 a2
   dsimp only at a1 a2
   refine ⟨a1, by omega, fun v kd n' e1 e2 => ?_⟩
   subst e1
   cases e2
   have := qj hk e
   have hb := hbk _ _ rfl
   rw [show mQ n = n from by unfold mQ; rw [if_neg (by omega)]] at this
   exact ⟨this.1, this.2.1⟩
 generalize wK : fF d' ak = dd at An
 obtain ⟨d2, dr⟩ := dd
 obtain ⟨k2, t2, v2⟩ := An d2 dr rfl
 dsimp only
 obtain ⟨r, rest, hex, hres⟩ := Oc (d := dr) h.w hp g0 (fun v kd n e1 e2 => v2 v kd n e1 (by rw [← xj]; exact e2))
 rw [hex]
 rcases hres with ⟨hres, _⟩ | ⟨l, e1, e2, _⟩
 ·cases r with
  | on y => exact h.jC m0 m1 hmp g0 hres.1 hres.2 (by omega) k2
  | eJ n y => exact h.jC (y := { y with end_ := 2, code := n }) m0 m1 hmp g0 (hres.1.fin (e := 2) (c := n)) (hres.2.Ku rfl rfl fun _ _ _ => rfl) (by omega) k2
  | dG l y => exact hres.elim
 ·subst e2
  exact ⟨_, _, rfl, h.Ot (by omega) k2, rfl⟩
theorem SV.step (h : SV p N x) (hp : fN p) (hN : N ≤ 1000000) : ∃ y o, x.step p = some (y, o) ∧ SV p (N + 1) y := by
 have hst := h.st
 have Vx := h.tk
 have hM := h.cM
 have hM1 := h.M1
 have hP1 := h.P1
 unfold Sc.step
 rw [if_pos (show xL x from ⟨by have := h.w.n2; omega, hM, by omega, by omega, by omega, hst.1, by omega⟩)]
 split
 ·exact ⟨_, _, rfl, h.mono (by omega)⟩
 ·rename_i hs
  have Cg := zy (k := 1) (n := x.c.M + 1) h.k
  have zp := nT (kind := 1) (n := x.c.M + 1) h.k
  split
  ·rename_i d' l wK
   rw [wK] at Cg zp
   dsimp only at Cg zp
   exact ⟨_, _, rfl, h.draw (by omega) zp⟩
  ·rename_i d' m wK
   rw [wK] at Cg zp
   dsimp only at Cg zp
   have hv := qj h.k wK
   rw [show mQ (x.c.M + 1) = x.c.M + 1 from by unfold mQ; rw [if_neg (by omega)]] at hv
   obtain ⟨m0, mM, _⟩ := hv
   have fin : ∀ z o, SV p (N + 1) z → z.steps = x.steps → ∃ y o', Option.map CY (some (z, o)) = some (y, o') ∧ SV p (N + 1) y := fun z o hz hzs => by
    cases o with
    | ev e => exact ⟨_, _, rfl, hz.inc (by rw [hzs]; exact hst)⟩
    | dG l => exact ⟨_, _, rfl, hz⟩
   unfold Sc.act
   dsimp only
   split
   ·obtain ⟨t1, t2, t3⟩ := h.tick (d' := d') (by omega) zp
    rw [if_pos t1]
    exact fin _ _ t2 t3
   ·rename_i hmM
    have m1 : m < x.ms.length := by omega
    have em : aC { x with d := d' } m = aC x m := rfl
    rw [em]
    split
    ·rename_i hmp
     obtain ⟨t2, t3⟩ := h.hold (d' := d') m0 m1 hmp (by omega) zp
     exact fin _ _ t2 t3
    ·rename_i hmp
     split
     ·rename_i hmg
      obtain ⟨t1, t2, t3⟩ := h.find (d' := d') m0 m1 hmp hmg (by omega) (by omega) zp
      rw [if_pos t1]
      exact fin _ _ t2 t3
     ·rename_i hmg
      obtain ⟨z, o, t1, t2, t3⟩ := h.run (d' := d') hp m0 m1 hmp hmg hN (by omega) zp
      rw [t1]
      exact fin _ _ t2 t3
theorem SV.new {c : Hh} {d : lP} (hp : fN p) (hP : 1 ≤ c.P ∧ c.P ≤ 64) (hM : 1 ≤ c.M ∧ c.M ≤ 64) (hS : 1 ≤ c.S ∧ c.S ≤ 1024) (hd : d.taken = []) (hk : d.k.Ok) : SV p 0 (Sc.new p c d) := by
 have hw := Vr hp
 have hA : ∀ a, At (Wd.new p) a 1 ↔ a = 0 := fun a => by
  constructor
  ·rintro ⟨b1, b2, _⟩
   simp [Wd.new] at b2
   omega
  ·rintro rfl
   exact ⟨by decide, by simp [Wd.new], rfl⟩
 have hQ : ∀ a, lu (List.replicate c.P.toNat ⟨⟨-1, eN c.R, []⟩, 0, -1⟩) a = 0 := fun a => by
  unfold lu
  rw [List.count_eq_zero]
  intro hm
  obtain ⟨q, hq, h2⟩ := List.mem_flatMap.1 hm
  obtain ⟨pr, jj, rfl⟩ := List.mem_map.1 hq
  rw [List.eq_of_mem_replicate jj] at h2
  simp [Loc.all] at h2
 have hMm : ∀ a, CZ (List.replicate c.M.toNat ⟨-1, -1, 0⟩) a = 0 := fun a => by
  unfold CZ
  rw [List.count_eq_zero]
  intro hm
  obtain ⟨q, hq, h2⟩ := List.mem_flatMap.1 hm
  rw [List.eq_of_mem_replicate hq] at h2
  simp [dc] at h2
 have hC : ∀ a, kW (Sc.new p c d) a = [(0 : Int)].count a := fun a => by
  unfold kW Sc.new
  dsimp only
  rw [hQ, hMm]; omega
 have cap := Iv c.R
 refine ⟨hw, fun a ha => ?_, fun a ha => ?_, by simp [Sc.new]; omega, by simp [Sc.new]; omega, by simp [Sc.new]; omega, by simp [Sc.new]; omega, hS, fun pr jj => ?_, fun pr jj => ?_, fun mc mT => ?_, fun j mc hj hne => ?_, by simp [Sc.new], by simp [Sc.new, hd], hk⟩
 ·rw [hC, (hA a).1 ha]; rfl
 ·rw [hC]
  exact List.count_eq_zero.2 (fun e => ha ((hA a).2 (by simpa using e)))
 ·rw [List.eq_of_mem_replicate jj]
  exact ⟨by simp, cap.2, cap.1⟩
 ·rw [List.eq_of_mem_replicate jj]
  simp
 ·rw [List.eq_of_mem_replicate mT]
  exact .inl ⟨rfl, rfl, rfl⟩
 ·have := List.eq_of_mem_replicate (List.mem_of_getElem? hj)
  rw [this] at hne
  exact absurd rfl hne
end
end Go.Proofs
namespace Go.Proofs
open Go.AF
set_option maxRecDepth 100000
set_option maxHeartbeats 1000000
attribute [local irreducible] aK cD fH bL aD fx aI aO bj aS bI aV
def aH (n m : Int) : Int := if m < 1 then 0 else Int.tmod (IntKind.wrap .i64 (Int.tmod n m + m)) m
theorem c6 {n m : Int} (hm : 1 ≤ m) (hb : m < 4611686018427387904) : 0 ≤ aH n m ∧ aH n m < m := by
 have h1 := Int.tmod_lt_of_pos n (show 0 < m by omega)
 have h2 := Int.lt_tmod_of_pos n (show 0 < m by omega)
 unfold aH
 rw [if_neg (by omega), cO (by omega) (by omega)]
 have h3 : 0 ≤ Int.tmod n m + m := by omega
 exact ⟨Int.tmod_nonneg m h3, Int.tmod_lt_of_pos _ (by omega)⟩
def wP (nf nc g6 lk lf : Int) (x : cC) : cC :=
 if aH x.op 23 = 1 then ⟨1, aH x.a 8, x.b, 0⟩
 else if aH x.op 23 = 2 then ⟨2, aH x.a 8, aH x.b 8, 0⟩
 else if aH x.op 23 = 3 then ⟨aH x.op 23, aH x.a 8, aH x.b 8, aH x.c 8⟩
 else if aH x.op 23 = 4 then ⟨aH x.op 23, aH x.a 8, aH x.b 8, aH x.c 8⟩
 else if aH x.op 23 = 5 then ⟨aH x.op 23, aH x.a 8, aH x.b 8, aH x.c 8⟩
 else if aH x.op 23 = 6 then ⟨aH x.op 23, aH x.a 8, aH x.b 8, aH x.c 8⟩
 else if aH x.op 23 = 7 then ⟨7, aH x.a lf, 0, 0⟩
 else if aH x.op 23 = 8 then ⟨8, aH x.a 8, aH x.b lf, 0⟩
 else if aH x.op 23 = 9 then ⟨aH x.op 23, aH x.a nf, aH x.b 8, aH x.c 8⟩
 else if aH x.op 23 = 11 then ⟨aH x.op 23, aH x.a nf, aH x.b 8, aH x.c 8⟩
 else if aH x.op 23 = 10 then ⟨aH x.op 23, aH x.a 8, 0, 0⟩
 else if aH x.op 23 = 17 then ⟨aH x.op 23, aH x.a 8, 0, 0⟩
 else if aH x.op 23 = 20 then ⟨aH x.op 23, aH x.a 8, 0, 0⟩
 else if aH x.op 23 = 13 then (if nc = 0 then .zero else ⟨aH x.op 23, aH x.a nc, aH x.b 8, 0⟩)
 else if aH x.op 23 = 14 then (if nc = 0 then .zero else ⟨aH x.op 23, aH x.a nc, aH x.b 8, aH x.c 8⟩)
 else if aH x.op 23 = 15 then (if nc = 0 then .zero else ⟨aH x.op 23, aH x.a nc, 0, 0⟩)
 else if aH x.op 23 = 16 then (if g6 = 0 then .zero else ⟨16, aH x.a g6, 1 + aH x.b (g6 - aH x.a g6), aH x.c 8⟩)
 else if aH x.op 23 = 18 then (if lk = 0 then .zero else ⟨aH x.op 23, aH x.a lk, 0, 0⟩)
 else if aH x.op 23 = 19 then (if lk = 0 then .zero else ⟨aH x.op 23, aH x.a lk, 0, 0⟩)
 else if aH x.op 23 = 21 then ⟨21, aH x.a 8, 1 + aH x.b 1000, 0⟩
 else if aH x.op 23 = 22 then ⟨22, aH x.a 1000, 0, 0⟩
 else ⟨aH x.op 23, 0, 0, 0⟩
def cT (nf nc g6 lk lf : Int) (i : cC) : Prop := 0 ≤ i.op ∧ i.op < 23 ∧ i.cy ∧ (i.op = 7 → 0 ≤ i.a ∧ i.a < lf) ∧ (i.op = 8 → 0 ≤ i.b ∧ i.b < lf) ∧
 (i.op = 9 ∨ i.op = 11 → 0 ≤ i.a ∧ i.a < nf ∧ bg i.b ∧ bg i.c) ∧ (i.op = 10 ∨ i.op = 17 ∨ i.op = 20 ∨ i.op = 21 → bg i.a) ∧
 (i.op = 13 ∨ i.op = 14 ∨ i.op = 15 → 0 ≤ i.a ∧ i.a < nc) ∧ (i.op = 13 ∨ i.op = 14 → bg i.b) ∧ (i.op = 14 ∨ i.op = 16 → bg i.c) ∧
 (i.op = 16 → 0 ≤ i.a ∧ 1 ≤ i.b ∧ i.a + i.b ≤ g6) ∧ (i.op = 18 ∨ i.op = 19 → 0 ≤ i.a ∧ i.a < lk) ∧ (i.op = 21 → 1 ≤ i.b ∧ i.b < 1099511627776)
theorem cT.ok {p : bZ} {f : List cC} {i : cC} (h : cT p.funcs.length p.dk.length p.cases.length p.aM f.length i) : jR p f i := h
theorem cT.zero {nf nc g6 lk lf : Int} : cT nf nc g6 lk lf .zero := by
 simp [cT, cC.cy, cC.zero]
theorem jd {nf nc g6 lk lf : Int} {p : Prop} [Decidable p] {x y : cC} (h1 : p → cT nf nc g6 lk lf x) (h2 : ¬ p → cT nf nc g6 lk lf y) : cT nf nc g6 lk lf (if p then x else y) := by
 split
 ·exact h1 ‹_›
 ·exact h2 ‹_›
theorem Ou {nf nc g6 lk lf : Int} {x : cC} (hf : 1 ≤ nf ∧ nf ≤ 5) (hc : 0 ≤ nc ∧ nc ≤ 4) (hcs : 0 ≤ g6 ∧ g6 ≤ 8) (hl : 0 ≤ lk ∧ lk ≤ 3) (hlf : 1 ≤ lf ∧ lf ≤ 20) : cT nf nc g6 lk lf (wP nf nc g6 lk lf x) := by
 have a8 := c6 (n := x.a) (m := 8) (by omega) (by omega)
 have b8 := c6 (n := x.b) (m := 8) (by omega) (by omega)
 have c8 := c6 (n := x.c) (m := 8) (by omega) (by omega)
 have o23 := c6 (n := x.op) (m := 23) (by omega) (by omega)
 have af := c6 (n := x.a) (m := lf) (by omega) (by omega)
 have bf := c6 (n := x.b) (m := lf) (by omega) (by omega)
 have an := c6 (n := x.a) (m := nf) (by omega) (by omega)
 have YN := c6 (n := x.b) (m := 1000) (by omega) (by omega)
 have ac : nc ≠ 0 → _ := fun e => c6 (n := x.a) (m := nc) (by omega) (by omega)
 have al : lk ≠ 0 → _ := fun e => c6 (n := x.a) (m := lk) (by omega) (by omega)
 have xm : g6 ≠ 0 → _ := fun e => c6 (n := x.a) (m := g6) (by omega) (by omega)
 have zz : g6 ≠ 0 → _ := fun e => c6 (n := x.b) (m := g6 - aH x.a g6) (by have := xm e; omega) (by have := xm e; omega)
 have p1 : cT nf nc g6 lk lf ⟨1, aH x.a 8, x.b, 0⟩ := by clear ac al xm zz; simp [cT, cC.cy, bg] <;> omega
 have p2 : cT nf nc g6 lk lf ⟨2, aH x.a 8, aH x.b 8, 0⟩ := by clear ac al xm zz; simp [cT, cC.cy, bg] <;> omega
 have p3 : cT nf nc g6 lk lf ⟨3, aH x.a 8, aH x.b 8, aH x.c 8⟩ := by clear ac al xm zz; simp [cT, cC.cy, bg] <;> omega
 have p4 : cT nf nc g6 lk lf ⟨4, aH x.a 8, aH x.b 8, aH x.c 8⟩ := by clear ac al xm zz; simp [cT, cC.cy, bg] <;> omega
 have p5 : cT nf nc g6 lk lf ⟨5, aH x.a 8, aH x.b 8, aH x.c 8⟩ := by clear ac al xm zz; simp [cT, cC.cy, bg] <;> omega
 have p6 : cT nf nc g6 lk lf ⟨6, aH x.a 8, aH x.b 8, aH x.c 8⟩ := by clear ac al xm zz; simp [cT, cC.cy, bg] <;> omega
 have p7 : cT nf nc g6 lk lf ⟨7, aH x.a lf, 0, 0⟩ := by clear ac al xm zz; simp [cT, cC.cy, bg] <;> omega
 have p8 : cT nf nc g6 lk lf ⟨8, aH x.a 8, aH x.b lf, 0⟩ := by clear ac al xm zz; simp [cT, cC.cy, bg] <;> omega
 have p9 : cT nf nc g6 lk lf ⟨9, aH x.a nf, aH x.b 8, aH x.c 8⟩ := by clear ac al xm zz; simp [cT, cC.cy, bg] <;> omega
 have p11 : cT nf nc g6 lk lf ⟨11, aH x.a nf, aH x.b 8, aH x.c 8⟩ := by clear ac al xm zz; simp [cT, cC.cy, bg] <;> omega
 have p10 : cT nf nc g6 lk lf ⟨10, aH x.a 8, 0, 0⟩ := by clear ac al xm zz; simp [cT, cC.cy, bg] <;> omega
 have p17 : cT nf nc g6 lk lf ⟨17, aH x.a 8, 0, 0⟩ := by clear ac al xm zz; simp [cT, cC.cy, bg] <;> omega
 have p20 : cT nf nc g6 lk lf ⟨20, aH x.a 8, 0, 0⟩ := by clear ac al xm zz; simp [cT, cC.cy, bg] <;> omega
 have p13 : nc ≠ 0 → cT nf nc g6 lk lf ⟨13, aH x.a nc, aH x.b 8, 0⟩ := fun z => by have := ac z; clear ac al xm zz; simp [cT, cC.cy, bg] <;> omega
 have p14 : nc ≠ 0 → cT nf nc g6 lk lf ⟨14, aH x.a nc, aH x.b 8, aH x.c 8⟩ := fun z => by have := ac z; clear ac al xm zz; simp [cT, cC.cy, bg] <;> omega
 have p15 : nc ≠ 0 → cT nf nc g6 lk lf ⟨15, aH x.a nc, 0, 0⟩ := fun z => by have := ac z; clear ac al xm zz; simp [cT, cC.cy, bg] <;> omega
 have p16 : g6 ≠ 0 → cT nf nc g6 lk lf ⟨16, aH x.a g6, 1 + aH x.b (g6 - aH x.a g6), aH x.c 8⟩ := fun z => by have := xm z; have := zz z; clear ac al xm zz; simp [cT, cC.cy, bg] <;> omega
 have OU : lk ≠ 0 → cT nf nc g6 lk lf ⟨18, aH x.a lk, 0, 0⟩ := fun z => by have := al z; clear ac al xm zz; simp [cT, cC.cy, bg] <;> omega
 have p19 : lk ≠ 0 → cT nf nc g6 lk lf ⟨19, aH x.a lk, 0, 0⟩ := fun z => by have := al z; clear ac al xm zz; simp [cT, cC.cy, bg] <;> omega
 have p21 : cT nf nc g6 lk lf ⟨21, aH x.a 8, 1 + aH x.b 1000, 0⟩ := by clear ac al xm zz; simp [cT, cC.cy, bg] <;> omega
 have p22 : cT nf nc g6 lk lf ⟨22, aH x.a 1000, 0, 0⟩ := by clear ac al xm zz; simp [cT, cC.cy, bg] <;> omega
 clear a8 b8 c8 af bf an YN ac al xm zz
 unfold wP
 refine jd (fun e => p1) fun n1 => ?_
 refine jd (fun e => p2) fun n2 => ?_
 refine jd (fun e => e ▸ p3) fun n3 => ?_
 refine jd (fun e => e ▸ p4) fun n4 => ?_
 refine jd (fun e => e ▸ p5) fun n5 => ?_
 refine jd (fun e => e ▸ p6) fun n6 => ?_
 refine jd (fun e => p7) fun n7 => ?_
 refine jd (fun e => p8) fun n8 => ?_
 refine jd (fun e => e ▸ p9) fun n9 => ?_
 refine jd (fun e => e ▸ p11) fun fu => ?_
 refine jd (fun e => e ▸ p10) fun jP => ?_
 refine jd (fun e => e ▸ p17) fun hU => ?_
 refine jd (fun e => e ▸ p20) fun fq => ?_
 refine jd (fun e => jd (fun _ => cT.zero) fun z => e ▸ p13 z) fun jg => ?_
 refine jd (fun e => jd (fun _ => cT.zero) fun z => e ▸ p14 z) fun je => ?_
 refine jd (fun e => jd (fun _ => cT.zero) fun z => e ▸ p15 z) fun jY => ?_
 refine jd (fun e => jd (fun _ => cT.zero) fun z => p16 z) fun mz => ?_
 refine jd (fun e => jd (fun _ => cT.zero) fun z => e ▸ OU z) fun kq => ?_
 refine jd (fun e => jd (fun _ => cT.zero) fun z => e ▸ p19 z) fun wq => ?_
 refine jd (fun e => p21) fun nw => ?_
 refine jd (fun e => p22) fun rU => ?_
 generalize aH x.op 23 = o at *
 have : o = 0 ∨ o = 12 := by omega
 rcases this with rfl | rfl <;> simp [cT, cC.cy]
section
variable {M : Mem} {K : Value → Mem → Prop} {Kp : List PanicEntry → Mem → Prop}
theorem bE {n m : Int} (k : K (.int .i64 (aH n m)) M) : ae Tryz.prog 69 #[.int .i64 n, .int .i64 m] M K Kp := by
 refine rH ?_
 unfold aH at k
 exact aP.2 ⟨fun h => by rw [if_pos h] at k; exact k, fun h => ⟨by omega, by omega, by rw [if_neg h] at k; exact k⟩⟩
variable {R : Mem} {L : List HP}
abbrev insV (i : cC) : Value := .agg #[.int .i64 i.op, .int .i64 i.a, .int .i64 i.b, .int .i64 i.c]
theorem QW {A B C F : Option Addr} {nf cf nc cc g6 ccs lf cl : Nat} {lk o a b c : Int} (h : Hp R L M) (hcs : g6 ≤ 8)
  (k : ∀ M', Hp R L M' → K (insV (wP nf nc g6 lk lf ⟨o, a, b, c⟩)) M') :
  ae Tryz.prog 70 #[.agg #[.slice A nf cf, .slice B nc cc, .int .i64 lk, .slice C g6 ccs], .slice F lf cl, .agg #[.int .i64 o, .int .i64 a, .int .i64 b, .int .i64 c]] M K Kp := by
 refine rJ ?_
 have YO : IntKind.wrap .i64 (1 + aH b 1000) = 1 + aH b 1000 := by
  have := c6 (n := b) (m := 1000) (by omega) (by omega)
  exact cO (by omega) (by omega)
 have as_ : (g6 : Int) ≠ 0 → IntKind.wrap .i64 ((g6 : Int) - aH a g6) = g6 - aH a g6 ∧ IntKind.wrap .i64 (1 + aH b (g6 - aH a g6)) = 1 + aH b (g6 - aH a g6) := fun e => by
  have h1 := c6 (n := a) (m := (g6 : Int)) (by omega) (by omega)
  have h2 := c6 (n := b) (m := (g6 : Int) - aH a g6) (by omega) (by omega)
  exact ⟨cO (by omega) (by omega), cO (by omega) (by omega)⟩
 unfold wP at k
 dsimp only at k
 repeat (first | refine bE ?_ | (refine av h ?_; clear h; intro kb M h) | (refine az h ?_; clear h; intro M h) | refine St.to h ?_ | (apply Exists.intro; (repeat apply Exists.intro); refine And.intro rfl ?_) | (refine And.intro ?_ ?_; first | exact rfl | (refine aa (aj h) ?_; (repeat (refine aa (aj h) ?_)); exact ai) | omega) | refine aq ?_ | refine au ?_)
 refine aZ.2 ⟨fun e => ?_, fun e => ?_⟩
 ·rw [if_pos e] at k
  repeat (first | refine bE ?_ | (refine av h ?_; clear h; intro kb M h) | (refine az h ?_; clear h; intro M h) | refine St.to h ?_ | (apply Exists.intro; (repeat apply Exists.intro); refine And.intro rfl ?_) | (refine And.intro ?_ ?_; first | exact rfl | (refine aa (aj h) ?_; (repeat (refine aa (aj h) ?_)); exact ai) | omega) | refine aq ?_ | refine au ?_)
  exact k _ (h.sub (by repeat (first | exact .refl | refine .cons (by repeat (first | exact .here | apply aF.there)) ?_ | apply Sub.drop)))
 rw [if_neg e] at k
 clear e
 refine aZ.2 ⟨fun e => ?_, fun e => ?_⟩
 ·rw [if_pos e] at k
  repeat (first | refine bE ?_ | (refine av h ?_; clear h; intro kb M h) | (refine az h ?_; clear h; intro M h) | refine St.to h ?_ | (apply Exists.intro; (repeat apply Exists.intro); refine And.intro rfl ?_) | (refine And.intro ?_ ?_; first | exact rfl | (refine aa (aj h) ?_; (repeat (refine aa (aj h) ?_)); exact ai) | omega) | refine aq ?_ | refine au ?_)
  exact k _ (h.sub (by repeat (first | exact .refl | refine .cons (by repeat (first | exact .here | apply aF.there)) ?_ | apply Sub.drop)))
 rw [if_neg e] at k
 clear e
 refine aZ.2 ⟨fun e => ?_, fun e => ?_⟩
 ·rw [if_pos e] at k
  repeat (first | refine bE ?_ | (refine av h ?_; clear h; intro kb M h) | (refine az h ?_; clear h; intro M h) | refine St.to h ?_ | (apply Exists.intro; (repeat apply Exists.intro); refine And.intro rfl ?_) | (refine And.intro ?_ ?_; first | exact rfl | (refine aa (aj h) ?_; (repeat (refine aa (aj h) ?_)); exact ai) | omega) | refine aq ?_ | refine au ?_)
  exact k _ (h.sub (by repeat (first | exact .refl | refine .cons (by repeat (first | exact .here | apply aF.there)) ?_ | apply Sub.drop)))
 rw [if_neg e] at k
 clear e
 refine aZ.2 ⟨fun e => ?_, fun e => ?_⟩
 ·rw [if_pos e] at k
  repeat (first | refine bE ?_ | (refine av h ?_; clear h; intro kb M h) | (refine az h ?_; clear h; intro M h) | refine St.to h ?_ | (apply Exists.intro; (repeat apply Exists.intro); refine And.intro rfl ?_) | (refine And.intro ?_ ?_; first | exact rfl | (refine aa (aj h) ?_; (repeat (refine aa (aj h) ?_)); exact ai) | omega) | refine aq ?_ | refine au ?_)
  exact k _ (h.sub (by repeat (first | exact .refl | refine .cons (by repeat (first | exact .here | apply aF.there)) ?_ | apply Sub.drop)))
 rw [if_neg e] at k
 clear e
 refine aZ.2 ⟨fun e => ?_, fun e => ?_⟩
 ·rw [if_pos e] at k
  repeat (first | refine bE ?_ | (refine av h ?_; clear h; intro kb M h) | (refine az h ?_; clear h; intro M h) | refine St.to h ?_ | (apply Exists.intro; (repeat apply Exists.intro); refine And.intro rfl ?_) | (refine And.intro ?_ ?_; first | exact rfl | (refine aa (aj h) ?_; (repeat (refine aa (aj h) ?_)); exact ai) | omega) | refine aq ?_ | refine au ?_)
  exact k _ (h.sub (by repeat (first | exact .refl | refine .cons (by repeat (first | exact .here | apply aF.there)) ?_ | apply Sub.drop)))
 rw [if_neg e] at k
 clear e
 refine aZ.2 ⟨fun e => ?_, fun e => ?_⟩
 ·rw [if_pos e] at k
  repeat (first | refine bE ?_ | (refine av h ?_; clear h; intro kb M h) | (refine az h ?_; clear h; intro M h) | refine St.to h ?_ | (apply Exists.intro; (repeat apply Exists.intro); refine And.intro rfl ?_) | (refine And.intro ?_ ?_; first | exact rfl | (refine aa (aj h) ?_; (repeat (refine aa (aj h) ?_)); exact ai) | omega) | refine aq ?_ | refine au ?_)
  exact k _ (h.sub (by repeat (first | exact .refl | refine .cons (by repeat (first | exact .here | apply aF.there)) ?_ | apply Sub.drop)))
 rw [if_neg e] at k
 clear e
 refine aZ.2 ⟨fun e => ?_, fun e => ?_⟩
 ·rw [if_pos e] at k
  repeat (first | refine bE ?_ | (refine av h ?_; clear h; intro kb M h) | (refine az h ?_; clear h; intro M h) | refine St.to h ?_ | (apply Exists.intro; (repeat apply Exists.intro); refine And.intro rfl ?_) | (refine And.intro ?_ ?_; first | exact rfl | (refine aa (aj h) ?_; (repeat (refine aa (aj h) ?_)); exact ai) | omega) | refine aq ?_ | refine au ?_)
  exact k _ (h.sub (by repeat (first | exact .refl | refine .cons (by repeat (first | exact .here | apply aF.there)) ?_ | apply Sub.drop)))
 rw [if_neg e] at k
 clear e
 refine aZ.2 ⟨fun e => ?_, fun e => ?_⟩
 ·rw [if_pos e] at k
  repeat (first | refine bE ?_ | (refine av h ?_; clear h; intro kb M h) | (refine az h ?_; clear h; intro M h) | refine St.to h ?_ | (apply Exists.intro; (repeat apply Exists.intro); refine And.intro rfl ?_) | (refine And.intro ?_ ?_; first | exact rfl | (refine aa (aj h) ?_; (repeat (refine aa (aj h) ?_)); exact ai) | omega) | refine aq ?_ | refine au ?_)
  exact k _ (h.sub (by repeat (first | exact .refl | refine .cons (by repeat (first | exact .here | apply aF.there)) ?_ | apply Sub.drop)))
 rw [if_neg e] at k
 clear e
 refine aZ.2 ⟨fun e => ?_, fun e => ?_⟩
 ·rw [if_pos e] at k
  repeat (first | refine bE ?_ | (refine av h ?_; clear h; intro kb M h) | (refine az h ?_; clear h; intro M h) | refine St.to h ?_ | (apply Exists.intro; (repeat apply Exists.intro); refine And.intro rfl ?_) | (refine And.intro ?_ ?_; first | exact rfl | (refine aa (aj h) ?_; (repeat (refine aa (aj h) ?_)); exact ai) | omega) | refine aq ?_ | refine au ?_)
  exact k _ (h.sub (by repeat (first | exact .refl | refine .cons (by repeat (first | exact .here | apply aF.there)) ?_ | apply Sub.drop)))
 rw [if_neg e] at k
 clear e
 refine aZ.2 ⟨fun e => ?_, fun e => ?_⟩
 ·rw [if_pos e] at k
  repeat (first | refine bE ?_ | (refine av h ?_; clear h; intro kb M h) | (refine az h ?_; clear h; intro M h) | refine St.to h ?_ | (apply Exists.intro; (repeat apply Exists.intro); refine And.intro rfl ?_) | (refine And.intro ?_ ?_; first | exact rfl | (refine aa (aj h) ?_; (repeat (refine aa (aj h) ?_)); exact ai) | omega) | refine aq ?_ | refine au ?_)
  exact k _ (h.sub (by repeat (first | exact .refl | refine .cons (by repeat (first | exact .here | apply aF.there)) ?_ | apply Sub.drop)))
 rw [if_neg e] at k
 clear e
 refine aZ.2 ⟨fun e => ?_, fun e => ?_⟩
 ·rw [if_pos e] at k
  repeat (first | refine bE ?_ | (refine av h ?_; clear h; intro kb M h) | (refine az h ?_; clear h; intro M h) | refine St.to h ?_ | (apply Exists.intro; (repeat apply Exists.intro); refine And.intro rfl ?_) | (refine And.intro ?_ ?_; first | exact rfl | (refine aa (aj h) ?_; (repeat (refine aa (aj h) ?_)); exact ai) | omega) | refine aq ?_ | refine au ?_)
  exact k _ (h.sub (by repeat (first | exact .refl | refine .cons (by repeat (first | exact .here | apply aF.there)) ?_ | apply Sub.drop)))
 rw [if_neg e] at k
 clear e
 refine aZ.2 ⟨fun e => ?_, fun e => ?_⟩
 ·rw [if_pos e] at k
  repeat (first | refine bE ?_ | (refine av h ?_; clear h; intro kb M h) | (refine az h ?_; clear h; intro M h) | refine St.to h ?_ | (apply Exists.intro; (repeat apply Exists.intro); refine And.intro rfl ?_) | (refine And.intro ?_ ?_; first | exact rfl | (refine aa (aj h) ?_; (repeat (refine aa (aj h) ?_)); exact ai) | omega) | refine aq ?_ | refine au ?_)
  exact k _ (h.sub (by repeat (first | exact .refl | refine .cons (by repeat (first | exact .here | apply aF.there)) ?_ | apply Sub.drop)))
 rw [if_neg e] at k
 clear e
 refine aZ.2 ⟨fun e => ?_, fun e => ?_⟩
 ·rw [if_pos e] at k
  repeat (first | refine bE ?_ | (refine av h ?_; clear h; intro kb M h) | (refine az h ?_; clear h; intro M h) | refine St.to h ?_ | (apply Exists.intro; (repeat apply Exists.intro); refine And.intro rfl ?_) | (refine And.intro ?_ ?_; first | exact rfl | (refine aa (aj h) ?_; (repeat (refine aa (aj h) ?_)); exact ai) | omega) | refine aq ?_ | refine au ?_)
  exact k _ (h.sub (by repeat (first | exact .refl | refine .cons (by repeat (first | exact .here | apply aF.there)) ?_ | apply Sub.drop)))
 rw [if_neg e] at k
 clear e
 refine aZ.2 ⟨fun e => ?_, fun e => ?_⟩
 ·rw [if_pos e] at k
  refine aZ.2 ⟨fun z => ?_, fun z => ?_⟩
  ·rw [if_pos z] at k
   repeat (first | refine bE ?_ | (refine av h ?_; clear h; intro kb M h) | (refine az h ?_; clear h; intro M h) | refine St.to h ?_ | (apply Exists.intro; (repeat apply Exists.intro); refine And.intro rfl ?_) | (refine And.intro ?_ ?_; first | exact rfl | (refine aa (aj h) ?_; (repeat (refine aa (aj h) ?_)); exact ai) | omega) | refine aq ?_ | refine au ?_)
   exact k _ (h.sub (by repeat (first | exact .refl | refine .cons (by repeat (first | exact .here | apply aF.there)) ?_ | apply Sub.drop)))
  rw [if_neg z] at k
  repeat (first | refine bE ?_ | (refine av h ?_; clear h; intro kb M h) | (refine az h ?_; clear h; intro M h) | refine St.to h ?_ | (apply Exists.intro; (repeat apply Exists.intro); refine And.intro rfl ?_) | (refine And.intro ?_ ?_; first | exact rfl | (refine aa (aj h) ?_; (repeat (refine aa (aj h) ?_)); exact ai) | omega) | refine aq ?_ | refine au ?_)
  refine aP.2 ⟨fun _ => ?_, fun e2 => absurd (show aH o 23 < 15 by omega) e2⟩
  repeat (first | refine bE ?_ | (refine av h ?_; clear h; intro kb M h) | (refine az h ?_; clear h; intro M h) | refine St.to h ?_ | (apply Exists.intro; (repeat apply Exists.intro); refine And.intro rfl ?_) | (refine And.intro ?_ ?_; first | exact rfl | (refine aa (aj h) ?_; (repeat (refine aa (aj h) ?_)); exact ai) | omega) | refine aq ?_ | refine au ?_)
  refine aZ.2 ⟨fun e2 => absurd e2 (by omega), fun _ => ?_⟩
  repeat (first | refine bE ?_ | (refine av h ?_; clear h; intro kb M h) | (refine az h ?_; clear h; intro M h) | refine St.to h ?_ | (apply Exists.intro; (repeat apply Exists.intro); refine And.intro rfl ?_) | (refine And.intro ?_ ?_; first | exact rfl | (refine aa (aj h) ?_; (repeat (refine aa (aj h) ?_)); exact ai) | omega) | refine aq ?_ | refine au ?_)
  exact k _ (h.sub (by repeat (first | exact .refl | refine .cons (by repeat (first | exact .here | apply aF.there)) ?_ | apply Sub.drop)))
 rw [if_neg e] at k
 clear e
 refine aZ.2 ⟨fun e => ?_, fun e => ?_⟩
 ·rw [if_pos e] at k
  refine aZ.2 ⟨fun z => ?_, fun z => ?_⟩
  ·rw [if_pos z] at k
   repeat (first | refine bE ?_ | (refine av h ?_; clear h; intro kb M h) | (refine az h ?_; clear h; intro M h) | refine St.to h ?_ | (apply Exists.intro; (repeat apply Exists.intro); refine And.intro rfl ?_) | (refine And.intro ?_ ?_; first | exact rfl | (refine aa (aj h) ?_; (repeat (refine aa (aj h) ?_)); exact ai) | omega) | refine aq ?_ | refine au ?_)
   exact k _ (h.sub (by repeat (first | exact .refl | refine .cons (by repeat (first | exact .here | apply aF.there)) ?_ | apply Sub.drop)))
  rw [if_neg z] at k
  repeat (first | refine bE ?_ | (refine av h ?_; clear h; intro kb M h) | (refine az h ?_; clear h; intro M h) | refine St.to h ?_ | (apply Exists.intro; (repeat apply Exists.intro); refine And.intro rfl ?_) | (refine And.intro ?_ ?_; first | exact rfl | (refine aa (aj h) ?_; (repeat (refine aa (aj h) ?_)); exact ai) | omega) | refine aq ?_ | refine au ?_)
  refine aP.2 ⟨fun _ => ?_, fun e2 => absurd (show aH o 23 < 15 by omega) e2⟩
  repeat (first | refine bE ?_ | (refine av h ?_; clear h; intro kb M h) | (refine az h ?_; clear h; intro M h) | refine St.to h ?_ | (apply Exists.intro; (repeat apply Exists.intro); refine And.intro rfl ?_) | (refine And.intro ?_ ?_; first | exact rfl | (refine aa (aj h) ?_; (repeat (refine aa (aj h) ?_)); exact ai) | omega) | refine aq ?_ | refine au ?_)
  refine aZ.2 ⟨fun _ => ?_, fun e2 => absurd e e2⟩
  repeat (first | refine bE ?_ | (refine av h ?_; clear h; intro kb M h) | (refine az h ?_; clear h; intro M h) | refine St.to h ?_ | (apply Exists.intro; (repeat apply Exists.intro); refine And.intro rfl ?_) | (refine And.intro ?_ ?_; first | exact rfl | (refine aa (aj h) ?_; (repeat (refine aa (aj h) ?_)); exact ai) | omega) | refine aq ?_ | refine au ?_)
  exact k _ (h.sub (by repeat (first | exact .refl | refine .cons (by repeat (first | exact .here | apply aF.there)) ?_ | apply Sub.drop)))
 rw [if_neg e] at k
 clear e
 refine aZ.2 ⟨fun e => ?_, fun e => ?_⟩
 ·rw [if_pos e] at k
  refine aZ.2 ⟨fun z => ?_, fun z => ?_⟩
  ·rw [if_pos z] at k
   repeat (first | refine bE ?_ | (refine av h ?_; clear h; intro kb M h) | (refine az h ?_; clear h; intro M h) | refine St.to h ?_ | (apply Exists.intro; (repeat apply Exists.intro); refine And.intro rfl ?_) | (refine And.intro ?_ ?_; first | exact rfl | (refine aa (aj h) ?_; (repeat (refine aa (aj h) ?_)); exact ai) | omega) | refine aq ?_ | refine au ?_)
   exact k _ (h.sub (by repeat (first | exact .refl | refine .cons (by repeat (first | exact .here | apply aF.there)) ?_ | apply Sub.drop)))
  rw [if_neg z] at k
  repeat (first | refine bE ?_ | (refine av h ?_; clear h; intro kb M h) | (refine az h ?_; clear h; intro M h) | refine St.to h ?_ | (apply Exists.intro; (repeat apply Exists.intro); refine And.intro rfl ?_) | (refine And.intro ?_ ?_; first | exact rfl | (refine aa (aj h) ?_; (repeat (refine aa (aj h) ?_)); exact ai) | omega) | refine aq ?_ | refine au ?_)
  refine aP.2 ⟨fun e2 => absurd e2 (by omega), fun _ => ?_⟩
  repeat (first | refine bE ?_ | (refine av h ?_; clear h; intro kb M h) | (refine az h ?_; clear h; intro M h) | refine St.to h ?_ | (apply Exists.intro; (repeat apply Exists.intro); refine And.intro rfl ?_) | (refine And.intro ?_ ?_; first | exact rfl | (refine aa (aj h) ?_; (repeat (refine aa (aj h) ?_)); exact ai) | omega) | refine aq ?_ | refine au ?_)
  refine aZ.2 ⟨fun e2 => absurd e2 (by omega), fun _ => ?_⟩
  repeat (first | refine bE ?_ | (refine av h ?_; clear h; intro kb M h) | (refine az h ?_; clear h; intro M h) | refine St.to h ?_ | (apply Exists.intro; (repeat apply Exists.intro); refine And.intro rfl ?_) | (refine And.intro ?_ ?_; first | exact rfl | (refine aa (aj h) ?_; (repeat (refine aa (aj h) ?_)); exact ai) | omega) | refine aq ?_ | refine au ?_)
  exact k _ (h.sub (by repeat (first | exact .refl | refine .cons (by repeat (first | exact .here | apply aF.there)) ?_ | apply Sub.drop)))
 rw [if_neg e] at k
 clear e
 refine aZ.2 ⟨fun e => ?_, fun e => ?_⟩
 ·rw [if_pos e] at k
  refine aZ.2 ⟨fun z => ?_, fun z => ?_⟩
  ·rw [if_pos z] at k
   repeat (first | refine bE ?_ | (refine av h ?_; clear h; intro kb M h) | (refine az h ?_; clear h; intro M h) | refine St.to h ?_ | (apply Exists.intro; (repeat apply Exists.intro); refine And.intro rfl ?_) | (refine And.intro ?_ ?_; first | exact rfl | (refine aa (aj h) ?_; (repeat (refine aa (aj h) ?_)); exact ai) | omega) | refine aq ?_ | refine au ?_)
   exact k _ (h.sub (by repeat (first | exact .refl | refine .cons (by repeat (first | exact .here | apply aF.there)) ?_ | apply Sub.drop)))
  rw [if_neg z] at k
  obtain ⟨e1, e2⟩ := as_ z
  repeat (first | refine bE ?_ | (refine av h ?_; clear h; intro kb M h) | (refine az h ?_; clear h; intro M h) | refine St.to h ?_ | (apply Exists.intro; (repeat apply Exists.intro); refine And.intro rfl ?_) | (refine And.intro ?_ ?_; first | exact rfl | (refine aa (aj h) ?_; (repeat (refine aa (aj h) ?_)); exact ai) | omega) | refine aq ?_ | refine au ?_)
  rw [e1]
  repeat (first | refine bE ?_ | (refine av h ?_; clear h; intro kb M h) | (refine az h ?_; clear h; intro M h) | refine St.to h ?_ | (apply Exists.intro; (repeat apply Exists.intro); refine And.intro rfl ?_) | (refine And.intro ?_ ?_; first | exact rfl | (refine aa (aj h) ?_; (repeat (refine aa (aj h) ?_)); exact ai) | omega) | refine aq ?_ | refine au ?_)
  rw [e2]
  repeat (first | refine bE ?_ | (refine av h ?_; clear h; intro kb M h) | (refine az h ?_; clear h; intro M h) | refine St.to h ?_ | (apply Exists.intro; (repeat apply Exists.intro); refine And.intro rfl ?_) | (refine And.intro ?_ ?_; first | exact rfl | (refine aa (aj h) ?_; (repeat (refine aa (aj h) ?_)); exact ai) | omega) | refine aq ?_ | refine au ?_)
  exact k _ (h.sub (by repeat (first | exact .refl | refine .cons (by repeat (first | exact .here | apply aF.there)) ?_ | apply Sub.drop)))
 rw [if_neg e] at k
 clear e
 refine aZ.2 ⟨fun e => ?_, fun e => ?_⟩
 ·rw [if_pos e] at k
  repeat (first | refine bE ?_ | (refine av h ?_; clear h; intro kb M h) | (refine az h ?_; clear h; intro M h) | refine St.to h ?_ | (apply Exists.intro; (repeat apply Exists.intro); refine And.intro rfl ?_) | (refine And.intro ?_ ?_; first | exact rfl | (refine aa (aj h) ?_; (repeat (refine aa (aj h) ?_)); exact ai) | omega) | refine aq ?_ | refine au ?_)
  refine aZ.2 ⟨fun z => ?_, fun z => ?_⟩
  ·rw [if_pos z] at k
   repeat (first | refine bE ?_ | (refine av h ?_; clear h; intro kb M h) | (refine az h ?_; clear h; intro M h) | refine St.to h ?_ | (apply Exists.intro; (repeat apply Exists.intro); refine And.intro rfl ?_) | (refine And.intro ?_ ?_; first | exact rfl | (refine aa (aj h) ?_; (repeat (refine aa (aj h) ?_)); exact ai) | omega) | refine aq ?_ | refine au ?_)
   exact k _ (h.sub (by repeat (first | exact .refl | refine .cons (by repeat (first | exact .here | apply aF.there)) ?_ | apply Sub.drop)))
  rw [if_neg z] at k
  repeat (first | refine bE ?_ | (refine av h ?_; clear h; intro kb M h) | (refine az h ?_; clear h; intro M h) | refine St.to h ?_ | (apply Exists.intro; (repeat apply Exists.intro); refine And.intro rfl ?_) | (refine And.intro ?_ ?_; first | exact rfl | (refine aa (aj h) ?_; (repeat (refine aa (aj h) ?_)); exact ai) | omega) | refine aq ?_ | refine au ?_)
  exact k _ (h.sub (by repeat (first | exact .refl | refine .cons (by repeat (first | exact .here | apply aF.there)) ?_ | apply Sub.drop)))
 rw [if_neg e] at k
 clear e
 refine aZ.2 ⟨fun e => ?_, fun e => ?_⟩
 ·rw [if_pos e] at k
  repeat (first | refine bE ?_ | (refine av h ?_; clear h; intro kb M h) | (refine az h ?_; clear h; intro M h) | refine St.to h ?_ | (apply Exists.intro; (repeat apply Exists.intro); refine And.intro rfl ?_) | (refine And.intro ?_ ?_; first | exact rfl | (refine aa (aj h) ?_; (repeat (refine aa (aj h) ?_)); exact ai) | omega) | refine aq ?_ | refine au ?_)
  refine aZ.2 ⟨fun z => ?_, fun z => ?_⟩
  ·rw [if_pos z] at k
   repeat (first | refine bE ?_ | (refine av h ?_; clear h; intro kb M h) | (refine az h ?_; clear h; intro M h) | refine St.to h ?_ | (apply Exists.intro; (repeat apply Exists.intro); refine And.intro rfl ?_) | (refine And.intro ?_ ?_; first | exact rfl | (refine aa (aj h) ?_; (repeat (refine aa (aj h) ?_)); exact ai) | omega) | refine aq ?_ | refine au ?_)
   exact k _ (h.sub (by repeat (first | exact .refl | refine .cons (by repeat (first | exact .here | apply aF.there)) ?_ | apply Sub.drop)))
  rw [if_neg z] at k
  repeat (first | refine bE ?_ | (refine av h ?_; clear h; intro kb M h) | (refine az h ?_; clear h; intro M h) | refine St.to h ?_ | (apply Exists.intro; (repeat apply Exists.intro); refine And.intro rfl ?_) | (refine And.intro ?_ ?_; first | exact rfl | (refine aa (aj h) ?_; (repeat (refine aa (aj h) ?_)); exact ai) | omega) | refine aq ?_ | refine au ?_)
  exact k _ (h.sub (by repeat (first | exact .refl | refine .cons (by repeat (first | exact .here | apply aF.there)) ?_ | apply Sub.drop)))
 rw [if_neg e] at k
 clear e
 refine aZ.2 ⟨fun e => ?_, fun e => ?_⟩
 ·rw [if_pos e] at k
  repeat (first | refine bE ?_ | (refine av h ?_; clear h; intro kb M h) | (refine az h ?_; clear h; intro M h) | refine St.to h ?_ | (apply Exists.intro; (repeat apply Exists.intro); refine And.intro rfl ?_) | (refine And.intro ?_ ?_; first | exact rfl | (refine aa (aj h) ?_; (repeat (refine aa (aj h) ?_)); exact ai) | omega) | refine aq ?_ | refine au ?_)
  rw [YO]
  exact k _ (h.sub (by repeat (first | exact .refl | refine .cons (by repeat (first | exact .here | apply aF.there)) ?_ | apply Sub.drop)))
 rw [if_neg e] at k
 clear e
 refine aZ.2 ⟨fun e => ?_, fun e => ?_⟩
 ·rw [if_pos e] at k
  repeat (first | refine bE ?_ | (refine av h ?_; clear h; intro kb M h) | (refine az h ?_; clear h; intro M h) | refine St.to h ?_ | (apply Exists.intro; (repeat apply Exists.intro); refine And.intro rfl ?_) | (refine And.intro ?_ ?_; first | exact rfl | (refine aa (aj h) ?_; (repeat (refine aa (aj h) ?_)); exact ai) | omega) | refine aq ?_ | refine au ?_)
  exact k _ (h.sub (by repeat (first | exact .refl | refine .cons (by repeat (first | exact .here | apply aF.there)) ?_ | apply Sub.drop)))
 rw [if_neg e] at k
 clear e
 repeat (first | refine bE ?_ | (refine av h ?_; clear h; intro kb M h) | (refine az h ?_; clear h; intro M h) | refine St.to h ?_ | (apply Exists.intro; (repeat apply Exists.intro); refine And.intro rfl ?_) | (refine And.intro ?_ ?_; first | exact rfl | (refine aa (aj h) ?_; (repeat (refine aa (aj h) ?_)); exact ai) | omega) | refine aq ?_ | refine au ?_)
 exact k _ (h.sub (by repeat (first | exact .refl | refine .cons (by repeat (first | exact .here | apply aF.there)) ?_ | apply Sub.drop)))
end
end Go.Proofs
