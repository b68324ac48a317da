/- A part of proofs about one program. -/
import Derived.ChangeArms
import Derived.Deep.Slices
import Derived.OpenShut
import Derived.Scope
import Derived.Test.YtfjgcljdnhkmaaaGreatProg
import Derived.WalkKit
import Derived.Test.YtfjgcljdnhkmaaaGreatZSchedAgainBase
import Derived.Test.YtfjgcljdnhkmaaaGreatZSchedAgainOps
import Derived.Test.YtfjgcljdnhkmaaaGreatZSchedAgainOpsB
import Derived.Test.YtfjgcljdnhkmaaaGreatZSchedAgainOpC
import Derived.Test.YtfjgcljdnhkmaaaGreatZSchedAgainFrame
import Derived.Test.YtfjgcljdnhkmaaaGreatZSchedAgainReg
import Derived.Test.YtfjgcljdnhkmaaaGreatZSchedAgainRegB
import Derived.Test.YtfjgcljdnhkmaaaGreatZSchedAgainRegL
import Derived.Test.YtfjgcljdnhkmaaaGreatZSchedAgainRegC
import Derived.Test.YtfjgcljdnhkmaaaGreatZSchedAgainExec
import Derived.Test.YtfjgcljdnhkmaaaGreatZSchedAgainSound
import Derived.Test.YtfjgcljdnhkmaaaGreatZSchedAgainSoundB
import Derived.Test.YtfjgcljdnhkmaaaGreatZSchedAgainLib
import Derived.Test.YtfjgcljdnhkmaaaGreatZSchedAgainHp
import Derived.Test.YtfjgcljdnhkmaaaGreatZSchedAgainRow
import Derived.Test.YtfjgcljdnhkmaaaGreatZSchedAgainBig
import Derived.Test.YtfjgcljdnhkmaaaGreatZSchedAgainStC
import Derived.Test.YtfjgcljdnhkmaaaGreatZSchedAgainMod
import Derived.Test.YtfjgcljdnhkmaaaGreatZSchedAgainOpen
import Derived.Test.YtfjgcljdnhkmaaaGreatZSchedAgainArgs
import Derived.Test.YtfjgcljdnhkmaaaGreatZSchedAgainAgg
import Derived.Test.YtfjgcljdnhkmaaaGreatZSchedAgain0
import Derived.Test.YtfjgcljdnhkmaaaGreatZSchedAgain1
set_option linter.unusedVariables false
namespace Go.AF
theorem Jy {p q : Prop} [Decidable p] [Decidable q] {X Y : Prop} (hy : Y) (hx : p → q → X) : aV (decide p) (aV (decide q) X Y) Y := by
 by_cases hp : p
 ·by_cases hq : q
  ·simp only [hp, hq, decide_true]; exact ai (ai (hx hp hq))
  ·simp only [hp, hq, decide_true, decide_false]; exact ai (aj hy)
 ·simp only [hp, decide_false]; exact aj hy
theorem wn {z : Int} {n : Nat} (e : z = (n : Int)) (h : n < 9223372036854775808) : IntKind.wrap .i64 z = (n : Int) := by rw [e]; exact mR h
theorem Src.row {α : Type} {E : gp α} {R : Mem} {L L' : List HP} {A : Option Addr} {T c : Nat} {l : List α} [hp : cL A L α E T c l L'] : Src R L A (E.cells l) := fun M h => h.src (A := A) M h
theorem Src.Wy {R : Mem} {L : List HP} {A : Option Addr} {c : Nat} {l : List Int} (hs : Src R L A (bl.cells l)) (hc : l.length ≤ c) (q : Nat) : Src R L (lM A 0 c 1) (bl.cells (l.take q)) := by
 have := (hs.drop (m := 0) (c := c) hc).SM q
 rw [List.drop_zero] at this
 exact this
theorem Src.Rn {R : Mem} {L : List HP} {A : Option Addr} {c : Nat} {l : List Int} (hs : Src R L A (bl.cells l)) (hc : l.length ≤ c) (q : Nat) : Src R L (lM A q c 1) (bl.cells (l.drop q)) := hs.drop hc
end Go.AF
namespace Go.AF
abbrev AL := List (Int × Value)
def dK : Nat → AL → List MapEntry
 | _, [] => []
 | i, (k, v) :: l => ⟨.int .i64 k, v, i⟩ :: dK (i + 1) l
def dY (l : AL) : Obj := .map (dK 0 l).toArray l.length
def oh (k : Int) : AL → Nat → Option (Nat × Value)
 | [], _ => none
 | (k', v) :: l, i => if k = k' then some (i, v) else oh k l (i + 1)
def zL (l : AL) (k : Int) : Option Value := (oh k l 0).map (·.2)
def HR (l : AL) (k : Int) (v : Value) : AL := match oh k l 0 with
 | some (i, _) => l.set i (k, v)
 | none => l ++ [(k, v)]
theorem uS {kd : IntKind} (k : Int) : ∀ (l : AL) (i b : Nat), Instr.findNow (.int kd) (.int .i64 k) (dK b l) i = some (oh k l i)
 | [], _, _ => rfl
 | (k', v) :: l, i, b => by
  simp only [dK, Instr.findNow, Instr.sameNow, if_true, oh]
  by_cases h : k = k'
  ·simp [h]
  ·have : (k == k') = false := by simp [h]
   rw [this, if_neg h]
   exact uS k l (i + 1) (b + 1)
theorem Jz {k : Int} : ∀ {l : AL} {i j : Nat} {v : Value}, oh k l i = some (j, v) → i ≤ j ∧ l[j - i]? = some (k, v)
 | [], _, _, _, h => by simp [oh] at h
 | (k', v') :: l, i, j, v, h => by
  simp only [oh] at h
  split at h
  ·rename_i e; cases h; subst e; exact ⟨Nat.le_refl _, by simp⟩
  ·obtain ⟨h1, h2⟩ := Jz h
   refine ⟨by omega, ?_⟩
   rw [show j - i = (j - (i + 1)) + 1 from by omega, List.getElem?_cons_succ]; exact h2
theorem JA : ∀ {l : AL} {i b : Nat} {k : Int} {v : Value}, l[i]? = some (k, v) → (dK b l)[i]? = some ⟨.int .i64 k, v, b + i⟩
 | [], _, _, _, _, h => by simp at h
 | (k', v') :: l, 0, b, k, v, h => by simp at h; obtain ⟨rfl, rfl⟩ := h; rfl
 | (k', v') :: l, i + 1, b, k, v, h => by
  have := JA (b := b + 1) (show l[i]? = some (k, v) from by simpa using h)
  simp only [dK, List.getElem?_cons_succ, this]
  congr 2; omega
theorem Fl : ∀ {l : AL} {i b : Nat} {k : Int} {v w : Value}, l[i]? = some (k, w) → (dK b l).modify i (fun e => { e with key := .int .i64 k, val := v }) = dK b (l.set i (k, v))
 | [], _, _, _, _, _, h => by simp at h
 | (k', v') :: l, 0, b, k, v, w, h => by simp at h; obtain ⟨rfl, rfl⟩ := h; rfl
 | (k', v') :: l, i + 1, b, k, v, w, h => by
  have := Fl (b := b + 1) (v := v) (show l[i]? = some (k, w) from by simpa using h)
  simp only [dK, List.modify_succ_cons, List.set_cons_succ, this]
theorem Fm : ∀ (l m : AL) (b : Nat), dK b (l ++ m) = dK b l ++ dK (b + l.length) m
 | [], m, b => by simp [dK]
 | (k, v) :: l, m, b => by simp only [List.cons_append, dK, Fm l m (b + 1), List.length_cons]; congr 3; omega
def lX : AL → Int → Option Value
 | [], _ => none
 | (k', v) :: l, k => if k = k' then some v else lX l k
def sH : AL → Int → Value → AL
 | [], k, v => [(k, v)]
 | (k', w) :: l, k, v => if k = k' then (k, v) :: l else (k', w) :: sH l k v
theorem Fo (k : Int) : ∀ (l : AL) (i : Nat), (oh k l i).map (·.2) = lX l k
 | [], _ => rfl
 | (k', v) :: l, i => by
  simp only [oh, lX]
  split
  ·rfl
  ·exact Fo k l (i + 1)
theorem JB (l : AL) (k : Int) : zL l k = lX l k := Fo k l 0
theorem zM (k : Int) : ∀ (l : AL) (i j : Nat), oh k l (i + j) = (oh k l i).map fun x => (x.1 + j, x.2)
 | [], _, _ => rfl
 | (k', v) :: l, i, j => by
  simp only [oh]
  split
  ·rfl
  ·rw [show i + j + 1 = (i + 1) + j from by omega]; exact zM k l (i + 1) j
theorem JC (k : Int) (v : Value) : ∀ (l : AL), HR l k v = sH l k v
 | [] => rfl
 | (k', w) :: l => by
  have ih := JC k v l
  unfold HR at ih ⊢
  simp only [oh, sH]
  by_cases h : k = k'
  ·rw [if_pos h, if_pos h]; rfl
  ·rw [if_neg h, if_neg h]
   have := zM k l 0 1
   rw [this]
   cases ha : oh k l 0 with
   | none => rw [ha] at ih; simp only [Option.map_none]; rw [← ih]; rfl
   | some x => obtain ⟨i, u⟩ := x; rw [ha] at ih; simp only [Option.map_some, List.set_cons_succ]; rw [← ih]
theorem Ce (k k' : Int) (v : Value) : ∀ (l : AL), lX (sH l k v) k' = if k' = k then some v else lX l k'
 | [] => by simp only [sH, lX]
 | (q, w) :: l => by
  have ih := Ce k k' v l
  simp only [sH]
  by_cases h : k = q
  ·subst h
   rw [if_pos rfl]
   simp only [lX]
   by_cases h2 : k' = k
   ·rw [if_pos h2, if_pos h2]
   ·rw [if_neg h2, if_neg h2, if_neg h2]
  ·rw [if_neg h]
   simp only [lX, ih]
   by_cases h2 : k' = q
   ·rw [if_pos h2]
    rw [if_neg (by rw [h2]; exact Ne.symm h)]
    rw [if_pos h2]
   ·rw [if_neg h2]
    by_cases h3 : k' = k
    ·rw [if_pos h3, if_pos h3]
    ·rw [if_neg h3, if_neg h3, if_neg h2]
theorem Cf {k : Int} : ∀ {l : AL}, lX l k = none ↔ k ∉ l.map (·.1)
 | [] => by simp [lX]
 | (q, w) :: l => by
  have ih := Cf (k := k) (l := l)
  simp only [lX, List.map_cons, List.mem_cons, not_or]
  by_cases h : k = q
  ·rw [if_pos h]; simp [h]
  ·rw [if_neg h]; simp [h, ih]
theorem Cg (k : Int) (v : Value) : ∀ (l : AL), (sH l k v).map (·.1) = if k ∈ l.map (·.1) then l.map (·.1) else l.map (·.1) ++ [k]
 | [] => by simp [sH]
 | (q, w) :: l => by
  have ih := Cg k v l
  simp only [sH]
  by_cases h : k = q
  ·subst h; rw [if_pos rfl, if_pos (by simp)]; simp
  ·rw [if_neg h, List.map_cons, ih]
   by_cases h2 : k ∈ l.map (·.1)
   ·rw [if_pos h2, if_pos (by simp only [List.map_cons, List.mem_cons]; exact .inr h2)]; rfl
   ·rw [if_neg h2, if_neg (by simp only [List.map_cons, List.mem_cons, not_or]; exact ⟨h, h2⟩)]; simp
theorem HS {k : Int} {v : Value} {l : AL} (h : (l.map (·.1)).Nodup) : ((sH l k v).map (·.1)).Nodup := by
 rw [Cg]
 split
 ·exact h
 ·rename_i hn
  rw [List.nodup_append]
  refine ⟨h, by simp, fun a ha b hb => ?_⟩
  simp only [List.mem_singleton] at hb
  subst hb
  rintro rfl
  exact hn ha
def Ch (l : AL) (seen : List Int) : Prop := (l.map (·.1)).Nodup ∧ ∀ v, lX l v = if seen.count v = 0 then none else some (.int .i64 (seen.count v : Int))
theorem Ch.nil : Ch [] [] := ⟨by simp, fun v => by simp [lX]⟩
theorem Ch.get {l : AL} {seen : List Int} (h : Ch l seen) (v : Int) : (zL l v).getD (.int .i64 0) = .int .i64 (seen.count v : Int) := by
 rw [JB, h.2 v]; split
 ·rename_i e; rw [e]; rfl
 ·rfl
theorem Ch.step {l : AL} {seen : List Int} (h : Ch l seen) (v : Int) : Ch (HR l v (.int .i64 ((seen.count v + 1 : Nat) : Int))) (seen ++ [v]) := by
 rw [JC]
 refine ⟨HS h.1, fun w => ?_⟩
 rw [Ce, h.2 w, List.count_append]
 by_cases hw : w = v
 ·subst hw; simp
 ·rw [if_neg hw]
  have : [v].count w = 0 := by rw [List.count_eq_zero]; simp [hw]
  rw [this, Nat.add_zero]
section
variable {R : Mem} {L L' : List HP} {M : Mem} {P : Program} {t kt et : TypeId} {r : Nat} {l : AL} {k : Int} {kd : IntKind}
class Bs (b : Nat) (L : List HP) (o : outParam Obj) (L' : outParam (List HP)) : Prop where
 pick : de L (ob b o) L'
instance Bs.here {b : Nat} {o : Obj} {L : List HP} : Bs b (ob b o :: L) o L := ⟨.here⟩
instance (priority := low) Bs.there {b : Nat} {o : Obj} {Q : HP} {L L' : List HP} [h : Bs b L o L'] : Bs b (Q :: L) o (Q :: L') := ⟨.there h.pick⟩
theorem qn {P : Program} {M : Mem} {b : Bool} (hk : P.underlying kt = some (.int kd)) : bQ P (Instr.checkKey b 10000 kt (.int .i64 k)) M = some () := by
 unfold Instr.checkKey
 rw [aW, aM hk]; rfl
theorem tG {P : Program} {M : Mem} (hk : P.underlying kt = some (.int kd)) : bQ P (Instr.findKey kt (.int .i64 k) (dK 0 l)) M = some (oh k l 0) := by
 unfold Instr.findKey
 rw [aW, aM hk, Option.bind_some, uS]; rfl
theorem tH {P : Program} {α : Type} {M : Mem} {r : Nat} {l : AL} {f : Obj → Sem α} {K : α → Mem → Prop} {Kp : Value → Mem → Prop} (hb : M r = some (dY l)) (h : ej P (f (dY l)) M K Kp) : ej P (getObj r >>= f) M K Kp := by
 refine gr P _ _ ?_
 unfold getObj
 simp only [ej, hb, dY]
 exact h
theorem uT {z : Value} {i : TypeInfo} {K : Value → Mem → Prop} {Kp : List PanicEntry → Mem → Prop} (h : Hp R L M) [p : Bs r L (dY l) L'] (hu : P.underlying t = some (.map kt et)) (hk : P.underlying kt = some (.int kd)) (hi : P.info? et = some i) (hz : i.zero = some z)
  (g : K ((zL l k).getD z) M) : aS P (Instr.lookup t (.map (some r)) (.int .i64 k) false) M K Kp := by
 have hb : M r = some (dY l) := (h.pick p.pick).Nf
 unfold aS Instr.lookup
 refine bt (aM hu M) ?_
 simp only
 refine gr P _ _ ?_
 refine tH hb ?_
 simp only [dY]
 refine bt (x := ()) (qn hk) ?_
 refine bt (tG hk) ?_
 unfold zL at g
 cases ha : oh k l 0 with
 | none =>
  rw [ha] at g
  simp only
  have hz0 : bQ P (zeroValue et) M = some z := by rw [kQ]; simp [zeroOf, hi, hz]
  refine bt hz0 ?_
  refine bt (x := (z, false)) rfl ?_
  exact g
 | some x =>
  rw [ha] at g
  exact g
theorem lY {v : Value} {K : Mem → Prop} {Kp : List PanicEntry → Mem → Prop} (h : Hp R L M) [p : Bs r L (dY l) L'] (hu : P.underlying t = some (.map kt et)) (hk : P.underlying kt = some (.int kd))
  (g : ∀ M', Hp R (ob r (dY (HR l k v)) :: L') M' → K M') : bJ P (Instr.mapUpdate t (.map (some r)) (.int .i64 k) v) M K Kp := by
 have h1 := h.pick p.pick
 have hb : M r = some (dY l) := h1.Nf
 have fin : ∀ o, o = dY (HR l k v) → K (M.set r o) := fun o e => by
  subst e
  exact g _ (h1.set (x := dY l) (fun A ha => by unfold ob at ha; exact ha) fun A ha => by unfold ob; exact eW)
 unfold bJ Instr.mapUpdate
 refine bt (aM hu M) ?_
 simp only
 refine tH hb ?_
 simp only [dY]
 refine bt (x := ()) (qn hk) ?_
 refine bt (tG hk) ?_
 have zN : ∀ o : Obj, K (M.set r o) → ej P (setObj r o) M (fun _ => K) (fun v M' => Kp [{ v, recovered := false }] M') := fun o hK => by
  unfold setObj
  simp only [ej, hb, dY]
  exact hK
 cases ha : oh k l 0 with
 | none =>
  simp only
  refine zN _ (fin _ ?_)
  unfold HR dY
  rw [ha]
  simp only [List.push_toArray, List.length_append, List.length_singleton]
  rw [Fm]; simp [dK]
 | some x =>
  obtain ⟨i, w⟩ := x
  obtain ⟨_, hw⟩ := Jz ha
  rw [Nat.sub_zero] at hw
  simp only
  have he := JA (b := 0) hw
  refine bt (x := Value.int .i64 k) ?_ ?_
  ·have : (((dK 0 l).toArray[i]?).map (·.key)).getD (.int .i64 k) = .int .i64 k := by simp [he]
   rw [this]
   unfold Instr.keyThatStays
   simp [Instr.sameBits]; rfl
  ·refine zN _ (fin _ ?_)
   unfold HR dY
   rw [ha]
   simp only [List.length_set]
   rw [← Fl (v := v) hw]
   simp [List.modify_toArray]
theorem zO {seen xs : List Int} {A : Option Addr} {m : Nat} {i : TypeInfo} {ZP : Mem → Prop} {Kp : List PanicEntry → Mem → Prop} (h : Hp R (ob r (dY l) :: L) M) (hA : Src R L A (bl.cells xs)) (hm : m = xs.length) (hc : Ch l seen) (hs : seen.length + xs.length ≤ 1000000000)
  (hu : P.underlying t = some (.map kt et)) (hk : P.underlying kt = some (.int kd)) (hi : P.info? et = some i) (hz : i.zero = some (.int .i64 0))
  (k : ∀ l' M', Ch l' (seen ++ xs) → Hp R (ob r (dY l') :: L) M' → ZP M') :
  ∃ I : Nat → List Value → Mem → Prop, (∃ k2 : Nat, I k2 [.int .i64 0] M) ∧ ∀ k3 : Nat, ∀ Qx : Nat → Value, ∀ n : Int, ∀ M8 : Mem, (I k3 [.int .i64 n] M8) → aV (decide ((n : Int) < ((m : Nat) : Int)))
   (((0 : Int) ≤ n) ∧ ((n : Int) < ((m : Nat) : Int)) ∧ aG A fun kb ko => aK (Mem.ld M8 ⟨kb, (ko + (Int.toNat n)), none⟩) .i64 fun Ea =>
    aS P (Go.Instr.lookup t (.map (some r)) (.int .i64 Ea) false) M8 (fun Te lW => aK (some Te) .i64 fun E7 =>
    bJ P (Go.Instr.mapUpdate t (.map (some r)) (.int .i64 Ea) (.int .i64 (IntKind.wrap .i64 (E7 + 1)))) lW (fun qR => ∃ E8 : Nat, (E8 < k3) ∧ I E8 [.int .i64 (IntKind.wrap .i64 (n + 1))] qR) Kp) Kp)
   (ZP M8) := by
 subst hm
 refine ⟨fun d ws M => ∃ (i : Nat) (l' : AL), ws = [.int .i64 (i : Int)] ∧ d = xs.length - i ∧ i ≤ xs.length ∧ Ch l' (seen ++ xs.take i) ∧ Hp R (ob r (dY l') :: L) M, ⟨_, 0, l, rfl, rfl, by omega, by simpa using hc, h⟩, ?_⟩
 clear h hc
 rintro d _ ii M ⟨i, l', he, hd, Mu, hc, h⟩
 simp only [List.cons.injEq, Value.int.injEq, and_true, true_and] at he
 subst he
 refine aP.2 ⟨fun hlt => ?_, fun hge => ?_⟩
 ·obtain ⟨w, hw⟩ := aR (l := xs) (i := i) (by omega)
  obtain ⟨b, o, rfl⟩ := hA.cons.kY h (by omega) (by decide)
  refine ⟨by omega, hlt, br ?_⟩
  simp only [Int.toNat_natCast]
  refine aZ (Src.at hA.cons h (i := i) (j := 0) hw rfl (by simp [bl])) ?_
  refine uT h hu hk hi hz ?_
  rw [hc.get]
  refine ck ?_
  have Qc : (seen ++ xs.take i).count w ≤ seen.length + i := by
   refine Nat.le_trans List.count_le_length ?_
   rw [List.length_append, List.length_take]; omega
  rw [aU (by omega), aU (by omega)]
  refine lY h hu hk fun M' h' => ?_
  refine ⟨xs.length - (i + 1), by omega, i + 1, _, rfl, rfl, by omega, ?_, h'⟩
  rw [cC hw, ← List.append_assoc]
  exact hc.step w
 ·obtain rfl : i = xs.length := by omega
  rw [List.take_length] at hc
  exact k _ _ hc h
end
end Go.AF
namespace Go.AF
theorem DG {P : Program} {t t' e ty : TypeId} {i : TypeInfo} {zv : Value} {A B : Option Addr} {n c m d : Nat} {l r : List Value} {M : Mem} {K : Value → Mem → Prop} {Kp : List PanicEntry → Mem → Prop}
  (hu : P.underlying t = some (.slice e)) (SG : P.underlying t' = some (.slice e)) (hi : P.info? e = some i) (hz : i.zero = some zv) (hs : zv.cells.size = i.size)
  (Xz : Sl M A l) (hl : l.length = n * i.size) (hr : Sl M B r) (kK : r.length = m * i.size) (hc : c < n + m) (hb : (n + m) * i.bytes ≤ 140737488355328) (hby : 0 < i.bytes)
  (h : ∀ k c' M', M k = none → tT M' i.size e (some ⟨k, 0, none⟩) (n + m) c' (l ++ r) → nI [] M M' → K (.slice (some ⟨k, 0, none⟩) (n + m) c') M') :
  aS P (Builtin.append_ #[t, t'] ty #[.slice A n c, .slice B m d]) M K Kp := by
 unfold aS Builtin.append_
 simp only [List.getElem?_toArray, List.getElem?_cons_zero, List.getElem?_cons_succ]
 refine bt (aM hu M) ?_
 simp only
 refine bt (fL hi M) ?_
 refine bt (aM SG M) ?_
 refine bt (x := false) rfl ?_
 refine bt (x := m) rfl ?_
 simp only [Bool.not_false, if_true]
 rw [if_neg (by omega)]
 refine bt (cH hi M) ?_
 rw [if_neg (by simp; omega)]
 refine bt (cH hi M) ?_
 rw [if_neg (by have := growslice_fits (need := n + m) (old := c) (bytes := i.bytes) (by omega) hb; omega)]
 show ∀ q, _
 intro q
 have hcap : n + m ≤ Question.cut (.appendCap (n + m) c e) q := by simp only [Question.cut]; omega
 generalize Question.cut (.appendCap (n + m) c e) q = nc at hcap
 refine bt (x := nc) rfl ?_
 refine bt (cH hi M) ?_
 refine gr P _ _ ?_
 have room : ∀ (X : Prop) , X → ej P (askRoom (nc * i.bytes)) M (fun _ M' => M' = M) (fun _ _ => False) := by
  intro X _
  unfold askRoom
  split
  ·exact rfl
  ·exact rfl
 refine iE P _ (room True trivial) (fun _ M' hM' => ?_) (fun _ _ hf => hf.elim)
 subst hM'
 refine bt (g7 Xz hl) ?_
 refine bt (g7 hr kK) ?_
 refine bt (x := zv) (by rw [kQ]; simp [zeroOf, hi, hz]) ?_
 intro k hk
 refine h k nc _ hk ⟨by rw [List.length_append, hl, kK, Nat.add_mul], .inr ⟨k, _, rfl, eW, ?_, hcap, fun j hj => ?_⟩⟩ ((nI.refl _ _).set (.inr hk))
 ·simp only [Array.size_append, List.size_toArray, hl, kK]
  have : (Builtin.zeroCells zv.cells (nc - (n + m))).size = (nc - (n + m)) * i.size := by simp [Builtin.zeroCells, hs]
  rw [this, ← Nat.add_mul, ← Nat.add_mul]; congr 1; omega
 ·rw [Nat.add_mul] at hj
  rw [Array.getElem?_append_left (by simp [hl, kK]; omega)]
  simp
theorem Hp.Ro {α : Type} {E : gp α} {R : Mem} {L L' : List HP} {M : Mem} {T : Nat} {P : Program} {t bytes ty d m k n c : Nat} {zero rc : List Value} {A : Option Addr} {l r : List α} {K : Value → Mem → Prop} {Kp : List PanicEntry → Mem → Prop}
  (h : Hp R L M) [hk : jU k L rc T L'] (hA : Src R L A (E.cells l)) (hn : n = l.length) (El : bg P t T E.z bytes zero) (he : rc = E.cells r) (hm : m = r.length) (hc : c < n + m) (hb : (l.length + r.length) * bytes ≤ 140737488355328)
  (g : ∀ b c' M', Hp R (bD E T (some ⟨b, 0, none⟩) c' (l ++ r) :: L') M' → K (.slice (some ⟨b, 0, none⟩) (l ++ r).length c') M') :
  aS P (Builtin.append_ #[t, t] ty #[.slice A n c, .slice (some ⟨k, 0, none⟩) m d]) M K Kp := by
 subst hm; subst he; subst hn
 have hB : Sl M (some ⟨k, 0, none⟩) (E.cells r) := h.Nk hk.pick
 obtain ⟨hu, i, zv, hi, hs, hby, hz, rfl, hl, hpos⟩ := El
 refine DG hu hu hi hz (by rw [hs, ← hl]; simp) (hA M h) (by rw [hs]; exact E.dF) hB (by rw [hs]; exact E.dF) hc (by rw [hby]; exact hb) (by omega) fun b c' M' hbn ho yx => ?_
 have h2 : Hp R (bD E T (some ⟨b, 0, none⟩) c' (l ++ r) :: L) M' := by
  have h3 : Hp R (fact True :: L) M := Hp.fT.2 ⟨trivial, h⟩
  refine h3.change (D := []) (D' := [b]) (fun A hA x hx => by cases hx) yx (fun x hx => by simp only [List.mem_singleton] at hx; subst hx; exact .inr hbn) ?_
  unfold bD own
  rw [List.length_append, E.qM]
  rw [hs] at ho
  have := ho.GV
  simpa [AU] using this
 have := g b c' M' (h2.map fun _ hs => hs.tail fun _ hx => (bZ.pick hk.pick hx).drop)
 rwa [List.length_append] at this
section
variable {R : Mem} {L L' : List HP} {M : Mem} {P : Program} {t kt et : TypeId} {r : Nat} {l : AL} {k : Int} {kd : IntKind}
theorem Ll {z : Value} {i : TypeInfo} {K : Value → Mem → Prop} {Kp : List PanicEntry → Mem → Prop} (h : Hp R L M) [p : Bs r L (dY l) L'] (hu : P.underlying t = some (.map kt et)) (hk : P.underlying kt = some (.int kd)) (hi : P.info? et = some i) (hz : i.zero = some z)
  (g : K (.tuple #[(zL l k).getD z, .bool (zL l k).isSome]) M) : aS P (Instr.lookup t (.map (some r)) (.int .i64 k) true) M K Kp := by
 have hb : M r = some (dY l) := (h.pick p.pick).Nf
 unfold aS Instr.lookup
 refine bt (aM hu M) ?_
 simp only
 refine gr P _ _ ?_
 refine tH hb ?_
 simp only [dY]
 refine bt (x := ()) (qn hk) ?_
 refine bt (tG hk) ?_
 unfold zL at g
 cases ha : oh k l 0 with
 | none =>
  rw [ha] at g
  simp only
  have hz0 : bQ P (zeroValue et) M = some z := by rw [kQ]; simp [zeroOf, hi, hz]
  refine bt hz0 ?_
  refine bt (x := (z, false)) rfl ?_
  exact g
 | some x =>
  rw [ha] at g
  exact g
end
theorem Fp {C : Ctx} {g : Nat} {args : List Value} {M : Mem} {K : Value → Mem → Prop} {Kp : List PanicEntry → Mem → Prop} (hg : 1 < g ∧ g < C.ok) (h : aa C.P g args.toArray M K Kp) : iF C (.func (.func g) #[] #[]) args M K Kp := by
 unfold iF
 simp only
 rw [if_pos hg]
 simpa using h
theorem jq {z : Int} (h0 : 0 ≤ z) (h : z < 9223372036854775807) : IntKind.wrap .i64 (z + 1) = z + 1 := by
 obtain ⟨n, rfl⟩ := Int.eq_ofNat_of_zero_le h0
 have := mR (n := n + 1) (by omega)
 exact_mod_cast this
theorem Hp.HT {α : Type} {E : gp α} {R : Mem} {L : List HP} {M : Mem} {T c : Nat} {A : Option Addr} {l r : List α} {P : Program} {t bytes ty d m : Nat} {zero : List Value} {B : Option Addr} {K : Value → Mem → Prop} {Kp : List PanicEntry → Mem → Prop}
  (h : Hp R (bD E T A c l :: L) M) (El : bg P t T E.z bytes zero) (hr : Sl M B (E.cells r)) (hm : m = r.length) (hb : (l.length + r.length) * bytes ≤ 140737488355328)
  (g : ∀ A' c' M', Hp R (bD E T A' c' (l ++ r) :: L) M' → K (.slice A' (l ++ r).length c') M') :
  aS P (Builtin.append_ #[t, t] ty #[.slice A l.length c, .slice B m d]) M K Kp := by
 subst hm
 have h2 : Hp R (own E.z T A l.length c (E.cells l) :: L) M := by
  have := h; unfold bD at this; exact this
 refine h2.append El hr E.dF E.lS hb fun A' c' M' h => ?_
 have := g A' c' M' (by unfold bD; rw [List.length_append, E.qM]; exact h)
 rwa [List.length_append] at this
theorem Hp.dx {α : Type} {E : gp α} {R : Mem} {L L' nN : List HP} {M : Mem} {T c n : Nat} {A : Option Addr} {l : List α} {P : Program} {t bytes ty k d m : Nat} {zero rc : List Value} {K : Value → Mem → Prop} {Kp : List PanicEntry → Mem → Prop}
  (h : Hp R L M) [ha : cL A L α E T c l L'] [hk : jU k L' rc T nN] (El : bg P t T E.z bytes zero) (r : List α) (he : rc = E.cells r) (hn : n = l.length) (hm : m = r.length) (hb : (l.length + r.length) * bytes ≤ 140737488355328)
  (g : ∀ A' c' M', Hp R (bD E T A' c' (l ++ r) :: nN) M' → K (.slice A' (n + m) c') M') :
  aS P (Builtin.append_ #[t, t] ty #[.slice A n c, .slice (some ⟨k, 0, none⟩) m d]) M K Kp := by
 subst hn
 refine h.bS (A := A) El r he hm hb fun A' c' M' h => ?_
 have := g A' c' M' h
 rwa [hm, ← List.length_append] at this
theorem Ci {C : Ctx} {g : Nat} {caps : Array Value} {args : List Value} {M : Mem} {K : Value → Mem → Prop} {Kp : List PanicEntry → Mem → Prop} (hg : 1 < g ∧ g < C.ok) (h : aa C.P g (args ++ caps.toList).toArray M K Kp) : iF C (.func (.func g) #[] caps) args M K Kp := by
 unfold iF
 simp only
 rw [if_pos hg]
 simpa using h
end Go.AF
namespace Go.Proofs
open Go.AF
set_option maxRecDepth 100000
set_option maxHeartbeats 1000000
attribute [local irreducible] aK cJ fJ bO aD fz aG aO be aS bJ aV
abbrev uU (A : Option Addr) (c : Nat) (l : List gM) : HP := bD jn 234 A c l
theorem OW : bg Tryz.prog 179 234 11 88 (jn.f ⟨0, 0, [], 0⟩) := bg.mk' (zv := .agg #[.int .i64 0, .int .i64 0, .int .i64 0, .int .i64 0, .int .i64 0, .int .i64 0, .int .i64 0, .int .i64 0, .int .i64 0, .int .i64 0, .int .i64 0]) (by kernel_rfl) (by kernel_rfl) rfl (by omega)
theorem gM.set_set {f : gM} {q u v : Int} : (f.set q u).set q v = f.set q v := by
 unfold gM.set
 congr 1
 apply List.map_congr_left
 intro i hi
 by_cases h : i = q.toNat
 ·rw [if_pos h, if_pos h]
 ·rw [if_neg h, if_neg h]
  simp [List.mem_range.1 hi, h]
def insC (x : cI) : List Value := [.int .i64 x.op, .int .i64 x.a, .int .i64 x.b, .int .i64 x.c]
section
variable {R : Mem} {L L' : List HP} {M : Mem} {K : Value → Mem → Prop} {Kp : List PanicEntry → Mem → Prop} {b i c : Nat} {l : List gM} {f : gM} {x : cI}
theorem uV {q : Int} {o : Nat} {G : Int → Prop} (h : Hp R L M) [p : cL (some ⟨b, 0, none⟩) L gM jn 234 c l L'] (hi : l[i]? = some f) (hq : bh q) (e : o = i * 11 + 2 + q.toNat) (g : G (f.bT q)) : aK (M.ld ⟨b, o, none⟩) .i64 G := by
 refine aZ (Src.at (h.src (A := some ⟨b, 0, none⟩)) h (i := i) (j := 2 + q.toNat) hi (Ud hq.1 hq.2) ?_) g
 show _ = 0 + (i * 11 + (2 + q.toNat)); omega
theorem wB {q v : Int} {o : Nat} {G : Mem → Prop} (h : Hp R L M) [p : cL (some ⟨b, 0, none⟩) L gM jn 234 c l L'] (hi : l[i]? = some f) (hq : bh q) (e : o = i * 11 + 2 + q.toNat)
  (k : ∀ M', Hp R (uU (some ⟨b, 0, none⟩) c (l.set i (f.set q v)) :: L') M' → G M') : aO M ⟨b, o, none⟩ (.int .i64 v) G := by
 obtain ⟨q0, q8⟩ := hq
 refine iK i (2 + q.toNat) h hi ?_ (QJ q0 q8) ?_ k
 ·show _ < 11; omega
 ·show _ = i * 11 + (2 + q.toNat); omega
theorem zP {o : Nat} {G : Int → Prop} (h : Hp R L M) [p : cL (some ⟨b, 0, none⟩) L gM jn 234 c l L'] (hi : l[i]? = some f) (e : o = i * 11 + 1) (g : G f.pc) : aK (M.ld ⟨b, o, none⟩) .i64 G := by
 refine aZ (Src.at (h.src (A := some ⟨b, 0, none⟩)) h (i := i) (j := 1) hi rfl ?_) g
 show _ = 0 + (i * 11 + 1); omega
theorem zQ {v : Int} {o : Nat} {G : Mem → Prop} (h : Hp R L M) [p : cL (some ⟨b, 0, none⟩) L gM jn 234 c l L'] (hi : l[i]? = some f) (e : o = i * 11 + 1)
  (k : ∀ M', Hp R (uU (some ⟨b, 0, none⟩) c (l.set i { f with pc := v }) :: L') M' → G M') : aO M ⟨b, o, none⟩ (.int .i64 v) G := by
 refine iK i 1 h hi (by show 1 < 11; omega) Ue ?_ k
 show _ = i * 11 + 1; omega
theorem iP {α : Type} {l : List α} {i : Nat} {u v : α} : (l.set i u).set i v = l.set i v := by simp
def ZQ : List Nat := [195, 196, 197, 198, 199, 200, 201, 202, 203]
theorem OX (h : Hp R L M) [p : cL (some ⟨b, 0, none⟩) L gM jn 234 c l L'] (hi : l[i]? = some f) (hx : x.cG) (n : Nat) (hn : x.op = (n : Int)) (h8 : n ≤ 8)
  (k : ∀ M', Hp R (uU (some ⟨b, 0, none⟩) c (l.set i (f.pure x)) :: L') M' → K (.tuple #[]) M') :
  aa Tryz.prog (ZQ.getD n 0) #[.pointer (some ⟨b, i * 11, none⟩), .agg #[.int .i64 x.op, .int .i64 x.a, .int .i64 x.b, .int .i64 x.c]] M K Kp := by
 obtain ⟨op, xa, xb, xc⟩ := x
 obtain ⟨o1, o2, o3⟩ := hx
 dsimp only at hn o1 o2 o3 k ⊢
 have hsame : l.set i f = l := by obtain ⟨hl, rfl⟩ := List.getElem?_eq_some_iff.1 hi; simp
 subst hn
 have hlt := (List.getElem?_eq_some_iff.1 hi).1
 obtain rfl | rfl | rfl | rfl | rfl | rfl | rfl | rfl | rfl : n = 0 ∨ n = 1 ∨ n = 2 ∨ n = 3 ∨ n = 4 ∨ n = 5 ∨ n = 6 ∨ n = 7 ∨ n = 8 := by omega
 ·refine th ?_
  have e : f.pure ⟨((0 : Nat) : Int), xa, xb, xc⟩ = f := rfl
  rw [e, hsame] at k
  repeat (first | (refine aq h ?_; clear h; intro kb M h) | (refine av h ?_; clear h; intro M h) | refine St.to h ?_ | (apply Exists.intro; (repeat apply Exists.intro); refine And.intro rfl ?_) | (refine And.intro ?_ ?_; first | exact rfl | ((repeat (refine ay (aA h) ?_)); exact ae) | omega) | refine ai ?_ | refine aj ?_)
  exact k _ ((h.row (some ⟨b, 0, none⟩)).b7)
 ·have ra : bh xa := o1 (by simp)
  refine m5 ?_
  repeat (first | (refine aq h ?_; clear h; intro kb M h) | (refine av h ?_; clear h; intro M h) | refine St.to h ?_ | (apply Exists.intro; (repeat apply Exists.intro); refine And.intro rfl ?_) | (refine And.intro ?_ ?_; first | exact rfl | ((repeat (refine ay (aA h) ?_)); exact ae) | omega) | refine ai ?_ | refine aj ?_)
  refine ⟨ra.1, ra.2, wB h hi ra rfl fun M h => ?_⟩
  exact k _ h.b7
 ·obtain ⟨ra, rb⟩ := o2 rfl
  refine rN ?_
  repeat (first | (refine aq h ?_; clear h; intro kb M h) | (refine av h ?_; clear h; intro M h) | refine St.to h ?_ | (apply Exists.intro; (repeat apply Exists.intro); refine And.intro rfl ?_) | (refine And.intro ?_ ?_; first | exact rfl | ((repeat (refine ay (aA h) ?_)); exact ae) | omega) | refine ai ?_ | refine aj ?_)
  refine ⟨rb.1, rb.2, uV h hi rb rfl ?_⟩
  refine ⟨ra.1, ra.2, wB h hi ra rfl fun M h => ?_⟩
  exact k _ h.b7
 ·obtain ⟨ra, rb, rc⟩ := o3 (by simp)
  refine tj ?_
  repeat (first | (refine aq h ?_; clear h; intro kb M h) | (refine av h ?_; clear h; intro M h) | refine St.to h ?_ | (apply Exists.intro; (repeat apply Exists.intro); refine And.intro rfl ?_) | (refine And.intro ?_ ?_; first | exact rfl | ((repeat (refine ay (aA h) ?_)); exact ae) | omega) | refine ai ?_ | refine aj ?_)
  refine ⟨rb.1, rb.2, uV h hi rb rfl ?_⟩
  repeat (first | (refine aq h ?_; clear h; intro kb M h) | (refine av h ?_; clear h; intro M h) | refine St.to h ?_ | (apply Exists.intro; (repeat apply Exists.intro); refine And.intro rfl ?_) | (refine And.intro ?_ ?_; first | exact rfl | ((repeat (refine ay (aA h) ?_)); exact ae) | omega) | refine ai ?_ | refine aj ?_)
  refine ⟨rc.1, rc.2, uV h hi rc rfl ?_⟩
  refine ⟨ra.1, ra.2, wB h hi ra rfl fun M h => ?_⟩
  exact k _ h.b7
 ·obtain ⟨ra, rb, rc⟩ := o3 (by simp)
  refine tq ?_
  repeat (first | (refine aq h ?_; clear h; intro kb M h) | (refine av h ?_; clear h; intro M h) | refine St.to h ?_ | (apply Exists.intro; (repeat apply Exists.intro); refine And.intro rfl ?_) | (refine And.intro ?_ ?_; first | exact rfl | ((repeat (refine ay (aA h) ?_)); exact ae) | omega) | refine ai ?_ | refine aj ?_)
  refine ⟨rb.1, rb.2, uV h hi rb rfl ?_⟩
  repeat (first | (refine aq h ?_; clear h; intro kb M h) | (refine av h ?_; clear h; intro M h) | refine St.to h ?_ | (apply Exists.intro; (repeat apply Exists.intro); refine And.intro rfl ?_) | (refine And.intro ?_ ?_; first | exact rfl | ((repeat (refine ay (aA h) ?_)); exact ae) | omega) | refine ai ?_ | refine aj ?_)
  refine ⟨rc.1, rc.2, uV h hi rc rfl ?_⟩
  refine ⟨ra.1, ra.2, wB h hi ra rfl fun M h => ?_⟩
  exact k _ h.b7
 ·obtain ⟨ra, rb, rc⟩ := o3 (by simp)
  refine tr ?_
  repeat (first | (refine aq h ?_; clear h; intro kb M h) | (refine av h ?_; clear h; intro M h) | refine St.to h ?_ | (apply Exists.intro; (repeat apply Exists.intro); refine And.intro rfl ?_) | (refine And.intro ?_ ?_; first | exact rfl | ((repeat (refine ay (aA h) ?_)); exact ae) | omega) | refine ai ?_ | refine aj ?_)
  refine ⟨rb.1, rb.2, uV h hi rb rfl ?_⟩
  repeat (first | (refine aq h ?_; clear h; intro kb M h) | (refine av h ?_; clear h; intro M h) | refine St.to h ?_ | (apply Exists.intro; (repeat apply Exists.intro); refine And.intro rfl ?_) | (refine And.intro ?_ ?_; first | exact rfl | ((repeat (refine ay (aA h) ?_)); exact ae) | omega) | refine ai ?_ | refine aj ?_)
  refine ⟨rc.1, rc.2, uV h hi rc rfl ?_⟩
  refine ⟨ra.1, ra.2, wB h hi ra rfl fun M h => ?_⟩
  exact k _ h.b7
 ·obtain ⟨ra, rb, rc⟩ := o3 (by simp)
  refine rO ?_
  repeat (first | (refine aq h ?_; clear h; intro kb M h) | (refine av h ?_; clear h; intro M h) | refine St.to h ?_ | (apply Exists.intro; (repeat apply Exists.intro); refine And.intro rfl ?_) | (refine And.intro ?_ ?_; first | exact rfl | ((repeat (refine ay (aA h) ?_)); exact ae) | omega) | refine ai ?_ | refine aj ?_)
  refine ⟨rb.1, rb.2, uV h hi rb rfl ?_⟩
  repeat (first | (refine aq h ?_; clear h; intro kb M h) | (refine av h ?_; clear h; intro M h) | refine St.to h ?_ | (apply Exists.intro; (repeat apply Exists.intro); refine And.intro rfl ?_) | (refine And.intro ?_ ?_; first | exact rfl | ((repeat (refine ay (aA h) ?_)); exact ae) | omega) | refine ai ?_ | refine aj ?_)
  refine ⟨rc.1, rc.2, uV h hi rc rfl ?_⟩
  repeat (first | (refine aq h ?_; clear h; intro kb M h) | (refine av h ?_; clear h; intro M h) | refine St.to h ?_ | (apply Exists.intro; (repeat apply Exists.intro); refine And.intro rfl ?_) | (refine And.intro ?_ ?_; first | exact rfl | ((repeat (refine ay (aA h) ?_)); exact ae) | omega) | refine ai ?_ | refine aj ?_)
  refine ⟨ra.1, ra.2, wB h hi ra rfl fun M h => ?_⟩
  have e : f.pure ⟨((6 : Nat) : Int), xa, xb, xc⟩ = f.set xa (if f.bT xb < f.bT xc then 1 else 0) := rfl
  rw [e] at k
  refine aP.2 ⟨fun hl => ?_, fun hl => ?_⟩
  ·rw [if_pos hl] at k
   repeat (first | (refine aq h ?_; clear h; intro kb M h) | (refine av h ?_; clear h; intro M h) | refine St.to h ?_ | (apply Exists.intro; (repeat apply Exists.intro); refine And.intro rfl ?_) | (refine And.intro ?_ ?_; first | exact rfl | ((repeat (refine ay (aA h) ?_)); exact ae) | omega) | refine ai ?_ | refine aj ?_)
   have Mu : (l.set i (f.set xa 0))[i]? = some (f.set xa 0) := by simp [hlt]
   refine ⟨ra.1, ra.2, wB h Mu ra rfl fun M h => ?_⟩
   rw [iP, gM.set_set] at h
   exact k _ h.b7
  ·rw [if_neg hl] at k
   exact k _ h.b7
 ·refine rP ?_
  repeat (first | (refine aq h ?_; clear h; intro kb M h) | (refine av h ?_; clear h; intro M h) | refine St.to h ?_ | (apply Exists.intro; (repeat apply Exists.intro); refine And.intro rfl ?_) | (refine And.intro ?_ ?_; first | exact rfl | ((repeat (refine ay (aA h) ?_)); exact ae) | omega) | refine ai ?_ | refine aj ?_)
  refine zQ h hi rfl fun M h => ?_
  exact k _ h.b7
 ·have ra : bh xa := o1 (by simp)
  refine oU ?_
  repeat (first | (refine aq h ?_; clear h; intro kb M h) | (refine av h ?_; clear h; intro M h) | refine St.to h ?_ | (apply Exists.intro; (repeat apply Exists.intro); refine And.intro rfl ?_) | (refine And.intro ?_ ?_; first | exact rfl | ((repeat (refine ay (aA h) ?_)); exact ae) | omega) | refine ai ?_ | refine aj ?_)
  have e : f.pure ⟨((8 : Nat) : Int), xa, xb, xc⟩ = if f.bT xa ≠ 0 then { f with pc := xb } else f := rfl
  rw [e] at k
  refine ⟨ra.1, ra.2, uV h hi ra rfl ?_⟩
  refine cK.2 ⟨fun hl => ?_, fun hl => ?_⟩
  ·rw [if_pos hl] at k
   repeat (first | (refine aq h ?_; clear h; intro kb M h) | (refine av h ?_; clear h; intro M h) | refine St.to h ?_ | (apply Exists.intro; (repeat apply Exists.intro); refine And.intro rfl ?_) | (refine And.intro ?_ ?_; first | exact rfl | ((repeat (refine ay (aA h) ?_)); exact ae) | omega) | refine ai ?_ | refine aj ?_)
   refine zQ h hi rfl fun M h => ?_
   exact k _ h.b7
  ·rw [if_neg (by simpa using hl), hsame] at k
   exact k _ ((h.row (some ⟨b, 0, none⟩)).b7)
def Rp : AL := (List.range 9).map fun n : Nat => ((n : Int), .func (.func (ZQ.getD n 0)) #[] #[])
theorem Fq (h : Hp R L M) (k : ∀ m M', Hp R (ob m (dY Rp) :: L) M' → K (.map (some m)) M') : aa Tryz.prog 153 #[] M K Kp := by
 refine zi ?_
 refine Jb h ?_
 clear h
 intro m M h
 replace h : Hp R (ob m (dY []) :: L) M := h
 have hu : Tryz.prog.underlying 302 = some (.map 32 300) := by kernel_rfl
 have hk : Tryz.prog.underlying 32 = some (.int .i64) := by kernel_rfl
 iterate 9
  refine lY h hu hk ?_
  clear h
  intro M h
 exact k _ _ h
theorem HU (h : Hp R L M) [p : cL (some ⟨b, 0, none⟩) L gM jn 234 c l L'] (hi : l[i]? = some f) (hx : x.cG) (h0 : 0 ≤ x.op) (hs : 0 ≤ f.pc ∧ f.pc < 1000000000)
  (k1 : x.op ≤ 8 → ∀ M', Hp R (uU (some ⟨b, 0, none⟩) c (l.set i (f.next.pure x)) :: L') M' → K (.bool true) M')
  (k2 : 8 < x.op → ∀ M', Hp R (uU (some ⟨b, 0, none⟩) c l :: L') M' → K (.bool false) M') :
  aa Tryz.prog 121 #[.pointer (some ⟨b, i * 11, none⟩), .agg #[.int .i64 x.op, .int .i64 x.a, .int .i64 x.b, .int .i64 x.c]] M K Kp := by
 have hlt := (List.getElem?_eq_some_iff.1 hi).1
 obtain ⟨q, hq⟩ := Int.eq_ofNat_of_zero_le h0
 refine ry ?_
 repeat (first | (refine aq h ?_; clear h; intro kb M h) | (refine av h ?_; clear h; intro M h) | refine St.to h ?_ | (apply Exists.intro; (repeat apply Exists.intro); refine And.intro rfl ?_) | (refine And.intro ?_ ?_; first | exact rfl | ((repeat (refine ay (aA h) ?_)); exact ae) | omega) | refine ai ?_ | refine aj ?_)
 refine Fq h ?_
 clear h
 intro m M h
 repeat (first | (refine aq h ?_; clear h; intro kb M h) | (refine av h ?_; clear h; intro M h) | refine St.to h ?_ | (apply Exists.intro; (repeat apply Exists.intro); refine And.intro rfl ?_) | (refine And.intro ?_ ?_; first | exact rfl | ((repeat (refine ay (aA h) ?_)); exact ae) | omega) | refine ai ?_ | refine aj ?_)
 have hu : Tryz.prog.underlying 302 = some (.map 32 300) := by kernel_rfl
 have hk : Tryz.prog.underlying 32 = some (.int .i64) := by kernel_rfl
 obtain ⟨ti, OY, Qd⟩ : ∃ ti, Tryz.prog.info? 300 = some ti ∧ ti.zero = some .nilFunc := ⟨_, rfl, rfl⟩
 refine Ll h hu hk OY Qd ?_
 refine ⟨_, _, rfl, aA h, ?_⟩
 by_cases h8 : x.op ≤ 8
 ·have hq8 : q ≤ 8 := by omega
  have hl : zL Rp x.op = some (.func (.func (ZQ.getD q 0)) #[] #[]) := by
   rw [hq]
   obtain rfl | rfl | rfl | rfl | rfl | rfl | rfl | rfl | rfl : q = 0 ∨ q = 1 ∨ q = 2 ∨ q = 3 ∨ q = 4 ∨ q = 5 ∨ q = 6 ∨ q = 7 ∨ q = 8 := by omega
   all_goals rfl
  rw [hl]
  refine ai ?_
  refine zP h hi rfl ?_
  rw [jq (by omega) (by omega)]
  refine zQ h hi rfl ?_
  clear h
  intro M h
  have Mu : (l.set i { f with pc := f.pc + 1 })[i]? = some f.next := by simp [hlt, gM.next]
  repeat (first | (refine aq h ?_; clear h; intro kb M h) | (refine av h ?_; clear h; intro M h) | refine St.to h ?_ | (apply Exists.intro; (repeat apply Exists.intro); refine And.intro rfl ?_) | (refine And.intro ?_ ?_; first | exact rfl | ((repeat (refine ay (aA h) ?_)); exact ae) | omega) | refine ai ?_ | refine aj ?_)
  have hg : 1 < ZQ.getD q 0 ∧ ZQ.getD q 0 < Cx.ok := by
   obtain rfl | rfl | rfl | rfl | rfl | rfl | rfl | rfl | rfl : q = 0 ∨ q = 1 ∨ q = 2 ∨ q = 3 ∨ q = 4 ∨ q = 5 ∨ q = 6 ∨ q = 7 ∨ q = 8 := by omega
   all_goals exact ⟨by decide, by show _ < 228; decide⟩
  refine Fp hg ?_
  refine OX (f := f.next) h Mu hx q hq hq8 ?_
  clear h
  intro M h
  rw [iP] at h
  exact ⟨rfl, k1 h8 _ h.b7⟩
 ·have hl : zL Rp x.op = none := by
   rw [JB, Cf]
   have : Rp.map (·.1) = [0, 1, 2, 3, 4, 5, 6, 7, 8] := by decide
   rw [this]; simp; omega
  rw [hl]
  refine aj ?_
  exact k2 (by omega) _ ((h.row (some ⟨b, 0, none⟩)).b7)
end
section
variable {R : Mem} {L L' : List HP} {M : Mem} {K : Value → Mem → Prop} {Kp : List PanicEntry → Mem → Prop} {b i c : Nat} {l : List gM} {f : gM} {x : cI}
theorem m8 {m : Nat} (hm : 0 < m) (h2 : m ≤ 1000000000) (k : K (.pointer (some ⟨b, (m - 1) * 11, none⟩)) M) : aa Tryz.prog 120 #[.slice (some ⟨b, 0, none⟩) m c] M K Kp := by
 refine sZ ?_
 have e : IntKind.wrap .i64 ((m : Int) - 1) = ((m - 1 : Nat) : Int) := wn (by omega) (by omega)
 refine aY.2 ⟨fun h0 => by omega, fun _ => ?_⟩
 rw [e]
 refine ⟨by omega, by omega, br ?_⟩
 simp only [Int.toNat_natCast, Nat.zero_add]
 exact k
theorem qo {fn v : Int} (h : Hp R L M) (k : ∀ b M', Hp R (uU (some ⟨b, 0, none⟩) 1 [gM.begin fn v] :: L) M' → K (.slice (some ⟨b, 0, none⟩) 1 1) M') : aa Tryz.prog 71 #[.int .i64 fn, .int .i64 v] M K Kp := by
 refine zg ?_
 refine aq h ?_
 clear h
 intro b M h
 exact k b M (h.gU (E := jn) (l := [gM.begin fn v]) rfl)
theorem HV {fn v rm : Int} {A : Option Addr} (h : Hp R L M) [p : cL A L gM jn 234 c l L'] (hl : 0 < l.length)
  (k1 : 16 ≤ l.length → K (.tuple #[.slice A l.length c, .bool false]) M)
  (k2 : l.length < 16 → ∀ b c' M', Hp R (uU (some ⟨b, 0, none⟩) c' (l ++ [⟨fn, 0, [v, 0, 0, 0, 0, 0, 0, 0], rm⟩]) :: L) M' → K (.tuple #[.slice (some ⟨b, 0, none⟩) (l.length + 1) c', .bool true]) M') :
  aa Tryz.prog 211 #[.slice A l.length c, .int .i64 fn, .int .i64 v, .int .i64 rm] M K Kp := by
 refine rR ?_
 have hcap := h.jV A
 refine aP.2 ⟨fun tI => k1 (by omega), fun tI => ?_⟩
 refine ⟨by omega, by omega, by omega, by omega, by omega, by omega, ?_⟩
 refine aq h ?_
 clear h
 intro kb M h
 simp only [Int.toNat_natCast, Nat.sub_zero]
 have e : lM A 0 l.length 11 = A := by
  obtain ⟨bb, rfl⟩ := h.bx (A := A) hl (by decide)
  unfold lM
  rw [if_neg (by omega)]
  rfl
 rw [e]
 refine Hp.Ro (E := jn) (r := [⟨fn, 0, [v, 0, 0, 0, 0, 0, 0, 0], rm⟩]) h (h.src (A := A)) rfl OW rfl rfl (by omega) (by simp; omega) ?_
 clear h
 intro b c' M h
 refine aT ?_
 have := k2 (by omega) b c' M h
 rwa [List.length_append]
theorem DH {v : Int} {A : Option Addr} (h : Hp R L M) [p : cL A L gM jn 234 c l L'] (hl : 0 < l.length) (hs : l.length ≤ 1000000)
  (OZ : l[l.length - 1]? = some f) (hin : bh f.rm)
  (k1 : l.length < 2 → K (.tuple #[.slice none 0 0, .bool false]) M)
  (k2 : 2 ≤ l.length → ∀ b c' M', ∀ g, l[l.length - 2]? = some g → Hp R (uU (some ⟨b, 0, none⟩) c' ((l.take (l.length - 1)).set (l.length - 2) (g.set f.rm v)) :: L) M' → K (.tuple #[.slice (some ⟨b, 0, none⟩) (l.length - 1) c', .bool true]) M') :
  aa Tryz.prog 212 #[.slice A l.length c, .int .i64 v] M K Kp := by
 refine oV ?_
 have hcap := h.jV A
 refine aP.2 ⟨fun tI => k1 (by omega), fun tI => ?_⟩
 have e : IntKind.wrap .i64 ((l.length : Int) - 1) = ((l.length - 1 : Nat) : Int) := wn (by omega) (by omega)
 obtain ⟨ba, rfl⟩ := h.bx (A := A) hl (by decide)
 refine aq h ?_
 clear h
 intro kb M h
 rw [e]
 refine ⟨by omega, by omega, by omega, by omega, by omega, by omega, ?_⟩
 simp only [Int.toNat_natCast, Nat.sub_zero]
 have e2 : lM (some ⟨ba, 0, none⟩) 0 c 11 = some ⟨ba, 0, none⟩ := by
  unfold lM
  rw [if_neg (by omega)]
  rfl
 rw [e2]
 refine h.iL jn OW (l.take (l.length - 1)) ((h.src (A := some ⟨ba, 0, none⟩)).SM _) (by simp) (by simp; omega) ?_
 clear h
 intro A' c' M h
 have hlen : (l.take (l.length - 1)).length = l.length - 1 := by simp
 obtain ⟨b', rfl⟩ := h.bx (A := A') (by omega) (by decide)
 refine aT ?_
 rw [hlen]
 refine m8 (by omega) (by omega) ?_
 refine g8 (br ?_)
 refine m8 (by omega) (by omega) ?_
 refine g8 (br ?_)
 refine aZ (Src.at (h.src (A := some ⟨ba, 0, none⟩)) h (i := l.length - 1) (j := 10) OZ rfl (by show _ = 0 + ((l.length - 1) * 11 + 10); omega)) ?_
 obtain ⟨g, hg⟩ := aR (l := l) (i := l.length - 2) (by omega)
 refine ⟨hin.1, hin.2, ?_⟩
 have Lm : (l.take (l.length - 1))[l.length - 2]? = some g := by rw [List.getElem?_take, if_pos (by omega)]; exact hg
 refine wB h Lm hin (by omega) ?_
 clear h
 intro M h
 exact k2 (by omega) b' c' M g hg h
abbrev kD (A : Option Addr) (c : Nat) (l : List Int) : HP := bD bl 3 A c l
def fW : tU Lk := ⟨fun b x => exs fun A : Option Addr => exs fun c : Nat => sep [pt b [.int .i64 x.owner, .slice A x.waits.length c] 238, kD A c x.waits]⟩
def Lk.take (x : Lk) (g : Int) : Lk × Bool := if x.owner = -1 then (⟨g, x.waits⟩, true) else (⟨x.owner, x.waits ++ [g]⟩, false)
def Lk.sv (x : Lk) (g : Int) : Lk × Int × Int :=
 if x.owner = -1 ∨ x.owner ≠ g then (x, -1, 5) else (⟨x.waits.headD (-1), x.waits.tail⟩, x.waits.headD (-1), 0)
variable {y : Lk}
theorem Cj (h : Hp R L M) [o : cq fW b L y L'] : ∃ A c, Hp R (pt b [.int .i64 y.owner, .slice A y.waits.length c] 238 :: kD A c y.waits :: L') M := by
 have := h.obj fW b
 simpa only [fW, Hp.dS, Hp.bk, List.cons_append, List.nil_append] using this
theorem hO {A : Option Addr} {n c : Nat} {o : Int} {ws : List Int} {L1 L2 : List HP} (h : Hp R L M) (b : Nat) [p : jU b L [.int .i64 o, .slice A n c] 238 L1] [p1 : cL A L1 Int bl 3 c ws L2] (e : n = ws.length := by first | rfl | simp) : Hp R (aB fW b ⟨o, ws⟩ :: L2) M := by
 subst e
 refine Hp.vR ?_
 simp only [fW, Hp.dS, Hp.bk, List.cons_append, List.nil_append]
 exact ⟨_, _, h.sub (.cons p.pick (.cons p1.pick .refl))⟩
theorem Ck (h : Hp R L M) (k : ∀ b M', Hp R (aB fW b ⟨-1, []⟩ :: L) M' → K (.pointer (some ⟨b, 0, none⟩)) M') : aa Tryz.prog 73 #[] M K Kp := by
 refine Dj ?_
 refine aq h ?_
 clear h
 intro b M h
 have h := h.bX bl 3
 exact k b M (hO h b)
theorem HW {g : Int} (h : Hp R L M) [o : cq fW b L y L'] (hs : y.waits.length ≤ 1000000000) (k : ∀ M', Hp R (aB fW b (y.take g).1 :: L') M' → K (.bool (y.take g).2) M') :
  aa Tryz.prog 215 #[.pointer (some ⟨b, 0, none⟩), .int .i64 g] M K Kp := by
 refine tu ?_
 have h' := Cj h (b := b)
 clear h
 obtain ⟨A, c, h⟩ := h'
 repeat (first | (refine aq h ?_; clear h; intro kb M h) | (refine av h ?_; clear h; intro M h) | refine St.to h ?_ | (apply Exists.intro; (repeat apply Exists.intro); refine And.intro rfl ?_) | (refine And.intro ?_ ?_; first | exact rfl | ((repeat (refine ay (aA h) ?_)); exact ae) | omega) | refine ai ?_ | refine aj ?_)
 unfold Lk.take at k
 refine cK.2 ⟨fun hn => ?_, fun hn => ?_⟩
 ·rw [if_neg hn] at k
  repeat (first | (refine aq h ?_; clear h; intro kb M h) | (refine av h ?_; clear h; intro M h) | refine St.to h ?_ | (apply Exists.intro; (repeat apply Exists.intro); refine And.intro rfl ?_) | (refine And.intro ?_ ?_; first | exact rfl | ((repeat (refine ay (aA h) ?_)); exact ae) | omega) | refine ai ?_ | refine aj ?_)
  refine h.bS sY [g] rfl rfl (by simp; omega) ?_
  clear h
  intro A' c' M h
  repeat (first | (refine aq h ?_; clear h; intro kb M h) | (refine av h ?_; clear h; intro M h) | refine St.to h ?_ | (apply Exists.intro; (repeat apply Exists.intro); refine And.intro rfl ?_) | (refine And.intro ?_ ?_; first | exact rfl | ((repeat (refine ay (aA h) ?_)); exact ae) | omega) | refine ai ?_ | refine aj ?_)
  exact k _ (hO h b).b7
 ·rw [if_pos hn] at k
  repeat (first | (refine aq h ?_; clear h; intro kb M h) | (refine av h ?_; clear h; intro M h) | refine St.to h ?_ | (apply Exists.intro; (repeat apply Exists.intro); refine And.intro rfl ?_) | (refine And.intro ?_ ?_; first | exact rfl | ((repeat (refine ay (aA h) ?_)); exact ae) | omega) | refine ai ?_ | refine aj ?_)
  exact k _ (hO h b).b7
theorem HX {g : Int} (h : Hp R L M) [o : cq fW b L y L'] (hs : y.waits.length ≤ 1000000000) (k : ∀ M', Hp R (aB fW b (y.sv g).1 :: L') M' → K (.tuple #[.int .i64 (y.sv g).2.1, .int .i64 (y.sv g).2.2]) M') :
  aa Tryz.prog 216 #[.pointer (some ⟨b, 0, none⟩), .int .i64 g] M K Kp := by
 refine tv ?_
 obtain ⟨ow, ws⟩ := y
 have h' := Cj h (b := b)
 clear h
 obtain ⟨A, c, h⟩ := h'
 dsimp only at h hs
 repeat (first | (refine aq h ?_; clear h; intro kb M h) | (refine av h ?_; clear h; intro M h) | refine St.to h ?_ | (apply Exists.intro; (repeat apply Exists.intro); refine And.intro rfl ?_) | (refine And.intro ?_ ?_; first | exact rfl | ((repeat (refine ay (aA h) ?_)); exact ae) | omega) | refine ai ?_ | refine aj ?_)
 unfold Lk.sv at k
 refine aY.2 ⟨fun hn => ?_, fun hn => ?_⟩
 ·rw [if_pos (.inl hn)] at k
  exact k _ (hO h b).b7
 repeat (first | (refine aq h ?_; clear h; intro kb M h) | (refine av h ?_; clear h; intro M h) | refine St.to h ?_ | (apply Exists.intro; (repeat apply Exists.intro); refine And.intro rfl ?_) | (refine And.intro ?_ ?_; first | exact rfl | ((repeat (refine ay (aA h) ?_)); exact ae) | omega) | refine ai ?_ | refine aj ?_)
 refine cK.2 ⟨fun yf => ?_, fun yf => ?_⟩
 ·rw [if_pos (.inr yf)] at k
  exact k _ (hO h b).b7
 rw [if_neg (by rintro (h | h) <;> contradiction)] at k
 repeat (first | (refine aq h ?_; clear h; intro kb M h) | (refine av h ?_; clear h; intro M h) | refine St.to h ?_ | (apply Exists.intro; (repeat apply Exists.intro); refine And.intro rfl ?_) | (refine And.intro ?_ ?_; first | exact rfl | ((repeat (refine ay (aA h) ?_)); exact ae) | omega) | refine ai ?_ | refine aj ?_)
 refine aP.2 ⟨fun hr => ?_, fun hr => ?_⟩
 ·cases ws with
  | nil => simp at hr
  | cons w r =>
   repeat (first | (refine aq h ?_; clear h; intro kb M h) | (refine av h ?_; clear h; intro M h) | refine St.to h ?_ | (apply Exists.intro; (repeat apply Exists.intro); refine And.intro rfl ?_) | (refine And.intro ?_ ?_; first | exact rfl | ((repeat (refine ay (aA h) ?_)); exact ae) | omega) | refine ai ?_ | refine aj ?_)
   obtain ⟨q, rfl⟩ := h.bx (A := A) (by simp) (by decide)
   repeat (first | (refine aq h ?_; clear h; intro kb M h) | (refine av h ?_; clear h; intro M h) | refine St.to h ?_ | (apply Exists.intro; (repeat apply Exists.intro); refine And.intro rfl ?_) | (refine And.intro ?_ ?_; first | exact rfl | ((repeat (refine ay (aA h) ?_)); exact ae) | omega) | refine ai ?_ | refine aj ?_)
   refine aZ (Src.at (h.src (A := some ⟨q, 0, none⟩)) h (i := 0) (j := 0) rfl rfl (by simp [bl])) ?_
   have hcap := h.jV (some ⟨q, 0, none⟩)
   have hlen : r.length + 1 ≤ 1000000000 := by simpa using hs
   repeat (first | (refine aq h ?_; clear h; intro kb M h) | (refine av h ?_; clear h; intro M h) | refine St.to h ?_ | (apply Exists.intro; (repeat apply Exists.intro); refine And.intro rfl ?_) | (refine And.intro ?_ ?_; first | exact rfl | ((repeat (refine ay (aA h) ?_)); exact ae) | omega) | refine ai ?_ | refine aj ?_)
   simp only [Int.toNat_natCast]
   refine h.iL bl sY r ((h.src (A := some ⟨q, 0, none⟩)).drop (m := 1) hcap) (by simp) (by omega) ?_
   clear h
   intro A' c' M h
   repeat (first | (refine aq h ?_; clear h; intro kb M h) | (refine av h ?_; clear h; intro M h) | refine St.to h ?_ | (apply Exists.intro; (repeat apply Exists.intro); refine And.intro rfl ?_) | (refine And.intro ?_ ?_; first | exact rfl | ((repeat (refine ay (aA h) ?_)); exact ae) | omega) | refine ai ?_ | refine aj ?_)
   exact k _ (hO h b).b7
 ·cases ws with
  | cons v l => simp at hr
  | nil =>
   repeat (first | (refine aq h ?_; clear h; intro kb M h) | (refine av h ?_; clear h; intro M h) | refine St.to h ?_ | (apply Exists.intro; (repeat apply Exists.intro); refine And.intro rfl ?_) | (refine And.intro ?_ ?_; first | exact rfl | ((repeat (refine ay (aA h) ?_)); exact ae) | omega) | refine ai ?_ | refine aj ?_)
   exact k _ (hO h b).b7
end
structure PA where
 f : Option Addr
 fc : Nat
 c : Option Addr
 cc : Nat
 k : Option Addr
 kc : Nat
abbrev GA := Option Addr × Nat
abbrev qp (y : jh) (A : Option Addr) (c : Nat) : List Value := [.int .i64 y.st, .slice A y.fs.length c, .int .i64 y.wt.op, .int .i64 y.wt.a, .int .i64 y.wt.b, .int .i64 y.wt.c]
def fZ : tU (jh × GA) := ⟨fun b x => sep [pt b (qp x.1 x.2.1 x.2.2) 182, uU x.2.1 x.2.2 x.1.fs]⟩
structure WA where
 ag : Option Addr
 cg : Nat
 gb : List Nat
 ac : Option Addr
 cc : Nat
 cb : List Nat
 al : Option Addr
 cl : Nat
 lb : List Nat
 ah : Option Addr
 ch : Nat
 ao : Option Addr
 co : Nat
 ar : Option Addr
 cr : Nat
abbrev mE (pa : PA) (p : b6) (dr : Value) (a : WA) (x : Wd) : List Value :=
 [.slice pa.f p.funcs.length pa.fc, .slice pa.c p.dI.length pa.cc, .int .i64 p.aL, .slice pa.k p.cases.length pa.kc, .slice a.ag a.gb.length a.cg, .int .u64 x.clock,
  .slice a.ac a.cb.length a.cc, .slice a.al a.lb.length a.cl, .slice a.ah x.hl.length a.ch, .int .u64 x.lp, .slice a.ao x.out.length a.co, .int .i64 x.end_, .int .i64 x.code, .slice a.ar x.ready.length a.cr, dr]
abbrev zR (A : Option Addr) (c : Nat) (l : List Nat) : HP := bD mz 177 A c l
abbrev zS (A : Option Addr) (c : Nat) (l : List Nat) : HP := bD mz 183 A c l
abbrev zT (A : Option Addr) (c : Nat) (l : List Nat) : HP := bD mz 185 A c l
abbrev gn (A : Option Addr) (c : Nat) (l : List bE) : HP := bD sF 205 A c l
abbrev sI (a : WA) (x : Wd) (L : List HP) : List HP :=
 zR a.ag a.cg a.gb :: zS a.ac a.cc a.cb :: bn bM a.cb x.aE :: zT a.al a.cl a.lb :: bn fW a.lb x.aL :: gn a.ah a.ch x.hl :: uB a.ao a.co x.out :: kD a.ar a.cr x.ready :: L
def fj (gg : List GA) (a : WA) (x : Wd) : Prop := a.gb.length = x.gs.length ∧ gg.length = x.gs.length ∧ a.cb.length = x.aE.length ∧ a.lb.length = x.aL.length
def bB (pa : PA) (p : b6) (gg : List GA) (dr : Value) : tU Wd := ⟨fun b x => exs fun a : WA =>
 sep (pt b (mE pa p dr a x) 164 :: bn fZ a.gb (x.gs.zip gg) :: fact (fj gg a x) :: sI a x [])⟩
class wC (b : Nat) (L : List HP) (pa : outParam PA) (p : outParam b6) (gg : outParam (List GA)) (dr : outParam Value) (x : outParam Wd) (L' : outParam (List HP)) : Prop where
 pick : de L (aB (bB pa p gg dr) b x) L'
instance wC.here {pa : PA} {p : b6} {gg : List GA} {dr : Value} {b : Nat} {x : Wd} {L : List HP} : wC b (aB (bB pa p gg dr) b x :: L) pa p gg dr x L := ⟨.here⟩
instance (priority := low) wC.there {pa : PA} {p : b6} {gg : List GA} {dr : Value} {b : Nat} {x : Wd} {Q : HP} {L L' : List HP} [h : wC b L pa p gg dr x L'] : wC b (Q :: L) pa p gg dr x (Q :: L') := ⟨.there h.pick⟩
section
variable {R : Mem} {L L' : List HP} {M : Mem} {K : Value → Mem → Prop} {Kp : List PanicEntry → Mem → Prop} {pa : PA} {p : b6} {gg : List GA} {dr : Value} {b : Nat} {x : Wd}
theorem cy (h : Hp R L M) [o : wC b L pa p gg dr x L'] : ∃ a : WA, fj gg a x ∧ Hp R (pt b (mE pa p dr a x) 164 :: bn fZ a.gb (x.gs.zip gg) :: sI a x L') M := by
 have := h.pick o.pick
 unfold aB at this
 simp only [bB, sI, Hp.dS, Hp.bk, List.cons_append, List.nil_append] at this
 obtain ⟨a, h⟩ := this
 have h2 := h.pick (P := fact (fj gg a x)) (.there (.there .here))
 exact ⟨a, (Hp.fT.1 h2).1, (Hp.fT.1 h2).2⟩
theorem jO {a : WA} (hl : fj gg a x) (h : Hp R (pt b (mE pa p dr a x) 164 :: bn fZ a.gb (x.gs.zip gg) :: sI a x L) M) : Hp R (aB (bB pa p gg dr) b x :: L) M := by
 refine Hp.vR ?_
 simp only [bB, sI, Hp.dS, Hp.bk, List.cons_append, List.nil_append]
 refine ⟨a, ?_⟩
 have h2 : Hp R (fact (fj gg a x) :: pt b (mE pa p dr a x) 164 :: bn fZ a.gb (x.gs.zip gg) :: sI a x L) M := Hp.fT.2 ⟨hl, h⟩
 exact h2.nK (.there (.there .here))
theorem bj {a : WA} {L0 L1 L2 L3 L4 L5 L6 L7 L8 L9 : List HP} (hl : fj gg a x) (h : Hp R L M) (b : Nat)
  [p0 : jU b L (mE pa p dr a x) 164 L0] [p1 : fP fZ L0 a.gb (x.gs.zip gg) L1] [p2 : cL a.ag L1 Nat mz 177 a.cg a.gb L2] [p3 : cL a.ac L2 Nat mz 183 a.cc a.cb L3]
  [p4 : fP bM L3 a.cb x.aE L4] [p5 : cL a.al L4 Nat mz 185 a.cl a.lb L5] [p6 : fP fW L5 a.lb x.aL L6] [p7 : cL a.ah L6 bE sF 205 a.ch x.hl L7] [p8 : cL a.ao L7 Int bl 2 a.co x.out L8]
  [p9 : cL a.ar L8 Int bl 3 a.cr x.ready L9] : Hp R (aB (bB pa p gg dr) b x :: L9) M :=
 jO hl (h.sub (.cons p0.pick (.cons p1.pick (.cons p2.pick (.cons p3.pick (.cons p4.pick (.cons p5.pick (.cons p6.pick (.cons p7.pick (.cons p8.pick (.cons p9.pick .refl)))))))))))
theorem Fs {α β : Type} : ∀ {l : List α} {m : List β} {i : Nat} {u : α} {v : β}, m[i]? = some v → (l.zip m).set i (u, v) = (l.set i u).zip m
 | [], _, _, _, _, _ => by simp
 | a :: l, [], i, u, v, h => by simp at h
 | a :: l, w :: m, 0, u, v, h => by simp at h; subst h; rfl
 | a :: l, w :: m, i + 1, u, v, h => by
  have := Fs (l := l) (u := u) (show m[i]? = some v from by simpa using h)
  simp [this]
theorem om {α β : Type} : ∀ {l : List α} {m : List β} {i : Nat} {u : α} {v : β}, l[i]? = some u → m[i]? = some v → (l.zip m)[i]? = some (u, v)
 | [], _, _, _, _, h, _ => by simp at h
 | a :: l, [], i, u, v, _, h => by simp at h
 | a :: l, w :: m, 0, u, v, h, g => by simp at h g; subst h; subst g; rfl
 | a :: l, w :: m, i + 1, u, v, h, g => by simpa using om (show l[i]? = some u from by simpa using h) (show m[i]? = some v from by simpa using g)
theorem m9 {c : Nat} {y : jh} {A : Option Addr} (h : Hp R L M) [o : cq fZ b L (y, (A, c)) L'] : Hp R (pt b (qp y A c) 182 :: uU A c y.fs :: L') M := by
 have := h.obj fZ b
 simpa only [fZ, Hp.bk, List.cons_append, List.nil_append] using this
theorem ng {A : Option Addr} {n c : Nat} {st o1 o2 o3 o4 : Int} {fs : List gM} {L1 L2 : List HP} (h : Hp R L M) (b : Nat) [p : jU b L [.int .i64 st, .slice A n c, .int .i64 o1, .int .i64 o2, .int .i64 o3, .int .i64 o4] 182 L1] [p1 : cL A L1 gM jn 234 c fs L2]
  (e : n = fs.length := by first | rfl | simp) : Hp R (aB fZ b (⟨st, fs, ⟨o1, o2, o3, o4⟩⟩, (A, c)) :: L2) M := by
 subst e
 refine Hp.vR ?_
 simp only [fZ, Hp.bk, List.cons_append, List.nil_append]
 exact h.sub (.cons p.pick (.cons p1.pick .refl))
theorem jP {g : Int} (h : Hp R L M) [o : wC b L pa p gg dr x L'] (h0 : 0 ≤ g) (hg : g < x.gs.length) :
  ∃ (a : WA) (gb : Nat) (A : Option Addr) (c : Nat), fj gg a x ∧ a.gb[g.toNat]? = some gb ∧ gg[g.toNat]? = some (A, c) ∧
   Hp R (pt gb (qp (au x g) A c) 182 :: uU A c (au x g).fs :: pt b (mE pa p dr a x) 164 :: lV fZ a.gb (x.gs.zip gg) g.toNat :: sI a x L') M := by
 obtain ⟨a, hl, h1⟩ := cy h (b := b)
 obtain ⟨l1, l2, l3, l4⟩ := hl
 obtain ⟨gb, fX⟩ := aR (l := a.gb) (i := g.toNat) (by omega)
 obtain ⟨⟨A, c⟩, eY⟩ := aR (l := gg) (i := g.toNat) (by omega)
 obtain ⟨y, hy⟩ := aR (l := x.gs) (i := g.toNat) (by omega)
 have e : au x g = y := by simp [au, hy]
 rw [e]
 have h2 := h1.dn fZ fX (om hy eY)
 have h3 := m9 (b := gb) h2
 exact ⟨a, gb, A, c, ⟨l1, l2, l3, l4⟩, fX, eY, h3.sub bz⟩
theorem cU {a : WA} {A : Option Addr} {c n : Nat} {g : Int} {st o1 o2 o3 o4 : Int} {fs : List gM} {L1 L2 L3 : List HP} (h : Hp R L M) (gb : Nat) (hl : fj gg a x) (fX : a.gb[g.toNat]? = some gb) (eY : gg[g.toNat]? = some (A, c))
  [p1 : jU gb L [.int .i64 st, .slice A n c, .int .i64 o1, .int .i64 o2, .int .i64 o3, .int .i64 o4] 182 L1] [p2 : cL A L1 gM jn 234 c fs L2]
  [p3 : xq fZ L2 a.gb (x.gs.zip gg) g.toNat L3] (e : n = fs.length := by first | rfl | simp) : Hp R (bn fZ a.gb ((x.gs.set g.toNat ⟨st, fs, ⟨o1, o2, o3, o4⟩⟩).zip gg) :: L3) M := by
 have h1 := ng h gb e
 obtain ⟨l1, l2, l3, l4⟩ := hl
 have hi := (List.getElem?_eq_some_iff.1 fX).1
 have h2 := h1.eu fZ gb fX (by rw [List.length_zip]; omega)
 rwa [Fs eY] at h2
end
section
variable {R : Mem} {L L' : List HP} {M : Mem} {K : Value → Mem → Prop} {Kp : List PanicEntry → Mem → Prop} {pa : PA} {p : b6} {gg : List GA} {dr : Value} {b : Nat} {x : Wd}
theorem Wz {A : Option Addr} {l : List Nat} {T c q i bb : Nat} (h : Hp R L M) [r : cL A L Nat mz T c l L'] (hq : A = some ⟨q, 0, none⟩) (hb : l[i]? = some bb) : M.ld ⟨q, 0 + i, none⟩ = some (.pointer (some ⟨bb, 0, none⟩)) := by
 subst hq
 exact Src.at (h.src (A := some ⟨q, 0, none⟩)) h (i := i) (j := 0) hb rfl (by simp [mz])
theorem vz {A : Option Addr} {l : List Nat} {T c bb i : Nat} {G : Nat → Nat → Option Addr → Prop} (h : Hp R L M) [r : cL A L Nat mz T c l L'] (hb : l[i]? = some bb) (k : ∀ q, A = some ⟨q, 0, none⟩ → G q 0 (some ⟨bb, 0, none⟩)) :
  aG A fun k4 k5 => bO (M.ld ⟨k4, k5 + i, none⟩) fun A6 => G k4 k5 A6 := by
 obtain ⟨q, hq⟩ := h.bx (A := A) (by have := (List.getElem?_eq_some_iff.1 hb).1; omega) (by decide)
 have h2 := Wz h hq hb
 subst hq
 refine br ?_
 rw [h2]
 exact g8 (k q rfl)
theorem hU {g : Int} (h : Hp R L M) [o : wC b L pa p gg dr x L'] (h0 : 0 ≤ g) (hg : g < x.gs.length) (hr : x.ready.length ≤ 1000000000)
  (k : ∀ M', Hp R (aB (bB pa p gg dr) b (x.fx g) :: L') M' → K (.tuple #[]) M') : aa Tryz.prog 90 #[.pointer (some ⟨b, 0, none⟩), .int .i64 g] M K Kp := by
 refine ru ?_
 have h' := jP h (b := b) h0 hg
 clear h
 obtain ⟨a, gb, A, c, hl, fX, eY, h⟩ := h'
 have hl' := hl
 obtain ⟨l1, l2, l3, l4⟩ := hl'
 repeat (first | (refine aq h ?_; clear h; intro kb M h) | (refine av h ?_; clear h; intro M h) | refine St.to h ?_ | (apply Exists.intro; (repeat apply Exists.intro); refine And.intro rfl ?_) | (refine And.intro ?_ ?_; first | exact rfl | ((repeat (refine ay (aA h) ?_)); exact ae) | omega) | refine ai ?_ | refine aj ?_)
 refine vz h fX fun q hq => ?_
 repeat (first | (refine aq h ?_; clear h; intro kb M h) | (refine av h ?_; clear h; intro M h) | refine St.to h ?_ | (apply Exists.intro; (repeat apply Exists.intro); refine And.intro rfl ?_) | (refine And.intro ?_ ?_; first | exact rfl | ((repeat (refine ay (aA h) ?_)); exact ae) | omega) | refine ai ?_ | refine aj ?_)
 refine h.bS sY [g] rfl rfl (by simp; omega) ?_
 clear h
 intro A' c' M h
 repeat (first | (refine aq h ?_; clear h; intro kb M h) | (refine av h ?_; clear h; intro M h) | refine St.to h ?_ | (apply Exists.intro; (repeat apply Exists.intro); refine And.intro rfl ?_) | (refine And.intro ?_ ?_; first | exact rfl | ((repeat (refine ay (aA h) ?_)); exact ae) | omega) | refine ai ?_ | refine aj ?_)
 replace h := cU h gb hl fX eY
 exact k _ (jO (a := { a with ar := A', cr := c' }) ⟨by simpa [Wd.fx, Wd.bF] using l1, by simpa [Wd.fx, Wd.bF] using l2, l3, l4⟩ (h.sub bz))
theorem eJ {y : jh} (h : 0 < y.fs.length) : y.fs[y.fs.length - 1]? = some y.top := by
 unfold jh.top
 rw [List.getD_eq_getElem?_getD, List.getElem?_eq_getElem (by omega)]; rfl
theorem dy {a : WA} {g : Int} {y : jh} (hl : fj gg a x) : fj gg a (x.bF g y) := by
 obtain ⟨l1, l2, l3, l4⟩ := hl
 exact ⟨by simpa [Wd.bF] using l1, by simpa [Wd.bF] using l2, l3, l4⟩
theorem lZ {g : Int} {i : cI} (h : Hp R L M) [o : wC b L pa p gg dr x L'] (h0 : 0 ≤ g) (hg : g < x.gs.length)
  (k : ∀ M', Hp R (aB (bB pa p gg dr) b (x.block g i) :: L') M' → K (.tuple #[]) M') : aa Tryz.prog 158 #[.pointer (some ⟨b, 0, none⟩), .int .i64 g, .agg #[.int .i64 i.op, .int .i64 i.a, .int .i64 i.b, .int .i64 i.c]] M K Kp := by
 refine pW ?_
 have h' := jP h (b := b) h0 hg
 clear h
 obtain ⟨a, gb, A, c, hl, fX, eY, h⟩ := h'
 have hl' := hl
 obtain ⟨l1, l2, l3, l4⟩ := hl'
 repeat (first | (refine aq h ?_; clear h; intro kb M h) | (refine av h ?_; clear h; intro M h) | refine St.to h ?_ | (apply Exists.intro; (repeat apply Exists.intro); refine And.intro rfl ?_) | (refine And.intro ?_ ?_; first | exact rfl | ((repeat (refine ay (aA h) ?_)); exact ae) | omega) | refine ai ?_ | refine aj ?_)
 refine vz h fX fun q hq => ?_
 repeat (first | (refine aq h ?_; clear h; intro kb M h) | (refine av h ?_; clear h; intro M h) | refine St.to h ?_ | (apply Exists.intro; (repeat apply Exists.intro); refine And.intro rfl ?_) | (refine And.intro ?_ ?_; first | exact rfl | ((repeat (refine ay (aA h) ?_)); exact ae) | omega) | refine ai ?_ | refine aj ?_)
 refine vz h fX fun q2 ny => ?_
 repeat (first | (refine aq h ?_; clear h; intro kb M h) | (refine av h ?_; clear h; intro M h) | refine St.to h ?_ | (apply Exists.intro; (repeat apply Exists.intro); refine And.intro rfl ?_) | (refine And.intro ?_ ?_; first | exact rfl | ((repeat (refine ay (aA h) ?_)); exact ae) | omega) | refine ai ?_ | refine aj ?_)
 replace h := cU h gb hl fX eY
 exact k _ (jO (a := a) (dy hl) (h.sub bz))
theorem uW {g kk : Int} (h : Hp R L M) [o : wC b L pa p gg dr x L'] (hg : bp x g) (hc : bh (au x g).wt.c) (hs : x.Sm)
  (k : ∀ M', Hp R (aB (bB pa p gg dr) b (x.gD g kk) :: L') M' → K (.tuple #[]) M') : aa Tryz.prog 223 #[.pointer (some ⟨b, 0, none⟩), .int .i64 g, .int .i64 kk] M K Kp := by
 refine oW ?_
 obtain ⟨h0, h1, h2, h3⟩ := hg
 obtain ⟨s1, s2, s3, s4, s5, s6, s7, s8⟩ := hs
 have h' := jP h (b := b) h0 h1
 clear h
 obtain ⟨a, gb, A, c, hl, fX, eY, h⟩ := h'
 have hl' := hl
 obtain ⟨l1, l2, l3, l4⟩ := hl'
 repeat (first | (refine aq h ?_; clear h; intro kb M h) | (refine av h ?_; clear h; intro M h) | refine St.to h ?_ | (apply Exists.intro; (repeat apply Exists.intro); refine And.intro rfl ?_) | (refine And.intro ?_ ?_; first | exact rfl | ((repeat (refine ay (aA h) ?_)); exact ae) | omega) | refine ai ?_ | refine aj ?_)
 refine vz h fX fun q hq => ?_
 repeat (first | (refine aq h ?_; clear h; intro kb M h) | (refine av h ?_; clear h; intro M h) | refine St.to h ?_ | (apply Exists.intro; (repeat apply Exists.intro); refine And.intro rfl ?_) | (refine And.intro ?_ ?_; first | exact rfl | ((repeat (refine ay (aA h) ?_)); exact ae) | omega) | refine ai ?_ | refine aj ?_)
 refine vz h fX fun q2 ny => ?_
 repeat (first | (refine aq h ?_; clear h; intro kb M h) | (refine av h ?_; clear h; intro M h) | refine St.to h ?_ | (apply Exists.intro; (repeat apply Exists.intro); refine And.intro rfl ?_) | (refine And.intro ?_ ?_; first | exact rfl | ((repeat (refine ay (aA h) ?_)); exact ae) | omega) | refine ai ?_ | refine aj ?_)
 obtain ⟨bs, rfl⟩ := h.bx (A := A) h2 (by decide)
 refine m8 h2 (by omega) ?_
 repeat (first | (refine aq h ?_; clear h; intro kb M h) | (refine av h ?_; clear h; intro M h) | refine St.to h ?_ | (apply Exists.intro; (repeat apply Exists.intro); refine And.intro rfl ?_) | (refine And.intro ?_ ?_; first | exact rfl | ((repeat (refine ay (aA h) ?_)); exact ae) | omega) | refine ai ?_ | refine aj ?_)
 refine ⟨hc.1, hc.2, wB h (eJ h2) hc rfl ?_⟩
 clear h
 intro M h
 repeat (first | (refine aq h ?_; clear h; intro kb M h) | (refine av h ?_; clear h; intro M h) | refine St.to h ?_ | (apply Exists.intro; (repeat apply Exists.intro); refine And.intro rfl ?_) | (refine And.intro ?_ ?_; first | exact rfl | ((repeat (refine ay (aA h) ?_)); exact ae) | omega) | refine ai ?_ | refine aj ?_)
 refine E6 h (Src.row (A := a.ac)) rfl (by omega) l3 (fun c hc => (s1 c hc).mono (by omega)) ?_
 clear h
 intro M h
 refine ⟨rfl, ?_⟩
 replace h := cU h gb hl fX eY
 exact k _ (jO (a := a) (x := x.gD g kk) ⟨by simpa [Wd.gD, Wd.leave, Wd.bA, Wd.bF] using l1, by simpa [Wd.gD, Wd.leave, Wd.bA, Wd.bF] using l2, by simpa [Wd.gD, Wd.leave, Wd.bA, Wd.bF] using l3, l4⟩ (h.sub bz))
end
theorem iQ {x : Wd} {g q v : Int} (h : bp x g) : au (x.bA g q v) g = (au x g).cN ((au x g).top.set q v) := gN h.1 h.2.1
theorem iR {x : Wd} {g q v : Int} (h : bp x g) : bp (x.bA g q v) g := by
 obtain ⟨h0, h1, h2, h3⟩ := h
 refine ⟨h0, by simpa [Wd.bA, Wd.bF] using h1, ?_, ?_⟩ <;> rw [iQ ⟨h0, h1, h2, h3⟩] <;> simpa [jh.cN]
theorem Ln {x : Wd} {g q v : Int} (h : bp x g) : (au (x.bA g q v) g).wt = (au x g).wt := by rw [iQ h]; rfl
theorem uX {x : Wd} {g k : Int} (h : bp x g) : bp (x.gD g k) g := iR h
theorem JD {x : Wd} {g : Int} {y : jh} (h : x.Sm) : (x.bF g y).Sm := by
 obtain ⟨s1, s2, s3, s4⟩ := h
 exact ⟨s1, s2, by simpa [Wd.bF] using s3, s4⟩
theorem cY {z : Int} (h0 : 0 ≤ z) (h : z < 9223372036854775808) : IntKind.wrap .i64 z = z := by
 obtain ⟨n, rfl⟩ := Int.eq_ofNat_of_zero_le h0
 exact mR (by omega)
section
variable {R : Mem} {L L' : List HP} {M : Mem} {K : Value → Mem → Prop} {Kp : List PanicEntry → Mem → Prop} {pa : PA} {p : b6} {gg : List GA} {dr : Value} {b : Nat} {x : Wd}
theorem WB {A : Option Addr} {c : Nat} {l : List oG} {q : Int} {G : Nat → Nat → Int → Prop} (h : Hp R L M) (hp : RS iB R A c l) (h0 : 0 ≤ q) (hq : q < l.length) (k : ∀ b o, G b o (l.getD q.toNat ⟨0, 0, 0⟩).bT) :
  aG A fun b o => aK (M.ld ⟨b, ((o + q.toNat * 3) + 2), none⟩) .i64 fun n => G b o n := by
 obtain ⟨bb, o, rfl⟩ := hp.some (by omega) (by decide)
 obtain ⟨y, hy⟩ := aR (l := l) (i := q.toNat) (by omega)
 have e : l.getD q.toNat ⟨0, 0, 0⟩ = y := by simp [hy]
 refine br ?_
 refine aZ (Src.at (hp.src (L := L)) h (i := q.toNat) (j := 2) hy rfl (by show _ = o + (q.toNat * 3 + 2); omega)) ?_
 have := k bb o
 rwa [e] at this
theorem qq {v : Wt} {some : Int} (h : Hp R L M) [o : wC b L pa p gg dr x L'] (hp : RS iB R pa.k pa.kc p.cases) (hv : pU p x v) (hs : x.Sm)
  (k : ∀ M', Hp R (aB (bB pa p gg dr) b (x.received p v some) :: L') M' → K (.tuple #[]) M') : aa Tryz.prog 208 #[.pointer (Option.some ⟨b, 0, none⟩), .agg #[.int .i64 v.g, .int .i64 v.cs, .int .i64 v.v], .int .i64 some] M K Kp := by
 refine m6 ?_
 obtain ⟨hg, hv⟩ := hv
 have yy := hg
 obtain ⟨h0, h1, h2, h3⟩ := yy
 have hs' := hs
 obtain ⟨s1, s2, s3, s4, s5, s6, s7, s8⟩ := hs'
 have h' := jP h (b := b) h0 h1
 clear h
 obtain ⟨a, gb, A, c, hl, fX, eY, h⟩ := h'
 have hl' := hl
 obtain ⟨l1, l2, l3, l4⟩ := hl'
 repeat (first | (refine aq h ?_; clear h; intro kb M h) | (refine av h ?_; clear h; intro M h) | refine St.to h ?_ | (apply Exists.intro; (repeat apply Exists.intro); refine And.intro rfl ?_) | (refine And.intro ?_ ?_; first | exact rfl | ((repeat (refine ay (aA h) ?_)); exact ae) | omega) | refine ai ?_ | refine aj ?_)
 refine vz h fX fun q hq => ?_
 repeat (first | (refine aq h ?_; clear h; intro kb M h) | (refine av h ?_; clear h; intro M h) | refine St.to h ?_ | (apply Exists.intro; (repeat apply Exists.intro); refine And.intro rfl ?_) | (refine And.intro ?_ ?_; first | exact rfl | ((repeat (refine ay (aA h) ?_)); exact ae) | omega) | refine ai ?_ | refine aj ?_)
 refine vz h fX fun q2 ny => ?_
 repeat (first | (refine aq h ?_; clear h; intro kb M h) | (refine av h ?_; clear h; intro M h) | refine St.to h ?_ | (apply Exists.intro; (repeat apply Exists.intro); refine And.intro rfl ?_) | (refine And.intro ?_ ?_; first | exact rfl | ((repeat (refine ay (aA h) ?_)); exact ae) | omega) | refine ai ?_ | refine aj ?_)
 obtain ⟨bs, rfl⟩ := h.bx (A := A) h2 (by decide)
 refine m8 h2 (by omega) ?_
 repeat (first | (refine aq h ?_; clear h; intro kb M h) | (refine av h ?_; clear h; intro M h) | refine St.to h ?_ | (apply Exists.intro; (repeat apply Exists.intro); refine And.intro rfl ?_) | (refine And.intro ?_ ?_; first | exact rfl | ((repeat (refine ay (aA h) ?_)); exact ae) | omega) | refine ai ?_ | refine aj ?_)
 refine ⟨Wz h ny fX, ?_⟩
 repeat (first | (refine aq h ?_; clear h; intro kb M h) | (refine av h ?_; clear h; intro M h) | refine St.to h ?_ | (apply Exists.intro; (repeat apply Exists.intro); refine And.intro rfl ?_) | (refine And.intro ?_ ?_; first | exact rfl | ((repeat (refine ay (aA h) ?_)); exact ae) | omega) | refine ai ?_ | refine aj ?_)
 refine ⟨Wz h ny fX, ?_⟩
 repeat (first | (refine aq h ?_; clear h; intro kb M h) | (refine av h ?_; clear h; intro M h) | refine St.to h ?_ | (apply Exists.intro; (repeat apply Exists.intro); refine And.intro rfl ?_) | (refine And.intro ?_ ?_; first | exact rfl | ((repeat (refine ay (aA h) ?_)); exact ae) | omega) | refine ai ?_ | refine aj ?_)
 unfold Wd.received at k
 refine aY.2 ⟨fun JE => ?_, fun JE => ?_⟩
 ·simp only [JE, if_true] at k hv
  obtain ⟨v1, v2, v3, v4, v5⟩ := hv
  repeat (first | (refine aq h ?_; clear h; intro kb M h) | (refine av h ?_; clear h; intro M h) | refine St.to h ?_ | (apply Exists.intro; (repeat apply Exists.intro); refine And.intro rfl ?_) | (refine And.intro ?_ ?_; first | exact rfl | ((repeat (refine ay (aA h) ?_)); exact ae) | omega) | refine ai ?_ | refine aj ?_)
  rw [cY v1 (by omega)]
  refine ⟨v1, by omega, WB (q := (au x v.g).wt.a + v.cs) h hp v1 v2 fun _ _ => ?_⟩
  repeat (first | (refine aq h ?_; clear h; intro kb M h) | (refine av h ?_; clear h; intro M h) | refine St.to h ?_ | (apply Exists.intro; (repeat apply Exists.intro); refine And.intro rfl ?_) | (refine And.intro ?_ ?_; first | exact rfl | ((repeat (refine ay (aA h) ?_)); exact ae) | omega) | refine ai ?_ | refine aj ?_)
  refine ⟨v4.1, v4.2, wB h (eJ h2) v4 rfl ?_⟩
  clear h
  intro M h
  repeat (first | (refine aq h ?_; clear h; intro kb M h) | (refine av h ?_; clear h; intro M h) | refine St.to h ?_ | (apply Exists.intro; (repeat apply Exists.intro); refine And.intro rfl ?_) | (refine And.intro ?_ ?_; first | exact rfl | ((repeat (refine ay (aA h) ?_)); exact ae) | omega) | refine ai ?_ | refine aj ?_)
  replace h := cU h gb hl fX eY
  replace h := bj (a := a) (p := p) (pa := pa) (dr := dr) (gg := gg) (x := x.bA v.g (pT p ((au x v.g).wt.a + v.cs)).bT v.v) (dy hl) h b
  have v5' := v5
  rw [← Ln (q := (pT p ((au x v.g).wt.a + v.cs)).bT) (v := v.v) hg] at v5'
  refine uW (b := b) h (iR hg) v5' (JD hs) ?_
  clear h
  intro M h
  repeat (first | (refine aq h ?_; clear h; intro kb M h) | (refine av h ?_; clear h; intro M h) | refine St.to h ?_ | (apply Exists.intro; (repeat apply Exists.intro); refine And.intro rfl ?_) | (refine And.intro ?_ ?_; first | exact rfl | ((repeat (refine ay (aA h) ?_)); exact ae) | omega) | refine ai ?_ | refine aj ?_)
  have Lm := uX (k := v.cs) (iR (q := (pT p ((au x v.g).wt.a + v.cs)).bT) (v := v.v) hg)
  refine hU (b := b) h Lm.1 Lm.2.1 (by show x.ready.length ≤ _; omega) ?_
  clear h
  intro M h
  exact ⟨rfl, k _ h.b7⟩
 ·simp only [JE, if_false] at k hv
  obtain ⟨v1, v2⟩ := hv
  repeat (first | (refine aq h ?_; clear h; intro kb M h) | (refine av h ?_; clear h; intro M h) | refine St.to h ?_ | (apply Exists.intro; (repeat apply Exists.intro); refine And.intro rfl ?_) | (refine And.intro ?_ ?_; first | exact rfl | ((repeat (refine ay (aA h) ?_)); exact ae) | omega) | refine ai ?_ | refine aj ?_)
  refine ⟨v1.1, v1.2, ?_⟩
  repeat (first | (refine aq h ?_; clear h; intro kb M h) | (refine av h ?_; clear h; intro M h) | refine St.to h ?_ | (apply Exists.intro; (repeat apply Exists.intro); refine And.intro rfl ?_) | (refine And.intro ?_ ?_; first | exact rfl | ((repeat (refine ay (aA h) ?_)); exact ae) | omega) | refine ai ?_ | refine aj ?_)
  refine wB h (eJ h2) v1 rfl ?_
  clear h
  intro M h
  repeat (first | (refine aq h ?_; clear h; intro kb M h) | (refine av h ?_; clear h; intro M h) | refine St.to h ?_ | (apply Exists.intro; (repeat apply Exists.intro); refine And.intro rfl ?_) | (refine And.intro ?_ ?_; first | exact rfl | ((repeat (refine ay (aA h) ?_)); exact ae) | omega) | refine ai ?_ | refine aj ?_)
  have Mu : ((au x v.g).fs.set ((au x v.g).fs.length - 1) ((au x v.g).top.set (au x v.g).wt.b v.v))[(au x v.g).fs.length - 1]? = Option.some ((au x v.g).top.set (au x v.g).wt.b v.v) := by
   rw [List.getElem?_set_self]; omega
  refine ⟨v2.1, v2.2, wB h Mu v2 rfl ?_⟩
  clear h
  intro M h
  rw [iP] at h
  repeat (first | (refine aq h ?_; clear h; intro kb M h) | (refine av h ?_; clear h; intro M h) | refine St.to h ?_ | (apply Exists.intro; (repeat apply Exists.intro); refine And.intro rfl ?_) | (refine And.intro ?_ ?_; first | exact rfl | ((repeat (refine ay (aA h) ?_)); exact ae) | omega) | refine ai ?_ | refine aj ?_)
  replace h := cU h gb hl fX eY (by simp)
  have ex : (x.bA v.g (au x v.g).wt.b v.v).bA v.g (au x v.g).wt.c some = x.bF v.g ((au x v.g).cN (((au x v.g).top.set (au x v.g).wt.b v.v).set (au x v.g).wt.c some)) := by
   have e1 := iQ (q := (au x v.g).wt.b) (v := v.v) hg
   have e2 : ∀ (z : Wd) (q u : Int), z.bA v.g q u = z.bF v.g ((au z v.g).cN ((au z v.g).top.set q u)) := fun _ _ _ => rfl
   rw [e2 (x.bA v.g (au x v.g).wt.b v.v), e1]
   have e3 : ((au x v.g).cN ((au x v.g).top.set (au x v.g).wt.b v.v)).top = (au x v.g).top.set (au x v.g).wt.b v.v := by
    unfold jh.top jh.cN
    dsimp only
    rw [List.length_set, List.getD_eq_getElem?_getD, List.getElem?_set_self (by omega)]; rfl
   rw [e3]
   simp [Wd.bA, Wd.bF, jh.cN]
  rw [ex] at k
  replace h := bj (a := a) (p := p) (pa := pa) (dr := dr) (gg := gg) (x := x.bF v.g ((au x v.g).cN (((au x v.g).top.set (au x v.g).wt.b v.v).set (au x v.g).wt.c some))) (dy hl) h b
  refine hU (b := b) h h0 (by simpa [Wd.bF] using h1) (by show x.ready.length ≤ _; omega) ?_
  clear h
  intro M h
  exact ⟨rfl, k _ h.b7⟩
theorem HY {v : Wt} (h : Hp R L M) [o : wC b L pa p gg dr x L'] (hv : xw x v) (hs : x.Sm)
  (k : ∀ M', Hp R (aB (bB pa p gg dr) b (x.sent v) :: L') M' → K (.tuple #[]) M') : aa Tryz.prog 210 #[.pointer (some ⟨b, 0, none⟩), .agg #[.int .i64 v.g, .int .i64 v.cs, .int .i64 v.v]] M K Kp := by
 refine rQ ?_
 obtain ⟨hg, hv⟩ := hv
 have yy := hg
 obtain ⟨h0, h1, h2, h3⟩ := yy
 have hs' := hs
 obtain ⟨s1, s2, s3, s4, s5, s6, s7, s8⟩ := hs'
 have h' := jP h (b := b) h0 h1
 clear h
 obtain ⟨a, gb, A, c, hl, fX, eY, h⟩ := h'
 have hl' := hl
 obtain ⟨l1, l2, l3, l4⟩ := hl'
 repeat (first | (refine aq h ?_; clear h; intro kb M h) | (refine av h ?_; clear h; intro M h) | refine St.to h ?_ | (apply Exists.intro; (repeat apply Exists.intro); refine And.intro rfl ?_) | (refine And.intro ?_ ?_; first | exact rfl | ((repeat (refine ay (aA h) ?_)); exact ae) | omega) | refine ai ?_ | refine aj ?_)
 refine vz h fX fun q hq => ?_
 repeat (first | (refine aq h ?_; clear h; intro kb M h) | (refine av h ?_; clear h; intro M h) | refine St.to h ?_ | (apply Exists.intro; (repeat apply Exists.intro); refine And.intro rfl ?_) | (refine And.intro ?_ ?_; first | exact rfl | ((repeat (refine ay (aA h) ?_)); exact ae) | omega) | refine ai ?_ | refine aj ?_)
 unfold Wd.sent at k
 have ex : x.bF v.g (au x v.g) = x := by
  obtain ⟨y, hy⟩ := aR (l := x.gs) (i := v.g.toNat) (by omega)
  have e : au x v.g = y := by simp [au, hy]
  rw [e]
  obtain ⟨hi, rfl⟩ := List.getElem?_eq_some_iff.1 hy
  simp [Wd.bF]
 refine aY.2 ⟨fun JE => ?_, fun JE => ?_⟩
 ·simp only [JE, if_true] at k hv
  repeat (first | (refine aq h ?_; clear h; intro kb M h) | (refine av h ?_; clear h; intro M h) | refine St.to h ?_ | (apply Exists.intro; (repeat apply Exists.intro); refine And.intro rfl ?_) | (refine And.intro ?_ ?_; first | exact rfl | ((repeat (refine ay (aA h) ?_)); exact ae) | omega) | refine ai ?_ | refine aj ?_)
  replace h := cU h gb hl fX eY
  replace h := bj (a := a) (p := p) (pa := pa) (dr := dr) (gg := gg) (x := x.bF v.g (au x v.g)) (dy hl) h b
  rw [ex] at h
  refine uW (b := b) (x := x) h hg (hv trivial) hs ?_
  clear h
  intro M h
  repeat (first | (refine aq h ?_; clear h; intro kb M h) | (refine av h ?_; clear h; intro M h) | refine St.to h ?_ | (apply Exists.intro; (repeat apply Exists.intro); refine And.intro rfl ?_) | (refine And.intro ?_ ?_; first | exact rfl | ((repeat (refine ay (aA h) ?_)); exact ae) | omega) | refine ai ?_ | refine aj ?_)
  have Lm := uX (k := v.cs) hg
  refine hU (b := b) h Lm.1 Lm.2.1 (by show x.ready.length ≤ _; omega) ?_
  clear h
  intro M h
  exact ⟨rfl, k _ h.b7⟩
 ·simp only [JE, if_false] at k
  repeat (first | (refine aq h ?_; clear h; intro kb M h) | (refine av h ?_; clear h; intro M h) | refine St.to h ?_ | (apply Exists.intro; (repeat apply Exists.intro); refine And.intro rfl ?_) | (refine And.intro ?_ ?_; first | exact rfl | ((repeat (refine ay (aA h) ?_)); exact ae) | omega) | refine ai ?_ | refine aj ?_)
  replace h := cU h gb hl fX eY
  replace h := bj (a := a) (p := p) (pa := pa) (dr := dr) (gg := gg) (x := x.bF v.g (au x v.g)) (dy hl) h b
  rw [ex] at h
  refine hU (b := b) (x := x) h h0 h1 (by omega) ?_
  clear h
  intro M h
  exact ⟨rfl, k _ h.b7⟩
end
def uY (x : Wd) (k : Int) : Prop := 0 ≤ k ∧ k < x.aE.length
instance (x : Wd) (k : Int) : Decidable (uY x k) := by unfold uY; infer_instance
def oH (p : b6) (x : Wd) (k v : Int) : Prop := uY x k ∧ (((dX x.aE k).send v).2.2.1 = true → pU p x ((dX x.aE k).send v).2.1) ∧ ((dX x.aE k).send v).1.Small 1000000
instance (p : b6) (x : Wd) (k v : Int) : Decidable (oH p x k v) := by unfold oH; infer_instance
def uZ (x : Wd) (k : Int) : Prop := uY x k ∧ ((dX x.aE k).recv.2.2.2.2.1 = true → xw x (dX x.aE k).recv.2.2.2.1) ∧ (dX x.aE k).recv.1.Small 1000000
instance (x : Wd) (k : Int) : Decidable (uZ x k) := by unfold uZ; infer_instance
theorem Ft {x : Wd} {k : Int} {c : aX} (h : x.Sm) (hc : c.Small 1000000) : (x.cw k c).Sm := by
 obtain ⟨s1, s2, s3⟩ := h
 refine ⟨fun d hd => ?_, by simpa [Wd.cw] using s2, s3⟩
 rcases mem_set hd with h | rfl
 ·exact s1 d h
 ·exact hc
section
variable {R : Mem} {L L' : List HP} {M : Mem} {K : Value → Mem → Prop} {Kp : List PanicEntry → Mem → Prop} {pa : PA} {p : b6} {gg : List GA} {dr : Value} {b : Nat} {x : Wd}
theorem qS {a : WA} {k : Int} {c : aX} (hl : fj gg a x) : fj gg a (x.cw k c) := by
 obtain ⟨l1, l2, l3, l4⟩ := hl
 exact ⟨l1, l2, by simpa [Wd.cw] using l3, l4⟩
theorem O0 {a : WA} {k : Int} (h : Hp R L M) [q : fP bM L a.cb x.aE L'] (hl : fj gg a x) (hk : uY x k) : ∃ cb, a.cb[k.toNat]? = some cb ∧ x.aE[k.toNat]? = some (dX x.aE k) ∧ Hp R (aB bM cb (dX x.aE k) :: lV bM a.cb x.aE k.toNat :: L') M := by
 obtain ⟨l1, l2, l3, l4⟩ := hl
 obtain ⟨k0, k1⟩ := hk
 obtain ⟨cb, hcb⟩ := aR (l := a.cb) (i := k.toNat) (by omega)
 obtain ⟨y, hy⟩ := aR (l := x.aE) (i := k.toNat) (by omega)
 have e : dX x.aE k = y := by simp [dX, hy]
 rw [e]
 exact ⟨cb, hcb, hy, h.dn bM hcb hy⟩
theorem Cl {k v : Int} (h : Hp R L M) [o : wC b L pa p gg dr x L'] (hp : RS iB R pa.k pa.kc p.cases) (hk : oH p x k v) (hs : x.Sm)
  (k1 : ∀ y ok M', x.put p k v = .on (y, ok) → Hp R (aB (bB pa p gg dr) b y :: L') M' → K (.bool ok) M')
  (k2 : ∀ y n M', x.put p k v = .eR n y → Hp R (aB (bB pa p gg dr) b y :: L') M' → Kp [{ v := .iface 256 (.int .i64 n), recovered := false }] M') :
  aa Tryz.prog 159 #[.pointer (some ⟨b, 0, none⟩), .int .i64 k, .int .i64 v] M K Kp := by
 refine tf ?_
 obtain ⟨hc, hr, Jo⟩ := hk
 have hs' := hs
 obtain ⟨s1, s2, s3, s4, s5, s6, s7, s8⟩ := hs'
 have h' := cy h (b := b)
 clear h
 obtain ⟨a, hl, h⟩ := h'
 have hl' := hl
 obtain ⟨l1, l2, l3, l4⟩ := hl'
 have Gh := hc
 obtain ⟨c0, c1⟩ := Gh
 have h' := O0 h hl hc
 clear h
 obtain ⟨cb, hcb, yx, h⟩ := h'
 repeat (first | (refine aq h ?_; clear h; intro kb M h) | (refine av h ?_; clear h; intro M h) | refine St.to h ?_ | (apply Exists.intro; (repeat apply Exists.intro); refine And.intro rfl ?_) | (refine And.intro ?_ ?_; first | exact rfl | ((repeat (refine ay (aA h) ?_)); exact ae) | omega) | refine ai ?_ | refine aj ?_)
 refine vz h hcb fun q hq => ?_
 have hsc : (dX x.aE k).Small 1000000 := s1 _ (uF c0 c1)
 refine G5 h (hsc.mono (by omega)) ?_
 clear h
 intro M h
 replace h := h.eu bM cb hcb (by omega)
 unfold Wd.put at k1 k2
 dsimp only at k1 k2
 generalize (dX x.aE k).send v = s at h k1 k2 hr Jo
 obtain ⟨c', w, ok, e⟩ := s
 dsimp only [SS] at h k1 k2 hr Jo ⊢
 refine ⟨w.g, w.cs, w.v, ok, e, rfl, ?_⟩
 repeat (first | (refine aq h ?_; clear h; intro kb M h) | (refine av h ?_; clear h; intro M h) | refine St.to h ?_ | (apply Exists.intro; (repeat apply Exists.intro); refine And.intro rfl ?_) | (refine And.intro ?_ ?_; first | exact rfl | ((repeat (refine ay (aA h) ?_)); exact ae) | omega) | refine ai ?_ | refine aj ?_)
 refine aY.2 ⟨fun e10 => ?_, fun e10 => ?_⟩
 ·rw [if_pos e10] at k2
  replace h := bj (a := a) (p := p) (pa := pa) (dr := dr) (gg := gg) (x := x.cw k c') (qS hl) h b
  exact k2 _ _ _ rfl h.b7
 ·rw [if_neg e10] at k1
  replace h := bj (a := a) (p := p) (pa := pa) (dr := dr) (gg := gg) (x := x.cw k c') (qS hl) h b
  refine gL.2 ⟨fun ht => ?_, fun ht => ?_⟩
  ·subst ht
   simp only [if_true] at k1
   repeat (first | (refine aq h ?_; clear h; intro kb M h) | (refine av h ?_; clear h; intro M h) | refine St.to h ?_ | (apply Exists.intro; (repeat apply Exists.intro); refine And.intro rfl ?_) | (refine And.intro ?_ ?_; first | exact rfl | ((repeat (refine ay (aA h) ?_)); exact ae) | omega) | refine ai ?_ | refine aj ?_)
   refine qq (b := b) (v := w) h hp (show pU p (x.cw k c') w from hr rfl) (Ft hs Jo) ?_
   clear h
   intro M h
   exact ⟨rfl, k1 _ _ _ rfl h.b7⟩
  ·subst ht
   simp only [Bool.false_eq_true, if_false] at k1
   exact k1 _ _ _ rfl h.b7
theorem Cm {k : Int} (h : Hp R L M) [o : wC b L pa p gg dr x L'] (hk : uZ x k) (hs : x.Sm)
  (k1 : ∀ M', Hp R (aB (bB pa p gg dr) b (x.get k).1 :: L') M' → K (.tuple #[.int .i64 (x.get k).2.1, .int .i64 (x.get k).2.2.1, .bool (x.get k).2.2.2]) M') :
  aa Tryz.prog 160 #[.pointer (some ⟨b, 0, none⟩), .int .i64 k] M K Kp := by
 refine tg ?_
 obtain ⟨hc, hr, Jo⟩ := hk
 have hs' := hs
 obtain ⟨s1, s2, s3, s4, s5, s6, s7, s8⟩ := hs'
 have h' := cy h (b := b)
 clear h
 obtain ⟨a, hl, h⟩ := h'
 have hl' := hl
 obtain ⟨l1, l2, l3, l4⟩ := hl'
 have Gh := hc
 obtain ⟨c0, c1⟩ := Gh
 have h' := O0 h hl hc
 clear h
 obtain ⟨cb, hcb, yx, h⟩ := h'
 repeat (first | (refine aq h ?_; clear h; intro kb M h) | (refine av h ?_; clear h; intro M h) | refine St.to h ?_ | (apply Exists.intro; (repeat apply Exists.intro); refine And.intro rfl ?_) | (refine And.intro ?_ ?_; first | exact rfl | ((repeat (refine ay (aA h) ?_)); exact ae) | omega) | refine ai ?_ | refine aj ?_)
 refine vz h hcb fun q hq => ?_
 have hsc : (dX x.aE k).Small 1000000 := s1 _ (uF c0 c1)
 refine G6 h (hsc.mono (by omega)) ?_
 clear h
 intro M h
 replace h := h.eu bM cb hcb (by omega)
 unfold Wd.get at k1
 dsimp only at k1
 generalize (dX x.aE k).recv = s at h k1 hr Jo
 obtain ⟨c', v, some, w, JF, e⟩ := s
 dsimp only [SU] at h k1 hr Jo ⊢
 refine ⟨v, some, w.g, w.cs, w.v, JF, e, rfl, ?_⟩
 repeat (first | (refine aq h ?_; clear h; intro kb M h) | (refine av h ?_; clear h; intro M h) | refine St.to h ?_ | (apply Exists.intro; (repeat apply Exists.intro); refine And.intro rfl ?_) | (refine And.intro ?_ ?_; first | exact rfl | ((repeat (refine ay (aA h) ?_)); exact ae) | omega) | refine ai ?_ | refine aj ?_)
 replace h := bj (a := a) (p := p) (pa := pa) (dr := dr) (gg := gg) (x := x.cw k c') (qS hl) h b
 refine gL.2 ⟨fun ht => ?_, fun ht => ?_⟩
 ·subst ht
  simp only [if_true] at k1
  repeat (first | (refine aq h ?_; clear h; intro kb M h) | (refine av h ?_; clear h; intro M h) | refine St.to h ?_ | (apply Exists.intro; (repeat apply Exists.intro); refine And.intro rfl ?_) | (refine And.intro ?_ ?_; first | exact rfl | ((repeat (refine ay (aA h) ?_)); exact ae) | omega) | refine ai ?_ | refine aj ?_)
  refine HY (b := b) (v := w) h (show xw (x.cw k c') w from hr rfl) (Ft hs Jo) ?_
  clear h
  intro M h
  repeat (first | (refine aq h ?_; clear h; intro kb M h) | (refine av h ?_; clear h; intro M h) | refine St.to h ?_ | (apply Exists.intro; (repeat apply Exists.intro); refine And.intro rfl ?_) | (refine And.intro ?_ ?_; first | exact rfl | ((repeat (refine ay (aA h) ?_)); exact ae) | omega) | refine ai ?_ | refine aj ?_)
  refine gL.2 ⟨fun hb => ?_, fun hb => ?_⟩
  ·subst hb
   repeat (first | (refine aq h ?_; clear h; intro kb M h) | (refine av h ?_; clear h; intro M h) | refine St.to h ?_ | (apply Exists.intro; (repeat apply Exists.intro); refine And.intro rfl ?_) | (refine And.intro ?_ ?_; first | exact rfl | ((repeat (refine ay (aA h) ?_)); exact ae) | omega) | refine ai ?_ | refine aj ?_)
   exact k1 _ h.b7
  ·subst hb
   exact k1 _ h.b7
 ·subst ht
  simp only [Bool.false_eq_true, if_false] at k1
  repeat (first | (refine aq h ?_; clear h; intro kb M h) | (refine av h ?_; clear h; intro M h) | refine St.to h ?_ | (apply Exists.intro; (repeat apply Exists.intro); refine And.intro rfl ?_) | (refine And.intro ?_ ?_; first | exact rfl | ((repeat (refine ay (aA h) ?_)); exact ae) | omega) | refine ai ?_ | refine aj ?_)
  refine gL.2 ⟨fun hb => ?_, fun hb => ?_⟩
  ·subst hb
   repeat (first | (refine aq h ?_; clear h; intro kb M h) | (refine av h ?_; clear h; intro M h) | refine St.to h ?_ | (apply Exists.intro; (repeat apply Exists.intro); refine And.intro rfl ?_) | (refine And.intro ?_ ?_; first | exact rfl | ((repeat (refine ay (aA h) ?_)); exact ae) | omega) | refine ai ?_ | refine aj ?_)
   exact k1 _ h.b7
  ·subst hb
   exact k1 _ h.b7
end
end Go.Proofs
namespace Go.Proofs
open Go.AF
def bC (x : Wd) (g q : Int) : Int := (au x g).top.bT q
def Wd.JG (x : Wd) (k g v : Int) : Wd := x.cw k { dX x.aE k with snd := (dX x.aE k).snd ++ [⟨g, 0, v⟩] }
def Wd.JH (x : Wd) (k g : Int) : Wd := x.cw k { dX x.aE k with eI := (dX x.aE k).eI ++ [⟨g, 0, 0⟩] }
def Wd.send (p : b6) (x : Wd) (g : Int) (i : cI) : Out Wd := match x.put p i.a (bC x g i.b) with
 | .eR n y => .eR n y
 | .cO l y => .cO l y
 | .on (y, true) => .on y
 | .on (y, false) => .on ((y.JG i.a g (bC y g i.b)).block g i)
def Wd.recv (x : Wd) (g : Int) (i : cI) : Wd :=
 if (x.get i.a).2.2.2 then ((x.get i.a).1.bA g i.b (x.get i.a).2.1).bA g i.c (x.get i.a).2.2.1
 else ((x.get i.a).1.JH i.a g).block g i
def dZ (p : b6) (x : Wd) (v : Wt) : Wd := if (au x v.g).st = 2 then x.received p { v with v := 0 } 0 else x
def Wd.shut (p : b6) (x : Wd) (i : cI) : Out Wd :=
 let s := (dX x.aE i.a).close
 let y := x.cw i.a s.1
 if s.2.2.2 ≠ 0 then .eR (-2) y else if 0 < s.2.2.1.length then .eR (-1) y else .on (s.2.1.foldl (dZ p) y)
def wD (p : b6) (x : Wd) : List Wt → Prop
 | [] => True
 | v :: l => x.Sm ∧ 0 ≤ v.g ∧ v.g < x.gs.length ∧ ((au x v.g).st = 2 → pU p x { v with v := 0 }) ∧ wD p (dZ p x v) l
instance HZ (p : b6) : ∀ (l : List Wt) (x : Wd), Decidable (wD p x l)
 | [], _ => isTrue trivial
 | v :: l, x => by
  have := HZ p l (dZ p x v)
  unfold wD; infer_instance
theorem Cn {p : b6} : ∀ {l : List Wt} {x : Wd} {i : Nat} {v : Wt}, wD p x l → l[i]? = some v →
  let y := (l.take i).foldl (dZ p) x
  y.Sm ∧ 0 ≤ v.g ∧ v.g < y.gs.length ∧ ((au y v.g).st = 2 → pU p y { v with v := 0 })
 | [], _, _, _, _, h => by simp at h
 | w :: l, x, 0, v, h, hv => by simp at hv; subst hv; exact ⟨h.1, h.2.1, h.2.2.1, h.2.2.2.1⟩
 | w :: l, x, i + 1, v, h, hv => Cn (l := l) h.2.2.2.2 (by simpa using hv)
def Wd.emit (x : Wd) (g : Int) (i : cI) : Out Wd := if x.out.length ≥ 1000 then .eR (-6) x else .on { x with out := x.out ++ [bC x g i.a] }
def Wd.spawn (x : Wd) (g : Int) (i : cI) : Out Wd := if x.gs.length ≥ 100 then .eR (-5) x else
 .on ((Wd.fx { x with gs := x.gs ++ [⟨0, [gM.begin i.a (bC x g i.b)], .zero⟩] } (x.gs.length : Int)).bA g i.c (x.gs.length : Int))
def Wd.call (x : Wd) (g : Int) (i : cI) : Out Wd := if (au x g).fs.length ≥ 16 then .eR (-4) x else
 .on (x.bF g { au x g with fs := (au x g).fs ++ [⟨i.a, 0, [bC x g i.b, 0, 0, 0, 0, 0, 0, 0], i.c⟩] })
def jh.back (y : jh) (v : Int) : jh := { y with fs := (y.fs.take (y.fs.length - 1)).set (y.fs.length - 2) ((y.fs.getD (y.fs.length - 2) ⟨0, 0, [], 0⟩).set y.top.rm v) }
def Wd.back (x : Wd) (g : Int) (i : cI) : Wd := if 2 ≤ (au x g).fs.length then x.bF g ((au x g).back (bC x g i.a))
 else if g = 0 then { x.bF g { au x g with st := 4 } with end_ := 1 } else x.bF g { au x g with st := 4 }
end Go.Proofs
namespace Go.Proofs
open Go.AF
set_option maxRecDepth 100000
set_option maxHeartbeats 1000000
attribute [local irreducible] aK cJ fJ bO aD fz aG aO be aS bJ aV
section
variable {R : Mem} {L L' : List HP} {M : Mem} {K : Value → Mem → Prop} {Kp : List PanicEntry → Mem → Prop} {pa : PA} {p : b6} {gg : List GA} {dr : Value} {b : Nat} {x : Wd}
theorem gP {g : Int} {A : Option Addr} {c : Nat} (h : Hp R L M) [o : wC b L pa p gg dr x L'] (h0 : 0 ≤ g) (hg : g < x.gs.length) (eY : gg[g.toNat]? = some (A, c)) :
  ∃ (a : WA) (gb : Nat), fj gg a x ∧ a.gb[g.toNat]? = some gb ∧
   Hp R (pt gb (qp (au x g) A c) 182 :: uU A c (au x g).fs :: pt b (mE pa p dr a x) 164 :: lV fZ a.gb (x.gs.zip gg) g.toNat :: sI a x L') M := by
 obtain ⟨a, gb, A', c', hl, fX, ZR, h1⟩ := jP h (b := b) h0 hg
 rw [eY] at ZR
 cases ZR
 exact ⟨a, gb, hl, fX, h1⟩
theorem Fu {g q : Int} {bs c oo : Nat} {G : Int → Prop} (h : Hp R L M) [o : wC b L pa p gg dr x L'] (hg : bp x g) (eY : gg[g.toNat]? = some (some ⟨bs, 0, none⟩, c)) (hq : bh q) (e : oo = ((au x g).fs.length - 1) * 11 + 2 + q.toNat)
  (k : G (bC x g q)) : aK (M.ld ⟨bs, oo, none⟩) .i64 G := by
 obtain ⟨h0, h1, h2, h3⟩ := hg
 obtain ⟨a, gb, hl, fX, h4⟩ := gP h (b := b) h0 h1 eY
 exact uV h4 (eJ h2) hq e k
theorem l8 {g q v : Int} {bs c oo : Nat} {G : Mem → Prop} (h : Hp R L M) [o : wC b L pa p gg dr x L'] (hg : bp x g) (eY : gg[g.toNat]? = some (some ⟨bs, 0, none⟩, c)) (hq : bh q) (e : oo = ((au x g).fs.length - 1) * 11 + 2 + q.toNat)
  (k : ∀ M', Hp R (aB (bB pa p gg dr) b (x.bA g q v) :: L') M' → G M') : aO M ⟨bs, oo, none⟩ (.int .i64 v) G := by
 obtain ⟨h0, h1, h2, h3⟩ := hg
 obtain ⟨a, gb, hl, fX, h4⟩ := gP h (b := b) h0 h1 eY
 refine wB h4 (eJ h2) hq e fun M' h5 => ?_
 replace h5 := cU h5 gb hl fX eY (by simp)
 exact k M' (bj (a := a) (p := p) (pa := pa) (dr := dr) (gg := gg) (x := x.bA g q v) (dy hl) h5 b)
theorem Tf {G : Option Addr → Nat → Nat → Prop} (h : Hp R L M) [o : wC b L pa p gg dr x L'] (k1 : ∀ a : WA, fj gg a x → Hp R (pt b (mE pa p dr a x) 164 :: bn fZ a.gb (x.gs.zip gg) :: sI a x L') M → G a.ac a.cb.length a.cc) : aD (M.ld ⟨b, 0 + 6, none⟩) G := by
 obtain ⟨a, hl, h1⟩ := cy h (b := b)
 exact aQ h1 (k1 a hl h1)
def Out.Ok {α : Type} (r : Out α) (k1 : α → Prop) (k2 : Int → Wd → Prop) (k3 : List PanicEntry → Wd → Prop := fun _ _ => True) : Prop := match r with
 | .on y => k1 y
 | .eR n y => k2 n y
 | .cO l y => k3 l y
def zU (x : Wd) (k : Int) : Prop := uY x k ∧ (dX x.aE k).Small 999999
instance (x : Wd) (k : Int) : Decidable (zU x k) := by unfold zU; infer_instance
def H6 (p : b6) (x : Wd) (g : Int) (i : cI) : Prop := bp x g ∧ bh i.b ∧ oH p x i.a (bC x g i.b) ∧
 match x.put p i.a (bC x g i.b) with
 | .on (y, false) => bp y g ∧ (au y g).fs.length = (au x g).fs.length ∧ zU y i.a
 | _ => True
theorem H7 {g : Int} {i : cI} {bs c : Nat} (h : Hp R L M) [o : wC b L pa p gg dr x L'] (hp : RS iB R pa.k pa.kc p.cases) (eY : gg[g.toNat]? = some (some ⟨bs, 0, none⟩, c)) (hk : H6 p x g i) (hs : x.Sm)
  (k : Out.Ok (x.send p g i) (fun y => ∀ M', Hp R (aB (bB pa p gg dr) b y :: L') M' → K (.tuple #[]) M')
   (fun n y => ∀ M', Hp R (aB (bB pa p gg dr) b y :: L') M' → Kp [{ v := .iface 256 (.int .i64 n), recovered := false }] M')) :
  aa Tryz.prog 165 #[.pointer (some ⟨b, 0, none⟩), .int .i64 g, .pointer (some ⟨bs, ((au x g).fs.length - 1) * 11, none⟩), .agg #[.int .i64 i.op, .int .i64 i.a, .int .i64 i.b, .int .i64 i.c]] M K Kp := by
 refine rG ?_
 obtain ⟨hg, hb, hput, hw⟩ := hk
 repeat (first | (refine aq h ?_; clear h; intro kb M h) | (refine av h ?_; clear h; intro M h) | refine St.to h ?_ | (apply Exists.intro; (repeat apply Exists.intro); refine And.intro rfl ?_) | (refine And.intro ?_ ?_; first | exact rfl | ((repeat (refine ay (aA h) ?_)); exact ae) | omega) | refine ai ?_ | refine aj ?_)
 refine ⟨hb.1, hb.2, Fu (b := b) h hg eY hb rfl ?_⟩
 unfold Wd.send at k
 refine Cl (b := b) h hp hput hs ?_ ?_
 ·intro y ok M' e h
  rw [e] at k hw
  cases ok with
  | true =>
   dsimp only at k
   refine mU (aj ?_)
   exact k _ h.b7
  | false =>
   dsimp only at k hw
   obtain ⟨Fv, hfl, yx, Jo⟩ := hw
   refine mU (ai ?_)
   refine Tf h fun a hl h => ?_
   have hl' := hl
   obtain ⟨l1, l2, l3, l4⟩ := hl'
   have Gh := yx
   obtain ⟨c0, c1⟩ := Gh
   have h' := O0 h hl yx
   clear h
   obtain ⟨cb, hcb, WC, h⟩ := h'
   repeat (first | (refine aq h ?_; clear h; intro kb M h) | (refine av h ?_; clear h; intro M h) | refine St.to h ?_ | (apply Exists.intro; (repeat apply Exists.intro); refine And.intro rfl ?_) | (refine And.intro ?_ ?_; first | exact rfl | ((repeat (refine ay (aA h) ?_)); exact ae) | omega) | refine ai ?_ | refine aj ?_)
   refine vz h hcb fun q hq => ?_
   repeat (first | (refine aq h ?_; clear h; intro kb M h) | (refine av h ?_; clear h; intro M h) | refine St.to h ?_ | (apply Exists.intro; (repeat apply Exists.intro); refine And.intro rfl ?_) | (refine And.intro ?_ ?_; first | exact rfl | ((repeat (refine ay (aA h) ?_)); exact ae) | omega) | refine ai ?_ | refine aj ?_)
   refine ⟨hb.1, hb.2, ?_⟩
   have h2 := h.qQ bM cb hcb WC
   have h3 := bj (a := a) (p := p) (pa := pa) (dr := dr) (gg := gg) (x := y) hl h2 b
   refine Fu (b := b) h3 Fv eY hb (by rw [hfl]) ?_
   clear h2 h3
   refine pR (w := ⟨g, 0, bC y g i.b⟩) h (Jo.mono (by omega)) ?_
   clear h
   intro M h
   replace h := h.eu bM cb hcb (by omega)
   replace h := bj (a := a) (p := p) (pa := pa) (dr := dr) (gg := gg) (x := y.JG i.a g (bC y g i.b)) (qS hl) h b
   repeat (first | (refine aq h ?_; clear h; intro kb M h) | (refine av h ?_; clear h; intro M h) | refine St.to h ?_ | (apply Exists.intro; (repeat apply Exists.intro); refine And.intro rfl ?_) | (refine And.intro ?_ ?_; first | exact rfl | ((repeat (refine ay (aA h) ?_)); exact ae) | omega) | refine ai ?_ | refine aj ?_)
   refine lZ (b := b) (i := i) (x := y.JG i.a g (bC y g i.b)) h Fv.1 Fv.2.1 ?_
   clear h
   intro M h
   exact ⟨rfl, k _ h.b7⟩
 ·intro y n M' e h
  rw [e] at k
  exact k _ h.b7
def wE (x : Wd) (g : Int) (i : cI) : Prop := bp x g ∧ bh i.b ∧ bh i.c ∧ uZ x i.a ∧ bp (x.get i.a).1 g ∧ (au (x.get i.a).1 g).fs.length = (au x g).fs.length ∧ ((x.get i.a).2.2.2 = false → zU (x.get i.a).1 i.a)
theorem H8 {g : Int} {i : cI} {bs c : Nat} (h : Hp R L M) [o : wC b L pa p gg dr x L'] (eY : gg[g.toNat]? = some (some ⟨bs, 0, none⟩, c)) (hk : wE x g i) (hs : x.Sm)
  (k : ∀ M', Hp R (aB (bB pa p gg dr) b (x.recv g i) :: L') M' → K (.tuple #[]) M') :
  aa Tryz.prog 166 #[.pointer (some ⟨b, 0, none⟩), .int .i64 g, .pointer (some ⟨bs, ((au x g).fs.length - 1) * 11, none⟩), .agg #[.int .i64 i.op, .int .i64 i.a, .int .i64 i.b, .int .i64 i.c]] M K Kp := by
 refine rH ?_
 obtain ⟨hg, hb, hc, WD, Fv, hfl, hw⟩ := hk
 repeat (first | (refine aq h ?_; clear h; intro kb M h) | (refine av h ?_; clear h; intro M h) | refine St.to h ?_ | (apply Exists.intro; (repeat apply Exists.intro); refine And.intro rfl ?_) | (refine And.intro ?_ ?_; first | exact rfl | ((repeat (refine ay (aA h) ?_)); exact ae) | omega) | refine ai ?_ | refine aj ?_)
 refine Cm (b := b) h WD hs ?_
 clear h
 intro M h
 unfold Wd.recv at k
 generalize x.get i.a = r at h k Fv hfl hw
 obtain ⟨y, v, sm, ok⟩ := r
 dsimp only at h k Fv hfl hw ⊢
 refine ⟨v, sm, ok, rfl, ?_⟩
 cases ok with
 | true =>
  simp only [if_true] at k
  refine aj ?_
  repeat (first | (refine aq h ?_; clear h; intro kb M h) | (refine av h ?_; clear h; intro M h) | refine St.to h ?_ | (apply Exists.intro; (repeat apply Exists.intro); refine And.intro rfl ?_) | (refine And.intro ?_ ?_; first | exact rfl | ((repeat (refine ay (aA h) ?_)); exact ae) | omega) | refine ai ?_ | refine aj ?_)
  refine ⟨hb.1, hb.2, ?_⟩
  repeat (first | (refine aq h ?_; clear h; intro kb M h) | (refine av h ?_; clear h; intro M h) | refine St.to h ?_ | (apply Exists.intro; (repeat apply Exists.intro); refine And.intro rfl ?_) | (refine And.intro ?_ ?_; first | exact rfl | ((repeat (refine ay (aA h) ?_)); exact ae) | omega) | refine ai ?_ | refine aj ?_)
  refine l8 (b := b) h Fv eY hb (by rw [hfl]) ?_
  clear h
  intro M h
  repeat (first | (refine aq h ?_; clear h; intro kb M h) | (refine av h ?_; clear h; intro M h) | refine St.to h ?_ | (apply Exists.intro; (repeat apply Exists.intro); refine And.intro rfl ?_) | (refine And.intro ?_ ?_; first | exact rfl | ((repeat (refine ay (aA h) ?_)); exact ae) | omega) | refine ai ?_ | refine aj ?_)
  have Lm := iR (q := i.b) (v := v) Fv
  have EF : (au (y.bA g i.b v) g).fs.length = (au x g).fs.length := by rw [iQ Fv]; simpa [jh.cN] using hfl
  refine ⟨hc.1, hc.2, l8 (b := b) h Lm eY hc (by rw [EF]) ?_⟩
  clear h
  intro M h
  repeat (first | (refine aq h ?_; clear h; intro kb M h) | (refine av h ?_; clear h; intro M h) | refine St.to h ?_ | (apply Exists.intro; (repeat apply Exists.intro); refine And.intro rfl ?_) | (refine And.intro ?_ ?_; first | exact rfl | ((repeat (refine ay (aA h) ?_)); exact ae) | omega) | refine ai ?_ | refine aj ?_)
  exact k _ h.b7
 | false =>
  simp only [Bool.false_eq_true, if_false] at k
  refine ai ?_
  obtain ⟨yx, Jo⟩ := hw rfl
  refine Tf h fun a hl h => ?_
  have hl' := hl
  obtain ⟨l1, l2, l3, l4⟩ := hl'
  have Gh := yx
  obtain ⟨c0, c1⟩ := Gh
  have h' := O0 h hl yx
  clear h
  obtain ⟨cb, hcb, WC, h⟩ := h'
  repeat (first | (refine aq h ?_; clear h; intro kb M h) | (refine av h ?_; clear h; intro M h) | refine St.to h ?_ | (apply Exists.intro; (repeat apply Exists.intro); refine And.intro rfl ?_) | (refine And.intro ?_ ?_; first | exact rfl | ((repeat (refine ay (aA h) ?_)); exact ae) | omega) | refine ai ?_ | refine aj ?_)
  refine vz h hcb fun q hq => ?_
  refine pS (w := ⟨g, 0, 0⟩) h (Jo.mono (by omega)) ?_
  clear h
  intro M h
  replace h := h.eu bM cb hcb (by omega)
  replace h := bj (a := a) (p := p) (pa := pa) (dr := dr) (gg := gg) (x := y.JH i.a g) (qS hl) h b
  repeat (first | (refine aq h ?_; clear h; intro kb M h) | (refine av h ?_; clear h; intro M h) | refine St.to h ?_ | (apply Exists.intro; (repeat apply Exists.intro); refine And.intro rfl ?_) | (refine And.intro ?_ ?_; first | exact rfl | ((repeat (refine ay (aA h) ?_)); exact ae) | omega) | refine ai ?_ | refine aj ?_)
  refine lZ (b := b) (i := i) (x := y.JH i.a g) h Fv.1 Fv.2.1 ?_
  clear h
  intro M h
  exact ⟨rfl, k _ h.b7⟩
theorem H9 {g : Int} {i : cI} {bs c : Nat} (h : Hp R L M) [o : wC b L pa p gg dr x L'] (eY : gg[g.toNat]? = some (some ⟨bs, 0, none⟩, c)) (hg : bp x g) (ha : bh i.a) (hs : x.Sm)
  (k : Out.Ok (x.emit g i) (fun y => ∀ M', Hp R (aB (bB pa p gg dr) b y :: L') M' → K (.tuple #[]) M')
   (fun n y => ∀ M', Hp R (aB (bB pa p gg dr) b y :: L') M' → Kp [{ v := .iface 256 (.int .i64 n), recovered := false }] M')) :
  aa Tryz.prog 171 #[.pointer (some ⟨b, 0, none⟩), .int .i64 g, .pointer (some ⟨bs, ((au x g).fs.length - 1) * 11, none⟩), .agg #[.int .i64 i.op, .int .i64 i.a, .int .i64 i.b, .int .i64 i.c]] M K Kp := by
 refine rL ?_
 obtain ⟨s1, s2, s3, s4, s5, s6, s7, s8⟩ := hs
 have yy := hg
 obtain ⟨h0, h1, h2, h3⟩ := yy
 unfold Wd.emit at k
 refine aq h ?_
 clear h
 intro kb M h
 have h' := gP h (b := b) h0 h1 eY
 clear h
 obtain ⟨a, gb, hl, fX, h⟩ := h'
 have hl' := hl
 obtain ⟨l1, l2, l3, l4⟩ := hl'
 have ex : x.bF g (au x g) = x := by
  obtain ⟨y, hy⟩ := aR (l := x.gs) (i := g.toNat) (by omega)
  have e : au x g = y := by simp [au, hy]
  rw [e]
  obtain ⟨hi, rfl⟩ := List.getElem?_eq_some_iff.1 hy
  simp [Wd.bF]
 repeat (first | (refine aq h ?_; clear h; intro kb M h) | (refine av h ?_; clear h; intro M h) | refine St.to h ?_ | (apply Exists.intro; (repeat apply Exists.intro); refine And.intro rfl ?_) | (refine And.intro ?_ ?_; first | exact rfl | ((repeat (refine ay (aA h) ?_)); exact ae) | omega) | refine ai ?_ | refine aj ?_)
 refine aP.2 ⟨fun hn => ?_, fun hn => ?_⟩
 ·rw [if_pos (by omega)] at k
  replace h := cU h gb hl fX eY
  have jD := dy (y := au x g) (g := g) hl
  replace h := bj (a := a) (p := p) (pa := pa) (dr := dr) (gg := gg) (x := x.bF g (au x g)) jD h b
  rw [ex] at h
  exact k _ h.b7
 ·rw [if_neg (by omega)] at k
  repeat (first | (refine aq h ?_; clear h; intro kb M h) | (refine av h ?_; clear h; intro M h) | refine St.to h ?_ | (apply Exists.intro; (repeat apply Exists.intro); refine And.intro rfl ?_) | (refine And.intro ?_ ?_; first | exact rfl | ((repeat (refine ay (aA h) ?_)); exact ae) | omega) | refine ai ?_ | refine aj ?_)
  refine ⟨ha.1, ha.2, uV h (eJ h2) ha rfl ?_⟩
  repeat (first | (refine aq h ?_; clear h; intro kb M h) | (refine av h ?_; clear h; intro M h) | refine St.to h ?_ | (apply Exists.intro; (repeat apply Exists.intro); refine And.intro rfl ?_) | (refine And.intro ?_ ?_; first | exact rfl | ((repeat (refine ay (aA h) ?_)); exact ae) | omega) | refine ai ?_ | refine aj ?_)
  refine h.bS zc [bC x g i.a] rfl rfl (by simp; omega) ?_
  clear h
  intro A' c' M h
  repeat (first | (refine aq h ?_; clear h; intro kb M h) | (refine av h ?_; clear h; intro M h) | refine St.to h ?_ | (apply Exists.intro; (repeat apply Exists.intro); refine And.intro rfl ?_) | (refine And.intro ?_ ?_; first | exact rfl | ((repeat (refine ay (aA h) ?_)); exact ae) | omega) | refine ai ?_ | refine aj ?_)
  replace h := cU h gb hl fX eY
  have jD := dy (y := au x g) (g := g) hl
  have h5 := bj (a := { a with ao := A', co := c' }) (p := p) (pa := pa) (dr := dr) (gg := gg) (x := { x.bF g (au x g) with out := x.out ++ [bC x g i.a] }) jD h b
  rw [ex] at h5
  exact k _ h5.b7
end
theorem Tg : bg Tryz.prog 158 177 1 8 [.pointer none] := bg.mk' (zv := .pointer none) (by kernel_rfl) (by kernel_rfl) rfl (by omega)
section
variable {R : Mem} {L L' : List HP} {M : Mem} {K : Value → Mem → Prop} {Kp : List PanicEntry → Mem → Prop} {pa : PA} {p : b6} {gg : List GA} {dr : Value} {b : Nat} {x : Wd}
def wF (x : Wd) (fn v : Int) : Wd := { x with gs := x.gs ++ [⟨0, [gM.begin fn v], .zero⟩] }
theorem O1 {a : WA} {k bs : Nat} {A' : Option Addr} {c' : Nat} {fn v : Int} (hl : fj gg a x)
  (h : Hp R (pt b (mE pa p dr { a with ag := A', cg := c', gb := a.gb ++ [k] } x) 164 :: zR A' c' (a.gb ++ [k]) :: pt k [.int .i64 0, .slice (some ⟨bs, 0, none⟩) 1 1, .int .i64 0, .int .i64 0, .int .i64 0, .int .i64 0] 182 ::
   uU (some ⟨bs, 0, none⟩) 1 [gM.begin fn v] :: bn fZ a.gb (x.gs.zip gg) :: zS a.ac a.cc a.cb :: bn bM a.cb x.aE :: zT a.al a.cl a.lb :: bn fW a.lb x.aL :: gn a.ah a.ch x.hl :: uB a.ao a.co x.out :: kD a.ar a.cr x.ready :: L) M) :
  Hp R (aB (bB pa p (gg ++ [(some ⟨bs, 0, none⟩, 1)]) dr) b (wF x fn v) :: L) M := by
 obtain ⟨l1, l2, l3, l4⟩ := hl
 have h1 := ng h k
 have h2 := h1.kM fZ k (by rw [List.length_zip]; omega)
 have e : x.gs.zip gg ++ [(⟨0, [gM.begin fn v], ⟨0, 0, 0, 0⟩⟩, (some ⟨bs, 0, none⟩, 1))] = (wF x fn v).gs.zip (gg ++ [(some ⟨bs, 0, none⟩, 1)]) := by
  unfold wF
  rw [List.zip_append (by omega)]; rfl
 rw [e] at h2
 exact bj (a := { a with ag := A', cg := c', gb := a.gb ++ [k] }) (p := p) (pa := pa) (dr := dr) (gg := gg ++ [(some ⟨bs, 0, none⟩, 1)]) (x := wF x fn v) ⟨by simp [wF, l1], by simp [wF, l2], l3, l4⟩ h2 b
theorem Ia {g fn v : Int} (hg : bp x g) : au (wF x fn v) g = au x g := by
 obtain ⟨h0, h1, h2, h3⟩ := hg
 unfold au wF
 dsimp only
 rw [List.getD_eq_getElem?_getD, List.getElem?_append_left (by omega), ← List.getD_eq_getElem?_getD]
theorem Fw {g : Int} {i : cI} {bs c : Nat} (h : Hp R L M) [o : wC b L pa p gg dr x L'] (eY : gg[g.toNat]? = some (some ⟨bs, 0, none⟩, c)) (hg : bp x g) (hb : bh i.b) (hc : bh i.c) (hs : x.Sm)
  (k : Out.Ok (x.spawn g i) (fun y => ∀ l9 M', Hp R (aB (bB pa p l9 dr) b y :: L') M' → K (.tuple #[]) M')
   (fun n y => ∀ M', Hp R (aB (bB pa p gg dr) b y :: L') M' → Kp [{ v := .iface 256 (.int .i64 n), recovered := false }] M')) :
  aa Tryz.prog 163 #[.pointer (some ⟨b, 0, none⟩), .int .i64 g, .pointer (some ⟨bs, ((au x g).fs.length - 1) * 11, none⟩), .agg #[.int .i64 i.op, .int .i64 i.a, .int .i64 i.b, .int .i64 i.c]] M K Kp := by
 refine pX ?_
 obtain ⟨s1, s2, s3, s4, s5, s6, s7, s8⟩ := hs
 unfold Wd.spawn at k
 refine aq h ?_
 clear h
 intro kb M h
 have hC := h
 have h' := cy h (b := b)
 clear h
 obtain ⟨a, hl, h⟩ := h'
 have hl' := hl
 obtain ⟨l1, l2, l3, l4⟩ := hl'
 refine aQ h ?_
 refine aP.2 ⟨fun hn => ?_, fun hn => ?_⟩
 ·rw [if_pos (by omega)] at k
  exact k _ (hC.drop.pick o.pick)
 rw [if_neg (by omega)] at k
 refine aQ h ?_
 refine ⟨fun vs M => ∃ bs', Hp R (aB (bB pa p (gg ++ [(some ⟨bs', 0, none⟩, 1)]) dr) b (wF x i.a (bC x g i.b)) :: pt kb [.int .i64 i.op, .int .i64 i.a, .int .i64 i.b, .int .i64 i.c] 34 :: L') M, ?_, ?_⟩
 ·repeat (first | (refine aq h ?_; clear h; intro kb M h) | (refine av h ?_; clear h; intro M h) | refine St.to h ?_ | (apply Exists.intro; (repeat apply Exists.intro); refine And.intro rfl ?_) | (refine And.intro ?_ ?_; first | exact rfl | ((repeat (refine ay (aA h) ?_)); exact ae) | omega) | refine ai ?_ | refine aj ?_)
  refine ⟨hb.1, hb.2, Fu (b := b) hC hg eY hb rfl ?_⟩
  clear hC
  refine ⟨?_, ?_, trivial⟩
  ·repeat (first | (refine aq h ?_; clear h; intro kb M h) | (refine av h ?_; clear h; intro M h) | refine St.to h ?_ | (apply Exists.intro; (repeat apply Exists.intro); refine And.intro rfl ?_) | (refine And.intro ?_ ?_; first | exact rfl | ((repeat (refine ay (aA h) ?_)); exact ae) | omega) | refine ai ?_ | refine aj ?_)
   refine qo h ?_
   clear h
   intro bs' M h
   repeat (first | (refine aq h ?_; clear h; intro kb M h) | (refine av h ?_; clear h; intro M h) | refine St.to h ?_ | (apply Exists.intro; (repeat apply Exists.intro); refine And.intro rfl ?_) | (refine And.intro ?_ ?_; first | exact rfl | ((repeat (refine ay (aA h) ?_)); exact ae) | omega) | refine ai ?_ | refine aj ?_)
   refine h.bS Tg [_] rfl rfl (by simp; omega) ?_
   clear h
   intro A' c' M h
   repeat (first | (refine aq h ?_; clear h; intro kb M h) | (refine av h ?_; clear h; intro M h) | refine St.to h ?_ | (apply Exists.intro; (repeat apply Exists.intro); refine And.intro rfl ?_) | (refine And.intro ?_ ?_; first | exact rfl | ((repeat (refine ay (aA h) ?_)); exact ae) | omega) | refine ai ?_ | refine aj ?_)
   exact ⟨bs', O1 hl (h.sub bz)⟩
  ·refine qo h ?_
   clear h
   intro bs' M h
   repeat (first | (refine aq h ?_; clear h; intro kb M h) | (refine av h ?_; clear h; intro M h) | refine St.to h ?_ | (apply Exists.intro; (repeat apply Exists.intro); refine And.intro rfl ?_) | (refine And.intro ?_ ?_; first | exact rfl | ((repeat (refine ay (aA h) ?_)); exact ae) | omega) | refine ai ?_ | refine aj ?_)
   refine h.bS Tg [_] rfl rfl (by simp; omega) ?_
   clear h
   intro A' c' M h
   repeat (first | (refine aq h ?_; clear h; intro kb M h) | (refine av h ?_; clear h; intro M h) | refine St.to h ?_ | (apply Exists.intro; (repeat apply Exists.intro); refine And.intro rfl ?_) | (refine And.intro ?_ ?_; first | exact rfl | ((repeat (refine ay (aA h) ?_)); exact ae) | omega) | refine ai ?_ | refine aj ?_)
   exact ⟨bs', O1 hl (h.sub bz)⟩
 ·clear h hC
  rintro _ M ⟨bs', h⟩
  have hlen : (wF x i.a (bC x g i.b)).gs.length = x.gs.length + 1 := by simp [wF]
  have yf : (x.gs.length : Int) = (a.gb.length : Int) := by omega
  rw [← yf]
  refine hU (b := b) h (by omega) (by omega) (by show x.ready.length ≤ _; omega) ?_
  clear h
  intro M h
  repeat (first | (refine aq h ?_; clear h; intro kb M h) | (refine av h ?_; clear h; intro M h) | refine St.to h ?_ | (apply Exists.intro; (repeat apply Exists.intro); refine And.intro rfl ?_) | (refine And.intro ?_ ?_; first | exact rfl | ((repeat (refine ay (aA h) ?_)); exact ae) | omega) | refine ai ?_ | refine aj ?_)
  have Lm : au ((wF x i.a (bC x g i.b)).fx (x.gs.length : Int)) g = au x g := by
   rw [← Ia (fn := i.a) (v := bC x g i.b) hg]
   obtain ⟨h0, h1, _⟩ := hg
   have hne : x.gs.length ≠ g.toNat := by omega
   simp [au, Wd.fx, Wd.bF, List.getElem?_set, hne]
  have hg3 : bp ((wF x i.a (bC x g i.b)).fx (x.gs.length : Int)) g := by
   refine ⟨hg.1, ?_, ?_, ?_⟩
   ·have h1 := hg.2.1
    simp only [Wd.fx, Wd.bF, List.length_set, hlen]; omega
   ·rw [Lm]; exact hg.2.2.1
   ·rw [Lm]; exact hg.2.2.2
  have ZS : (gg ++ [(some (⟨bs', 0, none⟩ : Addr), 1)])[g.toNat]? = some (some ⟨bs, 0, none⟩, c) := by
   rw [List.getElem?_append_left (by have := hg.2.1; have := hg.1; omega)]; exact eY
  refine ⟨hc.1, hc.2, l8 (b := b) h hg3 ZS hc (by rw [Lm]) ?_⟩
  clear h
  intro M h
  repeat (first | (refine aq h ?_; clear h; intro kb M h) | (refine av h ?_; clear h; intro M h) | refine St.to h ?_ | (apply Exists.intro; (repeat apply Exists.intro); refine And.intro rfl ?_) | (refine And.intro ?_ ?_; first | exact rfl | ((repeat (refine ay (aA h) ?_)); exact ae) | omega) | refine ai ?_ | refine aj ?_)
  exact k _ _ h.b7
end
section
variable {R : Mem} {L L' : List HP} {M : Mem} {K : Value → Mem → Prop} {Kp : List PanicEntry → Mem → Prop} {pa : PA} {p : b6} {gg : List GA} {dr : Value} {b : Nat} {x : Wd}
def oq (p : b6) (x : Wd) (i : cI) : Prop := uY x i.a ∧ (dX x.aE i.a).eI.length ≤ 1000000 ∧
 ((dX x.aE i.a).close.2.2.2 = 0 → (dX x.aE i.a).close.2.2.1 = [] → wD p (x.cw i.a (dX x.aE i.a).close.1) (dX x.aE i.a).close.2.1)
theorem Ib {g : Int} {i : cI} {f : Value} {bf of' : Nat} (h : Hp R L M) [o : wC b L pa p gg dr x L'] (hp : RS iB R pa.k pa.kc p.cases) (hk : oq p x i) (hs : x.Sm)
  (k : Out.Ok (x.shut p i) (fun y => ∀ M', Hp R (aB (bB pa p gg dr) b y :: L') M' → K (.tuple #[]) M')
   (fun n y => ∀ M', Hp R (aB (bB pa p gg dr) b y :: L') M' → Kp [{ v := .iface 256 (.int .i64 n), recovered := false }] M')) :
  aa Tryz.prog 167 #[.pointer (some ⟨b, 0, none⟩), .int .i64 g, .pointer (some ⟨bf, of', none⟩), .agg #[.int .i64 i.op, .int .i64 i.a, .int .i64 i.b, .int .i64 i.c]] M K Kp := by
 refine rJ ?_
 obtain ⟨yx, hlen, hsh⟩ := hk
 obtain ⟨s1, s2, s3, s4, s5, s6, s7, s8⟩ := hs
 unfold Wd.shut at k
 dsimp only at k
 refine aq h ?_
 clear h
 intro kb M h
 have h' := cy h (b := b)
 clear h
 obtain ⟨a, hl, h⟩ := h'
 have hl' := hl
 obtain ⟨l1, l2, l3, l4⟩ := hl'
 have Gh := yx
 obtain ⟨c0, c1⟩ := Gh
 have h' := O0 h hl yx
 clear h
 obtain ⟨cb, hcb, WC, h⟩ := h'
 repeat (first | (refine aq h ?_; clear h; intro kb M h) | (refine av h ?_; clear h; intro M h) | refine St.to h ?_ | (apply Exists.intro; (repeat apply Exists.intro); refine And.intro rfl ?_) | (refine And.intro ?_ ?_; first | exact rfl | ((repeat (refine ay (aA h) ?_)); exact ae) | omega) | refine ai ?_ | refine aj ?_)
 refine vz h hcb fun q hq => ?_
 have kK : (dX x.aE i.a).close.2.1.length ≤ 1000000 := by
  unfold aX.close; split <;> simp [hlen]
 refine E3 h ?_
 clear h
 intro A ca B cb' M h
 replace h := h.eu bM cb hcb (by omega)
 generalize (dX x.aE i.a).close = s at h k hsh kK
 obtain ⟨c', r, sn, e⟩ := s
 dsimp only at h k hsh kK ⊢
 refine ⟨A, _, ca, B, _, cb', e, rfl, ?_⟩
 replace h := bj (a := a) (p := p) (pa := pa) (dr := dr) (gg := gg) (x := x.cw i.a c') (qS hl) h b
 refine cK.2 ⟨fun he => ?_, fun he => ?_⟩
 ·rw [if_pos he] at k
  exact k _ h.b7
 rw [if_neg (by simpa using he)] at k
 refine aP.2 ⟨fun hn => ?_, fun hn => ?_⟩
 ·rw [if_pos (by omega)] at k
  exact k _ h.b7
 rw [if_neg (by omega)] at k
 have ZT : sn = [] := by cases sn with
  | nil => rfl
  | cons _ _ => simp at hn
 have hok := hsh he ZT
 refine ⟨fun d vs M => ∃ (j : Nat), vs = [.int .i64 (j : Int)] ∧ d = r.length - j ∧ j ≤ r.length ∧ Hp R (aB (bB pa p gg dr) b ((r.take j).foldl (dZ p) (x.cw i.a c')) :: uC A ca r :: L') M, ⟨_, 0, rfl, rfl, by omega, h.sub bz⟩, ?_⟩
 clear h
 rintro d _ nn M ⟨j, xC, hd, hj, h⟩
 simp only [List.cons.injEq, Value.int.injEq, and_true, true_and] at xC
 subst xC
 refine aP.2 ⟨fun hlt => ?_, fun hge => ?_⟩
 ·obtain ⟨w, hw⟩ := aR (l := r) (i := j) (by omega)
  obtain ⟨t1, t2, t3, t4⟩ := Cn hok hw
  have hstep : (r.take (j + 1)).foldl (dZ p) (x.cw i.a c') = dZ p ((r.take j).foldl (dZ p) (x.cw i.a c')) w := by
   rw [cC hw, List.foldl_append]; rfl
  generalize (r.take j).foldl (dZ p) (x.cw i.a c') = y at h t1 t3 t4 hstep
  obtain ⟨qa, rfl⟩ := h.bx (A := A) (by omega) (by decide)
  refine ⟨by omega, hlt, br ?_⟩
  simp only [Int.toNat_natCast]
  refine aZ (Src.at (h.src (A := some ⟨qa, 0, none⟩)) h (i := j) (j := 0) hw rfl (by simp [gQ])) ?_
  refine aZ (Src.at (h.src (A := some ⟨qa, 0, none⟩)) h (i := j) (j := 1) hw rfl (by simp [gQ])) ?_
  refine aZ (Src.at (h.src (A := some ⟨qa, 0, none⟩)) h (i := j) (j := 2) hw rfl (by simp [gQ])) ?_
  refine aq h ?_
  clear h
  intro kw M h
  refine av h ?_
  clear h; intro M h
  refine av h ?_
  clear h; intro M h
  refine av h ?_
  clear h; intro M h
  have hC := h
  have h' := jP h (b := b) t2 t3
  clear h
  obtain ⟨a2, gb, A2, c2, jD, fX, ZS, h⟩ := h'
  have WE := jD
  obtain ⟨m1, m2, m3, m4⟩ := WE
  repeat (first | (refine aq h ?_; clear h; intro kb M h) | (refine av h ?_; clear h; intro M h) | refine St.to h ?_ | (apply Exists.intro; (repeat apply Exists.intro); refine And.intro rfl ?_) | (refine And.intro ?_ ?_; first | exact rfl | ((repeat (refine ay (aA h) ?_)); exact ae) | omega) | refine ai ?_ | refine aj ?_)
  refine vz h fX fun q2 ny => ?_
  repeat (first | (refine aq h ?_; clear h; intro kb M h) | (refine av h ?_; clear h; intro M h) | refine St.to h ?_ | (apply Exists.intro; (repeat apply Exists.intro); refine And.intro rfl ?_) | (refine And.intro ?_ ?_; first | exact rfl | ((repeat (refine ay (aA h) ?_)); exact ae) | omega) | refine ai ?_ | refine aj ?_)
  clear h
  have h := hC
  clear hC
  rw [aU (by omega)]
  have hst : dZ p y w = if (au y w.g).st = 2 then y.received p { w with v := 0 } 0 else y := rfl
  rw [hst] at hstep
  refine aY.2 ⟨fun e2 => ?_, fun e2 => ?_⟩
  ·rw [if_pos e2] at hstep
   refine av h ?_
   clear h; intro M h
   repeat (first | (refine aq h ?_; clear h; intro kb M h) | (refine av h ?_; clear h; intro M h) | refine St.to h ?_ | (apply Exists.intro; (repeat apply Exists.intro); refine And.intro rfl ?_) | (refine And.intro ?_ ?_; first | exact rfl | ((repeat (refine ay (aA h) ?_)); exact ae) | omega) | refine ai ?_ | refine aj ?_)
   refine qq (b := b) (v := { w with v := 0 }) h hp (t4 e2) t1 ?_
   clear h; intro M h
   refine ⟨rfl, r.length - (j + 1), by omega, j + 1, rfl, rfl, by omega, ?_⟩
   rw [hstep]
   exact h.b7
  ·rw [if_neg e2] at hstep
   refine ⟨r.length - (j + 1), by omega, j + 1, rfl, rfl, by omega, ?_⟩
   rw [hstep]
   exact h.sub bz
 ·obtain rfl : j = r.length := by omega
  rw [List.take_length] at h
  exact k _ h.b7
end
theorem mb : bg Tryz.prog 38 3 1 8 [.int .i64 0] := bg.mk' (zv := .int .i64 0) (by kernel_rfl) (by kernel_rfl) rfl (by omega)
structure Rg where
 room : Nat
 l : List Int
def Rg.Ok (x : Rg) (head : Nat) (slots : List Int) : Prop := slots.length = x.room ∧ 0 < x.room ∧ x.room ≤ 1024 ∧ head < x.room ∧ x.l.length ≤ x.room ∧ ∀ i v, x.l[i]? = some v → slots[(head + i) % x.room]? = some v
def eN : tU Rg := ⟨fun b x => exs fun A : Option Addr => exs fun c : Nat => exs fun head : Nat => exs fun slots : List Int =>
 sep [fact (x.Ok head slots), pt b [.slice A x.room c, .int .i64 (head : Int), .int .i64 (x.l.length : Int)] 280, bD bl 3 A c slots]⟩
section
variable {R : Mem} {L L' : List HP} {M : Mem} {K : Value → Mem → Prop} {Kp : List PanicEntry → Mem → Prop} {b : Nat} {x : Rg}
theorem jr (h : Hp R L M) [o : cq eN b L x L'] : ∃ A c head slots, x.Ok head slots ∧ Hp R (pt b [.slice A x.room c, .int .i64 (head : Int), .int .i64 (x.l.length : Int)] 280 :: bD bl 3 A c slots :: L') M := by
 have := h.obj eN b
 simpa only [eN, Hp.dS, Hp.bk, List.cons_append, List.nil_append, Hp.fT] using this
theorem qT {A : Option Addr} {c head : Nat} {slots : List Int} (ok : x.Ok head slots) (h : Hp R (pt b [.slice A x.room c, .int .i64 (head : Int), .int .i64 (x.l.length : Int)] 280 :: bD bl 3 A c slots :: L) M) : Hp R (aB eN b x :: L) M := by
 refine Hp.vR ?_
 simp only [eN, Hp.dS, Hp.bk, List.cons_append, List.nil_append, Hp.fT]
 exact ⟨_, _, _, _, ok, h⟩
def eZ (n : Int) : Nat := (min (max n 1) 1024).toNat
theorem JI (n : Int) : 0 < eZ n ∧ eZ n ≤ 1024 := by unfold eZ; omega
theorem O2 {n : Int} (h : Hp R L M) (k : ∀ b M', Hp R (aB eN b ⟨eZ n, []⟩ :: L) M' → K (.pointer (some ⟨b, 0, none⟩)) M') : aa Tryz.prog 103 #[.int .i64 n] M K Kp := by
 refine Fa ?_
 have e : (if (1024 : Int) < (if (1 : Int) > n then 1 else n) then 1024 else (if (1 : Int) > n then 1 else n)) = ((eZ n : Nat) : Int) := by unfold eZ; split <;> split <;> omega
 have bd := JI n
 rw [e]
 refine h.C9 (E := bl) (a := 0) mb (by omega) ?_
 clear h
 intro kb M h
 repeat (first | (refine aq h ?_; clear h; intro kb M h) | (refine av h ?_; clear h; intro M h) | refine St.to h ?_ | (apply Exists.intro; (repeat apply Exists.intro); refine And.intro rfl ?_) | (refine And.intro ?_ ?_; first | exact rfl | ((repeat (refine ay (aA h) ?_)); exact ae) | omega) | refine ai ?_ | refine aj ?_)
 refine k _ _ (qT (head := 0) (slots := List.replicate (eZ n) 0) ⟨by simp, bd.1, bd.2, bd.1, by simp, fun i v hv => by simp at hv⟩ (h.sub bz))
theorem Co (h : Hp R L M) [o : cq eN b L x L'] (k : K (.int .i64 (x.room : Int)) M) : aa Tryz.prog 182 #[.pointer (some ⟨b, 0, none⟩)] M K Kp := by
 refine uM ?_
 have h' := jr h (b := b)
 clear h
 obtain ⟨A, c, head, slots, ok, h⟩ := h'
 repeat (first | (refine aq h ?_; clear h; intro kb M h) | (refine av h ?_; clear h; intro M h) | refine St.to h ?_ | (apply Exists.intro; (repeat apply Exists.intro); refine And.intro rfl ?_) | (refine And.intro ?_ ?_; first | exact rfl | ((repeat (refine ay (aA h) ?_)); exact ae) | omega) | refine ai ?_ | refine aj ?_)
 exact k
theorem u5 (h : Hp R L M) [o : cq eN b L x L'] (k : K (.int .i64 (x.l.length : Int)) M) : aa Tryz.prog 180 #[.pointer (some ⟨b, 0, none⟩)] M K Kp := by
 refine wh ?_
 have h' := jr h (b := b)
 clear h
 obtain ⟨A, c, head, slots, ok, h⟩ := h'
 repeat (first | (refine aq h ?_; clear h; intro kb M h) | (refine av h ?_; clear h; intro M h) | refine St.to h ?_ | (apply Exists.intro; (repeat apply Exists.intro); refine And.intro rfl ?_) | (refine And.intro ?_ ?_; first | exact rfl | ((repeat (refine ay (aA h) ?_)); exact ae) | omega) | refine ai ?_ | refine aj ?_)
 exact k
theorem mS {a b : Nat} : Int.tmod (a : Int) (b : Int) = ((a % b : Nat) : Int) := rfl
theorem qU {v : Int} (h : Hp R L M) [o : cq eN b L x L'] (k1 : x.l.length = x.room → ∀ M', Hp R (aB eN b x :: L') M' → K (.bool false) M') (k2 : x.l.length < x.room → ∀ M', Hp R (aB eN b ⟨x.room, x.l ++ [v]⟩ :: L') M' → K (.bool true) M') :
  aa Tryz.prog 183 #[.pointer (some ⟨b, 0, none⟩), .int .i64 v] M K Kp := by
 refine uN ?_
 have h' := jr h (b := b)
 clear h
 obtain ⟨A, c, head, slots, ok, h⟩ := h'
 have ZU := ok
 obtain ⟨h1, h2, h3, h4, h5, h6⟩ := ZU
 repeat (first | (refine aq h ?_; clear h; intro kb M h) | (refine av h ?_; clear h; intro M h) | refine St.to h ?_ | (apply Exists.intro; (repeat apply Exists.intro); refine And.intro rfl ?_) | (refine And.intro ?_ ?_; first | exact rfl | ((repeat (refine ay (aA h) ?_)); exact ae) | omega) | refine ai ?_ | refine aj ?_)
 refine aY.2 ⟨fun e => ?_, fun e => ?_⟩
 ·exact k1 (by omega) _ (qT ok h)
 ·have hlt : x.l.length < x.room := by omega
  repeat (first | (refine aq h ?_; clear h; intro kb M h) | (refine av h ?_; clear h; intro M h) | refine St.to h ?_ | (apply Exists.intro; (repeat apply Exists.intro); refine And.intro rfl ?_) | (refine And.intro ?_ ?_; first | exact rfl | ((repeat (refine ay (aA h) ?_)); exact ae) | omega) | refine ai ?_ | refine aj ?_)
  have e1 : IntKind.wrap .i64 ((head : Int) + (x.l.length : Int)) = ((head + x.l.length : Nat) : Int) := wn (by simp) (by omega)
  rw [e1, mS]
  have hm := Nat.mod_lt (head + x.l.length) h2
  obtain ⟨b2, rfl⟩ := h.bx (A := A) (by omega) (by decide)
  obtain ⟨w, hw⟩ := aR (l := slots) (i := (head + x.l.length) % x.room) (by omega)
  repeat (first | (refine aq h ?_; clear h; intro kb M h) | (refine av h ?_; clear h; intro M h) | refine St.to h ?_ | (apply Exists.intro; (repeat apply Exists.intro); refine And.intro rfl ?_) | (refine And.intro ?_ ?_; first | exact rfl | ((repeat (refine ay (aA h) ?_)); exact ae) | omega) | refine ai ?_ | refine aj ?_)
  simp only [Int.toNat_natCast]
  refine iK (a' := v) ((head + x.l.length) % x.room) 0 h hw (by decide) rfl (by simp [bl]) ?_
  clear h; intro M h
  repeat (first | (refine aq h ?_; clear h; intro kb M h) | (refine av h ?_; clear h; intro M h) | refine St.to h ?_ | (apply Exists.intro; (repeat apply Exists.intro); refine And.intro rfl ?_) | (refine And.intro ?_ ?_; first | exact rfl | ((repeat (refine ay (aA h) ?_)); exact ae) | omega) | refine ai ?_ | refine aj ?_)
  have e2 : IntKind.wrap .i64 ((x.l.length : Int) + 1) = ((x.l.length + 1 : Nat) : Int) := aU (by omega)
  rw [e2] at h
  refine k2 hlt _ (qT (x := ⟨x.room, x.l ++ [v]⟩) (head := head) (slots := slots.set ((head + x.l.length) % x.room) v) ⟨by simpa using h1, h2, h3, h4, by simp; omega, fun i u hu => ?_⟩ (by simpa using h.sub bz))
  dsimp only at hu ⊢
  rcases Nat.lt_or_ge i x.l.length with hi | hi
  ·rw [List.getElem?_append_left hi] at hu
   have hne : (head + i) % x.room ≠ (head + x.l.length) % x.room := by
    intro he
    have a1 : (head + i) % x.room = if head + i < x.room then head + i else head + i - x.room := by
     split
     ·exact Nat.mod_eq_of_lt (by omega)
     ·rw [Nat.mod_eq_sub_mod (by omega)]; exact Nat.mod_eq_of_lt (by omega)
    have a2 : (head + x.l.length) % x.room = if head + x.l.length < x.room then head + x.l.length else head + x.l.length - x.room := by
     split
     ·exact Nat.mod_eq_of_lt (by omega)
     ·rw [Nat.mod_eq_sub_mod (by omega)]; exact Nat.mod_eq_of_lt (by omega)
    rw [a1, a2] at he
    split at he <;> split at he <;> omega
   rw [List.getElem?_set_ne (Ne.symm hne)]
   exact h6 i u hu
  ·rw [List.getElem?_append_right hi] at hu
   have : i = x.l.length := by
    have := (List.getElem?_eq_some_iff.1 hu).1
    simp at this; omega
   subst this
   simp at hu; subst hu
   rw [List.getElem?_set_self (by omega)]
theorem Fx (h : Hp R L M) [o : cq eN b L x L'] (k1 : x.l = [] → ∀ M', Hp R (aB eN b x :: L') M' → K (.tuple #[.int .i64 0, .bool false]) M')
  (k2 : ∀ v l, x.l = v :: l → ∀ M', Hp R (aB eN b ⟨x.room, l⟩ :: L') M' → K (.tuple #[.int .i64 v, .bool true]) M') :
  aa Tryz.prog 176 #[.pointer (some ⟨b, 0, none⟩)] M K Kp := by
 refine wg ?_
 have h' := jr h (b := b)
 clear h
 obtain ⟨A, c, head, slots, ok, h⟩ := h'
 have ZU := ok
 obtain ⟨h1, h2, h3, h4, h5, h6⟩ := ZU
 obtain ⟨room, l⟩ := x
 dsimp only at *
 repeat (first | (refine aq h ?_; clear h; intro kb M h) | (refine av h ?_; clear h; intro M h) | refine St.to h ?_ | (apply Exists.intro; (repeat apply Exists.intro); refine And.intro rfl ?_) | (refine And.intro ?_ ?_; first | exact rfl | ((repeat (refine ay (aA h) ?_)); exact ae) | omega) | refine ai ?_ | refine aj ?_)
 refine aY.2 ⟨fun e => ?_, fun e => ?_⟩
 ·exact k1 (List.length_eq_zero_iff.1 (by omega)) _ (qT ok h)
 ·cases l with
  | nil => simp at e
  | cons v l =>
  have hv := h6 0 v rfl
  rw [Nat.add_zero, Nat.mod_eq_of_lt h4] at hv
  obtain ⟨b2, rfl⟩ := h.bx (A := A) (by omega) (by decide)
  have s0 := h.src (A := some ⟨b2, 0, none⟩)
  repeat (first | (refine aq h ?_; clear h; intro kb M h) | (refine av h ?_; clear h; intro M h) | refine St.to h ?_ | (apply Exists.intro; (repeat apply Exists.intro); refine And.intro rfl ?_) | (refine And.intro ?_ ?_; first | exact rfl | ((repeat (refine ay (aA h) ?_)); exact ae) | omega) | refine ai ?_ | refine aj ?_)
  simp only [Int.toNat_natCast]
  refine aZ (s0.at h (i := head) (j := 0) hv rfl (by simp [bl])) ?_
  repeat (first | (refine aq h ?_; clear h; intro kb M h) | (refine av h ?_; clear h; intro M h) | refine St.to h ?_ | (apply Exists.intro; (repeat apply Exists.intro); refine And.intro rfl ?_) | (refine And.intro ?_ ?_; first | exact rfl | ((repeat (refine ay (aA h) ?_)); exact ae) | omega) | refine ai ?_ | refine aj ?_)
  have e1 : IntKind.wrap .i64 ((head : Int) + 1) = ((head + 1 : Nat) : Int) := aU (by omega)
  rw [e1, mS] at h
  have e2 : IntKind.wrap .i64 ((((v :: l).length : Nat) : Int) - 1) = ((l.length : Nat) : Int) := by rw [nJ (by simp only [List.length_cons]; omega) (by simp only [List.length_cons] at h5 ⊢; omega)]; simp
  rw [e2] at h
  have h5' : l.length + 1 ≤ room := by simpa using h5
  refine k2 v l rfl _ (qT (x := ⟨room, l⟩) (head := (head + 1) % room) (slots := slots) ⟨h1, h2, h3, Nat.mod_lt _ h2, by dsimp only; omega, fun i u hu => ?_⟩ (h.sub bz))
  dsimp only at hu ⊢
  have := h6 (i + 1) u (by simpa using hu)
  rw [Nat.mod_add_mod, ← this]
  congr 2; omega
theorem Cp {n : Int} (h : Hp R L M) [o : cq eN b L x L'] (k : ∀ A c M', Hp R (bD bl 3 A c (x.l.take n.toNat) :: aB eN b ⟨x.room, x.l.drop n.toNat⟩ :: L') M' → K (.slice A (x.l.take n.toNat).length c) M') :
  aa Tryz.prog 181 #[.pointer (some ⟨b, 0, none⟩), .int .i64 n] M K Kp := by
 replace h := h.front eN b
 have hx : x.l.length ≤ 1024 := by
  obtain ⟨A, c, head, slots, ok, _⟩ := jr h (b := b)
  have := ok.2.2.1; have := ok.2.2.2.2.1; omega
 refine uL ⟨fun d ws M => ∃ (i : Nat) (A : Option Addr) (c : Nat), ws = [.slice A (x.l.take i).length c] ∧ d = n.toNat - i ∧ i ≤ n.toNat ∧ i ≤ x.l.length ∧
  Hp R (bD bl 3 A c (x.l.take i) :: aB eN b ⟨x.room, x.l.drop i⟩ :: L') M, ⟨_, 0, none, 0, rfl, rfl, by omega, by omega, h.bX _ _⟩, ?_⟩
 clear h
 rintro d _ A n1 c M ⟨i, _, _, he, hd, hi, hil, h⟩
 simp only [List.cons.injEq, Value.slice.injEq, and_true, true_and] at he
 obtain ⟨rfl, rfl, rfl⟩ := he
 have hlen : (x.l.take i).length = i := by rw [List.length_take]; omega
 refine aP.2 ⟨fun hlt => ?_, fun hge => ?_⟩
 ·refine Fx h (fun e M' h' => ?_) fun v l e M' h' => ?_
  ·repeat (first | (refine aq h ?_; clear h; intro kb M h) | (refine av h ?_; clear h; intro M h) | refine St.to h ?_ | (apply Exists.intro; (repeat apply Exists.intro); refine And.intro rfl ?_) | (refine And.intro ?_ ?_; first | exact rfl | ((repeat (refine ay (aA h) ?_)); exact ae) | omega) | refine ai ?_ | refine aj ?_)
   have : x.l.length ≤ i := by
    have := congrArg List.length e; simp at this; omega
   rw [List.take_of_length_le this] at h' ⊢
   rw [List.drop_of_length_le this] at h'
   have h1 : x.l.take n.toNat = x.l := List.take_of_length_le (by omega)
   have h2 : x.l.drop n.toNat = [] := List.drop_of_length_le (by omega)
   rw [h1, h2] at k
   exact k _ _ _ h'.swap
  ·clear h
   have h := h'.swap
   clear h'
   dsimp only at e
   have hv : x.l[i]? = some v := by
    have := congrArg (fun l => l[0]?) e
    simpa using this
   have e3 : x.l.drop (i + 1) = l := by
    have := congrArg (List.drop 1) e
    simpa using this
   repeat (first | (refine aq h ?_; clear h; intro kb M h) | (refine av h ?_; clear h; intro M h) | refine St.to h ?_ | (apply Exists.intro; (repeat apply Exists.intro); refine And.intro rfl ?_) | (refine And.intro ?_ ?_; first | exact rfl | ((repeat (refine ay (aA h) ?_)); exact ae) | omega) | refine ai ?_ | refine aj ?_)
   refine h.bS mb [v] rfl rfl (by simp; omega) ?_
   clear h
   intro A' c' M h
   repeat (first | (refine aq h ?_; clear h; intro kb M h) | (refine av h ?_; clear h; intro M h) | refine St.to h ?_ | (apply Exists.intro; (repeat apply Exists.intro); refine And.intro rfl ?_) | (refine And.intro ?_ ?_; first | exact rfl | ((repeat (refine ay (aA h) ?_)); exact ae) | omega) | refine ai ?_ | refine aj ?_)
   rw [← cC hv] at h ⊢
   have jD := (List.getElem?_eq_some_iff.1 hv).1
   refine ⟨n.toNat - (i + 1), by omega, i + 1, A', c', rfl, rfl, by omega, by omega, ?_⟩
   rw [e3]; exact h.sub bz
 ·obtain rfl : i = n.toNat := by omega
  exact k _ _ _ h
theorem Lo (h : Hp R L M) [o : cq eN b L x L'] (k : ∀ A c M', Hp R (bD bl 3 A c x.l :: aB eN b x :: L') M' → K (.slice A x.l.length c) M') :
  aa Tryz.prog 105 #[.pointer (some ⟨b, 0, none⟩)] M K Kp := by
 refine uK ?_
 have h' := jr h (b := b)
 clear h
 obtain ⟨A0, c0, head, slots, ok, h⟩ := h'
 have ZU := ok
 obtain ⟨h1, h2, h3, h4, h5, h6⟩ := ZU
 repeat (first | (refine aq h ?_; clear h; intro kb M h) | (refine av h ?_; clear h; intro M h) | refine St.to h ?_ | (apply Exists.intro; (repeat apply Exists.intro); refine And.intro rfl ?_) | (refine And.intro ?_ ?_; first | exact rfl | ((repeat (refine ay (aA h) ?_)); exact ae) | omega) | refine ai ?_ | refine aj ?_)
 refine ⟨fun d ws M => ∃ (i : Nat) (A : Option Addr) (c : Nat), ws = [.slice A (x.l.take i).length c, .int .i64 (i : Int)] ∧ d = x.l.length - i ∧ i ≤ x.l.length ∧
  Hp R (bD bl 3 A c (x.l.take i) :: pt b [.slice A0 x.room c0, .int .i64 (head : Int), .int .i64 (x.l.length : Int)] 280 :: bD bl 3 A0 c0 slots :: L') M, ⟨_, 0, none, 0, rfl, rfl, by omega, h.bX _ _⟩, ?_⟩
 clear h
 rintro d _ A n1 c ii M ⟨i, _, _, he, hd, hi, h⟩
 simp only [List.cons.injEq, Value.slice.injEq, Value.int.injEq, and_true, true_and] at he
 obtain ⟨⟨rfl, rfl, rfl⟩, rfl⟩ := he
 refine aP.2 ⟨fun hlt => ?_, fun hge => ?_⟩
 ·obtain ⟨v, hv⟩ := aR (l := x.l) (i := i) (by omega)
  have hs := h6 i v hv
  have Fy := Nat.mod_lt (head + i) h2
  obtain ⟨b2, rfl⟩ := h.drop.bx (A := A0) (by omega) (by decide)
  have s0 : Src R _ (some ⟨b2, 0, none⟩) (bl.cells slots) := h.src (A := some ⟨b2, 0, none⟩)
  repeat (first | (refine aq h ?_; clear h; intro kb M h) | (refine av h ?_; clear h; intro M h) | refine St.to h ?_ | (apply Exists.intro; (repeat apply Exists.intro); refine And.intro rfl ?_) | (refine And.intro ?_ ?_; first | exact rfl | ((repeat (refine ay (aA h) ?_)); exact ae) | omega) | refine ai ?_ | refine aj ?_)
  have e1 : IntKind.wrap .i64 ((head : Int) + (i : Int)) = ((head + i : Nat) : Int) := wn (by simp) (by omega)
  rw [e1, mS]
  repeat (first | (refine aq h ?_; clear h; intro kb M h) | (refine av h ?_; clear h; intro M h) | refine St.to h ?_ | (apply Exists.intro; (repeat apply Exists.intro); refine And.intro rfl ?_) | (refine And.intro ?_ ?_; first | exact rfl | ((repeat (refine ay (aA h) ?_)); exact ae) | omega) | refine ai ?_ | refine aj ?_)
  simp only [Int.toNat_natCast]
  refine aZ (s0.at h (i := (head + i) % x.room) (j := 0) hs rfl (by simp [bl])) ?_
  repeat (first | (refine aq h ?_; clear h; intro kb M h) | (refine av h ?_; clear h; intro M h) | refine St.to h ?_ | (apply Exists.intro; (repeat apply Exists.intro); refine And.intro rfl ?_) | (refine And.intro ?_ ?_; first | exact rfl | ((repeat (refine ay (aA h) ?_)); exact ae) | omega) | refine ai ?_ | refine aj ?_)
  refine h.bS mb [v] rfl rfl (by simp; omega) ?_
  clear h
  intro A' c' M h
  repeat (first | (refine aq h ?_; clear h; intro kb M h) | (refine av h ?_; clear h; intro M h) | refine St.to h ?_ | (apply Exists.intro; (repeat apply Exists.intro); refine And.intro rfl ?_) | (refine And.intro ?_ ?_; first | exact rfl | ((repeat (refine ay (aA h) ?_)); exact ae) | omega) | refine ai ?_ | refine aj ?_)
  rw [aU (by omega), ← cC hv] at *
  exact ⟨x.l.length - (i + 1), by omega, i + 1, A', c', rfl, rfl, by omega, h⟩
 ·obtain rfl : i = x.l.length := by omega
  rw [List.take_length] at h ⊢
  refine k _ _ _ ?_
  have h7 := h.swap
  refine (qT (x := x) ok (h7.sub bz)).swap.sub bz
end
structure Loc where
 next : Int
 room : Nat
 l : List Int
def Loc.put (x : Loc) (v : Int) (g : List Int) : Loc × List Int × Nat :=
 if x.l.length < x.room then ({ x with l := x.l ++ [v] }, g, 0) else ({ x with l := x.l.drop (x.l.length / 2) }, g ++ (x.l.take (x.l.length / 2) ++ [v]), x.l.length / 2 + 1)
def Loc.ready (x : Loc) (v : Int) (g : List Int) : Loc × List Int × Nat := if x.next = -1 then ({ x with next := v }, g, 0) else ({ x with next := v } : Loc).put x.next g
def Loc.get (x : Loc) : Loc × Int := if x.next ≠ -1 then ({ x with next := -1 }, x.next) else match x.l with
 | [] => (x, -1)
 | v :: l => ({ x with l := l }, v)
def Loc.gd (x : Loc) (g : List Int) : Loc × List Int × Nat := if x.next = -1 then (x, g, 0) else ({ x with next := -1 } : Loc).put x.next g
def Loc.dL (x : Loc) (g : List Int) (p : Int) : Nat := if p < 1 then 1 else min (g.length / p.toNat + 1) (x.room - x.l.length + 1)
def Loc.eG (x : Loc) (g : List Int) (p : Int) : Loc × List Int × Int := match g.take (x.dL g p) with
 | [] => (x, g, -1)
 | v :: out => ({ x with l := x.l ++ out }, g.drop (x.dL g p), v)
def Loc.gW (x f : Loc) : Nat := min (f.l.length - f.l.length / 2) (x.room - x.l.length + 1)
def Loc.cR (x f : Loc) : Loc × Loc × Int := match f.l.take (x.gW f) with
 | [] => (x, { f with next := -1 }, f.next)
 | v :: out => ({ x with l := x.l ++ out }, { f with l := f.l.drop (x.gW f) }, v)
def Loc.Ok (x : Loc) : Prop := x.l.length ≤ x.room ∧ x.room ≤ 1024 ∧ 0 < x.room
def bN : tU Loc := ⟨fun b x => exs fun rb : Nat => sep [pt b [.int .i64 x.next, .pointer (some ⟨rb, 0, none⟩)] 224, aB eN rb ⟨x.room, x.l⟩]⟩
structure Rq (gb go : Nat) (P : Option Addr → Nat → Nat → HP) : Prop where
 Gn : ∀ (R : Mem) (L : List HP) (M : Mem) (A : Option Addr) (n c : Nat), Hp R (P A n c :: L) M → M.ld ⟨gb, go, none⟩ = some (.slice A n c)
 ZV : ∀ (R : Mem) (L : List HP) (M : Mem) (A A' : Option Addr) (n c n' c' : Nat) (G : Mem → Prop), Hp R (P A n c :: L) M → (∀ M', Hp R (P A' n' c' :: L) M' → G M') → aO M ⟨gb, go, none⟩ (.slice A' n' c') G
def fR (P : Option Addr → Nat → Nat → HP) (l : List Int) : HP := exs fun A : Option Addr => exs fun c : Nat => sep [P A l.length c, bD bl 3 A c l]
class sw (P : Option Addr → Nat → Nat → HP) (L : List HP) (g : outParam (List Int)) (L' : outParam (List HP)) : Prop where
 pick : de L (fR P g) L'
instance sw.here {P : Option Addr → Nat → Nat → HP} {g : List Int} {L : List HP} : sw P (fR P g :: L) g L := ⟨.here⟩
instance (priority := low) sw.there {P : Option Addr → Nat → Nat → HP} {g : List Int} {Q : HP} {L L' : List HP} [h : sw P L g L'] : sw P (Q :: L) g (Q :: L') := ⟨.there h.pick⟩
section
variable {R : Mem} {L L' nN : List HP} {M : Mem} {K : Value → Mem → Prop} {Kp : List PanicEntry → Mem → Prop} {b gb go b' : Nat} {P : Option Addr → Nat → Nat → HP} {x f : Loc} {g : List Int}
theorem g9 (h : Hp R L M) [o : cq bN b L x L'] : ∃ rb, Hp R (pt b [.int .i64 x.next, .pointer (some ⟨rb, 0, none⟩)] 224 :: aB eN rb ⟨x.room, x.l⟩ :: L') M := by
 have := h.obj bN b
 simpa only [bN, Hp.dS, Hp.bk, List.cons_append, List.nil_append] using this
theorem WG {rb : Nat} (h : Hp R (pt b [.int .i64 x.next, .pointer (some ⟨rb, 0, none⟩)] 224 :: aB eN rb ⟨x.room, x.l⟩ :: L) M) : Hp R (aB bN b x :: L) M := by
 refine Hp.vR ?_
 simp only [bN, Hp.dS, Hp.bk, List.cons_append, List.nil_append]
 exact ⟨_, h⟩
theorem cD {next : Int} {rb room : Nat} {l : List Int} {L1 L2 : List HP} (h : Hp R L M) (b : Nat) [p : jU b L [.int .i64 next, .pointer (some ⟨rb, 0, none⟩)] 224 L1] [o : cq eN rb L1 ⟨room, l⟩ L2] : Hp R (aB bN b ⟨next, room, l⟩ :: L2) M :=
 WG (h.sub (.cons p.pick (.cons o.pick .refl)))
theorem iS (h : Hp R L M) [o : sw P L g L'] : ∃ A c, Hp R (P A g.length c :: bD bl 3 A c g :: L') M := by
 have := h.pick o.pick
 simpa only [fR, Hp.dS, Hp.bk, List.cons_append, List.nil_append] using this
theorem Fz {A : Option Addr} {c n : Nat} (h : Hp R (P A n c :: bD bl 3 A c g :: L) M) (e : n = g.length := by first | rfl | simp) : Hp R (fR P g :: L) M := by
 subst e
 simp only [fR, Hp.dS, Hp.bk, List.cons_append, List.nil_append]
 exact ⟨_, _, h⟩
theorem Rr {rb : Nat} {r : Rg} (h : Hp R L M) [o : cq eN rb L r L'] : r.l.length ≤ r.room ∧ r.room ≤ 1024 ∧ 0 < r.room := by
 obtain ⟨A, c, head, slots, ok, _⟩ := jr h (b := rb)
 exact ⟨ok.2.2.2.2.1, ok.2.2.1, ok.2.1⟩
theorem wG (h : Hp R L M) [o : cq bN b L x L'] : x.Ok := by
 obtain ⟨rb, h2⟩ := g9 h (b := b)
 exact Rr (rb := rb) h2
theorem Cq {room : Int} (h : Hp R L M) (k : ∀ b M', Hp R (aB bN b ⟨-1, eZ room, []⟩ :: L) M' → K (.pointer (some ⟨b, 0, none⟩)) M') : aa Tryz.prog 52 #[.int .i64 room] M K Kp := by
 refine Dq ?_
 refine O2 h ?_
 clear h
 intro rb M h
 repeat (first | (refine aq h ?_; clear h; intro kb M h) | (refine av h ?_; clear h; intro M h) | refine St.to h ?_ | (apply Exists.intro; (repeat apply Exists.intro); refine And.intro rfl ?_) | (refine And.intro ?_ ?_; first | exact rfl | ((repeat (refine ay (aA h) ?_)); exact ae) | omega) | refine ai ?_ | refine aj ?_)
 exact k _ _ (cD h kb)
theorem zV (h : Hp R L M) [o : cq bN b L x L'] (k : K (.int .i64 x.next) M) : aa Tryz.prog 58 #[.pointer (some ⟨b, 0, none⟩)] M K Kp := by
 refine rV ?_
 have h' := g9 h (b := b)
 clear h
 obtain ⟨rb, h⟩ := h'
 repeat (first | (refine aq h ?_; clear h; intro kb M h) | (refine av h ?_; clear h; intro M h) | refine St.to h ?_ | (apply Exists.intro; (repeat apply Exists.intro); refine And.intro rfl ?_) | (refine And.intro ?_ ?_; first | exact rfl | ((repeat (refine ay (aA h) ?_)); exact ae) | omega) | refine ai ?_ | refine aj ?_)
 exact k
theorem Ic (h : Hp R L M) [o : cq bN b L x L'] (k : ∀ A c M', Hp R (bD bl 3 A c x.l :: aB bN b x :: L') M' → K (.slice A x.l.length c) M') : aa Tryz.prog 59 #[.pointer (some ⟨b, 0, none⟩)] M K Kp := by
 refine rW ?_
 have h' := g9 h (b := b)
 clear h
 obtain ⟨rb, h⟩ := h'
 repeat (first | (refine aq h ?_; clear h; intro kb M h) | (refine av h ?_; clear h; intro M h) | refine St.to h ?_ | (apply Exists.intro; (repeat apply Exists.intro); refine And.intro rfl ?_) | (refine And.intro ?_ ?_; first | exact rfl | ((repeat (refine ay (aA h) ?_)); exact ae) | omega) | refine ai ?_ | refine aj ?_)
 refine Lo h ?_
 clear h
 intro A c M h
 repeat (first | (refine aq h ?_; clear h; intro kb M h) | (refine av h ?_; clear h; intro M h) | refine St.to h ?_ | (apply Exists.intro; (repeat apply Exists.intro); refine And.intro rfl ?_) | (refine And.intro ?_ ?_; first | exact rfl | ((repeat (refine ay (aA h) ?_)); exact ae) | omega) | refine ai ?_ | refine aj ?_)
 exact k _ _ _ ((cD h b).sub bz)
theorem Ie (D : Rq gb go P) (h : Hp R L M) [o : sw P L g L'] (k : K (.int .i64 (g.length : Int)) M) : aa Tryz.prog 217 #[.pointer (some ⟨gb, go, none⟩)] M K Kp := by
 refine rZ ?_
 have h' := iS h (P := P)
 clear h
 obtain ⟨A, c, h⟩ := h'
 rw [D.Gn _ _ _ _ _ _ h]
 exact aT k
theorem FA (D : Rq gb go P) (h : Hp R L M) [o : sw P L g L'] (hs : g.length ≤ 1000000000) (k : ∀ A c M', Hp R (bD bl 3 A c g :: fR P g :: L') M' → K (.slice A g.length c) M') : aa Tryz.prog 62 #[.pointer (some ⟨gb, go, none⟩)] M K Kp := by
 refine qc ?_
 have h' := iS h (P := P)
 clear h
 obtain ⟨A, c, h⟩ := h'
 refine aq h ?_
 clear h; intro kb M h
 rw [D.Gn _ _ _ _ _ _ h.swap]
 refine aT ?_
 refine h.iL bl mb g (h.src (A := A)) rfl (by omega) ?_
 clear h
 intro A' c' M h
 refine aT ?_
 exact k _ _ _ (((h.pick (.there .here)).pick (.there (.there .here)) |> fun h => Fz (P := P) (h.sub (show Sub _ (P A g.length c :: bD bl 3 A c g :: bD bl 3 A' c' g :: L') from bz))).swap)
theorem ot (D : Rq gb go P) {B : Option Addr} {n c : Nat} {l : List Int} (h : Hp R L M) [o : sw P L g L'] (hB : Src R L' B (bl.cells l)) (hn : n = l.length) (hs : g.length + l.length ≤ 1000000000) (k : ∀ M', Hp R (fR P (g ++ l) :: L') M' → K (.tuple #[]) M') :
  aa Tryz.prog 53 #[.pointer (some ⟨gb, go, none⟩), .slice B n c] M K Kp := by
 refine rU ?_
 have h' := iS h (P := P)
 clear h
 obtain ⟨A, cg, h⟩ := h'
 rw [D.Gn _ _ _ _ _ _ h]
 refine aT ?_
 refine h.KH (A := A) (r := l) mb hB.cons.cons hn (by omega) ?_
 clear h
 intro A' c' M h
 refine aT ?_
 refine D.ZV _ _ _ _ _ _ _ _ _ _ h.swap ?_
 clear h; intro M h
 exact k _ (Fz h)
theorem qt (D : Rq gb go P) {n : Int} (h : Hp R L M) [o : sw P L g L'] (hs : g.length ≤ 1000000000) (k : ∀ A c M', Hp R (bD bl 3 A c (g.take n.toNat) :: fR P (g.drop n.toNat) :: L') M' → K (.slice A (g.take n.toNat).length c) M') :
  aa Tryz.prog 178 #[.pointer (some ⟨gb, go, none⟩), .int .i64 n] M K Kp := by
 refine qe ?_
 have h' := iS h (P := P)
 clear h
 obtain ⟨A, cg, h⟩ := h'
 have hcap := h.jV A
 have e : (if ((g.length : Nat) : Int) < (if (0 : Int) > n then 0 else n) then ((g.length : Nat) : Int) else (if (0 : Int) > n then 0 else n)) = ((min n.toNat g.length : Nat) : Int) := by split <;> split <;> omega
 have hq : g.take n.toNat = g.take (min n.toNat g.length) ∧ g.drop n.toNat = g.drop (min n.toNat g.length) := by
  rcases Nat.le_total n.toNat g.length with hl | hl
  ·rw [Nat.min_eq_left hl]; exact ⟨rfl, rfl⟩
  ·rw [Nat.min_eq_right hl, List.take_of_length_le hl, List.drop_of_length_le hl]; simp
 rw [hq.1, hq.2] at k
 have hql : min n.toNat g.length ≤ g.length := Nat.min_le_right ..
 rw [D.Gn _ _ _ _ _ _ h]
 refine aT ?_
 rw [e]
 generalize min n.toNat g.length = q at *
 have el : (g.take q).length = q := by rw [List.length_take]; omega
 refine aq h ?_
 clear h; intro kb M h
 rw [D.Gn _ _ _ _ _ _ h.swap]
 refine aT ?_
 simp only [Int.toNat_natCast, Nat.sub_zero]
 refine ⟨by omega, by omega, by omega, by omega, by omega, by omega, ?_⟩
 refine h.iL bl mb (g.take q) (Src.Wy (h.src (A := A)) hcap q) (by rw [el]) (by rw [el]; omega) ?_
 clear h
 intro A' c' M h
 refine aT ?_
 refine aq h ?_
 clear h; intro kb2 M h
 replace h : Hp R (P A g.length cg :: bD bl 3 A cg g :: pt kb2 [] 3 :: bD bl 3 A' c' (g.take q) :: L') M := h.sub bz
 rw [D.Gn _ _ _ _ _ _ h]
 refine aT ?_
 refine ⟨by omega, by omega, by omega, by omega, by omega, by omega, ?_⟩
 refine h.iL bl mb (g.drop q) (Src.Rn (h.src (A := A)) hcap q) (by rw [List.length_drop]) (by rw [List.length_drop]; omega) ?_
 clear h
 intro A2 c2 M h
 refine aT ?_
 replace h : Hp R (P A g.length cg :: bD bl 3 A2 c2 (g.drop q) :: bD bl 3 A' c' (g.take q) :: L') M := h.sub bz
 refine D.ZV _ _ _ _ _ _ _ _ _ _ h ?_
 clear h; intro M h
 rw [← el]
 rw [el]
 exact k _ _ _ ((Fz (P := P) h).swap)
theorem Cr (D : Rq gb go P) {v : Int} (h : Hp R L M) [o : cq bN b L x L'] [og : sw P L' g nN] (hs : g.length ≤ 100000000)
  (k : ∀ M', Hp R (aB bN b (x.put v g).1 :: fR P (x.put v g).2.1 :: nN) M' → K (.int .i64 ((x.put v g).2.2 : Int)) M') :
  aa Tryz.prog 184 #[.pointer (some ⟨b, 0, none⟩), .int .i64 v, .pointer (some ⟨gb, go, none⟩)] M K Kp := by
 have bd := wG h (b := b)
 have h0 : Hp R (aB bN b x :: fR P g :: nN) M := (h.pick o.pick).map fun _ hs => hs.tail (fun _ => bZ.pick og.pick)
 clear h
 have h := h0
 clear h0
 refine tB ?_
 have h' := g9 h (b := b)
 clear h
 obtain ⟨rb, h⟩ := h'
 repeat (first | (refine aq h ?_; clear h; intro kb M h) | (refine av h ?_; clear h; intro M h) | refine St.to h ?_ | (apply Exists.intro; (repeat apply Exists.intro); refine And.intro rfl ?_) | (refine And.intro ?_ ?_; first | exact rfl | ((repeat (refine ay (aA h) ?_)); exact ae) | omega) | refine ai ?_ | refine aj ?_)
 refine qU h (fun e M' h' => ?_) fun e M' h' => ?_
 ·clear h
  have h := h'
  clear h'
  dsimp only at e
  have hp : x.put v g = ({ x with l := x.l.drop (x.l.length / 2) }, g ++ (x.l.take (x.l.length / 2) ++ [v]), x.l.length / 2 + 1) := by unfold Loc.put; rw [if_neg (by omega)]
  rw [hp] at k
  repeat (first | (refine aq h ?_; clear h; intro kb M h) | (refine av h ?_; clear h; intro M h) | refine St.to h ?_ | (apply Exists.intro; (repeat apply Exists.intro); refine And.intro rfl ?_) | (refine And.intro ?_ ?_; first | exact rfl | ((repeat (refine ay (aA h) ?_)); exact ae) | omega) | refine ai ?_ | refine aj ?_)
  refine u5 h ?_
  repeat (first | (refine aq h ?_; clear h; intro kb M h) | (refine av h ?_; clear h; intro M h) | refine St.to h ?_ | (apply Exists.intro; (repeat apply Exists.intro); refine And.intro rfl ?_) | (refine And.intro ?_ ?_; first | exact rfl | ((repeat (refine ay (aA h) ?_)); exact ae) | omega) | refine ai ?_ | refine aj ?_)
  have e2 : IntKind.wrap .i64 (Int.tdiv (x.l.length : Int) 2) = ((x.l.length / 2 : Nat) : Int) := wn rfl (by have := bd.1; have := bd.2.1; omega)
  simp only [e2]
  refine Cp h ?_
  clear h
  intro A c M h
  simp only [Int.toNat_natCast] at h ⊢
  repeat (first | (refine aq h ?_; clear h; intro kb M h) | (refine av h ?_; clear h; intro M h) | refine St.to h ?_ | (apply Exists.intro; (repeat apply Exists.intro); refine And.intro rfl ?_) | (refine And.intro ?_ ?_; first | exact rfl | ((repeat (refine ay (aA h) ?_)); exact ae) | omega) | refine ai ?_ | refine aj ?_)
  have htl : (x.l.take (x.l.length / 2)).length = x.l.length / 2 := by rw [List.length_take]; omega
  refine h.bS mb [v] rfl rfl (by have := bd.2.1; have := bd.1; simp; omega) ?_
  clear h
  intro A' c' M h
  repeat (first | (refine aq h ?_; clear h; intro kb M h) | (refine av h ?_; clear h; intro M h) | refine St.to h ?_ | (apply Exists.intro; (repeat apply Exists.intro); refine And.intro rfl ?_) | (refine And.intro ?_ ?_; first | exact rfl | ((repeat (refine ay (aA h) ?_)); exact ae) | omega) | refine ai ?_ | refine aj ?_)
  replace h := h.sub (show Sub _ (fR P g :: bD bl 3 A' c' (x.l.take (x.l.length / 2) ++ [v]) :: aB eN rb ⟨x.room, x.l.drop (x.l.length / 2)⟩ :: pt b [.int .i64 x.next, .pointer (some ⟨rb, 0, none⟩)] 224 :: nN) from bz)
  refine ot D h Src.row rfl (by have := bd.2.1; have := bd.1; simp; omega) ?_
  clear h
  intro M h
  repeat (first | (refine aq h ?_; clear h; intro kb M h) | (refine av h ?_; clear h; intro M h) | refine St.to h ?_ | (apply Exists.intro; (repeat apply Exists.intro); refine And.intro rfl ?_) | (refine And.intro ?_ ?_; first | exact rfl | ((repeat (refine ay (aA h) ?_)); exact ae) | omega) | refine ai ?_ | refine aj ?_)
  have e3 : (((x.l.take (x.l.length / 2) ++ [v]).length : Nat) : Int) = ((x.l.length / 2 + 1 : Nat) : Int) := by simp; omega
  rw [e3]
  exact k _ ((cD h b).sub bz)
 ·clear h
  have h := h'
  clear h'
  dsimp only at e
  have hp : x.put v g = ({ x with l := x.l ++ [v] }, g, 0) := by unfold Loc.put; rw [if_pos e]
  rw [hp] at k
  repeat (first | (refine aq h ?_; clear h; intro kb M h) | (refine av h ?_; clear h; intro M h) | refine St.to h ?_ | (apply Exists.intro; (repeat apply Exists.intro); refine And.intro rfl ?_) | (refine And.intro ?_ ?_; first | exact rfl | ((repeat (refine ay (aA h) ?_)); exact ae) | omega) | refine ai ?_ | refine aj ?_)
  exact k _ ((cD h b).sub bz)
theorem DI (h : Hp R L M) [o : cq bN b L x L'] [og : sw P L' g nN] : Hp R (aB bN b x :: fR P g :: nN) M := (h.pick o.pick).map fun _ hs => hs.tail (fun _ => bZ.pick og.pick)
theorem FB (D : Rq gb go P) {v : Int} (h : Hp R L M) [o : cq bN b L x L'] [og : sw P L' g nN] (hs : g.length ≤ 100000000)
  (k : ∀ M', Hp R (aB bN b (x.ready v g).1 :: fR P (x.ready v g).2.1 :: nN) M' → K (.int .i64 ((x.ready v g).2.2 : Int)) M') :
  aa Tryz.prog 134 #[.pointer (some ⟨b, 0, none⟩), .int .i64 v, .pointer (some ⟨gb, go, none⟩)] M K Kp := by
 replace h := DI (P := P) h (b := b)
 refine qd ?_
 have h' := g9 h (b := b)
 clear h
 obtain ⟨rb, h⟩ := h'
 repeat (first | (refine aq h ?_; clear h; intro kb M h) | (refine av h ?_; clear h; intro M h) | refine St.to h ?_ | (apply Exists.intro; (repeat apply Exists.intro); refine And.intro rfl ?_) | (refine And.intro ?_ ?_; first | exact rfl | ((repeat (refine ay (aA h) ?_)); exact ae) | omega) | refine ai ?_ | refine aj ?_)
 refine aY.2 ⟨fun e => ?_, fun e => ?_⟩
 ·have hp : x.ready v g = ({ x with next := v }, g, 0) := by unfold Loc.ready; rw [if_pos e]
  rw [hp] at k
  repeat (first | (refine aq h ?_; clear h; intro kb M h) | (refine av h ?_; clear h; intro M h) | refine St.to h ?_ | (apply Exists.intro; (repeat apply Exists.intro); refine And.intro rfl ?_) | (refine And.intro ?_ ?_; first | exact rfl | ((repeat (refine ay (aA h) ?_)); exact ae) | omega) | refine ai ?_ | refine aj ?_)
  exact k _ ((cD h b).sub bz)
 ·have hp : x.ready v g = ({ x with next := v } : Loc).put x.next g := by unfold Loc.ready; rw [if_neg e]
  rw [hp] at k
  replace h := cD h b
  refine Cr D h hs ?_
  clear h
  intro M h
  repeat (first | (refine aq h ?_; clear h; intro kb M h) | (refine av h ?_; clear h; intro M h) | refine St.to h ?_ | (apply Exists.intro; (repeat apply Exists.intro); refine And.intro rfl ?_) | (refine And.intro ?_ ?_; first | exact rfl | ((repeat (refine ay (aA h) ?_)); exact ae) | omega) | refine ai ?_ | refine aj ?_)
  exact k _ h
theorem Ig (D : Rq gb go P) (h : Hp R L M) [o : cq bN b L x L'] [og : sw P L' g nN] (hs : g.length ≤ 100000000)
  (k : ∀ M', Hp R (aB bN b (x.gd g).1 :: fR P (x.gd g).2.1 :: nN) M' → K (.int .i64 ((x.gd g).2.2 : Int)) M') :
  aa Tryz.prog 177 #[.pointer (some ⟨b, 0, none⟩), .pointer (some ⟨gb, go, none⟩)] M K Kp := by
 replace h := DI (P := P) h (b := b)
 refine rY ?_
 have h' := g9 h (b := b)
 clear h
 obtain ⟨rb, h⟩ := h'
 repeat (first | (refine aq h ?_; clear h; intro kb M h) | (refine av h ?_; clear h; intro M h) | refine St.to h ?_ | (apply Exists.intro; (repeat apply Exists.intro); refine And.intro rfl ?_) | (refine And.intro ?_ ?_; first | exact rfl | ((repeat (refine ay (aA h) ?_)); exact ae) | omega) | refine ai ?_ | refine aj ?_)
 refine aY.2 ⟨fun e => ?_, fun e => ?_⟩
 ·have hp : x.gd g = (x, g, 0) := by unfold Loc.gd; rw [if_pos e]
  rw [hp] at k
  exact k _ ((cD h b).sub bz)
 ·have hp : x.gd g = ({ x with next := -1 } : Loc).put x.next g := by unfold Loc.gd; rw [if_neg e]
  rw [hp] at k
  repeat (first | (refine aq h ?_; clear h; intro kb M h) | (refine av h ?_; clear h; intro M h) | refine St.to h ?_ | (apply Exists.intro; (repeat apply Exists.intro); refine And.intro rfl ?_) | (refine And.intro ?_ ?_; first | exact rfl | ((repeat (refine ay (aA h) ?_)); exact ae) | omega) | refine ai ?_ | refine aj ?_)
  replace h := cD h b
  refine Cr D h hs ?_
  clear h
  intro M h
  repeat (first | (refine aq h ?_; clear h; intro kb M h) | (refine av h ?_; clear h; intro M h) | refine St.to h ?_ | (apply Exists.intro; (repeat apply Exists.intro); refine And.intro rfl ?_) | (refine And.intro ?_ ?_; first | exact rfl | ((repeat (refine ay (aA h) ?_)); exact ae) | omega) | refine ai ?_ | refine aj ?_)
  exact k _ h
theorem Cs (h : Hp R L M) [o : cq bN b L x L']
  (k : ∀ t M', (x.get.2 = -1 → x.next = -1 → x.l = [] → t = false) → (x.next ≠ -1 ∨ x.l ≠ [] → t = true) → Hp R (aB bN b x.get.1 :: L') M' → K (.tuple #[.int .i64 x.get.2, .bool t]) M') :
  aa Tryz.prog 131 #[.pointer (some ⟨b, 0, none⟩)] M K Kp := by
 refine tx ?_
 have h' := g9 h (b := b)
 clear h
 obtain ⟨rb, h⟩ := h'
 obtain ⟨next, room, l⟩ := x
 dsimp only at h
 repeat (first | (refine aq h ?_; clear h; intro kb M h) | (refine av h ?_; clear h; intro M h) | refine St.to h ?_ | (apply Exists.intro; (repeat apply Exists.intro); refine And.intro rfl ?_) | (refine And.intro ?_ ?_; first | exact rfl | ((repeat (refine ay (aA h) ?_)); exact ae) | omega) | refine ai ?_ | refine aj ?_)
 refine cK.2 ⟨fun e => ?_, fun e => ?_⟩
 ·have hp : (Loc.mk next room l).get = (⟨-1, room, l⟩, next) := by unfold Loc.get; dsimp only; rw [if_pos e]
  rw [hp] at k
  repeat (first | (refine aq h ?_; clear h; intro kb M h) | (refine av h ?_; clear h; intro M h) | refine St.to h ?_ | (apply Exists.intro; (repeat apply Exists.intro); refine And.intro rfl ?_) | (refine And.intro ?_ ?_; first | exact rfl | ((repeat (refine ay (aA h) ?_)); exact ae) | omega) | refine ai ?_ | refine aj ?_)
  exact k true _ (fun _ h2 => absurd h2 e) (fun _ => rfl) ((cD h b).sub bz)
 ·repeat (first | (refine aq h ?_; clear h; intro kb M h) | (refine av h ?_; clear h; intro M h) | refine St.to h ?_ | (apply Exists.intro; (repeat apply Exists.intro); refine And.intro rfl ?_) | (refine And.intro ?_ ?_; first | exact rfl | ((repeat (refine ay (aA h) ?_)); exact ae) | omega) | refine ai ?_ | refine aj ?_)
  refine Fx h (fun e2 M' h' => ?_) fun v l2 e2 M' h' => ?_
  ·dsimp only at e2
   subst e2
   have hp : (Loc.mk next room []).get = (⟨next, room, []⟩, -1) := by unfold Loc.get; dsimp only; rw [if_neg (by simpa using e)]
   rw [hp] at k
   repeat (first | (refine aq h ?_; clear h; intro kb M h) | (refine av h ?_; clear h; intro M h) | refine St.to h ?_ | (apply Exists.intro; (repeat apply Exists.intro); refine And.intro rfl ?_) | (refine And.intro ?_ ?_; first | exact rfl | ((repeat (refine ay (aA h) ?_)); exact ae) | omega) | refine ai ?_ | refine aj ?_)
   exact k false _ (fun _ _ _ => rfl) (fun hx => by rcases hx with hx | hx; exact absurd e hx; exact absurd rfl hx) ((cD h' b).sub bz)
  ·dsimp only at e2
   subst e2
   have hp : (Loc.mk next room (v :: l2)).get = (⟨next, room, l2⟩, v) := by unfold Loc.get; dsimp only; rw [if_neg (by simpa using e)]
   rw [hp] at k
   repeat (first | (refine aq h ?_; clear h; intro kb M h) | (refine av h ?_; clear h; intro M h) | refine St.to h ?_ | (apply Exists.intro; (repeat apply Exists.intro); refine And.intro rfl ?_) | (refine And.intro ?_ ?_; first | exact rfl | ((repeat (refine ay (aA h) ?_)); exact ae) | omega) | refine ai ?_ | refine aj ?_)
   exact k true _ (fun _ _ hx => by simp at hx) (fun _ => rfl) ((cD h' b).sub bz)
end
section
variable {R : Mem} {L L' nN : List HP} {M : Mem} {K : Value → Mem → Prop} {Kp : List PanicEntry → Mem → Prop} {b gb go b' : Nat} {P : Option Addr → Nat → Nat → HP} {x f : Loc} {g : List Int}
theorem WH {b b' T T' : Nat} {cs cs' : List Value} (h : Hp R (pt b cs T :: L) M) [p : jU b' L cs' T' L'] : b ≠ b' := by
 rintro rfl
 have h2 : Hp R (pt b cs T :: pt b cs' T' :: L') M := h.map fun _ hs => hs.tail fun _ => bZ.pick p.pick
 obtain ⟨B, rfl, h1, X, Y, rfl, h2, hp, X2, Y2, rfl, h3, WI, hs⟩ := h2
 unfold AF.pt at hp WI
 rcases h2 b with h | h
 ·rw [hp] at h; cases h
 ·rw [Mem.union_left WI] at h; cases h
theorem WJ {a : Addr} {b : Nat} {G : Bool → Prop} (hne : a.block ≠ b) (h1 : kT M a.block) (h2 : kT M b) (g : G false) : ptrEq M (some a) (some ⟨b, 0, none⟩) G :=
 ⟨fun e => absurd (by rw [e]) hne, fun _ => ⟨.inr ⟨h1, h2⟩, g⟩⟩
theorem FC {b T : Nat} {cs : List Value} (h : Hp R L M) [p : jU b L cs T L'] : kT M b := ⟨_, _, (h.pick p.pick).yZ⟩
theorem FD (D : Rq gb go P) {p : Int} (h : Hp R L M) [o : cq bN b L x L'] [og : sw P L' g nN] (hs : g.length ≤ 100000000) (hp9 : p < 9223372036854775808)
  (k : ∀ t M', ((x.eG g p).2.2 = -1 → g = [] → t = false) → (g ≠ [] → t = true) → Hp R (aB bN b (x.eG g p).1 :: fR P (x.eG g p).2.1 :: nN) M' → K (.tuple #[.int .i64 (x.eG g p).2.2, .bool t]) M') :
  aa Tryz.prog 179 #[.pointer (some ⟨b, 0, none⟩), .pointer (some ⟨gb, go, none⟩), .int .i64 p] M K Kp := by
 have bd := wG h (b := b)
 obtain ⟨bd1, bd2, bd3⟩ := bd
 replace h := DI (P := P) h (b := b)
 refine qf ?_
 have h' := g9 h (b := b)
 clear h
 obtain ⟨rb, h⟩ := h'
 repeat (first | (refine aq h ?_; clear h; intro kb M h) | (refine av h ?_; clear h; intro M h) | refine St.to h ?_ | (apply Exists.intro; (repeat apply Exists.intro); refine And.intro rfl ?_) | (refine And.intro ?_ ?_; first | exact rfl | ((repeat (refine ay (aA h) ?_)); exact ae) | omega) | refine ai ?_ | refine aj ?_)
 refine Ie D h ?_
 repeat (first | (refine aq h ?_; clear h; intro kb M h) | (refine av h ?_; clear h; intro M h) | refine St.to h ?_ | (apply Exists.intro; (repeat apply Exists.intro); refine And.intro rfl ?_) | (refine And.intro ?_ ?_; first | exact rfl | ((repeat (refine ay (aA h) ?_)); exact ae) | omega) | refine ai ?_ | refine aj ?_)
 refine Co h ?_
 repeat (first | (refine aq h ?_; clear h; intro kb M h) | (refine av h ?_; clear h; intro M h) | refine St.to h ?_ | (apply Exists.intro; (repeat apply Exists.intro); refine And.intro rfl ?_) | (refine And.intro ?_ ?_; first | exact rfl | ((repeat (refine ay (aA h) ?_)); exact ae) | omega) | refine ai ?_ | refine aj ?_)
 refine u5 h ?_
 repeat (first | (refine aq h ?_; clear h; intro kb M h) | (refine av h ?_; clear h; intro M h) | refine St.to h ?_ | (apply Exists.intro; (repeat apply Exists.intro); refine And.intro rfl ?_) | (refine And.intro ?_ ?_; first | exact rfl | ((repeat (refine ay (aA h) ?_)); exact ae) | omega) | refine ai ?_ | refine aj ?_)
 dsimp only at *
 have hn0 : 1 ≤ x.dL g p := by unfold Loc.dL; generalize g.length / p.toNat = q; split <;> omega
 have Rs : x.l.length + (x.dL g p - 1) ≤ x.room := by unfold Loc.dL; generalize g.length / p.toNat = q; split <;> omega
 have key : ∀ n : Int, n.toNat = x.dL g p → ∀ {Q : Prop}, Q → Q := fun _ _ _ q => q
 refine aP.2 ⟨fun Rt => ?_, fun Rt => ?_⟩
 ·have hn : (1 : Int).toNat = x.dL g p := by unfold Loc.dL; rw [if_pos Rt]; rfl
  refine qt D h (by omega) ?_
  clear h
  intro A c M h
  rw [hn] at h ⊢
  repeat (first | (refine aq h ?_; clear h; intro kb M h) | (refine av h ?_; clear h; intro M h) | refine St.to h ?_ | (apply Exists.intro; (repeat apply Exists.intro); refine And.intro rfl ?_) | (refine And.intro ?_ ?_; first | exact rfl | ((repeat (refine ay (aA h) ?_)); exact ae) | omega) | refine ai ?_ | refine aj ?_)
  cases hg : g.take (x.dL g p) with
  | nil =>
   have WK : g = [] := by
    have := congrArg List.length hg
    rw [List.length_take, List.length_nil] at this
    exact List.length_eq_zero_iff.1 (by omega)
   have hp : x.eG g p = (x, g, -1) := by unfold Loc.eG; rw [hg]
   rw [hp] at k
   refine vQ rfl ?_
   have e3 : g.drop (x.dL g p) = g := by rw [WK]; simp
   rw [e3] at h
   exact k false _ (fun _ _ => rfl) (fun h1 => absurd WK h1) ((cD h b).sub bz)
  | cons v out =>
   have hp : x.eG g p = ({ x with l := x.l ++ out }, g.drop (x.dL g p), v) := by unfold Loc.eG; rw [hg]
   rw [hp] at k
   have Xz : out.length + 1 ≤ x.dL g p := by
    have := congrArg List.length hg
    rw [List.length_take, List.length_cons] at this
    omega
   refine C8 (by simp; omega) ?_
   rw [hg] at h
   generalize g.drop (x.dL g p) = g2 at *
   have ZW : g ≠ [] := by rintro rfl; simp at hg
   obtain ⟨A0, Th⟩ : ∃ A0, A0 = lM A 1 c 1 := ⟨_, rfl⟩
   have hcap := h.jV A
   rw [List.length_cons] at hcap
   simp only [Int.toNat_natCast, List.length_cons]
   repeat (first | (refine aq h ?_; clear h; intro kb M h) | (refine av h ?_; clear h; intro M h) | refine St.to h ?_ | (apply Exists.intro; (repeat apply Exists.intro); refine And.intro rfl ?_) | (refine And.intro ?_ ?_; first | exact rfl | ((repeat (refine ay (aA h) ?_)); exact ae) | omega) | refine ai ?_ | refine aj ?_)
   refine ⟨fun d ws M => ∃ i : Nat, ws = [.int .i64 (i : Int)] ∧ d = out.length - i ∧ i ≤ out.length ∧
    Hp R (bD bl 3 A c (v :: out) :: pt b [.int .i64 x.next, .pointer (some ⟨rb, 0, none⟩)] 224 :: aB eN rb ⟨x.room, x.l ++ out.take i⟩ :: fR P g2 :: nN) M,
    ⟨_, 0, rfl, rfl, by omega, by rw [List.take_zero, List.append_nil]; exact h.sub bz⟩, ?_⟩
   clear h
   rintro d _ ii M ⟨i, he, hd, hi, h⟩
   simp only [List.cons.injEq, Value.int.injEq, and_true, true_and] at he
   subst he
   refine aP.2 ⟨fun hlt => ?_, fun hge => ?_⟩
   ·obtain ⟨w, hw⟩ := aR (l := out) (i := i) (by omega)
    have s0 := Src.Rn (h.src (A := A)) (by rw [List.length_cons]; exact hcap) 1
    rw [← Th] at s0 ⊢
    rw [show (v :: out).drop 1 = out from rfl] at s0
    obtain ⟨b0, o0, rfl⟩ := s0.kY h (by omega) (by decide)
    repeat (first | (refine aq h ?_; clear h; intro kb M h) | (refine av h ?_; clear h; intro M h) | refine St.to h ?_ | (apply Exists.intro; (repeat apply Exists.intro); refine And.intro rfl ?_) | (refine And.intro ?_ ?_; first | exact rfl | ((repeat (refine ay (aA h) ?_)); exact ae) | omega) | refine ai ?_ | refine aj ?_)
    simp only [Int.toNat_natCast]
    refine aZ (s0.at h (i := i) (j := 0) hw rfl (by simp [bl])) ?_
    repeat (first | (refine aq h ?_; clear h; intro kb M h) | (refine av h ?_; clear h; intro M h) | refine St.to h ?_ | (apply Exists.intro; (repeat apply Exists.intro); refine And.intro rfl ?_) | (refine And.intro ?_ ?_; first | exact rfl | ((repeat (refine ay (aA h) ?_)); exact ae) | omega) | refine ai ?_ | refine aj ?_)
    refine qU (v := w) h (fun e M' h' => ?_) fun e M' h' => ?_
    ·exfalso
     simp only [List.length_append, List.length_take] at e
     omega
    ·clear h
     have h := h'
     clear h'
     repeat (first | (refine aq h ?_; clear h; intro kb M h) | (refine av h ?_; clear h; intro M h) | refine St.to h ?_ | (apply Exists.intro; (repeat apply Exists.intro); refine And.intro rfl ?_) | (refine And.intro ?_ ?_; first | exact rfl | ((repeat (refine ay (aA h) ?_)); exact ae) | omega) | refine ai ?_ | refine aj ?_)
     rw [aU (by omega)]
     refine ⟨out.length - (i + 1), by omega, i + 1, rfl, rfl, by omega, ?_⟩
     rw [cC hw, ← List.append_assoc]
     exact h.sub bz
   ·obtain rfl : i = out.length := by omega
    rw [List.take_length] at h
    have s0 := h.src (A := A)
    obtain ⟨b0, rfl⟩ := h.bx (A := A) (by simp) (by decide)
    repeat (first | (refine aq h ?_; clear h; intro kb M h) | (refine av h ?_; clear h; intro M h) | refine St.to h ?_ | (apply Exists.intro; (repeat apply Exists.intro); refine And.intro rfl ?_) | (refine And.intro ?_ ?_; first | exact rfl | ((repeat (refine ay (aA h) ?_)); exact ae) | omega) | refine ai ?_ | refine aj ?_)
    refine aZ (s0.at h (i := 0) (j := 0) rfl rfl (by simp [bl])) ?_
    repeat (first | (refine aq h ?_; clear h; intro kb M h) | (refine av h ?_; clear h; intro M h) | refine St.to h ?_ | (apply Exists.intro; (repeat apply Exists.intro); refine And.intro rfl ?_) | (refine And.intro ?_ ?_; first | exact rfl | ((repeat (refine ay (aA h) ?_)); exact ae) | omega) | refine ai ?_ | refine aj ?_)
    exact k true _ (fun _ h1 => absurd h1 ZW) (fun _ => rfl) ((cD h b).sub bz)
 ·have hn : (if IntKind.wrap .i64 (IntKind.wrap .i64 ((x.room : Int) - (x.l.length : Int)) + 1) < IntKind.wrap .i64 (IntKind.wrap .i64 (Int.tdiv (g.length : Int) (if (1 : Int) > p then 1 else p)) + 1) then IntKind.wrap .i64 (IntKind.wrap .i64 ((x.room : Int) - (x.l.length : Int)) + 1) else IntKind.wrap .i64 (IntKind.wrap .i64 (Int.tdiv (g.length : Int) (if (1 : Int) > p then 1 else p)) + 1)).toNat = x.dL g p := by
   obtain ⟨q, rfl⟩ := Int.eq_ofNat_of_zero_le (show 0 ≤ p by omega)
   have e1 : (if (1 : Int) > (q : Int) then 1 else (q : Int)) = (q : Int) := by split <;> omega
   rw [e1]
   have hd : g.length / q ≤ g.length := Nat.div_le_self ..
   have e2 : IntKind.wrap .i64 (Int.tdiv (g.length : Int) (q : Int)) = ((g.length / q : Nat) : Int) := wn rfl (by omega)
   rw [e2, aU (by omega), nJ (n := (x.room : Int) - (x.l.length : Int)) (by omega) (by omega), nJ (n := (x.room : Int) - (x.l.length : Int) + 1) (by omega) (by omega)]
   unfold Loc.dL
   rw [if_neg Rt, Int.toNat_natCast]
   generalize g.length / q = z at *
   split <;> omega
  revert hn
  generalize (if IntKind.wrap .i64 (IntKind.wrap .i64 ((x.room : Int) - (x.l.length : Int)) + 1) < IntKind.wrap .i64 (IntKind.wrap .i64 (Int.tdiv (g.length : Int) (if (1 : Int) > p then 1 else p)) + 1) then IntKind.wrap .i64 (IntKind.wrap .i64 ((x.room : Int) - (x.l.length : Int)) + 1) else IntKind.wrap .i64 (IntKind.wrap .i64 (Int.tdiv (g.length : Int) (if (1 : Int) > p then 1 else p)) + 1)) = n
  intro hn
  refine qt D h (by omega) ?_
  clear h
  intro A c M h
  rw [hn] at h ⊢
  repeat (first | (refine aq h ?_; clear h; intro kb M h) | (refine av h ?_; clear h; intro M h) | refine St.to h ?_ | (apply Exists.intro; (repeat apply Exists.intro); refine And.intro rfl ?_) | (refine And.intro ?_ ?_; first | exact rfl | ((repeat (refine ay (aA h) ?_)); exact ae) | omega) | refine ai ?_ | refine aj ?_)
  cases hg : g.take (x.dL g p) with
  | nil =>
   have WK : g = [] := by
    have := congrArg List.length hg
    rw [List.length_take, List.length_nil] at this
    exact List.length_eq_zero_iff.1 (by omega)
   have hp : x.eG g p = (x, g, -1) := by unfold Loc.eG; rw [hg]
   rw [hp] at k
   refine vQ rfl ?_
   have e3 : g.drop (x.dL g p) = g := by rw [WK]; simp
   rw [e3] at h
   exact k false _ (fun _ _ => rfl) (fun h1 => absurd WK h1) ((cD h b).sub bz)
  | cons v out =>
   have hp : x.eG g p = ({ x with l := x.l ++ out }, g.drop (x.dL g p), v) := by unfold Loc.eG; rw [hg]
   rw [hp] at k
   have Xz : out.length + 1 ≤ x.dL g p := by
    have := congrArg List.length hg
    rw [List.length_take, List.length_cons] at this
    omega
   refine C8 (by simp; omega) ?_
   rw [hg] at h
   generalize g.drop (x.dL g p) = g2 at *
   have ZW : g ≠ [] := by rintro rfl; simp at hg
   obtain ⟨A0, Th⟩ : ∃ A0, A0 = lM A 1 c 1 := ⟨_, rfl⟩
   have hcap := h.jV A
   rw [List.length_cons] at hcap
   simp only [Int.toNat_natCast, List.length_cons]
   repeat (first | (refine aq h ?_; clear h; intro kb M h) | (refine av h ?_; clear h; intro M h) | refine St.to h ?_ | (apply Exists.intro; (repeat apply Exists.intro); refine And.intro rfl ?_) | (refine And.intro ?_ ?_; first | exact rfl | ((repeat (refine ay (aA h) ?_)); exact ae) | omega) | refine ai ?_ | refine aj ?_)
   refine ⟨fun d ws M => ∃ i : Nat, ws = [.int .i64 (i : Int)] ∧ d = out.length - i ∧ i ≤ out.length ∧
    Hp R (bD bl 3 A c (v :: out) :: pt b [.int .i64 x.next, .pointer (some ⟨rb, 0, none⟩)] 224 :: aB eN rb ⟨x.room, x.l ++ out.take i⟩ :: fR P g2 :: nN) M,
    ⟨_, 0, rfl, rfl, by omega, by rw [List.take_zero, List.append_nil]; exact h.sub bz⟩, ?_⟩
   clear h
   rintro d _ ii M ⟨i, he, hd, hi, h⟩
   simp only [List.cons.injEq, Value.int.injEq, and_true, true_and] at he
   subst he
   refine aP.2 ⟨fun hlt => ?_, fun hge => ?_⟩
   ·obtain ⟨w, hw⟩ := aR (l := out) (i := i) (by omega)
    have s0 := Src.Rn (h.src (A := A)) (by rw [List.length_cons]; exact hcap) 1
    rw [← Th] at s0 ⊢
    rw [show (v :: out).drop 1 = out from rfl] at s0
    obtain ⟨b0, o0, rfl⟩ := s0.kY h (by omega) (by decide)
    repeat (first | (refine aq h ?_; clear h; intro kb M h) | (refine av h ?_; clear h; intro M h) | refine St.to h ?_ | (apply Exists.intro; (repeat apply Exists.intro); refine And.intro rfl ?_) | (refine And.intro ?_ ?_; first | exact rfl | ((repeat (refine ay (aA h) ?_)); exact ae) | omega) | refine ai ?_ | refine aj ?_)
    simp only [Int.toNat_natCast]
    refine aZ (s0.at h (i := i) (j := 0) hw rfl (by simp [bl])) ?_
    repeat (first | (refine aq h ?_; clear h; intro kb M h) | (refine av h ?_; clear h; intro M h) | refine St.to h ?_ | (apply Exists.intro; (repeat apply Exists.intro); refine And.intro rfl ?_) | (refine And.intro ?_ ?_; first | exact rfl | ((repeat (refine ay (aA h) ?_)); exact ae) | omega) | refine ai ?_ | refine aj ?_)
    refine qU (v := w) h (fun e M' h' => ?_) fun e M' h' => ?_
    ·exfalso
     simp only [List.length_append, List.length_take] at e
     omega
    ·clear h
     have h := h'
     clear h'
     repeat (first | (refine aq h ?_; clear h; intro kb M h) | (refine av h ?_; clear h; intro M h) | refine St.to h ?_ | (apply Exists.intro; (repeat apply Exists.intro); refine And.intro rfl ?_) | (refine And.intro ?_ ?_; first | exact rfl | ((repeat (refine ay (aA h) ?_)); exact ae) | omega) | refine ai ?_ | refine aj ?_)
     rw [aU (by omega)]
     refine ⟨out.length - (i + 1), by omega, i + 1, rfl, rfl, by omega, ?_⟩
     rw [cC hw, ← List.append_assoc]
     exact h.sub bz
   ·obtain rfl : i = out.length := by omega
    rw [List.take_length] at h
    have s0 := h.src (A := A)
    obtain ⟨b0, rfl⟩ := h.bx (A := A) (by simp) (by decide)
    repeat (first | (refine aq h ?_; clear h; intro kb M h) | (refine av h ?_; clear h; intro M h) | refine St.to h ?_ | (apply Exists.intro; (repeat apply Exists.intro); refine And.intro rfl ?_) | (refine And.intro ?_ ?_; first | exact rfl | ((repeat (refine ay (aA h) ?_)); exact ae) | omega) | refine ai ?_ | refine aj ?_)
    refine aZ (s0.at h (i := 0) (j := 0) rfl rfl (by simp [bl])) ?_
    repeat (first | (refine aq h ?_; clear h; intro kb M h) | (refine av h ?_; clear h; intro M h) | refine St.to h ?_ | (apply Exists.intro; (repeat apply Exists.intro); refine And.intro rfl ?_) | (refine And.intro ?_ ?_; first | exact rfl | ((repeat (refine ay (aA h) ?_)); exact ae) | omega) | refine ai ?_ | refine aj ?_)
    exact k true _ (fun _ h1 => absurd h1 ZW) (fun _ => rfl) ((cD h b).sub bz)
theorem FE (h : Hp R L M) [o : cq bN b L x L'] [of : cq bN b' L' f nN]
  (k : ∀ t M', ((x.cR f).2.2 = -1 → f.l = [] → t = false) → ((x.cR f).2.2 ≠ -1 ∨ f.l ≠ [] → t = true) → Hp R (aB bN b (x.cR f).1 :: aB bN b' (x.cR f).2.1 :: nN) M' → K (.tuple #[.int .i64 (x.cR f).2.2, .bool t]) M') :
  aa Tryz.prog 133 #[.pointer (some ⟨b, 0, none⟩), .pointer (some ⟨b', 0, none⟩)] M K Kp := by
 have bd := wG h (b := b)
 obtain ⟨bd1, bd2, bd3⟩ := bd
 have h0 : Hp R (aB bN b x :: aB bN b' f :: nN) M := (h.pick o.pick).map fun _ hs => hs.tail (fun _ => bZ.pick of.pick)
 clear h
 have h := h0
 clear h0
 have bdf := wG h (b := b')
 obtain ⟨bf1, bf2, bf3⟩ := bdf
 refine jN ?_
 have h' := g9 h (b := b)
 clear h
 obtain ⟨rb, h⟩ := h'
 have h' := g9 h (b := b')
 clear h
 obtain ⟨rf, h⟩ := h'
 have hne : b' ≠ b := WH h
 refine WJ (Ne.symm hne) (FC h (b := b)) (FC h (b := b')) ?_
 repeat (first | (refine aq h ?_; clear h; intro kb M h) | (refine av h ?_; clear h; intro M h) | refine St.to h ?_ | (apply Exists.intro; (repeat apply Exists.intro); refine And.intro rfl ?_) | (refine And.intro ?_ ?_; first | exact rfl | ((repeat (refine ay (aA h) ?_)); exact ae) | omega) | refine ai ?_ | refine aj ?_)
 refine u5 h ?_
 repeat (first | (refine aq h ?_; clear h; intro kb M h) | (refine av h ?_; clear h; intro M h) | refine St.to h ?_ | (apply Exists.intro; (repeat apply Exists.intro); refine And.intro rfl ?_) | (refine And.intro ?_ ?_; first | exact rfl | ((repeat (refine ay (aA h) ?_)); exact ae) | omega) | refine ai ?_ | refine aj ?_)
 dsimp only at *
 refine aY.2 ⟨fun e => ?_, fun e => ?_⟩
 ·have hl : f.l = [] := List.length_eq_zero_iff.1 (by omega)
  have hp : x.cR f = (x, { f with next := -1 }, f.next) := by unfold Loc.cR; rw [hl, List.take_nil]
  rw [hp] at k
  repeat (first | (refine aq h ?_; clear h; intro kb M h) | (refine av h ?_; clear h; intro M h) | refine St.to h ?_ | (apply Exists.intro; (repeat apply Exists.intro); refine And.intro rfl ?_) | (refine And.intro ?_ ?_; first | exact rfl | ((repeat (refine ay (aA h) ?_)); exact ae) | omega) | refine ai ?_ | refine aj ?_)
  have h2 := cD (cD h b) b'
  exact k _ _ (fun h1 _ => by dsimp only at h1; rw [h1]; rfl) (fun h1 => by rcases h1 with h1 | h1; exact bne_iff_ne.2 h1; exact absurd hl h1) (h2.sub bz)
 ·have hn0 : 1 ≤ x.gW f := by unfold Loc.gW; omega
  have Rs : x.l.length + (x.gW f - 1) ≤ x.room := by unfold Loc.gW; omega
  repeat (first | (refine aq h ?_; clear h; intro kb M h) | (refine av h ?_; clear h; intro M h) | refine St.to h ?_ | (apply Exists.intro; (repeat apply Exists.intro); refine And.intro rfl ?_) | (refine And.intro ?_ ?_; first | exact rfl | ((repeat (refine ay (aA h) ?_)); exact ae) | omega) | refine ai ?_ | refine aj ?_)
  refine Co h ?_
  repeat (first | (refine aq h ?_; clear h; intro kb M h) | (refine av h ?_; clear h; intro M h) | refine St.to h ?_ | (apply Exists.intro; (repeat apply Exists.intro); refine And.intro rfl ?_) | (refine And.intro ?_ ?_; first | exact rfl | ((repeat (refine ay (aA h) ?_)); exact ae) | omega) | refine ai ?_ | refine aj ?_)
  refine u5 h ?_
  repeat (first | (refine aq h ?_; clear h; intro kb M h) | (refine av h ?_; clear h; intro M h) | refine St.to h ?_ | (apply Exists.intro; (repeat apply Exists.intro); refine And.intro rfl ?_) | (refine And.intro ?_ ?_; first | exact rfl | ((repeat (refine ay (aA h) ?_)); exact ae) | omega) | refine ai ?_ | refine aj ?_)
  dsimp only at *
  have hn : (if IntKind.wrap .i64 (IntKind.wrap .i64 ((x.room : Int) - (x.l.length : Int)) + 1) < IntKind.wrap .i64 ((f.l.length : Int) - IntKind.wrap .i64 (Int.tdiv (f.l.length : Int) 2)) then IntKind.wrap .i64 (IntKind.wrap .i64 ((x.room : Int) - (x.l.length : Int)) + 1) else IntKind.wrap .i64 ((f.l.length : Int) - IntKind.wrap .i64 (Int.tdiv (f.l.length : Int) 2))).toNat = x.gW f := by
   have e2 : IntKind.wrap .i64 (Int.tdiv (f.l.length : Int) 2) = ((f.l.length / 2 : Nat) : Int) := wn rfl (by omega)
   rw [e2, nJ (n := (x.room : Int) - (x.l.length : Int)) (by omega) (by omega), nJ (n := (x.room : Int) - (x.l.length : Int) + 1) (by omega) (by omega), nJ (n := (f.l.length : Int) - ((f.l.length / 2 : Nat) : Int)) (by omega) (by omega)]
   unfold Loc.gW
   split <;> omega
  revert hn
  generalize (if IntKind.wrap .i64 (IntKind.wrap .i64 ((x.room : Int) - (x.l.length : Int)) + 1) < IntKind.wrap .i64 ((f.l.length : Int) - IntKind.wrap .i64 (Int.tdiv (f.l.length : Int) 2)) then IntKind.wrap .i64 (IntKind.wrap .i64 ((x.room : Int) - (x.l.length : Int)) + 1) else IntKind.wrap .i64 ((f.l.length : Int) - IntKind.wrap .i64 (Int.tdiv (f.l.length : Int) 2))) = n
  intro hn
  refine Cp h ?_
  clear h
  intro A c M h
  rw [hn] at h ⊢
  repeat (first | (refine aq h ?_; clear h; intro kb M h) | (refine av h ?_; clear h; intro M h) | refine St.to h ?_ | (apply Exists.intro; (repeat apply Exists.intro); refine And.intro rfl ?_) | (refine And.intro ?_ ?_; first | exact rfl | ((repeat (refine ay (aA h) ?_)); exact ae) | omega) | refine ai ?_ | refine aj ?_)
  cases hg : f.l.take (x.gW f) with
  | nil =>
   exfalso
   have := congrArg List.length hg
   rw [List.length_take, List.length_nil] at this
   omega
  | cons v out =>
   have hp : x.cR f = ({ x with l := x.l ++ out }, { f with l := f.l.drop (x.gW f) }, v) := by unfold Loc.cR; rw [hg]
   rw [hp] at k
   have Xz : out.length + 1 ≤ x.gW f := by
    have := congrArg List.length hg
    rw [List.length_take, List.length_cons] at this
    omega
   dsimp only at h
   rw [hg] at h
   generalize f.l.drop (x.gW f) = f2 at *
   have ZW : f.l ≠ [] := by intro e0; rw [e0] at hg; simp at hg
   obtain ⟨A0, Th⟩ : ∃ A0, A0 = lM A 1 c 1 := ⟨_, rfl⟩
   have hcap := h.jV A
   rw [List.length_cons] at hcap
   simp only [Int.toNat_natCast, List.length_cons]
   repeat (first | (refine aq h ?_; clear h; intro kb M h) | (refine av h ?_; clear h; intro M h) | refine St.to h ?_ | (apply Exists.intro; (repeat apply Exists.intro); refine And.intro rfl ?_) | (refine And.intro ?_ ?_; first | exact rfl | ((repeat (refine ay (aA h) ?_)); exact ae) | omega) | refine ai ?_ | refine aj ?_)
   refine ⟨fun d ws M => ∃ i : Nat, ws = [.int .i64 (i : Int)] ∧ d = out.length - i ∧ i ≤ out.length ∧
    Hp R (bD bl 3 A c (v :: out) :: pt b [.int .i64 x.next, .pointer (some ⟨rb, 0, none⟩)] 224 :: aB eN rb ⟨x.room, x.l ++ out.take i⟩ :: aB eN rf ⟨f.room, f2⟩ :: pt b' [.int .i64 f.next, .pointer (some ⟨rf, 0, none⟩)] 224 :: nN) M,
    ⟨_, 0, rfl, rfl, by omega, by rw [List.take_zero, List.append_nil]; exact h.sub bz⟩, ?_⟩
   clear h
   rintro d _ ii M ⟨i, he, hd, hi, h⟩
   simp only [List.cons.injEq, Value.int.injEq, and_true, true_and] at he
   subst he
   refine aP.2 ⟨fun hlt => ?_, fun hge => ?_⟩
   ·obtain ⟨w, hw⟩ := aR (l := out) (i := i) (by omega)
    have s0 := Src.Rn (h.src (A := A)) (by rw [List.length_cons]; exact hcap) 1
    rw [← Th] at s0 ⊢
    rw [show (v :: out).drop 1 = out from rfl] at s0
    obtain ⟨b0, o0, rfl⟩ := s0.kY h (by omega) (by decide)
    repeat (first | (refine aq h ?_; clear h; intro kb M h) | (refine av h ?_; clear h; intro M h) | refine St.to h ?_ | (apply Exists.intro; (repeat apply Exists.intro); refine And.intro rfl ?_) | (refine And.intro ?_ ?_; first | exact rfl | ((repeat (refine ay (aA h) ?_)); exact ae) | omega) | refine ai ?_ | refine aj ?_)
    simp only [Int.toNat_natCast]
    refine aZ (s0.at h (i := i) (j := 0) hw rfl (by simp [bl])) ?_
    repeat (first | (refine aq h ?_; clear h; intro kb M h) | (refine av h ?_; clear h; intro M h) | refine St.to h ?_ | (apply Exists.intro; (repeat apply Exists.intro); refine And.intro rfl ?_) | (refine And.intro ?_ ?_; first | exact rfl | ((repeat (refine ay (aA h) ?_)); exact ae) | omega) | refine ai ?_ | refine aj ?_)
    refine qU (v := w) h (fun e M' h' => ?_) fun e M' h' => ?_
    ·exfalso
     simp only [List.length_append, List.length_take] at e
     omega
    ·clear h
     have h := h'
     clear h'
     repeat (first | (refine aq h ?_; clear h; intro kb M h) | (refine av h ?_; clear h; intro M h) | refine St.to h ?_ | (apply Exists.intro; (repeat apply Exists.intro); refine And.intro rfl ?_) | (refine And.intro ?_ ?_; first | exact rfl | ((repeat (refine ay (aA h) ?_)); exact ae) | omega) | refine ai ?_ | refine aj ?_)
     rw [aU (by omega)]
     refine ⟨out.length - (i + 1), by omega, i + 1, rfl, rfl, by omega, ?_⟩
     rw [cC hw, ← List.append_assoc]
     exact h.sub bz
   ·obtain rfl : i = out.length := by omega
    rw [List.take_length] at h
    have s0 := h.src (A := A)
    obtain ⟨b0, rfl⟩ := h.bx (A := A) (by simp) (by decide)
    repeat (first | (refine aq h ?_; clear h; intro kb M h) | (refine av h ?_; clear h; intro M h) | refine St.to h ?_ | (apply Exists.intro; (repeat apply Exists.intro); refine And.intro rfl ?_) | (refine And.intro ?_ ?_; first | exact rfl | ((repeat (refine ay (aA h) ?_)); exact ae) | omega) | refine ai ?_ | refine aj ?_)
    refine aZ (s0.at h (i := 0) (j := 0) rfl rfl (by simp [bl])) ?_
    repeat (first | (refine aq h ?_; clear h; intro kb M h) | (refine av h ?_; clear h; intro M h) | refine St.to h ?_ | (apply Exists.intro; (repeat apply Exists.intro); refine And.intro rfl ?_) | (refine And.intro ?_ ?_; first | exact rfl | ((repeat (refine ay (aA h) ?_)); exact ae) | omega) | refine ai ?_ | refine aj ?_)
    have h2 := cD (cD h b) b'
    exact k true _ (fun _ h1 => absurd h1 ZW) (fun _ => rfl) (h2.sub bz)
end
end Go.Proofs
namespace Go.Proofs
structure S8 where
 xs : List Loc
 g : List Int
 next : Int
 out : List Int
def Loc.all (x : Loc) : List Int := (if x.next = -1 then [] else [x.next]) ++ x.l
def S8.all (s : S8) : List Int := s.xs.flatMap Loc.all ++ (s.g ++ s.out)
def dB (v : Int) : List Int := if 0 ≤ v then [v] else []
def lc (xs : List Loc) (i : Nat) : Loc := xs.getD i ⟨-1, 1, []⟩
def does8 (s : S8) (kind i k : Nat) (n : Int) : S8 :=
 if kind = 0 ∨ kind = 1 then ⟨s.xs.set i ((lc s.xs i).ready s.next s.g).1, ((lc s.xs i).ready s.next s.g).2.1, s.next + 1, s.out⟩
 else if kind = 2 ∨ kind = 3 then ⟨s.xs.set i ((lc s.xs i).put s.next s.g).1, ((lc s.xs i).put s.next s.g).2.1, s.next + 1, s.out⟩
 else if kind = 4 then ⟨s.xs.set i (lc s.xs i).get.1, s.g, s.next, s.out ++ dB (lc s.xs i).get.2⟩
 else if kind = 5 then ⟨s.xs.set i ((lc s.xs i).eG s.g n).1, ((lc s.xs i).eG s.g n).2.1, s.next, s.out ++ dB ((lc s.xs i).eG s.g n).2.2⟩
 else if kind = 6 then (if i = k then s else ⟨(s.xs.set i ((lc s.xs i).cR (lc s.xs k)).1).set k ((lc s.xs i).cR (lc s.xs k)).2.1, s.g, s.next, s.out ++ dB ((lc s.xs i).cR (lc s.xs k)).2.2⟩)
 else if kind = 9 then ⟨s.xs.set i ((lc s.xs i).gd s.g).1, ((lc s.xs i).gd s.g).2.1, s.next, s.out⟩
 else if kind = 7 then ⟨s.xs, s.g ++ [s.next], s.next + 1, s.out⟩
 else ⟨s.xs, s.g.drop n.toNat, s.next, s.out ++ s.g.take n.toNat⟩
theorem Ru {xs : List Loc} {i : Nat} {x y : Loc} (a : Int) (h : xs[i]? = some x) : ((xs.set i y).flatMap Loc.all).count a + x.all.count a = (xs.flatMap Loc.all).count a + y.all.count a := by
 induction xs generalizing i with
 | nil => simp at h
 | cons z xs ih =>
  cases i with
  | zero => simp only [List.getElem?_cons_zero, Option.some.injEq] at h; subst h; simp only [List.set_cons_zero, List.flatMap_cons, List.count_append]; omega
  | succ i => have := ih (i := i) (by simpa using h); simp only [List.set_cons_succ, List.flatMap_cons, List.count_append]; omega
theorem Ih (a : Int) (l : List Int) (n : Nat) : (l.take n).count a + (l.drop n).count a = l.count a := by rw [← List.count_append, List.take_append_drop]
theorem JJ (x : Loc) (v : Int) (g : List Int) (a : Int) : (x.put v g).1.all.count a + (x.put v g).2.1.count a = x.all.count a + g.count a + [v].count a := by
 unfold Loc.put Loc.all
 have := Ih a x.l (x.l.length / 2)
 split <;> simp only [List.count_append] <;> omega
theorem O3 (x : Loc) (v : Int) (hv : v ≠ -1) (a : Int) : (({ x with next := v } : Loc).all).count a + (if x.next = -1 then ([] : List Int) else [x.next]).count a = x.all.count a + [v].count a := by
 unfold Loc.all
 simp only [List.count_append, if_neg hv]; omega
theorem DJ (x : Loc) (a : Int) : (({ x with next := -1 } : Loc).all).count a + (if x.next = -1 then ([] : List Int) else [x.next]).count a = x.all.count a := by
 unfold Loc.all
 simp only [List.count_append, if_true, List.count_nil]; omega
theorem Lp (x : Loc) (v : Int) (hv : v ≠ -1) (g : List Int) (a : Int) : (x.ready v g).1.all.count a + (x.ready v g).2.1.count a = x.all.count a + g.count a + [v].count a := by
 have h1 := O3 x v hv a
 unfold Loc.ready
 split
 ·rename_i h; rw [if_pos h] at h1; simp only [List.count_nil] at h1; dsimp only; omega
 ·rename_i h; rw [if_neg h] at h1; rw [JJ]; omega
theorem O4 (x : Loc) (g : List Int) (a : Int) : (x.gd g).1.all.count a + (x.gd g).2.1.count a = x.all.count a + g.count a := by
 have h1 := DJ x a
 unfold Loc.gd
 split
 ·rfl
 ·rename_i h; rw [if_neg h] at h1; rw [JJ]; omega
def Loc.Pos (x : Loc) : Prop := -1 ≤ x.next ∧ ∀ v ∈ x.l, 0 ≤ v
theorem iT {v : Int} (h : 0 ≤ v) : dB v = [v] := if_pos h
theorem JK (x : Loc) (hx : x.Pos) (a : Int) : x.get.1.all.count a + (dB x.get.2).count a = x.all.count a := by
 obtain ⟨h1, h2⟩ := hx
 have h3 := DJ x a
 unfold Loc.get
 split
 ·rename_i h; rw [if_neg h] at h3; rw [iT (show 0 ≤ x.next by omega)]; omega
 ·rename_i h
  split
  ·rfl
  ·rename_i v l e
   rw [iT (h2 v (by rw [e]; simp))]
   unfold Loc.all
   rw [e]
   simp only [List.count_append, List.count_cons, List.count_nil]; omega
theorem Lq (x : Loc) (g : List Int) (hg : ∀ v ∈ g, 0 ≤ v) (p : Int) (a : Int) : (x.eG g p).1.all.count a + (x.eG g p).2.1.count a + (dB (x.eG g p).2.2).count a = x.all.count a + g.count a := by
 have h1 := Ih a g (x.dL g p)
 unfold Loc.eG
 split
 ·rfl
 ·rename_i v out e
  rw [e] at h1
  rw [iT (hg v (List.mem_of_mem_take (by rw [e]; simp)))]
  unfold Loc.all
  simp only [List.count_append, List.count_cons, List.count_nil] at h1 ⊢; omega
theorem Lr (x f : Loc) (hf : f.Pos) (hx : x.l.length ≤ x.room) (a : Int) : (x.cR f).1.all.count a + (x.cR f).2.1.all.count a + (dB (x.cR f).2.2).count a = x.all.count a + f.all.count a := by
 obtain ⟨h1, h2⟩ := hf
 have h3 := Ih a f.l (x.gW f)
 have h4 := DJ f a
 unfold Loc.cR
 split
 ·rename_i e
  by_cases hn : f.next = -1
  ·have : dB f.next = [] := by unfold dB; rw [if_neg (by omega)]
   dsimp only
   rw [this]; rw [if_pos hn] at h4; simp only [List.count_nil] at h4 ⊢; omega
  ·dsimp only; rw [iT (by omega)]; rw [if_neg hn] at h4; omega
 ·rename_i v out e
  rw [e] at h3
  rw [iT (h2 v (List.mem_of_mem_take (by rw [e]; simp)))]
  unfold Loc.all
  simp only [List.count_append, List.count_cons, List.count_nil] at h3 ⊢; omega
theorem JL {x : Loc} (hx : x.Pos) : (x.next = -1 ∧ x.l = [] ∧ x.get.2 = -1) ∨ ((x.next ≠ -1 ∨ x.l ≠ []) ∧ 0 ≤ x.get.2) := by
 obtain ⟨h1, h2⟩ := hx
 unfold Loc.get
 split
 ·rename_i h; exact .inr ⟨.inl h, by dsimp only; omega⟩
 ·rename_i h
  split
  ·rename_i e; exact .inl ⟨by omega, e, rfl⟩
  ·rename_i v l e; exact .inr ⟨.inr (by rw [e]; simp), h2 v (by rw [e]; simp)⟩
theorem Ii (x : Loc) (g : List Int) (p : Int) : 1 ≤ x.dL g p := by unfold Loc.dL; generalize g.length / p.toNat = q; split <;> omega
theorem Ct {x : Loc} {g : List Int} (hg : ∀ v ∈ g, 0 ≤ v) (p : Int) : (g = [] ∧ (x.eG g p).2.2 = -1) ∨ (g ≠ [] ∧ 0 ≤ (x.eG g p).2.2) := by
 have hn := Ii x g p
 unfold Loc.eG
 split
 ·rename_i e
  have := congrArg List.length e
  rw [List.length_take, List.length_nil] at this
  exact .inl ⟨List.length_eq_zero_iff.1 (by omega), rfl⟩
 ·rename_i v out e
  exact .inr ⟨by rintro rfl; simp at e, hg v (List.mem_of_mem_take (by rw [e]; simp))⟩
theorem Ls {x f : Loc} (hf : f.Pos) (hx : x.l.length ≤ x.room) : (f.l = [] ∧ (x.cR f).2.2 = f.next) ∨ (f.l ≠ [] ∧ 0 ≤ (x.cR f).2.2) := by
 obtain ⟨h1, h2⟩ := hf
 unfold Loc.cR
 split
 ·rename_i e
  have := congrArg List.length e
  rw [List.length_take, List.length_nil] at this
  unfold Loc.gW at this
  exact .inl ⟨List.length_eq_zero_iff.1 (by omega), rfl⟩
 ·rename_i v out e
  exact .inr ⟨by intro h; rw [h] at e; simp at e, h2 v (List.mem_of_mem_take (by rw [e]; simp))⟩
structure S8.Ok (s : S8) (n : Nat) : Prop where
 len : s.xs.length = 4
 next : s.next = n
 room : ∀ x ∈ s.xs, x.l.length ≤ x.room ∧ x.room ≤ 1024 ∧ 0 < x.room
 perm : ∀ a, s.all.count a = ((List.range n).map Int.ofNat).count a
def ou (n : Nat) : List Int := (List.range n).map Int.ofNat
theorem S8.Ok.perm' {s : S8} {n : Nat} (h : s.Ok n) : s.all.Perm (ou n) := List.perm_iff_count.2 h.perm
theorem S8.Ok.total {s : S8} {n : Nat} (h : s.Ok n) : s.all.length = n := by rw [h.perm'.length_eq]; simp [ou]
theorem S8.Ok.nn {s : S8} {n : Nat} (h : s.Ok n) : ∀ v ∈ s.all, 0 ≤ v := fun v hv => by
 have := h.perm'.mem_iff.1 hv
 obtain ⟨k, _, rfl⟩ := List.mem_map.1 this
 exact Int.natCast_nonneg k
theorem S8.Ok.gl {s : S8} {n : Nat} (h : s.Ok n) : s.g.length ≤ n ∧ s.out.length ≤ n := by
 have := h.total
 unfold S8.all at this
 simp only [List.length_append] at this
 omega
theorem S8.Ok.pos {s : S8} {n : Nat} (h : s.Ok n) {x : Loc} (hx : x ∈ s.xs) : x.Pos := by
 have gS : ∀ v ∈ x.all, 0 ≤ v := fun v hv => h.nn v (by
  unfold S8.all
  exact List.mem_append_left _ (List.mem_flatMap.2 ⟨x, hx, hv⟩))
 refine ⟨?_, fun v hv => gS v (by unfold Loc.all; simp [hv])⟩
 by_cases hn : x.next = -1
 ·omega
 ·have := gS x.next (by unfold Loc.all; rw [if_neg hn]; simp)
  omega
theorem O5 {x : Loc} (h : x.l.length ≤ x.room ∧ x.room ≤ 1024 ∧ 0 < x.room) (v : Int) (g : List Int) : (x.put v g).1.l.length ≤ (x.put v g).1.room ∧ (x.put v g).1.room ≤ 1024 ∧ 0 < (x.put v g).1.room := by
 unfold Loc.put; split
 ·dsimp only; simp only [List.length_append, List.length_singleton]; omega
 ·dsimp only; simp only [List.length_drop]; omega
theorem O6 {x : Loc} (h : x.l.length ≤ x.room ∧ x.room ≤ 1024 ∧ 0 < x.room) (v : Int) (g : List Int) : (x.ready v g).1.l.length ≤ (x.ready v g).1.room ∧ (x.ready v g).1.room ≤ 1024 ∧ 0 < (x.ready v g).1.room := by
 unfold Loc.ready; split
 ·exact h
 ·exact O5 (x := { x with next := v }) h _ _
theorem Rv {x : Loc} (h : x.l.length ≤ x.room ∧ x.room ≤ 1024 ∧ 0 < x.room) (g : List Int) : (x.gd g).1.l.length ≤ (x.gd g).1.room ∧ (x.gd g).1.room ≤ 1024 ∧ 0 < (x.gd g).1.room := by
 unfold Loc.gd; split
 ·exact h
 ·exact O5 (x := { x with next := -1 }) h _ _
theorem O7 {x : Loc} (h : x.l.length ≤ x.room ∧ x.room ≤ 1024 ∧ 0 < x.room) : x.get.1.l.length ≤ x.get.1.room ∧ x.get.1.room ≤ 1024 ∧ 0 < x.get.1.room := by
 unfold Loc.get; split
 ·exact h
 ·split
  ·exact h
  ·rename_i e; dsimp only; rw [e, List.length_cons] at h; omega
theorem O8 {x : Loc} (h : x.l.length ≤ x.room ∧ x.room ≤ 1024 ∧ 0 < x.room) (g : List Int) (p : Int) : (x.eG g p).1.l.length ≤ (x.eG g p).1.room ∧ (x.eG g p).1.room ≤ 1024 ∧ 0 < (x.eG g p).1.room := by
 have Rs : x.l.length + (x.dL g p - 1) ≤ x.room := by unfold Loc.dL; generalize g.length / p.toNat = q; split <;> omega
 unfold Loc.eG; split
 ·exact h
 ·rename_i v out e
  have := congrArg List.length e
  rw [List.length_take, List.length_cons] at this
  dsimp only; simp only [List.length_append]; omega
theorem O9 {x f : Loc} (h : x.l.length ≤ x.room ∧ x.room ≤ 1024 ∧ 0 < x.room) (hf : f.l.length ≤ f.room ∧ f.room ≤ 1024 ∧ 0 < f.room) :
  ((x.cR f).1.l.length ≤ (x.cR f).1.room ∧ (x.cR f).1.room ≤ 1024 ∧ 0 < (x.cR f).1.room) ∧ ((x.cR f).2.1.l.length ≤ (x.cR f).2.1.room ∧ (x.cR f).2.1.room ≤ 1024 ∧ 0 < (x.cR f).2.1.room) := by
 have Rs : x.l.length + (x.gW f - 1) ≤ x.room := by unfold Loc.gW; omega
 unfold Loc.cR; split
 ·exact ⟨h, hf⟩
 ·rename_i v out e
  have := congrArg List.length e
  rw [List.length_take, List.length_cons] at this
  dsimp only; simp only [List.length_append, List.length_drop]; omega
end Go.Proofs
namespace Go.Proofs
open Go.AF
set_option maxRecDepth 100000
set_option maxHeartbeats 1000000
attribute [local irreducible] aK cJ fJ bO aD fz aG aO be aS bJ aV
section
variable {R : Mem} {L L' nN : List HP} {M : Mem} {K : Value → Mem → Prop} {Kp : List PanicEntry → Mem → Prop} {x f : Loc} {g : List Int}
theorem Cu {room : Int} (h : Hp R L M) (k : ∀ M', Hp R L M' → K (.agg #[.int .i64 (-1), .slice none 0 0, .int .i64 (eZ room : Nat)]) M') : aa Tryz.prog 107 #[.int .i64 room] M K Kp := by
 refine rX ?_
 have e : (if (if (1024 : Int) < room then 1024 else room) > 1 then (if (1024 : Int) < room then 1024 else room) else 1) = ((eZ room : Nat) : Int) := by unfold eZ; split <;> split <;> omega
 rw [e]
 repeat (first | (refine aq h ?_; clear h; intro kb M h) | (refine av h ?_; clear h; intro M h) | refine St.to h ?_ | (apply Exists.intro; (repeat apply Exists.intro); refine And.intro rfl ?_) | (refine And.intro ?_ ?_; first | exact rfl | ((repeat (refine ay (aA h) ?_)); exact ae) | omega) | refine ai ?_ | refine aj ?_)
 exact k _ h.vS
end
end Go.Proofs
