/- A part of proofs about one program. -/
import Derived.ChangeArms
import Derived.Deep.Slices
import Derived.OpenShut
import Derived.Scope
import Derived.Test.YtfjgcljdnhkmaaaGreatProg
import Derived.WalkKit
import Derived.Test.YtfjgcljdnhkmaaaGreatZSchedLostBase
import Derived.Test.YtfjgcljdnhkmaaaGreatZSchedLostOps
import Derived.Test.YtfjgcljdnhkmaaaGreatZSchedLostOpsB
import Derived.Test.YtfjgcljdnhkmaaaGreatZSchedLostOpC
import Derived.Test.YtfjgcljdnhkmaaaGreatZSchedLostFrame
import Derived.Test.YtfjgcljdnhkmaaaGreatZSchedLostReg
import Derived.Test.YtfjgcljdnhkmaaaGreatZSchedLostRegB
import Derived.Test.YtfjgcljdnhkmaaaGreatZSchedLostRegL
import Derived.Test.YtfjgcljdnhkmaaaGreatZSchedLostRegC
import Derived.Test.YtfjgcljdnhkmaaaGreatZSchedLostExec
import Derived.Test.YtfjgcljdnhkmaaaGreatZSchedLostSound
import Derived.Test.YtfjgcljdnhkmaaaGreatZSchedLostSoundB
import Derived.Test.YtfjgcljdnhkmaaaGreatZSchedLostLib
import Derived.Test.YtfjgcljdnhkmaaaGreatZSchedLostHp
import Derived.Test.YtfjgcljdnhkmaaaGreatZSchedLostRow
import Derived.Test.YtfjgcljdnhkmaaaGreatZSchedLostBig
import Derived.Test.YtfjgcljdnhkmaaaGreatZSchedLostStC
import Derived.Test.YtfjgcljdnhkmaaaGreatZSchedLostMod
import Derived.Test.YtfjgcljdnhkmaaaGreatZSchedLostOpen
import Derived.Test.YtfjgcljdnhkmaaaGreatZSchedLostArgs
import Derived.Test.YtfjgcljdnhkmaaaGreatZSchedLostAgg
import Derived.Test.YtfjgcljdnhkmaaaGreatZSchedLost0
import Derived.Test.YtfjgcljdnhkmaaaGreatZSchedLost1
set_option linter.unusedVariables false
namespace Go.AF
theorem Ik {p q : Prop} [Decidable p] [Decidable q] {X Y : Prop} (hy : Y) (hx : p → q → X) : aV (decide p) (aV (decide q) X Y) Y := by
 by_cases hp : p
 ·by_cases hq : q
  ·simp only [hp, hq, decide_true]; exact aq (aq (hx hp hq))
  ·simp only [hp, hq, decide_true, decide_false]; exact aq (au hy)
 ·simp only [hp, decide_false]; exact au hy
theorem wn {z : Int} {n : Nat} (e : z = (n : Int)) (h : n < 9223372036854775808) : IntKind.wrap .i64 z = (n : Int) := by rw [e]; exact mo h
theorem Src.row {α : Type} {E : gy α} {R : Mem} {L L' : List HP} {A : Option Addr} {T c : Nat} {l : List α} [hp : cG A L α E T c l L'] : Src R L A (E.cells l) := fun M h => h.src (A := A) M h
theorem Src.pre1 {R : Mem} {L : List HP} {A : Option Addr} {c : Nat} {l : List Int} (hs : Src R L A (bu.cells l)) (hc : l.length ≤ c) (q : Nat) : Src R L (lj A 0 c 1) (bu.cells (l.take q)) := by
 have := (hs.drop (m := 0) (c := c) hc).Rk q
 rw [List.drop_zero] at this
 exact this
theorem Src.P5 {R : Mem} {L : List HP} {A : Option Addr} {c : Nat} {l : List Int} (hs : Src R L A (bu.cells l)) (hc : l.length ≤ c) (q : Nat) : Src R L (lj A q c 1) (bu.cells (l.drop q)) := hs.drop hc
end Go.AF
namespace Go.AF
abbrev AL := List (Int × Value)
def dm : Nat → AL → List MapEntry
 | _, [] => []
 | i, (k, v) :: l => ⟨.int .i64 k, v, i⟩ :: dm (i + 1) l
def dM (l : AL) : Obj := .map (dm 0 l).toArray l.length
def nI (k : Int) : AL → Nat → Option (Nat × Value)
 | [], _ => none
 | (k', v) :: l, i => if k = k' then some (i, v) else nI k l (i + 1)
def yO (l : AL) (k : Int) : Option Value := (nI k l 0).map (·.2)
def GD (l : AL) (k : Int) (v : Value) : AL := match nI k l 0 with
 | some (i, _) => l.set i (k, v)
 | none => l ++ [(k, v)]
theorem uk {kd : IntKind} (k : Int) : ∀ (l : AL) (i b : Nat), Instr.findNow (.int kd) (.int .i64 k) (dm b l) i = some (nI k l i)
 | [], _, _ => rfl
 | (k', v) :: l, i, b => by
  simp only [dm, Instr.findNow, Instr.sameNow, if_true, nI]
  by_cases h : k = k'
  ·simp [h]
  ·have : (k == k') = false := by simp [h]
   rw [this, if_neg h]
   exact uk k l (i + 1) (b + 1)
theorem Il {k : Int} : ∀ {l : AL} {i j : Nat} {v : Value}, nI k l i = some (j, v) → i ≤ j ∧ l[j - i]? = some (k, v)
 | [], _, _, _, h => by simp [nI] at h
 | (k', v') :: l, i, j, v, h => by
  simp only [nI] at h
  split at h
  ·rename_i e; cases h; subst e; exact ⟨Nat.le_refl _, by simp⟩
  ·obtain ⟨h1, h2⟩ := Il h
   refine ⟨by omega, ?_⟩
   rw [show j - i = (j - (i + 1)) + 1 from by omega, List.getElem?_cons_succ]; exact h2
theorem Im : ∀ {l : AL} {i b : Nat} {k : Int} {v : Value}, l[i]? = some (k, v) → (dm b l)[i]? = some ⟨.int .i64 k, v, b + i⟩
 | [], _, _, _, _, h => by simp at h
 | (k', v') :: l, 0, b, k, v, h => by simp at h; obtain ⟨rfl, rfl⟩ := h; rfl
 | (k', v') :: l, i + 1, b, k, v, h => by
  have := Im (b := b + 1) (show l[i]? = some (k, v) from by simpa using h)
  simp only [dm, List.getElem?_cons_succ, this]
  congr 2; omega
theorem Ej : ∀ {l : AL} {i b : Nat} {k : Int} {v w : Value}, l[i]? = some (k, w) → (dm b l).modify i (fun e => { e with key := .int .i64 k, val := v }) = dm b (l.set i (k, v))
 | [], _, _, _, _, _, h => by simp at h
 | (k', v') :: l, 0, b, k, v, w, h => by simp at h; obtain ⟨rfl, rfl⟩ := h; rfl
 | (k', v') :: l, i + 1, b, k, v, w, h => by
  have := Ej (b := b + 1) (v := v) (show l[i]? = some (k, w) from by simpa using h)
  simp only [dm, List.modify_succ_cons, List.set_cons_succ, this]
theorem Ek : ∀ (l m : AL) (b : Nat), dm b (l ++ m) = dm b l ++ dm (b + l.length) m
 | [], m, b => by simp [dm]
 | (k, v) :: l, m, b => by simp only [List.cons_append, dm, Ek l m (b + 1), List.length_cons]; congr 3; omega
def lE : AL → Int → Option Value
 | [], _ => none
 | (k', v) :: l, k => if k = k' then some v else lE l k
def r7 : AL → Int → Value → AL
 | [], k, v => [(k, v)]
 | (k', w) :: l, k, v => if k = k' then (k, v) :: l else (k', w) :: r7 l k v
theorem Em (k : Int) : ∀ (l : AL) (i : Nat), (nI k l i).map (·.2) = lE l k
 | [], _ => rfl
 | (k', v) :: l, i => by
  simp only [nI, lE]
  split
  ·rfl
  ·exact Em k l (i + 1)
theorem Io (l : AL) (k : Int) : yO l k = lE l k := Em k l 0
theorem yP (k : Int) : ∀ (l : AL) (i j : Nat), nI k l (i + j) = (nI k l i).map fun x => (x.1 + j, x.2)
 | [], _, _ => rfl
 | (k', v) :: l, i, j => by
  simp only [nI]
  split
  ·rfl
  ·rw [show i + j + 1 = (i + 1) + j from by omega]; exact yP k l (i + 1) j
theorem Ip (k : Int) (v : Value) : ∀ (l : AL), GD l k v = r7 l k v
 | [] => rfl
 | (k', w) :: l => by
  have ih := Ip k v l
  unfold GD at ih ⊢
  simp only [nI, r7]
  by_cases h : k = k'
  ·rw [if_pos h, if_pos h]; rfl
  ·rw [if_neg h, if_neg h]
   have := yP k l 0 1
   rw [this]
   cases ha : nI k l 0 with
   | none => rw [ha] at ih; simp only [Option.map_none]; rw [← ih]; rfl
   | some x => obtain ⟨i, u⟩ := x; rw [ha] at ih; simp only [Option.map_some, List.set_cons_succ]; rw [← ih]
theorem Bi (k k' : Int) (v : Value) : ∀ (l : AL), lE (r7 l k v) k' = if k' = k then some v else lE l k'
 | [] => by simp only [r7, lE]
 | (q, w) :: l => by
  have ih := Bi k k' v l
  simp only [r7]
  by_cases h : k = q
  ·subst h
   rw [if_pos rfl]
   simp only [lE]
   by_cases h2 : k' = k
   ·rw [if_pos h2, if_pos h2]
   ·rw [if_neg h2, if_neg h2, if_neg h2]
  ·rw [if_neg h]
   simp only [lE, ih]
   by_cases h2 : k' = q
   ·rw [if_pos h2]
    rw [if_neg (by rw [h2]; exact Ne.symm h)]
    rw [if_pos h2]
   ·rw [if_neg h2]
    by_cases h3 : k' = k
    ·rw [if_pos h3, if_pos h3]
    ·rw [if_neg h3, if_neg h3, if_neg h2]
theorem Bj {k : Int} : ∀ {l : AL}, lE l k = none ↔ k ∉ l.map (·.1)
 | [] => by simp [lE]
 | (q, w) :: l => by
  have ih := Bj (k := k) (l := l)
  simp only [lE, List.map_cons, List.mem_cons, not_or]
  by_cases h : k = q
  ·rw [if_pos h]; simp [h]
  ·rw [if_neg h]; simp [h, ih]
theorem Bk (k : Int) (v : Value) : ∀ (l : AL), (r7 l k v).map (·.1) = if k ∈ l.map (·.1) then l.map (·.1) else l.map (·.1) ++ [k]
 | [] => by simp [r7]
 | (q, w) :: l => by
  have ih := Bk k v l
  simp only [r7]
  by_cases h : k = q
  ·subst h; rw [if_pos rfl, if_pos (by simp)]; simp
  ·rw [if_neg h, List.map_cons, ih]
   by_cases h2 : k ∈ l.map (·.1)
   ·rw [if_pos h2, if_pos (by simp only [List.map_cons, List.mem_cons]; exact .inr h2)]; rfl
   ·rw [if_neg h2, if_neg (by simp only [List.map_cons, List.mem_cons, not_or]; exact ⟨h, h2⟩)]; simp
theorem GF {k : Int} {v : Value} {l : AL} (h : (l.map (·.1)).Nodup) : ((r7 l k v).map (·.1)).Nodup := by
 rw [Bk]
 split
 ·exact h
 ·rename_i hn
  rw [List.nodup_append]
  refine ⟨h, by simp, fun a ha b hb => ?_⟩
  simp only [List.mem_singleton] at hb
  subst hb
  rintro rfl
  exact hn ha
def Bl (l : AL) (seen : List Int) : Prop := (l.map (·.1)).Nodup ∧ ∀ v, lE l v = if seen.count v = 0 then none else some (.int .i64 (seen.count v : Int))
theorem Bl.nil : Bl [] [] := ⟨by simp, fun v => by simp [lE]⟩
theorem Bl.get {l : AL} {seen : List Int} (h : Bl l seen) (v : Int) : (yO l v).getD (.int .i64 0) = .int .i64 (seen.count v : Int) := by
 rw [Io, h.2 v]; split
 ·rename_i e; rw [e]; rfl
 ·rfl
theorem Bl.step {l : AL} {seen : List Int} (h : Bl l seen) (v : Int) : Bl (GD l v (.int .i64 ((seen.count v + 1 : Nat) : Int))) (seen ++ [v]) := by
 rw [Ip]
 refine ⟨GF h.1, fun w => ?_⟩
 rw [Bi, h.2 w, List.count_append]
 by_cases hw : w = v
 ·subst hw; simp
 ·rw [if_neg hw]
  have : [v].count w = 0 := by rw [List.count_eq_zero]; simp [hw]
  rw [this, Nat.add_zero]
section
variable {R : Mem} {L L' : List HP} {M : Mem} {P : Program} {t kt et : TypeId} {r : Nat} {l : AL} {k : Int} {kd : IntKind}
class Al (b : Nat) (L : List HP) (o : outParam Obj) (L' : outParam (List HP)) : Prop where
 pick : aF L (ob b o) L'
instance Al.here {b : Nat} {o : Obj} {L : List HP} : Al b (ob b o :: L) o L := ⟨.here⟩
instance (priority := low) Al.there {b : Nat} {o : Obj} {Q : HP} {L L' : List HP} [h : Al b L o L'] : Al b (Q :: L) o (Q :: L') := ⟨.there h.pick⟩
theorem pT {P : Program} {M : Mem} {b : Bool} (hk : P.underlying kt = some (.int kd)) : bN P (Instr.checkKey b 10000 kt (.int .i64 k)) M = some () := by
 unfold Instr.checkKey
 rw [aW, aN hk]; rfl
theorem sW {P : Program} {M : Mem} (hk : P.underlying kt = some (.int kd)) : bN P (Instr.findKey kt (.int .i64 k) (dm 0 l)) M = some (nI k l 0) := by
 unfold Instr.findKey
 rw [aW, aN hk, Option.bind_some, uk]; rfl
theorem sX {P : Program} {α : Type} {M : Mem} {r : Nat} {l : AL} {f : Obj → Sem α} {K : α → Mem → Prop} {Kp : Value → Mem → Prop} (hb : M r = some (dM l)) (h : dP P (f (dM l)) M K Kp) : dP P (getObj r >>= f) M K Kp := by
 refine fY P _ _ ?_
 unfold getObj
 simp only [dP, hb, dM]
 exact h
theorem um {z : Value} {i : TypeInfo} {K : Value → Mem → Prop} {Kp : List PanicEntry → Mem → Prop} (h : Hp R L M) [p : Al r L (dM l) L'] (hu : P.underlying t = some (.map kt et)) (hk : P.underlying kt = some (.int kd)) (hi : P.info? et = some i) (hz : i.zero = some z)
  (g : K ((yO l k).getD z) M) : aS P (Instr.lookup t (.map (some r)) (.int .i64 k) false) M K Kp := by
 have hb : M r = some (dM l) := (h.pick p.pick).LF
 unfold aS Instr.lookup
 refine bq (aN hu M) ?_
 simp only
 refine fY P _ _ ?_
 refine sX hb ?_
 simp only [dM]
 refine bq (x := ()) (pT hk) ?_
 refine bq (sW hk) ?_
 unfold yO at g
 cases ha : nI k l 0 with
 | none =>
  rw [ha] at g
  simp only
  have hz0 : bN P (zeroValue et) M = some z := by rw [kC]; simp [zeroOf, hi, hz]
  refine bq hz0 ?_
  refine bq (x := (z, false)) rfl ?_
  exact g
 | some x =>
  rw [ha] at g
  exact g
theorem lF {v : Value} {K : Mem → Prop} {Kp : List PanicEntry → Mem → Prop} (h : Hp R L M) [p : Al r L (dM l) L'] (hu : P.underlying t = some (.map kt et)) (hk : P.underlying kt = some (.int kd))
  (g : ∀ M', Hp R (ob r (dM (GD l k v)) :: L') M' → K M') : bI P (Instr.mapUpdate t (.map (some r)) (.int .i64 k) v) M K Kp := by
 have h1 := h.pick p.pick
 have hb : M r = some (dM l) := h1.LF
 have fin : ∀ o, o = dM (GD l k v) → K (M.set r o) := fun o e => by
  subst e
  exact g _ (h1.set (x := dM l) (fun A ha => by unfold ob at ha; exact ha) fun A ha => by unfold ob; exact eI)
 unfold bI Instr.mapUpdate
 refine bq (aN hu M) ?_
 simp only
 refine sX hb ?_
 simp only [dM]
 refine bq (x := ()) (pT hk) ?_
 refine bq (sW hk) ?_
 have yQ : ∀ o : Obj, K (M.set r o) → dP P (setObj r o) M (fun _ => K) (fun v M' => Kp [{ v, recovered := false }] M') := fun o hK => by
  unfold setObj
  simp only [dP, hb, dM]
  exact hK
 cases ha : nI k l 0 with
 | none =>
  simp only
  refine yQ _ (fin _ ?_)
  unfold GD dM
  rw [ha]
  simp only [List.push_toArray, List.length_append, List.length_singleton]
  rw [Ek]; simp [dm]
 | some x =>
  obtain ⟨i, w⟩ := x
  obtain ⟨_, hw⟩ := Il ha
  rw [Nat.sub_zero] at hw
  simp only
  have he := Im (b := 0) hw
  refine bq (x := Value.int .i64 k) ?_ ?_
  ·have : (((dm 0 l).toArray[i]?).map (·.key)).getD (.int .i64 k) = .int .i64 k := by simp [he]
   rw [this]
   unfold Instr.keyThatStays
   simp [Instr.sameBits]; rfl
  ·refine yQ _ (fin _ ?_)
   unfold GD dM
   rw [ha]
   simp only [List.length_set]
   rw [← Ej (v := v) hw]
   simp [List.modify_toArray]
theorem yR {seen xs : List Int} {A : Option Addr} {m : Nat} {i : TypeInfo} {Yb : Mem → Prop} {Kp : List PanicEntry → Mem → Prop} (h : Hp R (ob r (dM l) :: L) M) (hA : Src R L A (bu.cells xs)) (hm : m = xs.length) (hc : Bl l seen) (hs : seen.length + xs.length ≤ 1000000000)
  (hu : P.underlying t = some (.map kt et)) (hk : P.underlying kt = some (.int kd)) (hi : P.info? et = some i) (hz : i.zero = some (.int .i64 0))
  (k : ∀ l' M', Bl l' (seen ++ xs) → Hp R (ob r (dM l') :: L) M' → Yb M') :
  ∃ I : Nat → List Value → Mem → Prop, (∃ k2 : Nat, I k2 [.int .i64 0] M) ∧ ∀ k3 : Nat, ∀ Pb : Nat → Value, ∀ n : Int, ∀ M8 : Mem, (I k3 [.int .i64 n] M8) → aV (decide ((n : Int) < ((m : Nat) : Int)))
   (((0 : Int) ≤ n) ∧ ((n : Int) < ((m : Nat) : Int)) ∧ aI A fun kb ko => aK (Mem.ld M8 ⟨kb, (ko + (Int.toNat n)), none⟩) .i64 fun Dc =>
    aS P (Go.Instr.lookup t (.map (some r)) (.int .i64 Dc) false) M8 (fun RI mW => aK (some RI) .i64 fun Ba =>
    bI P (Go.Instr.mapUpdate t (.map (some r)) (.int .i64 Dc) (.int .i64 (IntKind.wrap .i64 (Ba + 1)))) mW (fun rY => ∃ Bb : Nat, (Bb < k3) ∧ I Bb [.int .i64 (IntKind.wrap .i64 (n + 1))] rY) Kp) Kp)
   (Yb M8) := by
 subst hm
 refine ⟨fun d ws M => ∃ (i : Nat) (l' : AL), ws = [.int .i64 (i : Int)] ∧ d = xs.length - i ∧ i ≤ xs.length ∧ Bl l' (seen ++ xs.take i) ∧ Hp R (ob r (dM l') :: L) M, ⟨_, 0, l, rfl, rfl, by omega, by simpa using hc, h⟩, ?_⟩
 clear h hc
 rintro d _ ii M ⟨i, l', he, hd, K4, hc, h⟩
 simp only [List.cons.injEq, Value.int.injEq, and_true, true_and] at he
 subst he
 refine aP.2 ⟨fun hlt => ?_, fun hge => ?_⟩
 ·obtain ⟨w, hw⟩ := aQ (l := xs) (i := i) (by omega)
  obtain ⟨b, o, rfl⟩ := hA.cons.mw h (by omega) (by decide)
  refine ⟨by omega, hlt, br ?_⟩
  simp only [Int.toNat_natCast]
  refine be (Src.at hA.cons h (i := i) (j := 0) hw rfl (by simp [bu])) ?_
  refine um h hu hk hi hz ?_
  rw [hc.get]
  refine cE ?_
  have OQ : (seen ++ xs.take i).count w ≤ seen.length + i := by
   refine Nat.le_trans List.count_le_length ?_
   rw [List.length_append, List.length_take]; omega
  rw [aT (by omega), aT (by omega)]
  refine lF h hu hk fun M' h' => ?_
  refine ⟨xs.length - (i + 1), by omega, i + 1, _, rfl, rfl, by omega, ?_, h'⟩
  rw [cq hw, ← List.append_assoc]
  exact hc.step w
 ·obtain rfl : i = xs.length := by omega
  rw [List.take_length] at hc
  exact k _ _ hc h
end
end Go.AF
namespace Go.AF
theorem CJ {P : Program} {t t' e ty : TypeId} {i : TypeInfo} {zv : Value} {A B : Option Addr} {n c m d : Nat} {l r : List Value} {M : Mem} {K : Value → Mem → Prop} {Kp : List PanicEntry → Mem → Prop}
  (hu : P.underlying t = some (.slice e)) (Rd : P.underlying t' = some (.slice e)) (hi : P.info? e = some i) (hz : i.zero = some zv) (hs : zv.cells.size = i.size)
  (VW : Sl M A l) (hl : l.length = n * i.size) (hr : Sl M B r) (kf : r.length = m * i.size) (hc : c < n + m) (hb : (n + m) * i.bytes ≤ 140737488355328) (hby : 0 < i.bytes)
  (h : ∀ k c' M', M k = none → tr M' i.size e (some ⟨k, 0, none⟩) (n + m) c' (l ++ r) → nh [] M M' → K (.slice (some ⟨k, 0, none⟩) (n + m) c') M') :
  aS P (Builtin.append_ #[t, t'] ty #[.slice A n c, .slice B m d]) M K Kp := by
 unfold aS Builtin.append_
 simp only [List.getElem?_toArray, List.getElem?_cons_zero, List.getElem?_cons_succ]
 refine bq (aN hu M) ?_
 simp only
 refine bq (fz hi M) ?_
 refine bq (aN Rd M) ?_
 refine bq (x := false) rfl ?_
 refine bq (x := m) rfl ?_
 simp only [Bool.not_false, if_true]
 rw [if_neg (by omega)]
 refine bq (cz hi M) ?_
 rw [if_neg (by simp; omega)]
 refine bq (cz hi M) ?_
 rw [if_neg (by have := growslice_fits (need := n + m) (old := c) (bytes := i.bytes) (by omega) hb; omega)]
 show ∀ q, _
 intro q
 have hcap : n + m ≤ Question.cut (.appendCap (n + m) c e) q := by simp only [Question.cut]; omega
 generalize Question.cut (.appendCap (n + m) c e) q = nc at hcap
 refine bq (x := nc) rfl ?_
 refine bq (cz hi M) ?_
 refine fY P _ _ ?_
 have room : ∀ (X : Prop) , X → dP P (askRoom (nc * i.bytes)) M (fun _ M' => M' = M) (fun _ _ => False) := by
  intro X _
  unfold askRoom
  split
  ·exact rfl
  ·exact rfl
 refine ir P _ (room True trivial) (fun _ M' hM' => ?_) (fun _ _ hf => hf.elim)
 subst hM'
 refine bq (gR VW hl) ?_
 refine bq (gR hr kf) ?_
 refine bq (x := zv) (by rw [kC]; simp [zeroOf, hi, hz]) ?_
 intro k hk
 refine h k nc _ hk ⟨by rw [List.length_append, hl, kf, Nat.add_mul], .inr ⟨k, _, rfl, eI, ?_, hcap, fun j hj => ?_⟩⟩ ((nh.refl _ _).set (.inr hk))
 ·simp only [Array.size_append, List.size_toArray, hl, kf]
  have : (Builtin.zeroCells zv.cells (nc - (n + m))).size = (nc - (n + m)) * i.size := by simp [Builtin.zeroCells, hs]
  rw [this, ← Nat.add_mul, ← Nat.add_mul]; congr 1; omega
 ·rw [Nat.add_mul] at hj
  rw [Array.getElem?_append_left (by simp [hl, kf]; omega)]
  simp
theorem Hp.P6 {α : Type} {E : gy α} {R : Mem} {L L' : List HP} {M : Mem} {T : Nat} {P : Program} {t bytes ty d m k n c : Nat} {zero rc : List Value} {A : Option Addr} {l r : List α} {K : Value → Mem → Prop} {Kp : List PanicEntry → Mem → Prop}
  (h : Hp R L M) [hk : jE k L rc T L'] (hA : Src R L A (E.cells l)) (hn : n = l.length) (El : bh P t T E.z bytes zero) (he : rc = E.cells r) (hm : m = r.length) (hc : c < n + m) (hb : (l.length + r.length) * bytes ≤ 140737488355328)
  (g : ∀ b c' M', Hp R (bG E T (some ⟨b, 0, none⟩) c' (l ++ r) :: L') M' → K (.slice (some ⟨b, 0, none⟩) (l ++ r).length c') M') :
  aS P (Builtin.append_ #[t, t] ty #[.slice A n c, .slice (some ⟨k, 0, none⟩) m d]) M K Kp := by
 subst hm; subst he; subst hn
 have hB : Sl M (some ⟨k, 0, none⟩) (E.cells r) := h.LK hk.pick
 obtain ⟨hu, i, zv, hi, hs, hby, hz, rfl, hl, hpos⟩ := El
 refine CJ hu hu hi hz (by rw [hs, ← hl]; simp) (hA M h) (by rw [hs]; exact E.dD) hB (by rw [hs]; exact E.dD) hc (by rw [hby]; exact hb) (by omega) fun b c' M' hbn ho xE => ?_
 have h2 : Hp R (bG E T (some ⟨b, 0, none⟩) c' (l ++ r) :: L) M' := by
  have h3 : Hp R (fact True :: L) M := Hp.fJ.2 ⟨trivial, h⟩
  refine h3.change (D := []) (D' := [b]) (fun A hA x hx => by cases hx) xE (fun x hx => by simp only [List.mem_singleton] at hx; subst hx; exact .inr hbn) ?_
  unfold bG own
  rw [List.length_append, E.va]
  rw [hs] at ho
  have := ho.FR
  simpa [zO] using this
 have := g b c' M' (h2.map fun _ hs => hs.tail fun _ hx => (bW.pick hk.pick hx).drop)
 rwa [List.length_append] at this
section
variable {R : Mem} {L L' : List HP} {M : Mem} {P : Program} {t kt et : TypeId} {r : Nat} {l : AL} {k : Int} {kd : IntKind}
theorem J3 {z : Value} {i : TypeInfo} {K : Value → Mem → Prop} {Kp : List PanicEntry → Mem → Prop} (h : Hp R L M) [p : Al r L (dM l) L'] (hu : P.underlying t = some (.map kt et)) (hk : P.underlying kt = some (.int kd)) (hi : P.info? et = some i) (hz : i.zero = some z)
  (g : K (.tuple #[(yO l k).getD z, .bool (yO l k).isSome]) M) : aS P (Instr.lookup t (.map (some r)) (.int .i64 k) true) M K Kp := by
 have hb : M r = some (dM l) := (h.pick p.pick).LF
 unfold aS Instr.lookup
 refine bq (aN hu M) ?_
 simp only
 refine fY P _ _ ?_
 refine sX hb ?_
 simp only [dM]
 refine bq (x := ()) (pT hk) ?_
 refine bq (sW hk) ?_
 unfold yO at g
 cases ha : nI k l 0 with
 | none =>
  rw [ha] at g
  simp only
  have hz0 : bN P (zeroValue et) M = some z := by rw [kC]; simp [zeroOf, hi, hz]
  refine bq hz0 ?_
  refine bq (x := (z, false)) rfl ?_
  exact g
 | some x =>
  rw [ha] at g
  exact g
end
theorem En {C : Ctx} {g : Nat} {args : List Value} {M : Mem} {K : Value → Mem → Prop} {Kp : List PanicEntry → Mem → Prop} (hg : 1 < g ∧ g < C.ok) (h : ae C.P g args.toArray M K Kp) : iu C (.func (.func g) #[] #[]) args M K Kp := by
 unfold iu
 simp only
 rw [if_pos hg]
 simpa using h
theorem iY {z : Int} (h0 : 0 ≤ z) (h : z < 9223372036854775807) : IntKind.wrap .i64 (z + 1) = z + 1 := by
 obtain ⟨n, rfl⟩ := Int.eq_ofNat_of_zero_le h0
 have := mo (n := n + 1) (by omega)
 exact_mod_cast this
theorem Hp.dn {α : Type} {E : gy α} {R : Mem} {L L' nm : List HP} {M : Mem} {T c n : Nat} {A : Option Addr} {l : List α} {P : Program} {t bytes ty k d m : Nat} {zero rc : List Value} {K : Value → Mem → Prop} {Kp : List PanicEntry → Mem → Prop}
  (h : Hp R L M) [ha : cG A L α E T c l L'] [hk : jE k L' rc T nm] (El : bh P t T E.z bytes zero) (r : List α) (he : rc = E.cells r) (hn : n = l.length) (hm : m = r.length) (hb : (l.length + r.length) * bytes ≤ 140737488355328)
  (g : ∀ A' c' M', Hp R (bG E T A' c' (l ++ r) :: nm) M' → K (.slice A' (n + m) c') M') :
  aS P (Builtin.append_ #[t, t] ty #[.slice A n c, .slice (some ⟨k, 0, none⟩) m d]) M K Kp := by
 subst hn
 refine h.bO (A := A) El r he hm hb fun A' c' M' h => ?_
 have := g A' c' M' h
 rwa [hm, ← List.length_append] at this
theorem Bm {C : Ctx} {g : Nat} {caps : Array Value} {args : List Value} {M : Mem} {K : Value → Mem → Prop} {Kp : List PanicEntry → Mem → Prop} (hg : 1 < g ∧ g < C.ok) (h : ae C.P g (args ++ caps.toList).toArray M K Kp) : iu C (.func (.func g) #[] caps) args M K Kp := by
 unfold iu
 simp only
 rw [if_pos hg]
 simpa using h
end Go.AF
namespace Go.Proofs
open Go.AF
set_option maxRecDepth 100000
set_option maxHeartbeats 1000000
attribute [local irreducible] aK cD fH bL aD fx aI aO bj aS bI aV
abbrev uo (A : Option Addr) (c : Nat) (l : List gD) : HP := bG iX 234 A c l
theorem NG : bh Tryz.prog 179 234 11 88 (iX.f ⟨0, 0, [], 0⟩) := bh.mk' (zv := .agg #[.int .i64 0, .int .i64 0, .int .i64 0, .int .i64 0, .int .i64 0, .int .i64 0, .int .i64 0, .int .i64 0, .int .i64 0, .int .i64 0, .int .i64 0]) (by kernel_rfl) (by kernel_rfl) rfl (by omega)
theorem gD.set_set {f : gD} {q u v : Int} : (f.set q u).set q v = f.set q v := by
 unfold gD.set
 congr 1
 apply List.map_congr_left
 intro i hi
 by_cases h : i = q.toNat
 ·rw [if_pos h, if_pos h]
 ·rw [if_neg h, if_neg h]
  simp [List.mem_range.1 hi, h]
def insC (x : cC) : List Value := [.int .i64 x.op, .int .i64 x.a, .int .i64 x.b, .int .i64 x.c]
section
variable {R : Mem} {L L' : List HP} {M : Mem} {K : Value → Mem → Prop} {Kp : List PanicEntry → Mem → Prop} {b i c : Nat} {l : List gD} {f : gD} {x : cC}
theorem uq {q : Int} {o : Nat} {G : Int → Prop} (h : Hp R L M) [p : cG (some ⟨b, 0, none⟩) L gD iX 234 c l L'] (hi : l[i]? = some f) (hq : bg q) (e : o = i * 11 + 2 + q.toNat) (g : G (f.bS q)) : aK (M.ld ⟨b, o, none⟩) .i64 G := by
 refine be (Src.at (h.src (A := some ⟨b, 0, none⟩)) h (i := i) (j := 2 + q.toNat) hi (SU hq.1 hq.2) ?_) g
 show _ = 0 + (i * 11 + (2 + q.toNat)); omega
theorem vA {q v : Int} {o : Nat} {G : Mem → Prop} (h : Hp R L M) [p : cG (some ⟨b, 0, none⟩) L gD iX 234 c l L'] (hi : l[i]? = some f) (hq : bg q) (e : o = i * 11 + 2 + q.toNat)
  (k : ∀ M', Hp R (uo (some ⟨b, 0, none⟩) c (l.set i (f.set q v)) :: L') M' → G M') : aO M ⟨b, o, none⟩ (.int .i64 v) G := by
 obtain ⟨q0, q8⟩ := hq
 refine iB i (2 + q.toNat) h hi ?_ (Pp q0 q8) ?_ k
 ·show _ < 11; omega
 ·show _ = i * 11 + (2 + q.toNat); omega
theorem yS {o : Nat} {G : Int → Prop} (h : Hp R L M) [p : cG (some ⟨b, 0, none⟩) L gD iX 234 c l L'] (hi : l[i]? = some f) (e : o = i * 11 + 1) (g : G f.pc) : aK (M.ld ⟨b, o, none⟩) .i64 G := by
 refine be (Src.at (h.src (A := some ⟨b, 0, none⟩)) h (i := i) (j := 1) hi rfl ?_) g
 show _ = 0 + (i * 11 + 1); omega
theorem yT {v : Int} {o : Nat} {G : Mem → Prop} (h : Hp R L M) [p : cG (some ⟨b, 0, none⟩) L gD iX 234 c l L'] (hi : l[i]? = some f) (e : o = i * 11 + 1)
  (k : ∀ M', Hp R (uo (some ⟨b, 0, none⟩) c (l.set i { f with pc := v }) :: L') M' → G M') : aO M ⟨b, o, none⟩ (.int .i64 v) G := by
 refine iB i 1 h hi (by show 1 < 11; omega) SW ?_ k
 show _ = i * 11 + 1; omega
theorem iF {α : Type} {l : List α} {i : Nat} {u v : α} : (l.set i u).set i v = l.set i v := by simp
def Yc : List Nat := [195, 196, 197, 198, 199, 200, 201, 202, 203]
theorem NH (h : Hp R L M) [p : cG (some ⟨b, 0, none⟩) L gD iX 234 c l L'] (hi : l[i]? = some f) (hx : x.cy) (n : Nat) (hn : x.op = (n : Int)) (h8 : n ≤ 8)
  (k : ∀ M', Hp R (uo (some ⟨b, 0, none⟩) c (l.set i (f.pure x)) :: L') M' → K (.tuple #[]) M') :
  ae Tryz.prog (Yc.getD n 0) #[.pointer (some ⟨b, i * 11, none⟩), .agg #[.int .i64 x.op, .int .i64 x.a, .int .i64 x.b, .int .i64 x.c]] M K Kp := by
 obtain ⟨op, xa, xb, xc⟩ := x
 obtain ⟨o1, o2, o3⟩ := hx
 dsimp only at hn o1 o2 o3 k ⊢
 have hsame : l.set i f = l := by obtain ⟨hl, rfl⟩ := List.getElem?_eq_some_iff.1 hi; simp
 subst hn
 have hlt := (List.getElem?_eq_some_iff.1 hi).1
 obtain rfl | rfl | rfl | rfl | rfl | rfl | rfl | rfl | rfl : n = 0 ∨ n = 1 ∨ n = 2 ∨ n = 3 ∨ n = 4 ∨ n = 5 ∨ n = 6 ∨ n = 7 ∨ n = 8 := by omega
 ·refine sJ ?_
  have e : f.pure ⟨((0 : Nat) : Int), xa, xb, xc⟩ = f := rfl
  rw [e, hsame] at k
  repeat (first | (refine av h ?_; clear h; intro kb M h) | (refine az h ?_; clear h; intro M h) | refine St.to h ?_ | (apply Exists.intro; (repeat apply Exists.intro); refine And.intro rfl ?_) | (refine And.intro ?_ ?_; first | exact rfl | (refine aa (aj h) ?_; (repeat (refine aa (aj h) ?_)); exact ai) | omega) | refine aq ?_ | refine au ?_)
  exact k _ ((h.row (some ⟨b, 0, none⟩)).bX)
 ·have ra : bg xa := o1 (by simp)
  refine mD ?_
  repeat (first | (refine av h ?_; clear h; intro kb M h) | (refine az h ?_; clear h; intro M h) | refine St.to h ?_ | (apply Exists.intro; (repeat apply Exists.intro); refine And.intro rfl ?_) | (refine And.intro ?_ ?_; first | exact rfl | (refine aa (aj h) ?_; (repeat (refine aa (aj h) ?_)); exact ai) | omega) | refine aq ?_ | refine au ?_)
  refine ⟨ra.1, ra.2, vA h hi ra rfl fun M h => ?_⟩
  exact k _ h.bX
 ·obtain ⟨ra, rb⟩ := o2 rfl
  refine qV ?_
  repeat (first | (refine av h ?_; clear h; intro kb M h) | (refine az h ?_; clear h; intro M h) | refine St.to h ?_ | (apply Exists.intro; (repeat apply Exists.intro); refine And.intro rfl ?_) | (refine And.intro ?_ ?_; first | exact rfl | (refine aa (aj h) ?_; (repeat (refine aa (aj h) ?_)); exact ai) | omega) | refine aq ?_ | refine au ?_)
  refine ⟨rb.1, rb.2, uq h hi rb rfl ?_⟩
  refine ⟨ra.1, ra.2, vA h hi ra rfl fun M h => ?_⟩
  exact k _ h.bX
 ·obtain ⟨ra, rb, rc⟩ := o3 (by simp)
  refine sK ?_
  repeat (first | (refine av h ?_; clear h; intro kb M h) | (refine az h ?_; clear h; intro M h) | refine St.to h ?_ | (apply Exists.intro; (repeat apply Exists.intro); refine And.intro rfl ?_) | (refine And.intro ?_ ?_; first | exact rfl | (refine aa (aj h) ?_; (repeat (refine aa (aj h) ?_)); exact ai) | omega) | refine aq ?_ | refine au ?_)
  refine ⟨rb.1, rb.2, uq h hi rb rfl ?_⟩
  repeat (first | (refine av h ?_; clear h; intro kb M h) | (refine az h ?_; clear h; intro M h) | refine St.to h ?_ | (apply Exists.intro; (repeat apply Exists.intro); refine And.intro rfl ?_) | (refine And.intro ?_ ?_; first | exact rfl | (refine aa (aj h) ?_; (repeat (refine aa (aj h) ?_)); exact ai) | omega) | refine aq ?_ | refine au ?_)
  refine ⟨rc.1, rc.2, uq h hi rc rfl ?_⟩
  refine ⟨ra.1, ra.2, vA h hi ra rfl fun M h => ?_⟩
  exact k _ h.bX
 ·obtain ⟨ra, rb, rc⟩ := o3 (by simp)
  refine sL ?_
  repeat (first | (refine av h ?_; clear h; intro kb M h) | (refine az h ?_; clear h; intro M h) | refine St.to h ?_ | (apply Exists.intro; (repeat apply Exists.intro); refine And.intro rfl ?_) | (refine And.intro ?_ ?_; first | exact rfl | (refine aa (aj h) ?_; (repeat (refine aa (aj h) ?_)); exact ai) | omega) | refine aq ?_ | refine au ?_)
  refine ⟨rb.1, rb.2, uq h hi rb rfl ?_⟩
  repeat (first | (refine av h ?_; clear h; intro kb M h) | (refine az h ?_; clear h; intro M h) | refine St.to h ?_ | (apply Exists.intro; (repeat apply Exists.intro); refine And.intro rfl ?_) | (refine And.intro ?_ ?_; first | exact rfl | (refine aa (aj h) ?_; (repeat (refine aa (aj h) ?_)); exact ai) | omega) | refine aq ?_ | refine au ?_)
  refine ⟨rc.1, rc.2, uq h hi rc rfl ?_⟩
  refine ⟨ra.1, ra.2, vA h hi ra rfl fun M h => ?_⟩
  exact k _ h.bX
 ·obtain ⟨ra, rb, rc⟩ := o3 (by simp)
  refine sM ?_
  repeat (first | (refine av h ?_; clear h; intro kb M h) | (refine az h ?_; clear h; intro M h) | refine St.to h ?_ | (apply Exists.intro; (repeat apply Exists.intro); refine And.intro rfl ?_) | (refine And.intro ?_ ?_; first | exact rfl | (refine aa (aj h) ?_; (repeat (refine aa (aj h) ?_)); exact ai) | omega) | refine aq ?_ | refine au ?_)
  refine ⟨rb.1, rb.2, uq h hi rb rfl ?_⟩
  repeat (first | (refine av h ?_; clear h; intro kb M h) | (refine az h ?_; clear h; intro M h) | refine St.to h ?_ | (apply Exists.intro; (repeat apply Exists.intro); refine And.intro rfl ?_) | (refine And.intro ?_ ?_; first | exact rfl | (refine aa (aj h) ?_; (repeat (refine aa (aj h) ?_)); exact ai) | omega) | refine aq ?_ | refine au ?_)
  refine ⟨rc.1, rc.2, uq h hi rc rfl ?_⟩
  refine ⟨ra.1, ra.2, vA h hi ra rfl fun M h => ?_⟩
  exact k _ h.bX
 ·obtain ⟨ra, rb, rc⟩ := o3 (by simp)
  refine qW ?_
  repeat (first | (refine av h ?_; clear h; intro kb M h) | (refine az h ?_; clear h; intro M h) | refine St.to h ?_ | (apply Exists.intro; (repeat apply Exists.intro); refine And.intro rfl ?_) | (refine And.intro ?_ ?_; first | exact rfl | (refine aa (aj h) ?_; (repeat (refine aa (aj h) ?_)); exact ai) | omega) | refine aq ?_ | refine au ?_)
  refine ⟨rb.1, rb.2, uq h hi rb rfl ?_⟩
  repeat (first | (refine av h ?_; clear h; intro kb M h) | (refine az h ?_; clear h; intro M h) | refine St.to h ?_ | (apply Exists.intro; (repeat apply Exists.intro); refine And.intro rfl ?_) | (refine And.intro ?_ ?_; first | exact rfl | (refine aa (aj h) ?_; (repeat (refine aa (aj h) ?_)); exact ai) | omega) | refine aq ?_ | refine au ?_)
  refine ⟨rc.1, rc.2, uq h hi rc rfl ?_⟩
  repeat (first | (refine av h ?_; clear h; intro kb M h) | (refine az h ?_; clear h; intro M h) | refine St.to h ?_ | (apply Exists.intro; (repeat apply Exists.intro); refine And.intro rfl ?_) | (refine And.intro ?_ ?_; first | exact rfl | (refine aa (aj h) ?_; (repeat (refine aa (aj h) ?_)); exact ai) | omega) | refine aq ?_ | refine au ?_)
  refine ⟨ra.1, ra.2, vA h hi ra rfl fun M h => ?_⟩
  have e : f.pure ⟨((6 : Nat) : Int), xa, xb, xc⟩ = f.set xa (if f.bS xb < f.bS xc then 1 else 0) := rfl
  rw [e] at k
  refine aP.2 ⟨fun hl => ?_, fun hl => ?_⟩
  ·rw [if_pos hl] at k
   repeat (first | (refine av h ?_; clear h; intro kb M h) | (refine az h ?_; clear h; intro M h) | refine St.to h ?_ | (apply Exists.intro; (repeat apply Exists.intro); refine And.intro rfl ?_) | (refine And.intro ?_ ?_; first | exact rfl | (refine aa (aj h) ?_; (repeat (refine aa (aj h) ?_)); exact ai) | omega) | refine aq ?_ | refine au ?_)
   have K4 : (l.set i (f.set xa 0))[i]? = some (f.set xa 0) := by simp [hlt]
   refine ⟨ra.1, ra.2, vA h K4 ra rfl fun M h => ?_⟩
   rw [iF, gD.set_set] at h
   exact k _ h.bX
  ·rw [if_neg hl] at k
   exact k _ h.bX
 ·refine qX ?_
  repeat (first | (refine av h ?_; clear h; intro kb M h) | (refine az h ?_; clear h; intro M h) | refine St.to h ?_ | (apply Exists.intro; (repeat apply Exists.intro); refine And.intro rfl ?_) | (refine And.intro ?_ ?_; first | exact rfl | (refine aa (aj h) ?_; (repeat (refine aa (aj h) ?_)); exact ai) | omega) | refine aq ?_ | refine au ?_)
  refine yT h hi rfl fun M h => ?_
  exact k _ h.bX
 ·have ra : bg xa := o1 (by simp)
  refine oy ?_
  repeat (first | (refine av h ?_; clear h; intro kb M h) | (refine az h ?_; clear h; intro M h) | refine St.to h ?_ | (apply Exists.intro; (repeat apply Exists.intro); refine And.intro rfl ?_) | (refine And.intro ?_ ?_; first | exact rfl | (refine aa (aj h) ?_; (repeat (refine aa (aj h) ?_)); exact ai) | omega) | refine aq ?_ | refine au ?_)
  have e : f.pure ⟨((8 : Nat) : Int), xa, xb, xc⟩ = if f.bS xa ≠ 0 then { f with pc := xb } else f := rfl
  rw [e] at k
  refine ⟨ra.1, ra.2, uq h hi ra rfl ?_⟩
  refine de.2 ⟨fun hl => ?_, fun hl => ?_⟩
  ·rw [if_pos hl] at k
   repeat (first | (refine av h ?_; clear h; intro kb M h) | (refine az h ?_; clear h; intro M h) | refine St.to h ?_ | (apply Exists.intro; (repeat apply Exists.intro); refine And.intro rfl ?_) | (refine And.intro ?_ ?_; first | exact rfl | (refine aa (aj h) ?_; (repeat (refine aa (aj h) ?_)); exact ai) | omega) | refine aq ?_ | refine au ?_)
   refine yT h hi rfl fun M h => ?_
   exact k _ h.bX
  ·rw [if_neg (by simpa using hl), hsame] at k
   exact k _ ((h.row (some ⟨b, 0, none⟩)).bX)
def P7 : AL := (List.range 9).map fun n : Nat => ((n : Int), .func (.func (Yc.getD n 0)) #[] #[])
theorem Eo (h : Hp R L M) (k : ∀ m M', Hp R (ob m (dM P7) :: L) M' → K (.map (some m)) M') : ae Tryz.prog 153 #[] M K Kp := by
 refine yx ?_
 refine HN h ?_
 clear h
 intro m M h
 replace h : Hp R (ob m (dM []) :: L) M := h
 have hu : Tryz.prog.underlying 302 = some (.map 32 300) := by kernel_rfl
 have hk : Tryz.prog.underlying 32 = some (.int .i64) := by kernel_rfl
 iterate 9
  refine lF h hu hk ?_
  clear h
  intro M h
 exact k _ _ h
theorem GG (h : Hp R L M) [p : cG (some ⟨b, 0, none⟩) L gD iX 234 c l L'] (hi : l[i]? = some f) (hx : x.cy) (h0 : 0 ≤ x.op) (hs : 0 ≤ f.pc ∧ f.pc < 1000000000)
  (k1 : x.op ≤ 8 → ∀ M', Hp R (uo (some ⟨b, 0, none⟩) c (l.set i (f.next.pure x)) :: L') M' → K (.bool true) M')
  (k2 : 8 < x.op → ∀ M', Hp R (uo (some ⟨b, 0, none⟩) c l :: L') M' → K (.bool false) M') :
  ae Tryz.prog 121 #[.pointer (some ⟨b, i * 11, none⟩), .agg #[.int .i64 x.op, .int .i64 x.a, .int .i64 x.b, .int .i64 x.c]] M K Kp := by
 have hlt := (List.getElem?_eq_some_iff.1 hi).1
 obtain ⟨q, hq⟩ := Int.eq_ofNat_of_zero_le h0
 refine qK ?_
 repeat (first | (refine av h ?_; clear h; intro kb M h) | (refine az h ?_; clear h; intro M h) | refine St.to h ?_ | (apply Exists.intro; (repeat apply Exists.intro); refine And.intro rfl ?_) | (refine And.intro ?_ ?_; first | exact rfl | (refine aa (aj h) ?_; (repeat (refine aa (aj h) ?_)); exact ai) | omega) | refine aq ?_ | refine au ?_)
 refine Eo h ?_
 clear h
 intro m M h
 repeat (first | (refine av h ?_; clear h; intro kb M h) | (refine az h ?_; clear h; intro M h) | refine St.to h ?_ | (apply Exists.intro; (repeat apply Exists.intro); refine And.intro rfl ?_) | (refine And.intro ?_ ?_; first | exact rfl | (refine aa (aj h) ?_; (repeat (refine aa (aj h) ?_)); exact ai) | omega) | refine aq ?_ | refine au ?_)
 have hu : Tryz.prog.underlying 302 = some (.map 32 300) := by kernel_rfl
 have hk : Tryz.prog.underlying 32 = some (.int .i64) := by kernel_rfl
 obtain ⟨ti, NI, OR⟩ : ∃ ti, Tryz.prog.info? 300 = some ti ∧ ti.zero = some .nilFunc := ⟨_, rfl, rfl⟩
 refine J3 h hu hk NI OR ?_
 refine ⟨_, _, rfl, aj h, ?_⟩
 by_cases h8 : x.op ≤ 8
 ·have hq8 : q ≤ 8 := by omega
  have hl : yO P7 x.op = some (.func (.func (Yc.getD q 0)) #[] #[]) := by
   rw [hq]
   obtain rfl | rfl | rfl | rfl | rfl | rfl | rfl | rfl | rfl : q = 0 ∨ q = 1 ∨ q = 2 ∨ q = 3 ∨ q = 4 ∨ q = 5 ∨ q = 6 ∨ q = 7 ∨ q = 8 := by omega
   all_goals rfl
  rw [hl]
  refine aq ?_
  refine yS h hi rfl ?_
  rw [iY (by omega) (by omega)]
  refine yT h hi rfl ?_
  clear h
  intro M h
  have K4 : (l.set i { f with pc := f.pc + 1 })[i]? = some f.next := by simp [hlt, gD.next]
  repeat (first | (refine av h ?_; clear h; intro kb M h) | (refine az h ?_; clear h; intro M h) | refine St.to h ?_ | (apply Exists.intro; (repeat apply Exists.intro); refine And.intro rfl ?_) | (refine And.intro ?_ ?_; first | exact rfl | (refine aa (aj h) ?_; (repeat (refine aa (aj h) ?_)); exact ai) | omega) | refine aq ?_ | refine au ?_)
  have hg : 1 < Yc.getD q 0 ∧ Yc.getD q 0 < Cx.ok := by
   obtain rfl | rfl | rfl | rfl | rfl | rfl | rfl | rfl | rfl : q = 0 ∨ q = 1 ∨ q = 2 ∨ q = 3 ∨ q = 4 ∨ q = 5 ∨ q = 6 ∨ q = 7 ∨ q = 8 := by omega
   all_goals exact ⟨by decide, by show _ < 228; decide⟩
  refine En hg ?_
  refine NH (f := f.next) h K4 hx q hq hq8 ?_
  clear h
  intro M h
  rw [iF] at h
  exact ⟨rfl, k1 h8 _ h.bX⟩
 ·have hl : yO P7 x.op = none := by
   rw [Io, Bj]
   have : P7.map (·.1) = [0, 1, 2, 3, 4, 5, 6, 7, 8] := by decide
   rw [this]; simp; omega
  rw [hl]
  refine au ?_
  exact k2 (by omega) _ ((h.row (some ⟨b, 0, none⟩)).bX)
end
end Go.Proofs
namespace Go.Proofs
open Go.AF
set_option maxRecDepth 100000
set_option maxHeartbeats 1000000
attribute [local irreducible] aK cD fH bL aD fx aI aO bj aS bI aV
section
variable {R : Mem} {L L' : List HP} {M : Mem} {K : Value → Mem → Prop} {Kp : List PanicEntry → Mem → Prop} {b i c : Nat} {l : List gD} {f : gD} {x : cC}
theorem mG {m : Nat} (hm : 0 < m) (h2 : m ≤ 1000000000) (k : K (.pointer (some ⟨b, (m - 1) * 11, none⟩)) M) : ae Tryz.prog 120 #[.slice (some ⟨b, 0, none⟩) m c] M K Kp := by
 refine sE ?_
 have e : IntKind.wrap .i64 ((m : Int) - 1) = ((m - 1 : Nat) : Int) := wn (by omega) (by omega)
 refine aZ.2 ⟨fun h0 => by omega, fun _ => ?_⟩
 rw [e]
 refine ⟨by omega, by omega, br ?_⟩
 simp only [Int.toNat_natCast, Nat.zero_add]
 exact k
theorem pU {fn v : Int} (h : Hp R L M) (k : ∀ b M', Hp R (uo (some ⟨b, 0, none⟩) 1 [gD.begin fn v] :: L) M' → K (.slice (some ⟨b, 0, none⟩) 1 1) M') : ae Tryz.prog 71 #[.int .i64 fn, .int .i64 v] M K Kp := by
 refine yu ?_
 refine av h ?_
 clear h
 intro b M h
 exact k b M (h.gW (E := iX) (l := [gD.begin fn v]) rfl)
theorem GH {fn v qH : Int} {A : Option Addr} (h : Hp R L M) [p : cG A L gD iX 234 c l L'] (hl : 0 < l.length)
  (k1 : 16 ≤ l.length → K (.tuple #[.slice A l.length c, .bool false]) M)
  (k2 : l.length < 16 → ∀ b c' M', Hp R (uo (some ⟨b, 0, none⟩) c' (l ++ [⟨fn, 0, [v, 0, 0, 0, 0, 0, 0, 0], qH⟩]) :: L) M' → K (.tuple #[.slice (some ⟨b, 0, none⟩) (l.length + 1) c', .bool true]) M') :
  ae Tryz.prog 211 #[.slice A l.length c, .int .i64 fn, .int .i64 v, .int .i64 qH] M K Kp := by
 refine qZ ?_
 have hcap := h.jF A
 refine aP.2 ⟨fun ur => k1 (by omega), fun ur => ?_⟩
 refine ⟨by omega, by omega, by omega, by omega, by omega, by omega, ?_⟩
 refine av h ?_
 clear h
 intro kb M h
 simp only [Int.toNat_natCast, Nat.sub_zero]
 have e : lj A 0 l.length 11 = A := by
  obtain ⟨bb, rfl⟩ := h.bx (A := A) hl (by decide)
  unfold lj
  rw [if_neg (by omega)]
  rfl
 rw [e]
 refine Hp.P6 (E := iX) (r := [⟨fn, 0, [v, 0, 0, 0, 0, 0, 0, 0], qH⟩]) h (h.src (A := A)) rfl NG rfl rfl (by omega) (by simp; omega) ?_
 clear h
 intro b c' M h
 refine aY ?_
 have := k2 (by omega) b c' M h
 rwa [List.length_append]
theorem CK {v : Int} {A : Option Addr} (h : Hp R L M) [p : cG A L gD iX 234 c l L'] (hl : 0 < l.length) (hs : l.length ≤ 1000000)
  (NJ : l[l.length - 1]? = some f) (hin : bg f.qH)
  (k1 : l.length < 2 → K (.tuple #[.slice none 0 0, .bool false]) M)
  (k2 : 2 ≤ l.length → ∀ b c' M', ∀ g, l[l.length - 2]? = some g → Hp R (uo (some ⟨b, 0, none⟩) c' ((l.take (l.length - 1)).set (l.length - 2) (g.set f.qH v)) :: L) M' → K (.tuple #[.slice (some ⟨b, 0, none⟩) (l.length - 1) c', .bool true]) M') :
  ae Tryz.prog 212 #[.slice A l.length c, .int .i64 v] M K Kp := by
 refine oz ?_
 have hcap := h.jF A
 refine aP.2 ⟨fun ur => k1 (by omega), fun ur => ?_⟩
 have e : IntKind.wrap .i64 ((l.length : Int) - 1) = ((l.length - 1 : Nat) : Int) := wn (by omega) (by omega)
 obtain ⟨ba, rfl⟩ := h.bx (A := A) hl (by decide)
 refine av h ?_
 clear h
 intro kb M h
 rw [e]
 refine ⟨by omega, by omega, by omega, by omega, by omega, by omega, ?_⟩
 simp only [Int.toNat_natCast, Nat.sub_zero]
 have e2 : lj (some ⟨ba, 0, none⟩) 0 c 11 = some ⟨ba, 0, none⟩ := by
  unfold lj
  rw [if_neg (by omega)]
  rfl
 rw [e2]
 refine h.jX iX NG (l.take (l.length - 1)) ((h.src (A := some ⟨ba, 0, none⟩)).Rk _) (by simp) (by simp; omega) ?_
 clear h
 intro A' c' M h
 have hlen : (l.take (l.length - 1)).length = l.length - 1 := by simp
 obtain ⟨b', rfl⟩ := h.bx (A := A') (by omega) (by decide)
 refine aY ?_
 rw [hlen]
 refine mG (by omega) (by omega) ?_
 refine jk (br ?_)
 refine mG (by omega) (by omega) ?_
 refine jk (br ?_)
 refine be (Src.at (h.src (A := some ⟨ba, 0, none⟩)) h (i := l.length - 1) (j := 10) NJ rfl (by show _ = 0 + ((l.length - 1) * 11 + 10); omega)) ?_
 obtain ⟨g, hg⟩ := aQ (l := l) (i := l.length - 2) (by omega)
 refine ⟨hin.1, hin.2, ?_⟩
 have J4 : (l.take (l.length - 1))[l.length - 2]? = some g := by rw [List.getElem?_take, if_pos (by omega)]; exact hg
 refine vA h J4 hin (by omega) ?_
 clear h
 intro M h
 exact k2 (by omega) b' c' M g hg h
abbrev j6 (A : Option Addr) (c : Nat) (l : List Int) : HP := bG bu 3 A c l
def fL : tu Lk := ⟨fun b x => exs fun A : Option Addr => exs fun c : Nat => sep [pt b [.int .i64 x.owner, .slice A x.waits.length c] 238, j6 A c x.waits]⟩
def Lk.take (x : Lk) (g : Int) : Lk × Bool := if x.owner = -1 then (⟨g, x.waits⟩, true) else (⟨x.owner, x.waits ++ [g]⟩, false)
def Lk.rN (x : Lk) (g : Int) : Lk × Int × Int :=
 if x.owner = -1 ∨ x.owner ≠ g then (x, -1, 5) else (⟨x.waits.headD (-1), x.waits.tail⟩, x.waits.headD (-1), 0)
variable {y : Lk}
theorem Bn (h : Hp R L M) [o : b7 fL b L y L'] : ∃ A c, Hp R (pt b [.int .i64 y.owner, .slice A y.waits.length c] 238 :: j6 A c y.waits :: L') M := by
 have := h.obj fL b
 simpa only [fL, Hp.dQ, Hp.bl, List.cons_append, List.nil_append] using this
theorem gX {A : Option Addr} {n c : Nat} {o : Int} {ws : List Int} {L1 L2 : List HP} (h : Hp R L M) (b : Nat) [p : jE b L [.int .i64 o, .slice A n c] 238 L1] [p1 : cG A L1 Int bu 3 c ws L2] (e : n = ws.length := by first | rfl | simp) : Hp R (aB fL b ⟨o, ws⟩ :: L2) M := by
 subst e
 refine Hp.wS ?_
 simp only [fL, Hp.dQ, Hp.bl, List.cons_append, List.nil_append]
 exact ⟨_, _, h.sub (.cons p.pick (.cons p1.pick .refl))⟩
theorem Bo (h : Hp R L M) (k : ∀ b M', Hp R (aB fL b ⟨-1, []⟩ :: L) M' → K (.pointer (some ⟨b, 0, none⟩)) M') : ae Tryz.prog 73 #[] M K Kp := by
 refine Cr ?_
 refine av h ?_
 clear h
 intro b M h
 have h := h.bT bu 3
 exact k b M (gX h b)
theorem GI {g : Int} (h : Hp R L M) [o : b7 fL b L y L'] (hs : y.waits.length ≤ 1000000000) (k : ∀ M', Hp R (aB fL b (y.take g).1 :: L') M' → K (.bool (y.take g).2) M') :
  ae Tryz.prog 215 #[.pointer (some ⟨b, 0, none⟩), .int .i64 g] M K Kp := by
 refine sN ?_
 have h' := Bn h (b := b)
 clear h
 obtain ⟨A, c, h⟩ := h'
 repeat (first | (refine av h ?_; clear h; intro kb M h) | (refine az h ?_; clear h; intro M h) | refine St.to h ?_ | (apply Exists.intro; (repeat apply Exists.intro); refine And.intro rfl ?_) | (refine And.intro ?_ ?_; first | exact rfl | (refine aa (aj h) ?_; (repeat (refine aa (aj h) ?_)); exact ai) | omega) | refine aq ?_ | refine au ?_)
 unfold Lk.take at k
 refine de.2 ⟨fun hn => ?_, fun hn => ?_⟩
 ·rw [if_neg hn] at k
  repeat (first | (refine av h ?_; clear h; intro kb M h) | (refine az h ?_; clear h; intro M h) | refine St.to h ?_ | (apply Exists.intro; (repeat apply Exists.intro); refine And.intro rfl ?_) | (refine And.intro ?_ ?_; first | exact rfl | (refine aa (aj h) ?_; (repeat (refine aa (aj h) ?_)); exact ai) | omega) | refine aq ?_ | refine au ?_)
  refine h.bO sD [g] rfl rfl (by simp; omega) ?_
  clear h
  intro A' c' M h
  repeat (first | (refine av h ?_; clear h; intro kb M h) | (refine az h ?_; clear h; intro M h) | refine St.to h ?_ | (apply Exists.intro; (repeat apply Exists.intro); refine And.intro rfl ?_) | (refine And.intro ?_ ?_; first | exact rfl | (refine aa (aj h) ?_; (repeat (refine aa (aj h) ?_)); exact ai) | omega) | refine aq ?_ | refine au ?_)
  exact k _ (gX h b).bX
 ·rw [if_pos hn] at k
  repeat (first | (refine av h ?_; clear h; intro kb M h) | (refine az h ?_; clear h; intro M h) | refine St.to h ?_ | (apply Exists.intro; (repeat apply Exists.intro); refine And.intro rfl ?_) | (refine And.intro ?_ ?_; first | exact rfl | (refine aa (aj h) ?_; (repeat (refine aa (aj h) ?_)); exact ai) | omega) | refine aq ?_ | refine au ?_)
  exact k _ (gX h b).bX
theorem GJ {g : Int} (h : Hp R L M) [o : b7 fL b L y L'] (hs : y.waits.length ≤ 1000000000) (k : ∀ M', Hp R (aB fL b (y.rN g).1 :: L') M' → K (.tuple #[.int .i64 (y.rN g).2.1, .int .i64 (y.rN g).2.2]) M') :
  ae Tryz.prog 216 #[.pointer (some ⟨b, 0, none⟩), .int .i64 g] M K Kp := by
 refine sO ?_
 obtain ⟨ow, ws⟩ := y
 have h' := Bn h (b := b)
 clear h
 obtain ⟨A, c, h⟩ := h'
 dsimp only at h hs
 repeat (first | (refine av h ?_; clear h; intro kb M h) | (refine az h ?_; clear h; intro M h) | refine St.to h ?_ | (apply Exists.intro; (repeat apply Exists.intro); refine And.intro rfl ?_) | (refine And.intro ?_ ?_; first | exact rfl | (refine aa (aj h) ?_; (repeat (refine aa (aj h) ?_)); exact ai) | omega) | refine aq ?_ | refine au ?_)
 unfold Lk.rN at k
 refine aZ.2 ⟨fun hn => ?_, fun hn => ?_⟩
 ·rw [if_pos (.inl hn)] at k
  exact k _ (gX h b).bX
 repeat (first | (refine av h ?_; clear h; intro kb M h) | (refine az h ?_; clear h; intro M h) | refine St.to h ?_ | (apply Exists.intro; (repeat apply Exists.intro); refine And.intro rfl ?_) | (refine And.intro ?_ ?_; first | exact rfl | (refine aa (aj h) ?_; (repeat (refine aa (aj h) ?_)); exact ai) | omega) | refine aq ?_ | refine au ?_)
 refine de.2 ⟨fun xX => ?_, fun xX => ?_⟩
 ·rw [if_pos (.inr xX)] at k
  exact k _ (gX h b).bX
 rw [if_neg (by rintro (h | h) <;> contradiction)] at k
 repeat (first | (refine av h ?_; clear h; intro kb M h) | (refine az h ?_; clear h; intro M h) | refine St.to h ?_ | (apply Exists.intro; (repeat apply Exists.intro); refine And.intro rfl ?_) | (refine And.intro ?_ ?_; first | exact rfl | (refine aa (aj h) ?_; (repeat (refine aa (aj h) ?_)); exact ai) | omega) | refine aq ?_ | refine au ?_)
 refine aP.2 ⟨fun hr => ?_, fun hr => ?_⟩
 ·cases ws with
  | nil => simp at hr
  | cons w r =>
   repeat (first | (refine av h ?_; clear h; intro kb M h) | (refine az h ?_; clear h; intro M h) | refine St.to h ?_ | (apply Exists.intro; (repeat apply Exists.intro); refine And.intro rfl ?_) | (refine And.intro ?_ ?_; first | exact rfl | (refine aa (aj h) ?_; (repeat (refine aa (aj h) ?_)); exact ai) | omega) | refine aq ?_ | refine au ?_)
   obtain ⟨q, rfl⟩ := h.bx (A := A) (by simp) (by decide)
   repeat (first | (refine av h ?_; clear h; intro kb M h) | (refine az h ?_; clear h; intro M h) | refine St.to h ?_ | (apply Exists.intro; (repeat apply Exists.intro); refine And.intro rfl ?_) | (refine And.intro ?_ ?_; first | exact rfl | (refine aa (aj h) ?_; (repeat (refine aa (aj h) ?_)); exact ai) | omega) | refine aq ?_ | refine au ?_)
   refine be (Src.at (h.src (A := some ⟨q, 0, none⟩)) h (i := 0) (j := 0) rfl rfl (by simp [bu])) ?_
   have hcap := h.jF (some ⟨q, 0, none⟩)
   have hlen : r.length + 1 ≤ 1000000000 := by simpa using hs
   repeat (first | (refine av h ?_; clear h; intro kb M h) | (refine az h ?_; clear h; intro M h) | refine St.to h ?_ | (apply Exists.intro; (repeat apply Exists.intro); refine And.intro rfl ?_) | (refine And.intro ?_ ?_; first | exact rfl | (refine aa (aj h) ?_; (repeat (refine aa (aj h) ?_)); exact ai) | omega) | refine aq ?_ | refine au ?_)
   simp only [Int.toNat_natCast]
   refine h.jX bu sD r ((h.src (A := some ⟨q, 0, none⟩)).drop (m := 1) hcap) (by simp) (by omega) ?_
   clear h
   intro A' c' M h
   repeat (first | (refine av h ?_; clear h; intro kb M h) | (refine az h ?_; clear h; intro M h) | refine St.to h ?_ | (apply Exists.intro; (repeat apply Exists.intro); refine And.intro rfl ?_) | (refine And.intro ?_ ?_; first | exact rfl | (refine aa (aj h) ?_; (repeat (refine aa (aj h) ?_)); exact ai) | omega) | refine aq ?_ | refine au ?_)
   exact k _ (gX h b).bX
 ·cases ws with
  | cons v l => simp at hr
  | nil =>
   repeat (first | (refine av h ?_; clear h; intro kb M h) | (refine az h ?_; clear h; intro M h) | refine St.to h ?_ | (apply Exists.intro; (repeat apply Exists.intro); refine And.intro rfl ?_) | (refine And.intro ?_ ?_; first | exact rfl | (refine aa (aj h) ?_; (repeat (refine aa (aj h) ?_)); exact ai) | omega) | refine aq ?_ | refine au ?_)
   exact k _ (gX h b).bX
end
end Go.Proofs
namespace Go.Proofs
open Go.AF
set_option maxRecDepth 100000
set_option maxHeartbeats 1000000
attribute [local irreducible] aK cD fH bL aD fx aI aO bj aS bI aV
structure PA where
 f : Option Addr
 fc : Nat
 c : Option Addr
 cc : Nat
 k : Option Addr
 kc : Nat
abbrev GA := Option Addr × Nat
abbrev pV (y : iQ) (A : Option Addr) (c : Nat) : List Value := [.int .i64 y.st, .slice A y.fs.length c, .int .i64 y.wt.op, .int .i64 y.wt.a, .int .i64 y.wt.b, .int .i64 y.wt.c]
def fQ : tu (iQ × GA) := ⟨fun b x => sep [pt b (pV x.1 x.2.1 x.2.2) 182, uo x.2.1 x.2.2 x.1.fs]⟩
structure WA where
 ag : Option Addr
 cg : Nat
 gb : List Nat
 ac : Option Addr
 cc : Nat
 cb : List Nat
 al : Option Addr
 cl : Nat
 lb : List Nat
 ah : Option Addr
 ch : Nat
 ao : Option Addr
 co : Nat
 ar : Option Addr
 cr : Nat
abbrev lV (pa : PA) (p : bZ) (dr : Value) (a : WA) (x : Wd) : List Value :=
 [.slice pa.f p.funcs.length pa.fc, .slice pa.c p.dk.length pa.cc, .int .i64 p.aM, .slice pa.k p.cases.length pa.kc, .slice a.ag a.gb.length a.cg, .int .u64 x.clock,
  .slice a.ac a.cb.length a.cc, .slice a.al a.lb.length a.cl, .slice a.ah x.hl.length a.ch, .int .u64 x.kO, .slice a.ao x.out.length a.co, .int .i64 x.end_, .int .i64 x.code, .slice a.ar x.ready.length a.cr, dr]
abbrev yU (A : Option Addr) (c : Nat) (l : List Nat) : HP := bG lS 177 A c l
abbrev yV (A : Option Addr) (c : Nat) (l : List Nat) : HP := bG lS 183 A c l
abbrev yW (A : Option Addr) (c : Nat) (l : List Nat) : HP := bG lS 185 A c l
abbrev fV (A : Option Addr) (c : Nat) (l : List bC) : HP := bG rX 205 A c l
abbrev r8 (a : WA) (x : Wd) (L : List HP) : List HP :=
 yU a.ag a.cg a.gb :: yV a.ac a.cc a.cb :: bn bJ a.cb x.aE :: yW a.al a.cl a.lb :: bn fL a.lb x.aM :: fV a.ah a.ch x.hl :: yp a.ao a.co x.out :: j6 a.ar a.cr x.ready :: L
def eU (gg : List GA) (a : WA) (x : Wd) : Prop := a.gb.length = x.gs.length ∧ gg.length = x.gs.length ∧ a.cb.length = x.aE.length ∧ a.lb.length = x.aM.length
def bA (pa : PA) (p : bZ) (gg : List GA) (dr : Value) : tu Wd := ⟨fun b x => exs fun a : WA =>
 sep (pt b (lV pa p dr a x) 164 :: bn fQ a.gb (x.gs.zip gg) :: fact (eU gg a x) :: r8 a x [])⟩
class vB (b : Nat) (L : List HP) (pa : outParam PA) (p : outParam bZ) (gg : outParam (List GA)) (dr : outParam Value) (x : outParam Wd) (L' : outParam (List HP)) : Prop where
 pick : aF L (aB (bA pa p gg dr) b x) L'
instance vB.here {pa : PA} {p : bZ} {gg : List GA} {dr : Value} {b : Nat} {x : Wd} {L : List HP} : vB b (aB (bA pa p gg dr) b x :: L) pa p gg dr x L := ⟨.here⟩
instance (priority := low) vB.there {pa : PA} {p : bZ} {gg : List GA} {dr : Value} {b : Nat} {x : Wd} {Q : HP} {L L' : List HP} [h : vB b L pa p gg dr x L'] : vB b (Q :: L) pa p gg dr x (Q :: L') := ⟨.there h.pick⟩
section
variable {R : Mem} {L L' : List HP} {M : Mem} {K : Value → Mem → Prop} {Kp : List PanicEntry → Mem → Prop} {pa : PA} {p : bZ} {gg : List GA} {dr : Value} {b : Nat} {x : Wd}
theorem cj (h : Hp R L M) [o : vB b L pa p gg dr x L'] : ∃ a : WA, eU gg a x ∧ Hp R (pt b (lV pa p dr a x) 164 :: bn fQ a.gb (x.gs.zip gg) :: r8 a x L') M := by
 have := h.pick o.pick
 unfold aB at this
 simp only [bA, r8, Hp.dQ, Hp.bl, List.cons_append, List.nil_append] at this
 obtain ⟨a, h⟩ := this
 have h2 := h.pick (P := fact (eU gg a x)) (.there (.there .here))
 exact ⟨a, (Hp.fJ.1 h2).1, (Hp.fJ.1 h2).2⟩
theorem jx {a : WA} (hl : eU gg a x) (h : Hp R (pt b (lV pa p dr a x) 164 :: bn fQ a.gb (x.gs.zip gg) :: r8 a x L) M) : Hp R (aB (bA pa p gg dr) b x :: L) M := by
 refine Hp.wS ?_
 simp only [bA, r8, Hp.dQ, Hp.bl, List.cons_append, List.nil_append]
 refine ⟨a, ?_⟩
 have h2 : Hp R (fact (eU gg a x) :: pt b (lV pa p dr a x) 164 :: bn fQ a.gb (x.gs.zip gg) :: r8 a x L) M := Hp.fJ.2 ⟨hl, h⟩
 exact h2.nj (.there (.there .here))
theorem bk {a : WA} {L0 L1 L2 L3 L4 L5 L6 L7 L8 L9 : List HP} (hl : eU gg a x) (h : Hp R L M) (b : Nat)
  [p0 : jE b L (lV pa p dr a x) 164 L0] [p1 : fD fQ L0 a.gb (x.gs.zip gg) L1] [p2 : cG a.ag L1 Nat lS 177 a.cg a.gb L2] [p3 : cG a.ac L2 Nat lS 183 a.cc a.cb L3]
  [p4 : fD bJ L3 a.cb x.aE L4] [p5 : cG a.al L4 Nat lS 185 a.cl a.lb L5] [p6 : fD fL L5 a.lb x.aM L6] [p7 : cG a.ah L6 bC rX 205 a.ch x.hl L7] [p8 : cG a.ao L7 Int bu 2 a.co x.out L8]
  [p9 : cG a.ar L8 Int bu 3 a.cr x.ready L9] : Hp R (aB (bA pa p gg dr) b x :: L9) M :=
 jx hl (h.sub (.cons p0.pick (.cons p1.pick (.cons p2.pick (.cons p3.pick (.cons p4.pick (.cons p5.pick (.cons p6.pick (.cons p7.pick (.cons p8.pick (.cons p9.pick .refl)))))))))))
theorem Ep {α β : Type} : ∀ {l : List α} {m : List β} {i : Nat} {u : α} {v : β}, m[i]? = some v → (l.zip m).set i (u, v) = (l.set i u).zip m
 | [], _, _, _, _, _ => by simp
 | a :: l, [], i, u, v, h => by simp at h
 | a :: l, w :: m, 0, u, v, h => by simp at h; subst h; rfl
 | a :: l, w :: m, i + 1, u, v, h => by
  have := Ep (l := l) (u := u) (show m[i]? = some v from by simpa using h)
  simp [this]
theorem nJ {α β : Type} : ∀ {l : List α} {m : List β} {i : Nat} {u : α} {v : β}, l[i]? = some u → m[i]? = some v → (l.zip m)[i]? = some (u, v)
 | [], _, _, _, _, h, _ => by simp at h
 | a :: l, [], i, u, v, _, h => by simp at h
 | a :: l, w :: m, 0, u, v, h, g => by simp at h g; subst h; subst g; rfl
 | a :: l, w :: m, i + 1, u, v, h, g => by simpa using nJ (show l[i]? = some u from by simpa using h) (show m[i]? = some v from by simpa using g)
theorem mH {c : Nat} {y : iQ} {A : Option Addr} (h : Hp R L M) [o : b7 fQ b L (y, (A, c)) L'] : Hp R (pt b (pV y A c) 182 :: uo A c y.fs :: L') M := by
 have := h.obj fQ b
 simpa only [fQ, Hp.bl, List.cons_append, List.nil_append] using this
theorem mI {A : Option Addr} {n c : Nat} {st o1 o2 o3 o4 : Int} {fs : List gD} {L1 L2 : List HP} (h : Hp R L M) (b : Nat) [p : jE b L [.int .i64 st, .slice A n c, .int .i64 o1, .int .i64 o2, .int .i64 o3, .int .i64 o4] 182 L1] [p1 : cG A L1 gD iX 234 c fs L2]
  (e : n = fs.length := by first | rfl | simp) : Hp R (aB fQ b (⟨st, fs, ⟨o1, o2, o3, o4⟩⟩, (A, c)) :: L2) M := by
 subst e
 refine Hp.wS ?_
 simp only [fQ, Hp.bl, List.cons_append, List.nil_append]
 exact h.sub (.cons p.pick (.cons p1.pick .refl))
theorem jy {g : Int} (h : Hp R L M) [o : vB b L pa p gg dr x L'] (h0 : 0 ≤ g) (hg : g < x.gs.length) :
  ∃ (a : WA) (gb : Nat) (A : Option Addr) (c : Nat), eU gg a x ∧ a.gb[g.toNat]? = some gb ∧ gg[g.toNat]? = some (A, c) ∧
   Hp R (pt gb (pV (ay x g) A c) 182 :: uo A c (ay x g).fs :: pt b (lV pa p dr a x) 164 :: lD fQ a.gb (x.gs.zip gg) g.toNat :: r8 a x L') M := by
 obtain ⟨a, hl, h1⟩ := cj h (b := b)
 obtain ⟨l1, l2, l3, l4⟩ := hl
 obtain ⟨gb, fM⟩ := aQ (l := a.gb) (i := g.toNat) (by omega)
 obtain ⟨⟨A, c⟩, eL⟩ := aQ (l := gg) (i := g.toNat) (by omega)
 obtain ⟨y, hy⟩ := aQ (l := x.gs) (i := g.toNat) (by omega)
 have e : ay x g = y := by simp [ay, hy]
 rw [e]
 have h2 := h1.cY fQ fM (nJ hy eL)
 have h3 := mH (b := gb) h2
 exact ⟨a, gb, A, c, ⟨l1, l2, l3, l4⟩, fM, eL, h3.sub (by repeat (first | exact .refl | refine .cons (by repeat (first | exact .here | apply aF.there)) ?_ | apply Sub.drop))⟩
theorem cJ {a : WA} {A : Option Addr} {c n : Nat} {g : Int} {st o1 o2 o3 o4 : Int} {fs : List gD} {L1 L2 L3 : List HP} (h : Hp R L M) (gb : Nat) (hl : eU gg a x) (fM : a.gb[g.toNat]? = some gb) (eL : gg[g.toNat]? = some (A, c))
  [p1 : jE gb L [.int .i64 st, .slice A n c, .int .i64 o1, .int .i64 o2, .int .i64 o3, .int .i64 o4] 182 L1] [p2 : cG A L1 gD iX 234 c fs L2]
  [p3 : wz fQ L2 a.gb (x.gs.zip gg) g.toNat L3] (e : n = fs.length := by first | rfl | simp) : Hp R (bn fQ a.gb ((x.gs.set g.toNat ⟨st, fs, ⟨o1, o2, o3, o4⟩⟩).zip gg) :: L3) M := by
 have h1 := mI h gb e
 obtain ⟨l1, l2, l3, l4⟩ := hl
 have hi := (List.getElem?_eq_some_iff.1 fM).1
 have h2 := h1.dU fQ gb fM (by rw [List.length_zip]; omega)
 rwa [Ep eL] at h2
end
end Go.Proofs
namespace Go.Proofs
open Go.AF
set_option maxRecDepth 100000
set_option maxHeartbeats 1000000
attribute [local irreducible] aK cD fH bL aD fx aI aO bj aS bI aV
section
variable {R : Mem} {L L' : List HP} {M : Mem} {K : Value → Mem → Prop} {Kp : List PanicEntry → Mem → Prop} {pa : PA} {p : bZ} {gg : List GA} {dr : Value} {b : Nat} {x : Wd}
theorem U6 {A : Option Addr} {l : List Nat} {T c q i bb : Nat} (h : Hp R L M) [r : cG A L Nat lS T c l L'] (hq : A = some ⟨q, 0, none⟩) (hb : l[i]? = some bb) : M.ld ⟨q, 0 + i, none⟩ = some (.pointer (some ⟨bb, 0, none⟩)) := by
 subst hq
 exact Src.at (h.src (A := some ⟨q, 0, none⟩)) h (i := i) (j := 0) hb rfl (by simp [lS])
theorem uO {A : Option Addr} {l : List Nat} {T c bb i : Nat} {G : Nat → Nat → Option Addr → Prop} (h : Hp R L M) [r : cG A L Nat lS T c l L'] (hb : l[i]? = some bb) (k : ∀ q, A = some ⟨q, 0, none⟩ → G q 0 (some ⟨bb, 0, none⟩)) :
  aI A fun k4 k5 => bL (M.ld ⟨k4, k5 + i, none⟩) fun A6 => G k4 k5 A6 := by
 obtain ⟨q, hq⟩ := h.bx (A := A) (by have := (List.getElem?_eq_some_iff.1 hb).1; omega) (by decide)
 have h2 := U6 h hq hb
 subst hq
 refine br ?_
 rw [h2]
 exact jk (k q rfl)
theorem gY {g : Int} (h : Hp R L M) [o : vB b L pa p gg dr x L'] (h0 : 0 ≤ g) (hg : g < x.gs.length) (hr : x.ready.length ≤ 1000000000)
  (k : ∀ M', Hp R (aB (bA pa p gg dr) b (x.eY g) :: L') M' → K (.tuple #[]) M') : ae Tryz.prog 90 #[.pointer (some ⟨b, 0, none⟩), .int .i64 g] M K Kp := by
 refine qJ ?_
 have h' := jy h (b := b) h0 hg
 clear h
 obtain ⟨a, gb, A, c, hl, fM, eL, h⟩ := h'
 have hl' := hl
 obtain ⟨l1, l2, l3, l4⟩ := hl'
 repeat (first | (refine av h ?_; clear h; intro kb M h) | (refine az h ?_; clear h; intro M h) | refine St.to h ?_ | (apply Exists.intro; (repeat apply Exists.intro); refine And.intro rfl ?_) | (refine And.intro ?_ ?_; first | exact rfl | (refine aa (aj h) ?_; (repeat (refine aa (aj h) ?_)); exact ai) | omega) | refine aq ?_ | refine au ?_)
 refine uO h fM fun q hq => ?_
 repeat (first | (refine av h ?_; clear h; intro kb M h) | (refine az h ?_; clear h; intro M h) | refine St.to h ?_ | (apply Exists.intro; (repeat apply Exists.intro); refine And.intro rfl ?_) | (refine And.intro ?_ ?_; first | exact rfl | (refine aa (aj h) ?_; (repeat (refine aa (aj h) ?_)); exact ai) | omega) | refine aq ?_ | refine au ?_)
 refine h.bO sD [g] rfl rfl (by simp; omega) ?_
 clear h
 intro A' c' M h
 repeat (first | (refine av h ?_; clear h; intro kb M h) | (refine az h ?_; clear h; intro M h) | refine St.to h ?_ | (apply Exists.intro; (repeat apply Exists.intro); refine And.intro rfl ?_) | (refine And.intro ?_ ?_; first | exact rfl | (refine aa (aj h) ?_; (repeat (refine aa (aj h) ?_)); exact ai) | omega) | refine aq ?_ | refine au ?_)
 replace h := cJ h gb hl fM eL
 exact k _ (jx (a := { a with ar := A', cr := c' }) ⟨by simpa [Wd.eY, Wd.bD] using l1, by simpa [Wd.eY, Wd.bD] using l2, l3, l4⟩ (h.sub (by repeat (first | exact .refl | refine .cons (by repeat (first | exact .here | apply aF.there)) ?_ | apply Sub.drop))))
theorem eo {y : iQ} (h : 0 < y.fs.length) : y.fs[y.fs.length - 1]? = some y.top := by
 unfold iQ.top
 rw [List.getD_eq_getElem?_getD, List.getElem?_eq_getElem (by omega)]; rfl
theorem c9 {a : WA} {g : Int} {y : iQ} (hl : eU gg a x) : eU gg a (x.bD g y) := by
 obtain ⟨l1, l2, l3, l4⟩ := hl
 exact ⟨by simpa [Wd.bD] using l1, by simpa [Wd.bD] using l2, l3, l4⟩
theorem lG {g : Int} {i : cC} (h : Hp R L M) [o : vB b L pa p gg dr x L'] (h0 : 0 ≤ g) (hg : g < x.gs.length)
  (k : ∀ M', Hp R (aB (bA pa p gg dr) b (x.block g i) :: L') M' → K (.tuple #[]) M') : ae Tryz.prog 158 #[.pointer (some ⟨b, 0, none⟩), .int .i64 g, .agg #[.int .i64 i.op, .int .i64 i.a, .int .i64 i.b, .int .i64 i.c]] M K Kp := by
 refine pE ?_
 have h' := jy h (b := b) h0 hg
 clear h
 obtain ⟨a, gb, A, c, hl, fM, eL, h⟩ := h'
 have hl' := hl
 obtain ⟨l1, l2, l3, l4⟩ := hl'
 repeat (first | (refine av h ?_; clear h; intro kb M h) | (refine az h ?_; clear h; intro M h) | refine St.to h ?_ | (apply Exists.intro; (repeat apply Exists.intro); refine And.intro rfl ?_) | (refine And.intro ?_ ?_; first | exact rfl | (refine aa (aj h) ?_; (repeat (refine aa (aj h) ?_)); exact ai) | omega) | refine aq ?_ | refine au ?_)
 refine uO h fM fun q hq => ?_
 repeat (first | (refine av h ?_; clear h; intro kb M h) | (refine az h ?_; clear h; intro M h) | refine St.to h ?_ | (apply Exists.intro; (repeat apply Exists.intro); refine And.intro rfl ?_) | (refine And.intro ?_ ?_; first | exact rfl | (refine aa (aj h) ?_; (repeat (refine aa (aj h) ?_)); exact ai) | omega) | refine aq ?_ | refine au ?_)
 refine uO h fM fun q2 mX => ?_
 repeat (first | (refine av h ?_; clear h; intro kb M h) | (refine az h ?_; clear h; intro M h) | refine St.to h ?_ | (apply Exists.intro; (repeat apply Exists.intro); refine And.intro rfl ?_) | (refine And.intro ?_ ?_; first | exact rfl | (refine aa (aj h) ?_; (repeat (refine aa (aj h) ?_)); exact ai) | omega) | refine aq ?_ | refine au ?_)
 replace h := cJ h gb hl fM eL
 exact k _ (jx (a := a) (c9 hl) (h.sub (by repeat (first | exact .refl | refine .cons (by repeat (first | exact .here | apply aF.there)) ?_ | apply Sub.drop))))
theorem uu {g kk : Int} (h : Hp R L M) [o : vB b L pa p gg dr x L'] (hg : bp x g) (hc : bg (ay x g).wt.c) (hs : x.Sm)
  (k : ∀ M', Hp R (aB (bA pa p gg dr) b (x.gp g kk) :: L') M' → K (.tuple #[]) M') : ae Tryz.prog 223 #[.pointer (some ⟨b, 0, none⟩), .int .i64 g, .int .i64 kk] M K Kp := by
 refine oA ?_
 obtain ⟨h0, h1, h2, h3⟩ := hg
 obtain ⟨s1, s2, s3, s4, s5, s6, s7, s8⟩ := hs
 have h' := jy h (b := b) h0 h1
 clear h
 obtain ⟨a, gb, A, c, hl, fM, eL, h⟩ := h'
 have hl' := hl
 obtain ⟨l1, l2, l3, l4⟩ := hl'
 repeat (first | (refine av h ?_; clear h; intro kb M h) | (refine az h ?_; clear h; intro M h) | refine St.to h ?_ | (apply Exists.intro; (repeat apply Exists.intro); refine And.intro rfl ?_) | (refine And.intro ?_ ?_; first | exact rfl | (refine aa (aj h) ?_; (repeat (refine aa (aj h) ?_)); exact ai) | omega) | refine aq ?_ | refine au ?_)
 refine uO h fM fun q hq => ?_
 repeat (first | (refine av h ?_; clear h; intro kb M h) | (refine az h ?_; clear h; intro M h) | refine St.to h ?_ | (apply Exists.intro; (repeat apply Exists.intro); refine And.intro rfl ?_) | (refine And.intro ?_ ?_; first | exact rfl | (refine aa (aj h) ?_; (repeat (refine aa (aj h) ?_)); exact ai) | omega) | refine aq ?_ | refine au ?_)
 refine uO h fM fun q2 mX => ?_
 repeat (first | (refine av h ?_; clear h; intro kb M h) | (refine az h ?_; clear h; intro M h) | refine St.to h ?_ | (apply Exists.intro; (repeat apply Exists.intro); refine And.intro rfl ?_) | (refine And.intro ?_ ?_; first | exact rfl | (refine aa (aj h) ?_; (repeat (refine aa (aj h) ?_)); exact ai) | omega) | refine aq ?_ | refine au ?_)
 obtain ⟨bs, rfl⟩ := h.bx (A := A) h2 (by decide)
 refine mG h2 (by omega) ?_
 repeat (first | (refine av h ?_; clear h; intro kb M h) | (refine az h ?_; clear h; intro M h) | refine St.to h ?_ | (apply Exists.intro; (repeat apply Exists.intro); refine And.intro rfl ?_) | (refine And.intro ?_ ?_; first | exact rfl | (refine aa (aj h) ?_; (repeat (refine aa (aj h) ?_)); exact ai) | omega) | refine aq ?_ | refine au ?_)
 refine ⟨hc.1, hc.2, vA h (eo h2) hc rfl ?_⟩
 clear h
 intro M h
 repeat (first | (refine av h ?_; clear h; intro kb M h) | (refine az h ?_; clear h; intro M h) | refine St.to h ?_ | (apply Exists.intro; (repeat apply Exists.intro); refine And.intro rfl ?_) | (refine And.intro ?_ ?_; first | exact rfl | (refine aa (aj h) ?_; (repeat (refine aa (aj h) ?_)); exact ai) | omega) | refine aq ?_ | refine au ?_)
 refine D5 h (Src.row (A := a.ac)) rfl (by omega) l3 (fun c hc => (s1 c hc).mono (by omega)) ?_
 clear h
 intro M h
 refine ⟨rfl, ?_⟩
 replace h := cJ h gb hl fM eL
 exact k _ (jx (a := a) (x := x.gp g kk) ⟨by simpa [Wd.gp, Wd.leave, Wd.bz, Wd.bD] using l1, by simpa [Wd.gp, Wd.leave, Wd.bz, Wd.bD] using l2, by simpa [Wd.gp, Wd.leave, Wd.bz, Wd.bD] using l3, l4⟩ (h.sub (by repeat (first | exact .refl | refine .cons (by repeat (first | exact .here | apply aF.there)) ?_ | apply Sub.drop))))
end
end Go.Proofs
namespace Go.Proofs
open Go.AF
set_option maxRecDepth 100000
set_option maxHeartbeats 1000000
attribute [local irreducible] aK cD fH bL aD fx aI aO bj aS bI aV
theorem iG {x : Wd} {g q v : Int} (h : bp x g) : ay (x.bz g q v) g = (ay x g).cH ((ay x g).top.set q v) := gE h.1 h.2.1
theorem iH {x : Wd} {g q v : Int} (h : bp x g) : bp (x.bz g q v) g := by
 obtain ⟨h0, h1, h2, h3⟩ := h
 refine ⟨h0, by simpa [Wd.bz, Wd.bD] using h1, ?_, ?_⟩ <;> rw [iG ⟨h0, h1, h2, h3⟩] <;> simpa [iQ.cH]
theorem J5 {x : Wd} {g q v : Int} (h : bp x g) : (ay (x.bz g q v) g).wt = (ay x g).wt := by rw [iG h]; rfl
theorem uv {x : Wd} {g k : Int} (h : bp x g) : bp (x.gp g k) g := iH h
theorem Iq {x : Wd} {g : Int} {y : iQ} (h : x.Sm) : (x.bD g y).Sm := by
 obtain ⟨s1, s2, s3, s4⟩ := h
 exact ⟨s1, s2, by simpa [Wd.bD] using s3, s4⟩
theorem cO {z : Int} (h0 : 0 ≤ z) (h : z < 9223372036854775808) : IntKind.wrap .i64 z = z := by
 obtain ⟨n, rfl⟩ := Int.eq_ofNat_of_zero_le h0
 exact mo (by omega)
section
variable {R : Mem} {L L' : List HP} {M : Mem} {K : Value → Mem → Prop} {Kp : List PanicEntry → Mem → Prop} {pa : PA} {p : bZ} {gg : List GA} {dr : Value} {b : Nat} {x : Wd}
theorem U7 {A : Option Addr} {c : Nat} {l : List nZ} {q : Int} {G : Nat → Nat → Int → Prop} (h : Hp R L M) (hp : RS ij R A c l) (h0 : 0 ≤ q) (hq : q < l.length) (k : ∀ b o, G b o (l.getD q.toNat ⟨0, 0, 0⟩).bS) :
  aI A fun b o => aK (M.ld ⟨b, ((o + q.toNat * 3) + 2), none⟩) .i64 fun n => G b o n := by
 obtain ⟨bb, o, rfl⟩ := hp.some (by omega) (by decide)
 obtain ⟨y, hy⟩ := aQ (l := l) (i := q.toNat) (by omega)
 have e : l.getD q.toNat ⟨0, 0, 0⟩ = y := by simp [hy]
 refine br ?_
 refine be (Src.at (hp.src (L := L)) h (i := q.toNat) (j := 2) hy rfl (by show _ = o + (q.toNat * 3 + 2); omega)) ?_
 have := k bb o
 rwa [e] at this
theorem pW {v : Wt} {some : Int} (h : Hp R L M) [o : vB b L pa p gg dr x L'] (hp : RS ij R pa.k pa.kc p.cases) (hv : pC p x v) (hs : x.Sm)
  (k : ∀ M', Hp R (aB (bA pa p gg dr) b (x.received p v some) :: L') M' → K (.tuple #[]) M') : ae Tryz.prog 208 #[.pointer (Option.some ⟨b, 0, none⟩), .agg #[.int .i64 v.g, .int .i64 v.cs, .int .i64 v.v], .int .i64 some] M K Kp := by
 refine mE ?_
 obtain ⟨hg, hv⟩ := hv
 have xF := hg
 obtain ⟨h0, h1, h2, h3⟩ := xF
 have hs' := hs
 obtain ⟨s1, s2, s3, s4, s5, s6, s7, s8⟩ := hs'
 have h' := jy h (b := b) h0 h1
 clear h
 obtain ⟨a, gb, A, c, hl, fM, eL, h⟩ := h'
 have hl' := hl
 obtain ⟨l1, l2, l3, l4⟩ := hl'
 repeat (first | (refine av h ?_; clear h; intro kb M h) | (refine az h ?_; clear h; intro M h) | refine St.to h ?_ | (apply Exists.intro; (repeat apply Exists.intro); refine And.intro rfl ?_) | (refine And.intro ?_ ?_; first | exact rfl | (refine aa (aj h) ?_; (repeat (refine aa (aj h) ?_)); exact ai) | omega) | refine aq ?_ | refine au ?_)
 refine uO h fM fun q hq => ?_
 repeat (first | (refine av h ?_; clear h; intro kb M h) | (refine az h ?_; clear h; intro M h) | refine St.to h ?_ | (apply Exists.intro; (repeat apply Exists.intro); refine And.intro rfl ?_) | (refine And.intro ?_ ?_; first | exact rfl | (refine aa (aj h) ?_; (repeat (refine aa (aj h) ?_)); exact ai) | omega) | refine aq ?_ | refine au ?_)
 refine uO h fM fun q2 mX => ?_
 repeat (first | (refine av h ?_; clear h; intro kb M h) | (refine az h ?_; clear h; intro M h) | refine St.to h ?_ | (apply Exists.intro; (repeat apply Exists.intro); refine And.intro rfl ?_) | (refine And.intro ?_ ?_; first | exact rfl | (refine aa (aj h) ?_; (repeat (refine aa (aj h) ?_)); exact ai) | omega) | refine aq ?_ | refine au ?_)
 obtain ⟨bs, rfl⟩ := h.bx (A := A) h2 (by decide)
 refine mG h2 (by omega) ?_
 repeat (first | (refine av h ?_; clear h; intro kb M h) | (refine az h ?_; clear h; intro M h) | refine St.to h ?_ | (apply Exists.intro; (repeat apply Exists.intro); refine And.intro rfl ?_) | (refine And.intro ?_ ?_; first | exact rfl | (refine aa (aj h) ?_; (repeat (refine aa (aj h) ?_)); exact ai) | omega) | refine aq ?_ | refine au ?_)
 refine ⟨U6 h mX fM, ?_⟩
 repeat (first | (refine av h ?_; clear h; intro kb M h) | (refine az h ?_; clear h; intro M h) | refine St.to h ?_ | (apply Exists.intro; (repeat apply Exists.intro); refine And.intro rfl ?_) | (refine And.intro ?_ ?_; first | exact rfl | (refine aa (aj h) ?_; (repeat (refine aa (aj h) ?_)); exact ai) | omega) | refine aq ?_ | refine au ?_)
 refine ⟨U6 h mX fM, ?_⟩
 repeat (first | (refine av h ?_; clear h; intro kb M h) | (refine az h ?_; clear h; intro M h) | refine St.to h ?_ | (apply Exists.intro; (repeat apply Exists.intro); refine And.intro rfl ?_) | (refine And.intro ?_ ?_; first | exact rfl | (refine aa (aj h) ?_; (repeat (refine aa (aj h) ?_)); exact ai) | omega) | refine aq ?_ | refine au ?_)
 unfold Wd.received at k
 refine aZ.2 ⟨fun Ir => ?_, fun Ir => ?_⟩
 ·simp only [Ir, if_true] at k hv
  obtain ⟨v1, v2, v3, v4, v5⟩ := hv
  repeat (first | (refine av h ?_; clear h; intro kb M h) | (refine az h ?_; clear h; intro M h) | refine St.to h ?_ | (apply Exists.intro; (repeat apply Exists.intro); refine And.intro rfl ?_) | (refine And.intro ?_ ?_; first | exact rfl | (refine aa (aj h) ?_; (repeat (refine aa (aj h) ?_)); exact ai) | omega) | refine aq ?_ | refine au ?_)
  rw [cO v1 (by omega)]
  refine ⟨v1, by omega, U7 (q := (ay x v.g).wt.a + v.cs) h hp v1 v2 fun _ _ => ?_⟩
  repeat (first | (refine av h ?_; clear h; intro kb M h) | (refine az h ?_; clear h; intro M h) | refine St.to h ?_ | (apply Exists.intro; (repeat apply Exists.intro); refine And.intro rfl ?_) | (refine And.intro ?_ ?_; first | exact rfl | (refine aa (aj h) ?_; (repeat (refine aa (aj h) ?_)); exact ai) | omega) | refine aq ?_ | refine au ?_)
  refine ⟨v4.1, v4.2, vA h (eo h2) v4 rfl ?_⟩
  clear h
  intro M h
  repeat (first | (refine av h ?_; clear h; intro kb M h) | (refine az h ?_; clear h; intro M h) | refine St.to h ?_ | (apply Exists.intro; (repeat apply Exists.intro); refine And.intro rfl ?_) | (refine And.intro ?_ ?_; first | exact rfl | (refine aa (aj h) ?_; (repeat (refine aa (aj h) ?_)); exact ai) | omega) | refine aq ?_ | refine au ?_)
  replace h := cJ h gb hl fM eL
  replace h := bk (a := a) (p := p) (pa := pa) (dr := dr) (gg := gg) (x := x.bz v.g (pB p ((ay x v.g).wt.a + v.cs)).bS v.v) (c9 hl) h b
  have v5' := v5
  rw [← J5 (q := (pB p ((ay x v.g).wt.a + v.cs)).bS) (v := v.v) hg] at v5'
  refine uu (b := b) h (iH hg) v5' (Iq hs) ?_
  clear h
  intro M h
  repeat (first | (refine av h ?_; clear h; intro kb M h) | (refine az h ?_; clear h; intro M h) | refine St.to h ?_ | (apply Exists.intro; (repeat apply Exists.intro); refine And.intro rfl ?_) | (refine And.intro ?_ ?_; first | exact rfl | (refine aa (aj h) ?_; (repeat (refine aa (aj h) ?_)); exact ai) | omega) | refine aq ?_ | refine au ?_)
  have J4 := uv (k := v.cs) (iH (q := (pB p ((ay x v.g).wt.a + v.cs)).bS) (v := v.v) hg)
  refine gY (b := b) h J4.1 J4.2.1 (by show x.ready.length ≤ _; omega) ?_
  clear h
  intro M h
  exact ⟨rfl, k _ h.bX⟩
 ·simp only [Ir, if_false] at k hv
  obtain ⟨v1, v2⟩ := hv
  repeat (first | (refine av h ?_; clear h; intro kb M h) | (refine az h ?_; clear h; intro M h) | refine St.to h ?_ | (apply Exists.intro; (repeat apply Exists.intro); refine And.intro rfl ?_) | (refine And.intro ?_ ?_; first | exact rfl | (refine aa (aj h) ?_; (repeat (refine aa (aj h) ?_)); exact ai) | omega) | refine aq ?_ | refine au ?_)
  refine ⟨v1.1, v1.2, ?_⟩
  repeat (first | (refine av h ?_; clear h; intro kb M h) | (refine az h ?_; clear h; intro M h) | refine St.to h ?_ | (apply Exists.intro; (repeat apply Exists.intro); refine And.intro rfl ?_) | (refine And.intro ?_ ?_; first | exact rfl | (refine aa (aj h) ?_; (repeat (refine aa (aj h) ?_)); exact ai) | omega) | refine aq ?_ | refine au ?_)
  refine vA h (eo h2) v1 rfl ?_
  clear h
  intro M h
  repeat (first | (refine av h ?_; clear h; intro kb M h) | (refine az h ?_; clear h; intro M h) | refine St.to h ?_ | (apply Exists.intro; (repeat apply Exists.intro); refine And.intro rfl ?_) | (refine And.intro ?_ ?_; first | exact rfl | (refine aa (aj h) ?_; (repeat (refine aa (aj h) ?_)); exact ai) | omega) | refine aq ?_ | refine au ?_)
  have K4 : ((ay x v.g).fs.set ((ay x v.g).fs.length - 1) ((ay x v.g).top.set (ay x v.g).wt.b v.v))[(ay x v.g).fs.length - 1]? = Option.some ((ay x v.g).top.set (ay x v.g).wt.b v.v) := by
   rw [List.getElem?_set_self]; omega
  refine ⟨v2.1, v2.2, vA h K4 v2 rfl ?_⟩
  clear h
  intro M h
  rw [iF] at h
  repeat (first | (refine av h ?_; clear h; intro kb M h) | (refine az h ?_; clear h; intro M h) | refine St.to h ?_ | (apply Exists.intro; (repeat apply Exists.intro); refine And.intro rfl ?_) | (refine And.intro ?_ ?_; first | exact rfl | (refine aa (aj h) ?_; (repeat (refine aa (aj h) ?_)); exact ai) | omega) | refine aq ?_ | refine au ?_)
  replace h := cJ h gb hl fM eL (by simp)
  have ex : (x.bz v.g (ay x v.g).wt.b v.v).bz v.g (ay x v.g).wt.c some = x.bD v.g ((ay x v.g).cH (((ay x v.g).top.set (ay x v.g).wt.b v.v).set (ay x v.g).wt.c some)) := by
   have e1 := iG (q := (ay x v.g).wt.b) (v := v.v) hg
   have e2 : ∀ (z : Wd) (q u : Int), z.bz v.g q u = z.bD v.g ((ay z v.g).cH ((ay z v.g).top.set q u)) := fun _ _ _ => rfl
   rw [e2 (x.bz v.g (ay x v.g).wt.b v.v), e1]
   have e3 : ((ay x v.g).cH ((ay x v.g).top.set (ay x v.g).wt.b v.v)).top = (ay x v.g).top.set (ay x v.g).wt.b v.v := by
    unfold iQ.top iQ.cH
    dsimp only
    rw [List.length_set, List.getD_eq_getElem?_getD, List.getElem?_set_self (by omega)]; rfl
   rw [e3]
   simp [Wd.bz, Wd.bD, iQ.cH]
  rw [ex] at k
  replace h := bk (a := a) (p := p) (pa := pa) (dr := dr) (gg := gg) (x := x.bD v.g ((ay x v.g).cH (((ay x v.g).top.set (ay x v.g).wt.b v.v).set (ay x v.g).wt.c some))) (c9 hl) h b
  refine gY (b := b) h h0 (by simpa [Wd.bD] using h1) (by show x.ready.length ≤ _; omega) ?_
  clear h
  intro M h
  exact ⟨rfl, k _ h.bX⟩
theorem GK {v : Wt} (h : Hp R L M) [o : vB b L pa p gg dr x L'] (hv : wB x v) (hs : x.Sm)
  (k : ∀ M', Hp R (aB (bA pa p gg dr) b (x.sent v) :: L') M' → K (.tuple #[]) M') : ae Tryz.prog 210 #[.pointer (some ⟨b, 0, none⟩), .agg #[.int .i64 v.g, .int .i64 v.cs, .int .i64 v.v]] M K Kp := by
 refine qY ?_
 obtain ⟨hg, hv⟩ := hv
 have xF := hg
 obtain ⟨h0, h1, h2, h3⟩ := xF
 have hs' := hs
 obtain ⟨s1, s2, s3, s4, s5, s6, s7, s8⟩ := hs'
 have h' := jy h (b := b) h0 h1
 clear h
 obtain ⟨a, gb, A, c, hl, fM, eL, h⟩ := h'
 have hl' := hl
 obtain ⟨l1, l2, l3, l4⟩ := hl'
 repeat (first | (refine av h ?_; clear h; intro kb M h) | (refine az h ?_; clear h; intro M h) | refine St.to h ?_ | (apply Exists.intro; (repeat apply Exists.intro); refine And.intro rfl ?_) | (refine And.intro ?_ ?_; first | exact rfl | (refine aa (aj h) ?_; (repeat (refine aa (aj h) ?_)); exact ai) | omega) | refine aq ?_ | refine au ?_)
 refine uO h fM fun q hq => ?_
 repeat (first | (refine av h ?_; clear h; intro kb M h) | (refine az h ?_; clear h; intro M h) | refine St.to h ?_ | (apply Exists.intro; (repeat apply Exists.intro); refine And.intro rfl ?_) | (refine And.intro ?_ ?_; first | exact rfl | (refine aa (aj h) ?_; (repeat (refine aa (aj h) ?_)); exact ai) | omega) | refine aq ?_ | refine au ?_)
 unfold Wd.sent at k
 have ex : x.bD v.g (ay x v.g) = x := by
  obtain ⟨y, hy⟩ := aQ (l := x.gs) (i := v.g.toNat) (by omega)
  have e : ay x v.g = y := by simp [ay, hy]
  rw [e]
  obtain ⟨hi, rfl⟩ := List.getElem?_eq_some_iff.1 hy
  simp [Wd.bD]
 refine aZ.2 ⟨fun Ir => ?_, fun Ir => ?_⟩
 ·simp only [Ir, if_true] at k hv
  repeat (first | (refine av h ?_; clear h; intro kb M h) | (refine az h ?_; clear h; intro M h) | refine St.to h ?_ | (apply Exists.intro; (repeat apply Exists.intro); refine And.intro rfl ?_) | (refine And.intro ?_ ?_; first | exact rfl | (refine aa (aj h) ?_; (repeat (refine aa (aj h) ?_)); exact ai) | omega) | refine aq ?_ | refine au ?_)
  replace h := cJ h gb hl fM eL
  replace h := bk (a := a) (p := p) (pa := pa) (dr := dr) (gg := gg) (x := x.bD v.g (ay x v.g)) (c9 hl) h b
  rw [ex] at h
  refine uu (b := b) (x := x) h hg (hv trivial) hs ?_
  clear h
  intro M h
  repeat (first | (refine av h ?_; clear h; intro kb M h) | (refine az h ?_; clear h; intro M h) | refine St.to h ?_ | (apply Exists.intro; (repeat apply Exists.intro); refine And.intro rfl ?_) | (refine And.intro ?_ ?_; first | exact rfl | (refine aa (aj h) ?_; (repeat (refine aa (aj h) ?_)); exact ai) | omega) | refine aq ?_ | refine au ?_)
  have J4 := uv (k := v.cs) hg
  refine gY (b := b) h J4.1 J4.2.1 (by show x.ready.length ≤ _; omega) ?_
  clear h
  intro M h
  exact ⟨rfl, k _ h.bX⟩
 ·simp only [Ir, if_false] at k
  repeat (first | (refine av h ?_; clear h; intro kb M h) | (refine az h ?_; clear h; intro M h) | refine St.to h ?_ | (apply Exists.intro; (repeat apply Exists.intro); refine And.intro rfl ?_) | (refine And.intro ?_ ?_; first | exact rfl | (refine aa (aj h) ?_; (repeat (refine aa (aj h) ?_)); exact ai) | omega) | refine aq ?_ | refine au ?_)
  replace h := cJ h gb hl fM eL
  replace h := bk (a := a) (p := p) (pa := pa) (dr := dr) (gg := gg) (x := x.bD v.g (ay x v.g)) (c9 hl) h b
  rw [ex] at h
  refine gY (b := b) (x := x) h h0 h1 (by omega) ?_
  clear h
  intro M h
  exact ⟨rfl, k _ h.bX⟩
end
end Go.Proofs
namespace Go.Proofs
open Go.AF
set_option maxRecDepth 100000
set_option maxHeartbeats 1000000
attribute [local irreducible] aK cD fH bL aD fx aI aO bj aS bI aV
def uw (x : Wd) (k : Int) : Prop := 0 ≤ k ∧ k < x.aE.length
instance (x : Wd) (k : Int) : Decidable (uw x k) := by unfold uw; infer_instance
def oa (p : bZ) (x : Wd) (k v : Int) : Prop := uw x k ∧ (((dL x.aE k).send v).2.2.1 = true → pC p x ((dL x.aE k).send v).2.1) ∧ ((dL x.aE k).send v).1.Small 1000000
instance (p : bZ) (x : Wd) (k v : Int) : Decidable (oa p x k v) := by unfold oa; infer_instance
def ux (x : Wd) (k : Int) : Prop := uw x k ∧ ((dL x.aE k).recv.2.2.2.2.1 = true → wB x (dL x.aE k).recv.2.2.2.1) ∧ (dL x.aE k).recv.1.Small 1000000
instance (x : Wd) (k : Int) : Decidable (ux x k) := by unfold ux; infer_instance
theorem Er {x : Wd} {k : Int} {c : aX} (h : x.Sm) (hc : c.Small 1000000) : (x.b9 k c).Sm := by
 obtain ⟨s1, s2, s3⟩ := h
 refine ⟨fun d hd => ?_, by simpa [Wd.b9] using s2, s3⟩
 rcases mem_set hd with h | rfl
 ·exact s1 d h
 ·exact hc
section
variable {R : Mem} {L L' : List HP} {M : Mem} {K : Value → Mem → Prop} {Kp : List PanicEntry → Mem → Prop} {pa : PA} {p : bZ} {gg : List GA} {dr : Value} {b : Nat} {x : Wd}
theorem qx {a : WA} {k : Int} {c : aX} (hl : eU gg a x) : eU gg a (x.b9 k c) := by
 obtain ⟨l1, l2, l3, l4⟩ := hl
 exact ⟨l1, l2, by simpa [Wd.b9] using l3, l4⟩
theorem NK {a : WA} {k : Int} (h : Hp R L M) [q : fD bJ L a.cb x.aE L'] (hl : eU gg a x) (hk : uw x k) : ∃ cb, a.cb[k.toNat]? = some cb ∧ x.aE[k.toNat]? = some (dL x.aE k) ∧ Hp R (aB bJ cb (dL x.aE k) :: lD bJ a.cb x.aE k.toNat :: L') M := by
 obtain ⟨l1, l2, l3, l4⟩ := hl
 obtain ⟨k0, k1⟩ := hk
 obtain ⟨cb, hcb⟩ := aQ (l := a.cb) (i := k.toNat) (by omega)
 obtain ⟨y, hy⟩ := aQ (l := x.aE) (i := k.toNat) (by omega)
 have e : dL x.aE k = y := by simp [dL, hy]
 rw [e]
 exact ⟨cb, hcb, hy, h.cY bJ hcb hy⟩
theorem Bp {k v : Int} (h : Hp R L M) [o : vB b L pa p gg dr x L'] (hp : RS ij R pa.k pa.kc p.cases) (hk : oa p x k v) (hs : x.Sm)
  (k1 : ∀ y ok M', x.put p k v = .on (y, ok) → Hp R (aB (bA pa p gg dr) b y :: L') M' → K (.bool ok) M')
  (k2 : ∀ y n M', x.put p k v = .eJ n y → Hp R (aB (bA pa p gg dr) b y :: L') M' → Kp [{ v := .iface 256 (.int .i64 n), recovered := false }] M') :
  ae Tryz.prog 159 #[.pointer (some ⟨b, 0, none⟩), .int .i64 k, .int .i64 v] M K Kp := by
 refine sH ?_
 obtain ⟨hc, hr, H7⟩ := hk
 have hs' := hs
 obtain ⟨s1, s2, s3, s4, s5, s6, s7, s8⟩ := hs'
 have h' := cj h (b := b)
 clear h
 obtain ⟨a, hl, h⟩ := h'
 have hl' := hl
 obtain ⟨l1, l2, l3, l4⟩ := hl'
 have Fi := hc
 obtain ⟨c0, c1⟩ := Fi
 have h' := NK h hl hc
 clear h
 obtain ⟨cb, hcb, xE, h⟩ := h'
 repeat (first | (refine av h ?_; clear h; intro kb M h) | (refine az h ?_; clear h; intro M h) | refine St.to h ?_ | (apply Exists.intro; (repeat apply Exists.intro); refine And.intro rfl ?_) | (refine And.intro ?_ ?_; first | exact rfl | (refine aa (aj h) ?_; (repeat (refine aa (aj h) ?_)); exact ai) | omega) | refine aq ?_ | refine au ?_)
 refine uO h hcb fun q hq => ?_
 have hsc : (dL x.aE k).Small 1000000 := s1 _ (tX c0 c1)
 refine F3 h (hsc.mono (by omega)) ?_
 clear h
 intro M h
 replace h := h.dU bJ cb hcb (by omega)
 unfold Wd.put at k1 k2
 dsimp only at k1 k2
 generalize (dL x.aE k).send v = s at h k1 k2 hr H7
 obtain ⟨c', w, ok, e⟩ := s
 dsimp only [Rq] at h k1 k2 hr H7 ⊢
 refine ⟨w.g, w.cs, w.v, ok, e, rfl, ?_⟩
 repeat (first | (refine av h ?_; clear h; intro kb M h) | (refine az h ?_; clear h; intro M h) | refine St.to h ?_ | (apply Exists.intro; (repeat apply Exists.intro); refine And.intro rfl ?_) | (refine And.intro ?_ ?_; first | exact rfl | (refine aa (aj h) ?_; (repeat (refine aa (aj h) ?_)); exact ai) | omega) | refine aq ?_ | refine au ?_)
 refine aZ.2 ⟨fun Zz => ?_, fun Zz => ?_⟩
 ·rw [if_pos Zz] at k2
  replace h := bk (a := a) (p := p) (pa := pa) (dr := dr) (gg := gg) (x := x.b9 k c') (qx hl) h b
  exact k2 _ _ _ rfl h.bX
 ·rw [if_neg Zz] at k1
  replace h := bk (a := a) (p := p) (pa := pa) (dr := dr) (gg := gg) (x := x.b9 k c') (qx hl) h b
  refine gC.2 ⟨fun ht => ?_, fun ht => ?_⟩
  ·subst ht
   simp only [if_true] at k1
   repeat (first | (refine av h ?_; clear h; intro kb M h) | (refine az h ?_; clear h; intro M h) | refine St.to h ?_ | (apply Exists.intro; (repeat apply Exists.intro); refine And.intro rfl ?_) | (refine And.intro ?_ ?_; first | exact rfl | (refine aa (aj h) ?_; (repeat (refine aa (aj h) ?_)); exact ai) | omega) | refine aq ?_ | refine au ?_)
   refine pW (b := b) (v := w) h hp (show pC p (x.b9 k c') w from hr rfl) (Er hs H7) ?_
   clear h
   intro M h
   exact ⟨rfl, k1 _ _ _ rfl h.bX⟩
  ·subst ht
   simp only [Bool.false_eq_true, if_false] at k1
   exact k1 _ _ _ rfl h.bX
theorem Bq {k : Int} (h : Hp R L M) [o : vB b L pa p gg dr x L'] (hk : ux x k) (hs : x.Sm)
  (k1 : ∀ M', Hp R (aB (bA pa p gg dr) b (x.get k).1 :: L') M' → K (.tuple #[.int .i64 (x.get k).2.1, .int .i64 (x.get k).2.2.1, .bool (x.get k).2.2.2]) M') :
  ae Tryz.prog 160 #[.pointer (some ⟨b, 0, none⟩), .int .i64 k] M K Kp := by
 refine sI ?_
 obtain ⟨hc, hr, H7⟩ := hk
 have hs' := hs
 obtain ⟨s1, s2, s3, s4, s5, s6, s7, s8⟩ := hs'
 have h' := cj h (b := b)
 clear h
 obtain ⟨a, hl, h⟩ := h'
 have hl' := hl
 obtain ⟨l1, l2, l3, l4⟩ := hl'
 have Fi := hc
 obtain ⟨c0, c1⟩ := Fi
 have h' := NK h hl hc
 clear h
 obtain ⟨cb, hcb, xE, h⟩ := h'
 repeat (first | (refine av h ?_; clear h; intro kb M h) | (refine az h ?_; clear h; intro M h) | refine St.to h ?_ | (apply Exists.intro; (repeat apply Exists.intro); refine And.intro rfl ?_) | (refine And.intro ?_ ?_; first | exact rfl | (refine aa (aj h) ?_; (repeat (refine aa (aj h) ?_)); exact ai) | omega) | refine aq ?_ | refine au ?_)
 refine uO h hcb fun q hq => ?_
 have hsc : (dL x.aE k).Small 1000000 := s1 _ (tX c0 c1)
 refine F4 h (hsc.mono (by omega)) ?_
 clear h
 intro M h
 replace h := h.dU bJ cb hcb (by omega)
 unfold Wd.get at k1
 dsimp only at k1
 generalize (dL x.aE k).recv = s at h k1 hr H7
 obtain ⟨c', v, some, w, Is, e⟩ := s
 dsimp only [Rr] at h k1 hr H7 ⊢
 refine ⟨v, some, w.g, w.cs, w.v, Is, e, rfl, ?_⟩
 repeat (first | (refine av h ?_; clear h; intro kb M h) | (refine az h ?_; clear h; intro M h) | refine St.to h ?_ | (apply Exists.intro; (repeat apply Exists.intro); refine And.intro rfl ?_) | (refine And.intro ?_ ?_; first | exact rfl | (refine aa (aj h) ?_; (repeat (refine aa (aj h) ?_)); exact ai) | omega) | refine aq ?_ | refine au ?_)
 replace h := bk (a := a) (p := p) (pa := pa) (dr := dr) (gg := gg) (x := x.b9 k c') (qx hl) h b
 refine gC.2 ⟨fun ht => ?_, fun ht => ?_⟩
 ·subst ht
  simp only [if_true] at k1
  repeat (first | (refine av h ?_; clear h; intro kb M h) | (refine az h ?_; clear h; intro M h) | refine St.to h ?_ | (apply Exists.intro; (repeat apply Exists.intro); refine And.intro rfl ?_) | (refine And.intro ?_ ?_; first | exact rfl | (refine aa (aj h) ?_; (repeat (refine aa (aj h) ?_)); exact ai) | omega) | refine aq ?_ | refine au ?_)
  refine GK (b := b) (v := w) h (show wB (x.b9 k c') w from hr rfl) (Er hs H7) ?_
  clear h
  intro M h
  repeat (first | (refine av h ?_; clear h; intro kb M h) | (refine az h ?_; clear h; intro M h) | refine St.to h ?_ | (apply Exists.intro; (repeat apply Exists.intro); refine And.intro rfl ?_) | (refine And.intro ?_ ?_; first | exact rfl | (refine aa (aj h) ?_; (repeat (refine aa (aj h) ?_)); exact ai) | omega) | refine aq ?_ | refine au ?_)
  refine gC.2 ⟨fun hb => ?_, fun hb => ?_⟩
  ·subst hb
   repeat (first | (refine av h ?_; clear h; intro kb M h) | (refine az h ?_; clear h; intro M h) | refine St.to h ?_ | (apply Exists.intro; (repeat apply Exists.intro); refine And.intro rfl ?_) | (refine And.intro ?_ ?_; first | exact rfl | (refine aa (aj h) ?_; (repeat (refine aa (aj h) ?_)); exact ai) | omega) | refine aq ?_ | refine au ?_)
   exact k1 _ h.bX
  ·subst hb
   exact k1 _ h.bX
 ·subst ht
  simp only [Bool.false_eq_true, if_false] at k1
  repeat (first | (refine av h ?_; clear h; intro kb M h) | (refine az h ?_; clear h; intro M h) | refine St.to h ?_ | (apply Exists.intro; (repeat apply Exists.intro); refine And.intro rfl ?_) | (refine And.intro ?_ ?_; first | exact rfl | (refine aa (aj h) ?_; (repeat (refine aa (aj h) ?_)); exact ai) | omega) | refine aq ?_ | refine au ?_)
  refine gC.2 ⟨fun hb => ?_, fun hb => ?_⟩
  ·subst hb
   repeat (first | (refine av h ?_; clear h; intro kb M h) | (refine az h ?_; clear h; intro M h) | refine St.to h ?_ | (apply Exists.intro; (repeat apply Exists.intro); refine And.intro rfl ?_) | (refine And.intro ?_ ?_; first | exact rfl | (refine aa (aj h) ?_; (repeat (refine aa (aj h) ?_)); exact ai) | omega) | refine aq ?_ | refine au ?_)
   exact k1 _ h.bX
  ·subst hb
   exact k1 _ h.bX
end
end Go.Proofs
namespace Go.Proofs
open Go.AF
def bB (x : Wd) (g q : Int) : Int := (ay x g).top.bS q
def Wd.It (x : Wd) (k g v : Int) : Wd := x.b9 k { dL x.aE k with snd := (dL x.aE k).snd ++ [⟨g, 0, v⟩] }
def Wd.Iu (x : Wd) (k g : Int) : Wd := x.b9 k { dL x.aE k with en := (dL x.aE k).en ++ [⟨g, 0, 0⟩] }
def Wd.send (p : bZ) (x : Wd) (g : Int) (i : cC) : Out Wd := match x.put p i.a (bB x g i.b) with
 | .eJ n y => .eJ n y
 | .dG l y => .dG l y
 | .on (y, true) => .on y
 | .on (y, false) => .on ((y.It i.a g (bB y g i.b)).block g i)
def Wd.recv (x : Wd) (g : Int) (i : cC) : Wd :=
 if (x.get i.a).2.2.2 then ((x.get i.a).1.bz g i.b (x.get i.a).2.1).bz g i.c (x.get i.a).2.2.1
 else ((x.get i.a).1.Iu i.a g).block g i
def dN (p : bZ) (x : Wd) (v : Wt) : Wd := if (ay x v.g).st = 2 then x.received p { v with v := 0 } 0 else x
def Wd.shut (p : bZ) (x : Wd) (i : cC) : Out Wd :=
 let s := (dL x.aE i.a).close
 let y := x.b9 i.a s.1
 if s.2.2.2 ≠ 0 then .eJ (-2) y else if 0 < s.2.2.1.length then .eJ (-1) y else .on (s.2.1.foldl (dN p) y)
def vC (p : bZ) (x : Wd) : List Wt → Prop
 | [] => True
 | v :: l => x.Sm ∧ 0 ≤ v.g ∧ v.g < x.gs.length ∧ ((ay x v.g).st = 2 → pC p x { v with v := 0 }) ∧ vC p (dN p x v) l
instance GL (p : bZ) : ∀ (l : List Wt) (x : Wd), Decidable (vC p x l)
 | [], _ => isTrue trivial
 | v :: l, x => by
  have := GL p l (dN p x v)
  unfold vC; infer_instance
theorem Br {p : bZ} : ∀ {l : List Wt} {x : Wd} {i : Nat} {v : Wt}, vC p x l → l[i]? = some v →
  let y := (l.take i).foldl (dN p) x
  y.Sm ∧ 0 ≤ v.g ∧ v.g < y.gs.length ∧ ((ay y v.g).st = 2 → pC p y { v with v := 0 })
 | [], _, _, _, _, h => by simp at h
 | w :: l, x, 0, v, h, hv => by simp at hv; subst hv; exact ⟨h.1, h.2.1, h.2.2.1, h.2.2.2.1⟩
 | w :: l, x, i + 1, v, h, hv => Br (l := l) h.2.2.2.2 (by simpa using hv)
def Wd.emit (x : Wd) (g : Int) (i : cC) : Out Wd := if x.out.length ≥ 1000 then .eJ (-6) x else .on { x with out := x.out ++ [bB x g i.a] }
def Wd.spawn (x : Wd) (g : Int) (i : cC) : Out Wd := if x.gs.length ≥ 100 then .eJ (-5) x else
 .on ((Wd.eY { x with gs := x.gs ++ [⟨0, [gD.begin i.a (bB x g i.b)], .zero⟩] } (x.gs.length : Int)).bz g i.c (x.gs.length : Int))
def Wd.call (x : Wd) (g : Int) (i : cC) : Out Wd := if (ay x g).fs.length ≥ 16 then .eJ (-4) x else
 .on (x.bD g { ay x g with fs := (ay x g).fs ++ [⟨i.a, 0, [bB x g i.b, 0, 0, 0, 0, 0, 0, 0], i.c⟩] })
def iQ.back (y : iQ) (v : Int) : iQ := { y with fs := (y.fs.take (y.fs.length - 1)).set (y.fs.length - 2) ((y.fs.getD (y.fs.length - 2) ⟨0, 0, [], 0⟩).set y.top.qH v) }
def Wd.back (x : Wd) (g : Int) (i : cC) : Wd := if 2 ≤ (ay x g).fs.length then x.bD g ((ay x g).back (bB x g i.a))
 else if g = 0 then { x.bD g { ay x g with st := 4 } with end_ := 1 } else x.bD g { ay x g with st := 4 }
end Go.Proofs
namespace Go.Proofs
open Go.AF
set_option maxRecDepth 100000
set_option maxHeartbeats 1000000
attribute [local irreducible] aK cD fH bL aD fx aI aO bj aS bI aV
section
variable {R : Mem} {L L' : List HP} {M : Mem} {K : Value → Mem → Prop} {Kp : List PanicEntry → Mem → Prop} {pa : PA} {p : bZ} {gg : List GA} {dr : Value} {b : Nat} {x : Wd}
theorem gG {g : Int} {A : Option Addr} {c : Nat} (h : Hp R L M) [o : vB b L pa p gg dr x L'] (h0 : 0 ≤ g) (hg : g < x.gs.length) (eL : gg[g.toNat]? = some (A, c)) :
  ∃ (a : WA) (gb : Nat), eU gg a x ∧ a.gb[g.toNat]? = some gb ∧
   Hp R (pt gb (pV (ay x g) A c) 182 :: uo A c (ay x g).fs :: pt b (lV pa p dr a x) 164 :: lD fQ a.gb (x.gs.zip gg) g.toNat :: r8 a x L') M := by
 obtain ⟨a, gb, A', c', hl, fM, Yd, h1⟩ := jy h (b := b) h0 hg
 rw [eL] at Yd
 cases Yd
 exact ⟨a, gb, hl, fM, h1⟩
theorem Es {g q : Int} {bs c oo : Nat} {G : Int → Prop} (h : Hp R L M) [o : vB b L pa p gg dr x L'] (hg : bp x g) (eL : gg[g.toNat]? = some (some ⟨bs, 0, none⟩, c)) (hq : bg q) (e : oo = ((ay x g).fs.length - 1) * 11 + 2 + q.toNat)
  (k : G (bB x g q)) : aK (M.ld ⟨bs, oo, none⟩) .i64 G := by
 obtain ⟨h0, h1, h2, h3⟩ := hg
 obtain ⟨a, gb, hl, fM, h4⟩ := gG h (b := b) h0 h1 eL
 exact uq h4 (eo h2) hq e k
theorem lH {g q v : Int} {bs c oo : Nat} {G : Mem → Prop} (h : Hp R L M) [o : vB b L pa p gg dr x L'] (hg : bp x g) (eL : gg[g.toNat]? = some (some ⟨bs, 0, none⟩, c)) (hq : bg q) (e : oo = ((ay x g).fs.length - 1) * 11 + 2 + q.toNat)
  (k : ∀ M', Hp R (aB (bA pa p gg dr) b (x.bz g q v) :: L') M' → G M') : aO M ⟨bs, oo, none⟩ (.int .i64 v) G := by
 obtain ⟨h0, h1, h2, h3⟩ := hg
 obtain ⟨a, gb, hl, fM, h4⟩ := gG h (b := b) h0 h1 eL
 refine vA h4 (eo h2) hq e fun M' h5 => ?_
 replace h5 := cJ h5 gb hl fM eL (by simp)
 exact k M' (bk (a := a) (p := p) (pa := pa) (dr := dr) (gg := gg) (x := x.bz g q v) (c9 hl) h5 b)
theorem RJ {G : Option Addr → Nat → Nat → Prop} (h : Hp R L M) [o : vB b L pa p gg dr x L'] (k1 : ∀ a : WA, eU gg a x → Hp R (pt b (lV pa p dr a x) 164 :: bn fQ a.gb (x.gs.zip gg) :: r8 a x L') M → G a.ac a.cb.length a.cc) : aD (M.ld ⟨b, 0 + 6, none⟩) G := by
 obtain ⟨a, hl, h1⟩ := cj h (b := b)
 exact aR h1 (k1 a hl h1)
def Out.Ok {α : Type} (r : Out α) (k1 : α → Prop) (k2 : Int → Wd → Prop) (k3 : List PanicEntry → Wd → Prop := fun _ _ => True) : Prop := match r with
 | .on y => k1 y
 | .eJ n y => k2 n y
 | .dG l y => k3 l y
def yX (x : Wd) (k : Int) : Prop := uw x k ∧ (dL x.aE k).Small 999999
instance (x : Wd) (k : Int) : Decidable (yX x k) := by unfold yX; infer_instance
def GM (p : bZ) (x : Wd) (g : Int) (i : cC) : Prop := bp x g ∧ bg i.b ∧ oa p x i.a (bB x g i.b) ∧
 match x.put p i.a (bB x g i.b) with
 | .on (y, false) => bp y g ∧ (ay y g).fs.length = (ay x g).fs.length ∧ yX y i.a
 | _ => True
theorem GN {g : Int} {i : cC} {bs c : Nat} (h : Hp R L M) [o : vB b L pa p gg dr x L'] (hp : RS ij R pa.k pa.kc p.cases) (eL : gg[g.toNat]? = some (some ⟨bs, 0, none⟩, c)) (hk : GM p x g i) (hs : x.Sm)
  (k : Out.Ok (x.send p g i) (fun y => ∀ M', Hp R (aB (bA pa p gg dr) b y :: L') M' → K (.tuple #[]) M')
   (fun n y => ∀ M', Hp R (aB (bA pa p gg dr) b y :: L') M' → Kp [{ v := .iface 256 (.int .i64 n), recovered := false }] M')) :
  ae Tryz.prog 165 #[.pointer (some ⟨b, 0, none⟩), .int .i64 g, .pointer (some ⟨bs, ((ay x g).fs.length - 1) * 11, none⟩), .agg #[.int .i64 i.op, .int .i64 i.a, .int .i64 i.b, .int .i64 i.c]] M K Kp := by
 refine qP ?_
 obtain ⟨hg, hb, hput, hw⟩ := hk
 repeat (first | (refine av h ?_; clear h; intro kb M h) | (refine az h ?_; clear h; intro M h) | refine St.to h ?_ | (apply Exists.intro; (repeat apply Exists.intro); refine And.intro rfl ?_) | (refine And.intro ?_ ?_; first | exact rfl | (refine aa (aj h) ?_; (repeat (refine aa (aj h) ?_)); exact ai) | omega) | refine aq ?_ | refine au ?_)
 refine ⟨hb.1, hb.2, Es (b := b) h hg eL hb rfl ?_⟩
 unfold Wd.send at k
 refine Bp (b := b) h hp hput hs ?_ ?_
 ·intro y ok M' e h
  rw [e] at k hw
  cases ok with
  | true =>
   dsimp only at k
   refine mu (au ?_)
   exact k _ h.bX
  | false =>
   dsimp only at k hw
   obtain ⟨Et, hfl, xE, H7⟩ := hw
   refine mu (aq ?_)
   refine RJ h fun a hl h => ?_
   have hl' := hl
   obtain ⟨l1, l2, l3, l4⟩ := hl'
   have Fi := xE
   obtain ⟨c0, c1⟩ := Fi
   have h' := NK h hl xE
   clear h
   obtain ⟨cb, hcb, U8, h⟩ := h'
   repeat (first | (refine av h ?_; clear h; intro kb M h) | (refine az h ?_; clear h; intro M h) | refine St.to h ?_ | (apply Exists.intro; (repeat apply Exists.intro); refine And.intro rfl ?_) | (refine And.intro ?_ ?_; first | exact rfl | (refine aa (aj h) ?_; (repeat (refine aa (aj h) ?_)); exact ai) | omega) | refine aq ?_ | refine au ?_)
   refine uO h hcb fun q hq => ?_
   repeat (first | (refine av h ?_; clear h; intro kb M h) | (refine az h ?_; clear h; intro M h) | refine St.to h ?_ | (apply Exists.intro; (repeat apply Exists.intro); refine And.intro rfl ?_) | (refine And.intro ?_ ?_; first | exact rfl | (refine aa (aj h) ?_; (repeat (refine aa (aj h) ?_)); exact ai) | omega) | refine aq ?_ | refine au ?_)
   refine ⟨hb.1, hb.2, ?_⟩
   have h2 := h.qw bJ cb hcb U8
   have h3 := bk (a := a) (p := p) (pa := pa) (dr := dr) (gg := gg) (x := y) hl h2 b
   refine Es (b := b) h3 Et eL hb (by rw [hfl]) ?_
   clear h2 h3
   refine pz (w := ⟨g, 0, bB y g i.b⟩) h (H7.mono (by omega)) ?_
   clear h
   intro M h
   replace h := h.dU bJ cb hcb (by omega)
   replace h := bk (a := a) (p := p) (pa := pa) (dr := dr) (gg := gg) (x := y.It i.a g (bB y g i.b)) (qx hl) h b
   repeat (first | (refine av h ?_; clear h; intro kb M h) | (refine az h ?_; clear h; intro M h) | refine St.to h ?_ | (apply Exists.intro; (repeat apply Exists.intro); refine And.intro rfl ?_) | (refine And.intro ?_ ?_; first | exact rfl | (refine aa (aj h) ?_; (repeat (refine aa (aj h) ?_)); exact ai) | omega) | refine aq ?_ | refine au ?_)
   refine lG (b := b) (i := i) (x := y.It i.a g (bB y g i.b)) h Et.1 Et.2.1 ?_
   clear h
   intro M h
   exact ⟨rfl, k _ h.bX⟩
 ·intro y n M' e h
  rw [e] at k
  exact k _ h.bX
def vD (x : Wd) (g : Int) (i : cC) : Prop := bp x g ∧ bg i.b ∧ bg i.c ∧ ux x i.a ∧ bp (x.get i.a).1 g ∧ (ay (x.get i.a).1 g).fs.length = (ay x g).fs.length ∧ ((x.get i.a).2.2.2 = false → yX (x.get i.a).1 i.a)
theorem GO {g : Int} {i : cC} {bs c : Nat} (h : Hp R L M) [o : vB b L pa p gg dr x L'] (eL : gg[g.toNat]? = some (some ⟨bs, 0, none⟩, c)) (hk : vD x g i) (hs : x.Sm)
  (k : ∀ M', Hp R (aB (bA pa p gg dr) b (x.recv g i) :: L') M' → K (.tuple #[]) M') :
  ae Tryz.prog 166 #[.pointer (some ⟨b, 0, none⟩), .int .i64 g, .pointer (some ⟨bs, ((ay x g).fs.length - 1) * 11, none⟩), .agg #[.int .i64 i.op, .int .i64 i.a, .int .i64 i.b, .int .i64 i.c]] M K Kp := by
 refine qQ ?_
 obtain ⟨hg, hb, hc, U9, Et, hfl, hw⟩ := hk
 repeat (first | (refine av h ?_; clear h; intro kb M h) | (refine az h ?_; clear h; intro M h) | refine St.to h ?_ | (apply Exists.intro; (repeat apply Exists.intro); refine And.intro rfl ?_) | (refine And.intro ?_ ?_; first | exact rfl | (refine aa (aj h) ?_; (repeat (refine aa (aj h) ?_)); exact ai) | omega) | refine aq ?_ | refine au ?_)
 refine Bq (b := b) h U9 hs ?_
 clear h
 intro M h
 unfold Wd.recv at k
 generalize x.get i.a = r at h k Et hfl hw
 obtain ⟨y, v, sm, ok⟩ := r
 dsimp only at h k Et hfl hw ⊢
 refine ⟨v, sm, ok, rfl, ?_⟩
 cases ok with
 | true =>
  simp only [if_true] at k
  refine au ?_
  repeat (first | (refine av h ?_; clear h; intro kb M h) | (refine az h ?_; clear h; intro M h) | refine St.to h ?_ | (apply Exists.intro; (repeat apply Exists.intro); refine And.intro rfl ?_) | (refine And.intro ?_ ?_; first | exact rfl | (refine aa (aj h) ?_; (repeat (refine aa (aj h) ?_)); exact ai) | omega) | refine aq ?_ | refine au ?_)
  refine ⟨hb.1, hb.2, ?_⟩
  repeat (first | (refine av h ?_; clear h; intro kb M h) | (refine az h ?_; clear h; intro M h) | refine St.to h ?_ | (apply Exists.intro; (repeat apply Exists.intro); refine And.intro rfl ?_) | (refine And.intro ?_ ?_; first | exact rfl | (refine aa (aj h) ?_; (repeat (refine aa (aj h) ?_)); exact ai) | omega) | refine aq ?_ | refine au ?_)
  refine lH (b := b) h Et eL hb (by rw [hfl]) ?_
  clear h
  intro M h
  repeat (first | (refine av h ?_; clear h; intro kb M h) | (refine az h ?_; clear h; intro M h) | refine St.to h ?_ | (apply Exists.intro; (repeat apply Exists.intro); refine And.intro rfl ?_) | (refine And.intro ?_ ?_; first | exact rfl | (refine aa (aj h) ?_; (repeat (refine aa (aj h) ?_)); exact ai) | omega) | refine aq ?_ | refine au ?_)
  have J4 := iH (q := i.b) (v := v) Et
  have DF : (ay (y.bz g i.b v) g).fs.length = (ay x g).fs.length := by rw [iG Et]; simpa [iQ.cH] using hfl
  refine ⟨hc.1, hc.2, lH (b := b) h J4 eL hc (by rw [DF]) ?_⟩
  clear h
  intro M h
  repeat (first | (refine av h ?_; clear h; intro kb M h) | (refine az h ?_; clear h; intro M h) | refine St.to h ?_ | (apply Exists.intro; (repeat apply Exists.intro); refine And.intro rfl ?_) | (refine And.intro ?_ ?_; first | exact rfl | (refine aa (aj h) ?_; (repeat (refine aa (aj h) ?_)); exact ai) | omega) | refine aq ?_ | refine au ?_)
  exact k _ h.bX
 | false =>
  simp only [Bool.false_eq_true, if_false] at k
  refine aq ?_
  obtain ⟨xE, H7⟩ := hw rfl
  refine RJ h fun a hl h => ?_
  have hl' := hl
  obtain ⟨l1, l2, l3, l4⟩ := hl'
  have Fi := xE
  obtain ⟨c0, c1⟩ := Fi
  have h' := NK h hl xE
  clear h
  obtain ⟨cb, hcb, U8, h⟩ := h'
  repeat (first | (refine av h ?_; clear h; intro kb M h) | (refine az h ?_; clear h; intro M h) | refine St.to h ?_ | (apply Exists.intro; (repeat apply Exists.intro); refine And.intro rfl ?_) | (refine And.intro ?_ ?_; first | exact rfl | (refine aa (aj h) ?_; (repeat (refine aa (aj h) ?_)); exact ai) | omega) | refine aq ?_ | refine au ?_)
  refine uO h hcb fun q hq => ?_
  refine pA (w := ⟨g, 0, 0⟩) h (H7.mono (by omega)) ?_
  clear h
  intro M h
  replace h := h.dU bJ cb hcb (by omega)
  replace h := bk (a := a) (p := p) (pa := pa) (dr := dr) (gg := gg) (x := y.Iu i.a g) (qx hl) h b
  repeat (first | (refine av h ?_; clear h; intro kb M h) | (refine az h ?_; clear h; intro M h) | refine St.to h ?_ | (apply Exists.intro; (repeat apply Exists.intro); refine And.intro rfl ?_) | (refine And.intro ?_ ?_; first | exact rfl | (refine aa (aj h) ?_; (repeat (refine aa (aj h) ?_)); exact ai) | omega) | refine aq ?_ | refine au ?_)
  refine lG (b := b) (i := i) (x := y.Iu i.a g) h Et.1 Et.2.1 ?_
  clear h
  intro M h
  exact ⟨rfl, k _ h.bX⟩
theorem GP {g : Int} {i : cC} {bs c : Nat} (h : Hp R L M) [o : vB b L pa p gg dr x L'] (eL : gg[g.toNat]? = some (some ⟨bs, 0, none⟩, c)) (hg : bp x g) (ha : bg i.a) (hs : x.Sm)
  (k : Out.Ok (x.emit g i) (fun y => ∀ M', Hp R (aB (bA pa p gg dr) b y :: L') M' → K (.tuple #[]) M')
   (fun n y => ∀ M', Hp R (aB (bA pa p gg dr) b y :: L') M' → Kp [{ v := .iface 256 (.int .i64 n), recovered := false }] M')) :
  ae Tryz.prog 171 #[.pointer (some ⟨b, 0, none⟩), .int .i64 g, .pointer (some ⟨bs, ((ay x g).fs.length - 1) * 11, none⟩), .agg #[.int .i64 i.op, .int .i64 i.a, .int .i64 i.b, .int .i64 i.c]] M K Kp := by
 refine qT ?_
 obtain ⟨s1, s2, s3, s4, s5, s6, s7, s8⟩ := hs
 have xF := hg
 obtain ⟨h0, h1, h2, h3⟩ := xF
 unfold Wd.emit at k
 refine av h ?_
 clear h
 intro kb M h
 have h' := gG h (b := b) h0 h1 eL
 clear h
 obtain ⟨a, gb, hl, fM, h⟩ := h'
 have hl' := hl
 obtain ⟨l1, l2, l3, l4⟩ := hl'
 have ex : x.bD g (ay x g) = x := by
  obtain ⟨y, hy⟩ := aQ (l := x.gs) (i := g.toNat) (by omega)
  have e : ay x g = y := by simp [ay, hy]
  rw [e]
  obtain ⟨hi, rfl⟩ := List.getElem?_eq_some_iff.1 hy
  simp [Wd.bD]
 repeat (first | (refine av h ?_; clear h; intro kb M h) | (refine az h ?_; clear h; intro M h) | refine St.to h ?_ | (apply Exists.intro; (repeat apply Exists.intro); refine And.intro rfl ?_) | (refine And.intro ?_ ?_; first | exact rfl | (refine aa (aj h) ?_; (repeat (refine aa (aj h) ?_)); exact ai) | omega) | refine aq ?_ | refine au ?_)
 refine aP.2 ⟨fun hn => ?_, fun hn => ?_⟩
 ·rw [if_pos (by omega)] at k
  replace h := cJ h gb hl fM eL
  have kM := c9 (y := ay x g) (g := g) hl
  replace h := bk (a := a) (p := p) (pa := pa) (dr := dr) (gg := gg) (x := x.bD g (ay x g)) kM h b
  rw [ex] at h
  exact k _ h.bX
 ·rw [if_neg (by omega)] at k
  repeat (first | (refine av h ?_; clear h; intro kb M h) | (refine az h ?_; clear h; intro M h) | refine St.to h ?_ | (apply Exists.intro; (repeat apply Exists.intro); refine And.intro rfl ?_) | (refine And.intro ?_ ?_; first | exact rfl | (refine aa (aj h) ?_; (repeat (refine aa (aj h) ?_)); exact ai) | omega) | refine aq ?_ | refine au ?_)
  refine ⟨ha.1, ha.2, uq h (eo h2) ha rfl ?_⟩
  repeat (first | (refine av h ?_; clear h; intro kb M h) | (refine az h ?_; clear h; intro M h) | refine St.to h ?_ | (apply Exists.intro; (repeat apply Exists.intro); refine And.intro rfl ?_) | (refine And.intro ?_ ?_; first | exact rfl | (refine aa (aj h) ?_; (repeat (refine aa (aj h) ?_)); exact ai) | omega) | refine aq ?_ | refine au ?_)
  refine h.bO Cm [bB x g i.a] rfl rfl (by simp; omega) ?_
  clear h
  intro A' c' M h
  repeat (first | (refine av h ?_; clear h; intro kb M h) | (refine az h ?_; clear h; intro M h) | refine St.to h ?_ | (apply Exists.intro; (repeat apply Exists.intro); refine And.intro rfl ?_) | (refine And.intro ?_ ?_; first | exact rfl | (refine aa (aj h) ?_; (repeat (refine aa (aj h) ?_)); exact ai) | omega) | refine aq ?_ | refine au ?_)
  replace h := cJ h gb hl fM eL
  have kM := c9 (y := ay x g) (g := g) hl
  have h5 := bk (a := { a with ao := A', co := c' }) (p := p) (pa := pa) (dr := dr) (gg := gg) (x := { x.bD g (ay x g) with out := x.out ++ [bB x g i.a] }) kM h b
  rw [ex] at h5
  exact k _ h5.bX
end
end Go.Proofs
namespace Go.Proofs
open Go.AF
set_option maxRecDepth 100000
set_option maxHeartbeats 1000000
attribute [local irreducible] aK cD fH bL aD fx aI aO bj aS bI aV
theorem RK : bh Tryz.prog 158 177 1 8 [.pointer none] := bh.mk' (zv := .pointer none) (by kernel_rfl) (by kernel_rfl) rfl (by omega)
section
variable {R : Mem} {L L' : List HP} {M : Mem} {K : Value → Mem → Prop} {Kp : List PanicEntry → Mem → Prop} {pa : PA} {p : bZ} {gg : List GA} {dr : Value} {b : Nat} {x : Wd}
def vE (x : Wd) (fn v : Int) : Wd := { x with gs := x.gs ++ [⟨0, [gD.begin fn v], .zero⟩] }
theorem NL {a : WA} {k bs : Nat} {A' : Option Addr} {c' : Nat} {fn v : Int} (hl : eU gg a x)
  (h : Hp R (pt b (lV pa p dr { a with ag := A', cg := c', gb := a.gb ++ [k] } x) 164 :: yU A' c' (a.gb ++ [k]) :: pt k [.int .i64 0, .slice (some ⟨bs, 0, none⟩) 1 1, .int .i64 0, .int .i64 0, .int .i64 0, .int .i64 0] 182 ::
   uo (some ⟨bs, 0, none⟩) 1 [gD.begin fn v] :: bn fQ a.gb (x.gs.zip gg) :: yV a.ac a.cc a.cb :: bn bJ a.cb x.aE :: yW a.al a.cl a.lb :: bn fL a.lb x.aM :: fV a.ah a.ch x.hl :: yp a.ao a.co x.out :: j6 a.ar a.cr x.ready :: L) M) :
  Hp R (aB (bA pa p (gg ++ [(some ⟨bs, 0, none⟩, 1)]) dr) b (vE x fn v) :: L) M := by
 obtain ⟨l1, l2, l3, l4⟩ := hl
 have h1 := mI h k
 have h2 := h1.ku fQ k (by rw [List.length_zip]; omega)
 have e : x.gs.zip gg ++ [(⟨0, [gD.begin fn v], ⟨0, 0, 0, 0⟩⟩, (some ⟨bs, 0, none⟩, 1))] = (vE x fn v).gs.zip (gg ++ [(some ⟨bs, 0, none⟩, 1)]) := by
  unfold vE
  rw [List.zip_append (by omega)]; rfl
 rw [e] at h2
 exact bk (a := { a with ag := A', cg := c', gb := a.gb ++ [k] }) (p := p) (pa := pa) (dr := dr) (gg := gg ++ [(some ⟨bs, 0, none⟩, 1)]) (x := vE x fn v) ⟨by simp [vE, l1], by simp [vE, l2], l3, l4⟩ h2 b
theorem GQ {g fn v : Int} (hg : bp x g) : ay (vE x fn v) g = ay x g := by
 obtain ⟨h0, h1, h2, h3⟩ := hg
 unfold ay vE
 dsimp only
 rw [List.getD_eq_getElem?_getD, List.getElem?_append_left (by omega), ← List.getD_eq_getElem?_getD]
theorem Eu {g : Int} {i : cC} {bs c : Nat} (h : Hp R L M) [o : vB b L pa p gg dr x L'] (eL : gg[g.toNat]? = some (some ⟨bs, 0, none⟩, c)) (hg : bp x g) (hb : bg i.b) (hc : bg i.c) (hs : x.Sm)
  (k : Out.Ok (x.spawn g i) (fun y => ∀ lI M', Hp R (aB (bA pa p lI dr) b y :: L') M' → K (.tuple #[]) M')
   (fun n y => ∀ M', Hp R (aB (bA pa p gg dr) b y :: L') M' → Kp [{ v := .iface 256 (.int .i64 n), recovered := false }] M')) :
  ae Tryz.prog 163 #[.pointer (some ⟨b, 0, none⟩), .int .i64 g, .pointer (some ⟨bs, ((ay x g).fs.length - 1) * 11, none⟩), .agg #[.int .i64 i.op, .int .i64 i.a, .int .i64 i.b, .int .i64 i.c]] M K Kp := by
 refine pF ?_
 obtain ⟨s1, s2, s3, s4, s5, s6, s7, s8⟩ := hs
 unfold Wd.spawn at k
 refine av h ?_
 clear h
 intro kb M h
 have hC := h
 have h' := cj h (b := b)
 clear h
 obtain ⟨a, hl, h⟩ := h'
 have hl' := hl
 obtain ⟨l1, l2, l3, l4⟩ := hl'
 refine aR h ?_
 refine aP.2 ⟨fun hn => ?_, fun hn => ?_⟩
 ·rw [if_pos (by omega)] at k
  exact k _ (hC.drop.pick o.pick)
 rw [if_neg (by omega)] at k
 refine aR h ?_
 refine ⟨fun vs M => ∃ bs', Hp R (aB (bA pa p (gg ++ [(some ⟨bs', 0, none⟩, 1)]) dr) b (vE x i.a (bB x g i.b)) :: pt kb [.int .i64 i.op, .int .i64 i.a, .int .i64 i.b, .int .i64 i.c] 34 :: L') M, ?_, ?_⟩
 ·repeat (first | (refine av h ?_; clear h; intro kb M h) | (refine az h ?_; clear h; intro M h) | refine St.to h ?_ | (apply Exists.intro; (repeat apply Exists.intro); refine And.intro rfl ?_) | (refine And.intro ?_ ?_; first | exact rfl | (refine aa (aj h) ?_; (repeat (refine aa (aj h) ?_)); exact ai) | omega) | refine aq ?_ | refine au ?_)
  refine ⟨hb.1, hb.2, Es (b := b) hC hg eL hb rfl ?_⟩
  clear hC
  refine ⟨?_, ?_, trivial⟩
  ·repeat (first | (refine av h ?_; clear h; intro kb M h) | (refine az h ?_; clear h; intro M h) | refine St.to h ?_ | (apply Exists.intro; (repeat apply Exists.intro); refine And.intro rfl ?_) | (refine And.intro ?_ ?_; first | exact rfl | (refine aa (aj h) ?_; (repeat (refine aa (aj h) ?_)); exact ai) | omega) | refine aq ?_ | refine au ?_)
   refine pU h ?_
   clear h
   intro bs' M h
   repeat (first | (refine av h ?_; clear h; intro kb M h) | (refine az h ?_; clear h; intro M h) | refine St.to h ?_ | (apply Exists.intro; (repeat apply Exists.intro); refine And.intro rfl ?_) | (refine And.intro ?_ ?_; first | exact rfl | (refine aa (aj h) ?_; (repeat (refine aa (aj h) ?_)); exact ai) | omega) | refine aq ?_ | refine au ?_)
   refine h.bO RK [_] rfl rfl (by simp; omega) ?_
   clear h
   intro A' c' M h
   repeat (first | (refine av h ?_; clear h; intro kb M h) | (refine az h ?_; clear h; intro M h) | refine St.to h ?_ | (apply Exists.intro; (repeat apply Exists.intro); refine And.intro rfl ?_) | (refine And.intro ?_ ?_; first | exact rfl | (refine aa (aj h) ?_; (repeat (refine aa (aj h) ?_)); exact ai) | omega) | refine aq ?_ | refine au ?_)
   exact ⟨bs', NL hl (h.sub (by repeat (first | exact .refl | refine .cons (by repeat (first | exact .here | apply aF.there)) ?_ | apply Sub.drop)))⟩
  ·refine pU h ?_
   clear h
   intro bs' M h
   repeat (first | (refine av h ?_; clear h; intro kb M h) | (refine az h ?_; clear h; intro M h) | refine St.to h ?_ | (apply Exists.intro; (repeat apply Exists.intro); refine And.intro rfl ?_) | (refine And.intro ?_ ?_; first | exact rfl | (refine aa (aj h) ?_; (repeat (refine aa (aj h) ?_)); exact ai) | omega) | refine aq ?_ | refine au ?_)
   refine h.bO RK [_] rfl rfl (by simp; omega) ?_
   clear h
   intro A' c' M h
   repeat (first | (refine av h ?_; clear h; intro kb M h) | (refine az h ?_; clear h; intro M h) | refine St.to h ?_ | (apply Exists.intro; (repeat apply Exists.intro); refine And.intro rfl ?_) | (refine And.intro ?_ ?_; first | exact rfl | (refine aa (aj h) ?_; (repeat (refine aa (aj h) ?_)); exact ai) | omega) | refine aq ?_ | refine au ?_)
   exact ⟨bs', NL hl (h.sub (by repeat (first | exact .refl | refine .cons (by repeat (first | exact .here | apply aF.there)) ?_ | apply Sub.drop)))⟩
 ·clear h hC
  rintro _ M ⟨bs', h⟩
  have hlen : (vE x i.a (bB x g i.b)).gs.length = x.gs.length + 1 := by simp [vE]
  have xX : (x.gs.length : Int) = (a.gb.length : Int) := by omega
  rw [← xX]
  refine gY (b := b) h (by omega) (by omega) (by show x.ready.length ≤ _; omega) ?_
  clear h
  intro M h
  repeat (first | (refine av h ?_; clear h; intro kb M h) | (refine az h ?_; clear h; intro M h) | refine St.to h ?_ | (apply Exists.intro; (repeat apply Exists.intro); refine And.intro rfl ?_) | (refine And.intro ?_ ?_; first | exact rfl | (refine aa (aj h) ?_; (repeat (refine aa (aj h) ?_)); exact ai) | omega) | refine aq ?_ | refine au ?_)
  have J4 : ay ((vE x i.a (bB x g i.b)).eY (x.gs.length : Int)) g = ay x g := by
   rw [← GQ (fn := i.a) (v := bB x g i.b) hg]
   obtain ⟨h0, h1, _⟩ := hg
   have hne : x.gs.length ≠ g.toNat := by omega
   simp [ay, Wd.eY, Wd.bD, List.getElem?_set, hne]
  have hg3 : bp ((vE x i.a (bB x g i.b)).eY (x.gs.length : Int)) g := by
   refine ⟨hg.1, ?_, ?_, ?_⟩
   ·have h1 := hg.2.1
    simp only [Wd.eY, Wd.bD, List.length_set, hlen]; omega
   ·rw [J4]; exact hg.2.2.1
   ·rw [J4]; exact hg.2.2.2
  have Ye : (gg ++ [(some (⟨bs', 0, none⟩ : Addr), 1)])[g.toNat]? = some (some ⟨bs, 0, none⟩, c) := by
   rw [List.getElem?_append_left (by have := hg.2.1; have := hg.1; omega)]; exact eL
  refine ⟨hc.1, hc.2, lH (b := b) h hg3 Ye hc (by rw [J4]) ?_⟩
  clear h
  intro M h
  repeat (first | (refine av h ?_; clear h; intro kb M h) | (refine az h ?_; clear h; intro M h) | refine St.to h ?_ | (apply Exists.intro; (repeat apply Exists.intro); refine And.intro rfl ?_) | (refine And.intro ?_ ?_; first | exact rfl | (refine aa (aj h) ?_; (repeat (refine aa (aj h) ?_)); exact ai) | omega) | refine aq ?_ | refine au ?_)
  exact k _ _ h.bX
end
end Go.Proofs
namespace Go.Proofs
open Go.AF
set_option maxRecDepth 100000
set_option maxHeartbeats 1000000
attribute [local irreducible] aK cD fH bL aD fx aI aO bj aS bI aV
section
variable {R : Mem} {L L' : List HP} {M : Mem} {K : Value → Mem → Prop} {Kp : List PanicEntry → Mem → Prop} {pa : PA} {p : bZ} {gg : List GA} {dr : Value} {b : Nat} {x : Wd}
def nK (p : bZ) (x : Wd) (i : cC) : Prop := uw x i.a ∧ (dL x.aE i.a).en.length ≤ 1000000 ∧
 ((dL x.aE i.a).close.2.2.2 = 0 → (dL x.aE i.a).close.2.2.1 = [] → vC p (x.b9 i.a (dL x.aE i.a).close.1) (dL x.aE i.a).close.2.1)
theorem GR {g : Int} {i : cC} {f : Value} {bf of' : Nat} (h : Hp R L M) [o : vB b L pa p gg dr x L'] (hp : RS ij R pa.k pa.kc p.cases) (hk : nK p x i) (hs : x.Sm)
  (k : Out.Ok (x.shut p i) (fun y => ∀ M', Hp R (aB (bA pa p gg dr) b y :: L') M' → K (.tuple #[]) M')
   (fun n y => ∀ M', Hp R (aB (bA pa p gg dr) b y :: L') M' → Kp [{ v := .iface 256 (.int .i64 n), recovered := false }] M')) :
  ae Tryz.prog 167 #[.pointer (some ⟨b, 0, none⟩), .int .i64 g, .pointer (some ⟨bf, of', none⟩), .agg #[.int .i64 i.op, .int .i64 i.a, .int .i64 i.b, .int .i64 i.c]] M K Kp := by
 refine qR ?_
 obtain ⟨xE, hlen, hsh⟩ := hk
 obtain ⟨s1, s2, s3, s4, s5, s6, s7, s8⟩ := hs
 unfold Wd.shut at k
 dsimp only at k
 refine av h ?_
 clear h
 intro kb M h
 have h' := cj h (b := b)
 clear h
 obtain ⟨a, hl, h⟩ := h'
 have hl' := hl
 obtain ⟨l1, l2, l3, l4⟩ := hl'
 have Fi := xE
 obtain ⟨c0, c1⟩ := Fi
 have h' := NK h hl xE
 clear h
 obtain ⟨cb, hcb, U8, h⟩ := h'
 repeat (first | (refine av h ?_; clear h; intro kb M h) | (refine az h ?_; clear h; intro M h) | refine St.to h ?_ | (apply Exists.intro; (repeat apply Exists.intro); refine And.intro rfl ?_) | (refine And.intro ?_ ?_; first | exact rfl | (refine aa (aj h) ?_; (repeat (refine aa (aj h) ?_)); exact ai) | omega) | refine aq ?_ | refine au ?_)
 refine uO h hcb fun q hq => ?_
 have kf : (dL x.aE i.a).close.2.1.length ≤ 1000000 := by
  unfold aX.close; split <;> simp [hlen]
 refine D0 h ?_
 clear h
 intro A ca B cb' M h
 replace h := h.dU bJ cb hcb (by omega)
 generalize (dL x.aE i.a).close = s at h k hsh kf
 obtain ⟨c', r, sn, e⟩ := s
 dsimp only at h k hsh kf ⊢
 refine ⟨A, _, ca, B, _, cb', e, rfl, ?_⟩
 replace h := bk (a := a) (p := p) (pa := pa) (dr := dr) (gg := gg) (x := x.b9 i.a c') (qx hl) h b
 refine de.2 ⟨fun he => ?_, fun he => ?_⟩
 ·rw [if_pos he] at k
  exact k _ h.bX
 rw [if_neg (by simpa using he)] at k
 refine aP.2 ⟨fun hn => ?_, fun hn => ?_⟩
 ·rw [if_pos (by omega)] at k
  exact k _ h.bX
 rw [if_neg (by omega)] at k
 have Yf : sn = [] := by cases sn with
  | nil => rfl
  | cons _ _ => simp at hn
 have hok := hsh he Yf
 refine ⟨fun d vs M => ∃ (j : Nat), vs = [.int .i64 (j : Int)] ∧ d = r.length - j ∧ j ≤ r.length ∧ Hp R (aB (bA pa p gg dr) b ((r.take j).foldl (dN p) (x.b9 i.a c')) :: tU A ca r :: L') M, ⟨_, 0, rfl, rfl, by omega, h.sub (by repeat (first | exact .refl | refine .cons (by repeat (first | exact .here | apply aF.there)) ?_ | apply Sub.drop))⟩, ?_⟩
 clear h
 rintro d _ nn M ⟨j, wH, hd, hj, h⟩
 simp only [List.cons.injEq, Value.int.injEq, and_true, true_and] at wH
 subst wH
 refine aP.2 ⟨fun hlt => ?_, fun hge => ?_⟩
 ·obtain ⟨w, hw⟩ := aQ (l := r) (i := j) (by omega)
  obtain ⟨t1, t2, t3, t4⟩ := Br hok hw
  have hstep : (r.take (j + 1)).foldl (dN p) (x.b9 i.a c') = dN p ((r.take j).foldl (dN p) (x.b9 i.a c')) w := by
   rw [cq hw, List.foldl_append]; rfl
  generalize (r.take j).foldl (dN p) (x.b9 i.a c') = y at h t1 t3 t4 hstep
  obtain ⟨qa, rfl⟩ := h.bx (A := A) (by omega) (by decide)
  refine ⟨by omega, hlt, br ?_⟩
  simp only [Int.toNat_natCast]
  refine be (Src.at (h.src (A := some ⟨qa, 0, none⟩)) h (i := j) (j := 0) hw rfl (by simp [gH])) ?_
  refine be (Src.at (h.src (A := some ⟨qa, 0, none⟩)) h (i := j) (j := 1) hw rfl (by simp [gH])) ?_
  refine be (Src.at (h.src (A := some ⟨qa, 0, none⟩)) h (i := j) (j := 2) hw rfl (by simp [gH])) ?_
  refine av h ?_
  clear h
  intro kw M h
  refine az h ?_
  clear h; intro M h
  refine az h ?_
  clear h; intro M h
  refine az h ?_
  clear h; intro M h
  have hC := h
  have h' := jy h (b := b) t2 t3
  clear h
  obtain ⟨a2, gb, A2, c2, kM, fM, Ye, h⟩ := h'
  have Va := kM
  obtain ⟨m1, m2, m3, m4⟩ := Va
  repeat (first | (refine av h ?_; clear h; intro kb M h) | (refine az h ?_; clear h; intro M h) | refine St.to h ?_ | (apply Exists.intro; (repeat apply Exists.intro); refine And.intro rfl ?_) | (refine And.intro ?_ ?_; first | exact rfl | (refine aa (aj h) ?_; (repeat (refine aa (aj h) ?_)); exact ai) | omega) | refine aq ?_ | refine au ?_)
  refine uO h fM fun q2 mX => ?_
  repeat (first | (refine av h ?_; clear h; intro kb M h) | (refine az h ?_; clear h; intro M h) | refine St.to h ?_ | (apply Exists.intro; (repeat apply Exists.intro); refine And.intro rfl ?_) | (refine And.intro ?_ ?_; first | exact rfl | (refine aa (aj h) ?_; (repeat (refine aa (aj h) ?_)); exact ai) | omega) | refine aq ?_ | refine au ?_)
  clear h
  have h := hC
  clear hC
  rw [aT (by omega)]
  have hst : dN p y w = if (ay y w.g).st = 2 then y.received p { w with v := 0 } 0 else y := rfl
  rw [hst] at hstep
  refine aZ.2 ⟨fun e2 => ?_, fun e2 => ?_⟩
  ·rw [if_pos e2] at hstep
   refine az h ?_
   clear h; intro M h
   repeat (first | (refine av h ?_; clear h; intro kb M h) | (refine az h ?_; clear h; intro M h) | refine St.to h ?_ | (apply Exists.intro; (repeat apply Exists.intro); refine And.intro rfl ?_) | (refine And.intro ?_ ?_; first | exact rfl | (refine aa (aj h) ?_; (repeat (refine aa (aj h) ?_)); exact ai) | omega) | refine aq ?_ | refine au ?_)
   refine pW (b := b) (v := { w with v := 0 }) h hp (t4 e2) t1 ?_
   clear h; intro M h
   refine ⟨rfl, r.length - (j + 1), by omega, j + 1, rfl, rfl, by omega, ?_⟩
   rw [hstep]
   exact h.bX
  ·rw [if_neg e2] at hstep
   refine ⟨r.length - (j + 1), by omega, j + 1, rfl, rfl, by omega, ?_⟩
   rw [hstep]
   exact h.sub (by repeat (first | exact .refl | refine .cons (by repeat (first | exact .here | apply aF.there)) ?_ | apply Sub.drop))
 ·obtain rfl : j = r.length := by omega
  rw [List.take_length] at h
  exact k _ h.bX
end
end Go.Proofs
namespace Go.Proofs
open Go.AF
set_option maxRecDepth 100000
set_option maxHeartbeats 1000000
attribute [local irreducible] aK cD fH bL aD fx aI aO bj aS bI aV
theorem lJ : bh Tryz.prog 38 3 1 8 [.int .i64 0] := bh.mk' (zv := .int .i64 0) (by kernel_rfl) (by kernel_rfl) rfl (by omega)
structure Rg where
 room : Nat
 l : List Int
def Rg.Ok (x : Rg) (head : Nat) (slots : List Int) : Prop := slots.length = x.room ∧ 0 < x.room ∧ x.room ≤ 1024 ∧ head < x.room ∧ x.l.length ≤ x.room ∧ ∀ i v, x.l[i]? = some v → slots[(head + i) % x.room]? = some v
def eC : tu Rg := ⟨fun b x => exs fun A : Option Addr => exs fun c : Nat => exs fun head : Nat => exs fun slots : List Int =>
 sep [fact (x.Ok head slots), pt b [.slice A x.room c, .int .i64 (head : Int), .int .i64 (x.l.length : Int)] 280, bG bu 3 A c slots]⟩
section
variable {R : Mem} {L L' : List HP} {M : Mem} {K : Value → Mem → Prop} {Kp : List PanicEntry → Mem → Prop} {b : Nat} {x : Rg}
theorem iZ (h : Hp R L M) [o : b7 eC b L x L'] : ∃ A c head slots, x.Ok head slots ∧ Hp R (pt b [.slice A x.room c, .int .i64 (head : Int), .int .i64 (x.l.length : Int)] 280 :: bG bu 3 A c slots :: L') M := by
 have := h.obj eC b
 simpa only [eC, Hp.dQ, Hp.bl, List.cons_append, List.nil_append, Hp.fJ] using this
theorem qy {A : Option Addr} {c head : Nat} {slots : List Int} (ok : x.Ok head slots) (h : Hp R (pt b [.slice A x.room c, .int .i64 (head : Int), .int .i64 (x.l.length : Int)] 280 :: bG bu 3 A c slots :: L) M) : Hp R (aB eC b x :: L) M := by
 refine Hp.wS ?_
 simp only [eC, Hp.dQ, Hp.bl, List.cons_append, List.nil_append, Hp.fJ]
 exact ⟨_, _, _, _, ok, h⟩
def eN (n : Int) : Nat := (min (max n 1) 1024).toNat
theorem Iv (n : Int) : 0 < eN n ∧ eN n ≤ 1024 := by unfold eN; omega
theorem NM {n : Int} (h : Hp R L M) (k : ∀ b M', Hp R (aB eC b ⟨eN n, []⟩ :: L) M' → K (.pointer (some ⟨b, 0, none⟩)) M') : ae Tryz.prog 103 #[.int .i64 n] M K Kp := by
 refine D7 ?_
 have e : (if (1024 : Int) < (if (1 : Int) > n then 1 else n) then 1024 else (if (1 : Int) > n then 1 else n)) = ((eN n : Nat) : Int) := by unfold eN; split <;> split <;> omega
 have bd := Iv n
 rw [e]
 refine h.Ce (E := bu) (a := 0) lJ (by omega) ?_
 clear h
 intro kb M h
 repeat (first | (refine av h ?_; clear h; intro kb M h) | (refine az h ?_; clear h; intro M h) | refine St.to h ?_ | (apply Exists.intro; (repeat apply Exists.intro); refine And.intro rfl ?_) | (refine And.intro ?_ ?_; first | exact rfl | (refine aa (aj h) ?_; (repeat (refine aa (aj h) ?_)); exact ai) | omega) | refine aq ?_ | refine au ?_)
 refine k _ _ (qy (head := 0) (slots := List.replicate (eN n) 0) ⟨by simp, bd.1, bd.2, bd.1, by simp, fun i v hv => by simp at hv⟩ (h.sub (by repeat (first | exact .refl | refine .cons (by repeat (first | exact .here | apply aF.there)) ?_ | apply Sub.drop))))
theorem Bs (h : Hp R L M) [o : b7 eC b L x L'] (k : K (.int .i64 (x.room : Int)) M) : ae Tryz.prog 182 #[.pointer (some ⟨b, 0, none⟩)] M K Kp := by
 refine ug ?_
 have h' := iZ h (b := b)
 clear h
 obtain ⟨A, c, head, slots, ok, h⟩ := h'
 repeat (first | (refine av h ?_; clear h; intro kb M h) | (refine az h ?_; clear h; intro M h) | refine St.to h ?_ | (apply Exists.intro; (repeat apply Exists.intro); refine And.intro rfl ?_) | (refine And.intro ?_ ?_; first | exact rfl | (refine aa (aj h) ?_; (repeat (refine aa (aj h) ?_)); exact ai) | omega) | refine aq ?_ | refine au ?_)
 exact k
theorem uy (h : Hp R L M) [o : b7 eC b L x L'] (k : K (.int .i64 (x.l.length : Int)) M) : ae Tryz.prog 180 #[.pointer (some ⟨b, 0, none⟩)] M K Kp := by
 refine vq ?_
 have h' := iZ h (b := b)
 clear h
 obtain ⟨A, c, head, slots, ok, h⟩ := h'
 repeat (first | (refine av h ?_; clear h; intro kb M h) | (refine az h ?_; clear h; intro M h) | refine St.to h ?_ | (apply Exists.intro; (repeat apply Exists.intro); refine And.intro rfl ?_) | (refine And.intro ?_ ?_; first | exact rfl | (refine aa (aj h) ?_; (repeat (refine aa (aj h) ?_)); exact ai) | omega) | refine aq ?_ | refine au ?_)
 exact k
theorem pe {a b : Nat} : Int.tmod (a : Int) (b : Int) = ((a % b : Nat) : Int) := rfl
theorem qz {v : Int} (h : Hp R L M) [o : b7 eC b L x L'] (k1 : x.l.length = x.room → ∀ M', Hp R (aB eC b x :: L') M' → K (.bool false) M') (k2 : x.l.length < x.room → ∀ M', Hp R (aB eC b ⟨x.room, x.l ++ [v]⟩ :: L') M' → K (.bool true) M') :
  ae Tryz.prog 183 #[.pointer (some ⟨b, 0, none⟩), .int .i64 v] M K Kp := by
 refine uh ?_
 have h' := iZ h (b := b)
 clear h
 obtain ⟨A, c, head, slots, ok, h⟩ := h'
 have Yg := ok
 obtain ⟨h1, h2, h3, h4, h5, h6⟩ := Yg
 repeat (first | (refine av h ?_; clear h; intro kb M h) | (refine az h ?_; clear h; intro M h) | refine St.to h ?_ | (apply Exists.intro; (repeat apply Exists.intro); refine And.intro rfl ?_) | (refine And.intro ?_ ?_; first | exact rfl | (refine aa (aj h) ?_; (repeat (refine aa (aj h) ?_)); exact ai) | omega) | refine aq ?_ | refine au ?_)
 refine aZ.2 ⟨fun e => ?_, fun e => ?_⟩
 ·exact k1 (by omega) _ (qy ok h)
 ·have hlt : x.l.length < x.room := by omega
  repeat (first | (refine av h ?_; clear h; intro kb M h) | (refine az h ?_; clear h; intro M h) | refine St.to h ?_ | (apply Exists.intro; (repeat apply Exists.intro); refine And.intro rfl ?_) | (refine And.intro ?_ ?_; first | exact rfl | (refine aa (aj h) ?_; (repeat (refine aa (aj h) ?_)); exact ai) | omega) | refine aq ?_ | refine au ?_)
  have e1 : IntKind.wrap .i64 ((head : Int) + (x.l.length : Int)) = ((head + x.l.length : Nat) : Int) := wn (by simp) (by omega)
  rw [e1, pe]
  have hm := Nat.mod_lt (head + x.l.length) h2
  obtain ⟨b2, rfl⟩ := h.bx (A := A) (by omega) (by decide)
  obtain ⟨w, hw⟩ := aQ (l := slots) (i := (head + x.l.length) % x.room) (by omega)
  repeat (first | (refine av h ?_; clear h; intro kb M h) | (refine az h ?_; clear h; intro M h) | refine St.to h ?_ | (apply Exists.intro; (repeat apply Exists.intro); refine And.intro rfl ?_) | (refine And.intro ?_ ?_; first | exact rfl | (refine aa (aj h) ?_; (repeat (refine aa (aj h) ?_)); exact ai) | omega) | refine aq ?_ | refine au ?_)
  simp only [Int.toNat_natCast]
  refine iB (a' := v) ((head + x.l.length) % x.room) 0 h hw (by decide) rfl (by simp [bu]) ?_
  clear h; intro M h
  repeat (first | (refine av h ?_; clear h; intro kb M h) | (refine az h ?_; clear h; intro M h) | refine St.to h ?_ | (apply Exists.intro; (repeat apply Exists.intro); refine And.intro rfl ?_) | (refine And.intro ?_ ?_; first | exact rfl | (refine aa (aj h) ?_; (repeat (refine aa (aj h) ?_)); exact ai) | omega) | refine aq ?_ | refine au ?_)
  have e2 : IntKind.wrap .i64 ((x.l.length : Int) + 1) = ((x.l.length + 1 : Nat) : Int) := aT (by omega)
  rw [e2] at h
  refine k2 hlt _ (qy (x := ⟨x.room, x.l ++ [v]⟩) (head := head) (slots := slots.set ((head + x.l.length) % x.room) v) ⟨by simpa using h1, h2, h3, h4, by simp; omega, fun i u hu => ?_⟩ (by simpa using h.sub (by repeat (first | exact .refl | refine .cons (by repeat (first | exact .here | apply aF.there)) ?_ | apply Sub.drop))))
  dsimp only at hu ⊢
  rcases Nat.lt_or_ge i x.l.length with hi | hi
  ·rw [List.getElem?_append_left hi] at hu
   have hne : (head + i) % x.room ≠ (head + x.l.length) % x.room := by
    intro he
    have a1 : (head + i) % x.room = if head + i < x.room then head + i else head + i - x.room := by
     split
     ·exact Nat.mod_eq_of_lt (by omega)
     ·rw [Nat.mod_eq_sub_mod (by omega)]; exact Nat.mod_eq_of_lt (by omega)
    have a2 : (head + x.l.length) % x.room = if head + x.l.length < x.room then head + x.l.length else head + x.l.length - x.room := by
     split
     ·exact Nat.mod_eq_of_lt (by omega)
     ·rw [Nat.mod_eq_sub_mod (by omega)]; exact Nat.mod_eq_of_lt (by omega)
    rw [a1, a2] at he
    split at he <;> split at he <;> omega
   rw [List.getElem?_set_ne (Ne.symm hne)]
   exact h6 i u hu
  ·rw [List.getElem?_append_right hi] at hu
   have : i = x.l.length := by
    have := (List.getElem?_eq_some_iff.1 hu).1
    simp at this; omega
   subst this
   simp at hu; subst hu
   rw [List.getElem?_set_self (by omega)]
theorem Ew (h : Hp R L M) [o : b7 eC b L x L'] (k1 : x.l = [] → ∀ M', Hp R (aB eC b x :: L') M' → K (.tuple #[.int .i64 0, .bool false]) M')
  (k2 : ∀ v l, x.l = v :: l → ∀ M', Hp R (aB eC b ⟨x.room, l⟩ :: L') M' → K (.tuple #[.int .i64 v, .bool true]) M') :
  ae Tryz.prog 176 #[.pointer (some ⟨b, 0, none⟩)] M K Kp := by
 refine vp ?_
 have h' := iZ h (b := b)
 clear h
 obtain ⟨A, c, head, slots, ok, h⟩ := h'
 have Yg := ok
 obtain ⟨h1, h2, h3, h4, h5, h6⟩ := Yg
 obtain ⟨room, l⟩ := x
 dsimp only at *
 repeat (first | (refine av h ?_; clear h; intro kb M h) | (refine az h ?_; clear h; intro M h) | refine St.to h ?_ | (apply Exists.intro; (repeat apply Exists.intro); refine And.intro rfl ?_) | (refine And.intro ?_ ?_; first | exact rfl | (refine aa (aj h) ?_; (repeat (refine aa (aj h) ?_)); exact ai) | omega) | refine aq ?_ | refine au ?_)
 refine aZ.2 ⟨fun e => ?_, fun e => ?_⟩
 ·exact k1 (List.length_eq_zero_iff.1 (by omega)) _ (qy ok h)
 ·cases l with
  | nil => simp at e
  | cons v l =>
  have hv := h6 0 v rfl
  rw [Nat.add_zero, Nat.mod_eq_of_lt h4] at hv
  obtain ⟨b2, rfl⟩ := h.bx (A := A) (by omega) (by decide)
  have s0 := h.src (A := some ⟨b2, 0, none⟩)
  repeat (first | (refine av h ?_; clear h; intro kb M h) | (refine az h ?_; clear h; intro M h) | refine St.to h ?_ | (apply Exists.intro; (repeat apply Exists.intro); refine And.intro rfl ?_) | (refine And.intro ?_ ?_; first | exact rfl | (refine aa (aj h) ?_; (repeat (refine aa (aj h) ?_)); exact ai) | omega) | refine aq ?_ | refine au ?_)
  simp only [Int.toNat_natCast]
  refine be (s0.at h (i := head) (j := 0) hv rfl (by simp [bu])) ?_
  repeat (first | (refine av h ?_; clear h; intro kb M h) | (refine az h ?_; clear h; intro M h) | refine St.to h ?_ | (apply Exists.intro; (repeat apply Exists.intro); refine And.intro rfl ?_) | (refine And.intro ?_ ?_; first | exact rfl | (refine aa (aj h) ?_; (repeat (refine aa (aj h) ?_)); exact ai) | omega) | refine aq ?_ | refine au ?_)
  have e1 : IntKind.wrap .i64 ((head : Int) + 1) = ((head + 1 : Nat) : Int) := aT (by omega)
  rw [e1, pe] at h
  have e2 : IntKind.wrap .i64 ((((v :: l).length : Nat) : Int) - 1) = ((l.length : Nat) : Int) := by rw [ni (by simp only [List.length_cons]; omega) (by simp only [List.length_cons] at h5 ⊢; omega)]; simp
  rw [e2] at h
  have h5' : l.length + 1 ≤ room := by simpa using h5
  refine k2 v l rfl _ (qy (x := ⟨room, l⟩) (head := (head + 1) % room) (slots := slots) ⟨h1, h2, h3, Nat.mod_lt _ h2, by dsimp only; omega, fun i u hu => ?_⟩ (h.sub (by repeat (first | exact .refl | refine .cons (by repeat (first | exact .here | apply aF.there)) ?_ | apply Sub.drop))))
  dsimp only at hu ⊢
  have := h6 (i + 1) u (by simpa using hu)
  rw [Nat.mod_add_mod, ← this]
  congr 2; omega
theorem Bt {n : Int} (h : Hp R L M) [o : b7 eC b L x L'] (k : ∀ A c M', Hp R (bG bu 3 A c (x.l.take n.toNat) :: aB eC b ⟨x.room, x.l.drop n.toNat⟩ :: L') M' → K (.slice A (x.l.take n.toNat).length c) M') :
  ae Tryz.prog 181 #[.pointer (some ⟨b, 0, none⟩), .int .i64 n] M K Kp := by
 replace h := h.front eC b
 have hx : x.l.length ≤ 1024 := by
  obtain ⟨A, c, head, slots, ok, _⟩ := iZ h (b := b)
  have := ok.2.2.1; have := ok.2.2.2.2.1; omega
 refine uf ⟨fun d ws M => ∃ (i : Nat) (A : Option Addr) (c : Nat), ws = [.slice A (x.l.take i).length c] ∧ d = n.toNat - i ∧ i ≤ n.toNat ∧ i ≤ x.l.length ∧
  Hp R (bG bu 3 A c (x.l.take i) :: aB eC b ⟨x.room, x.l.drop i⟩ :: L') M, ⟨_, 0, none, 0, rfl, rfl, by omega, by omega, h.bT _ _⟩, ?_⟩
 clear h
 rintro d _ A n1 c M ⟨i, _, _, he, hd, hi, hil, h⟩
 simp only [List.cons.injEq, Value.slice.injEq, and_true, true_and] at he
 obtain ⟨rfl, rfl, rfl⟩ := he
 have hlen : (x.l.take i).length = i := by rw [List.length_take]; omega
 refine aP.2 ⟨fun hlt => ?_, fun hge => ?_⟩
 ·refine Ew h (fun e M' h' => ?_) fun v l e M' h' => ?_
  ·repeat (first | (refine av h ?_; clear h; intro kb M h) | (refine az h ?_; clear h; intro M h) | refine St.to h ?_ | (apply Exists.intro; (repeat apply Exists.intro); refine And.intro rfl ?_) | (refine And.intro ?_ ?_; first | exact rfl | (refine aa (aj h) ?_; (repeat (refine aa (aj h) ?_)); exact ai) | omega) | refine aq ?_ | refine au ?_)
   have : x.l.length ≤ i := by
    have := congrArg List.length e; simp at this; omega
   rw [List.take_of_length_le this] at h' ⊢
   rw [List.drop_of_length_le this] at h'
   have h1 : x.l.take n.toNat = x.l := List.take_of_length_le (by omega)
   have h2 : x.l.drop n.toNat = [] := List.drop_of_length_le (by omega)
   rw [h1, h2] at k
   exact k _ _ _ h'.swap
  ·clear h
   have h := h'.swap
   clear h'
   dsimp only at e
   have hv : x.l[i]? = some v := by
    have := congrArg (fun l => l[0]?) e
    simpa using this
   have e3 : x.l.drop (i + 1) = l := by
    have := congrArg (List.drop 1) e
    simpa using this
   repeat (first | (refine av h ?_; clear h; intro kb M h) | (refine az h ?_; clear h; intro M h) | refine St.to h ?_ | (apply Exists.intro; (repeat apply Exists.intro); refine And.intro rfl ?_) | (refine And.intro ?_ ?_; first | exact rfl | (refine aa (aj h) ?_; (repeat (refine aa (aj h) ?_)); exact ai) | omega) | refine aq ?_ | refine au ?_)
   refine h.bO lJ [v] rfl rfl (by simp; omega) ?_
   clear h
   intro A' c' M h
   repeat (first | (refine av h ?_; clear h; intro kb M h) | (refine az h ?_; clear h; intro M h) | refine St.to h ?_ | (apply Exists.intro; (repeat apply Exists.intro); refine And.intro rfl ?_) | (refine And.intro ?_ ?_; first | exact rfl | (refine aa (aj h) ?_; (repeat (refine aa (aj h) ?_)); exact ai) | omega) | refine aq ?_ | refine au ?_)
   rw [← cq hv] at h ⊢
   have kM := (List.getElem?_eq_some_iff.1 hv).1
   refine ⟨n.toNat - (i + 1), by omega, i + 1, A', c', rfl, rfl, by omega, by omega, ?_⟩
   rw [e3]; exact h.sub (by repeat (first | exact .refl | refine .cons (by repeat (first | exact .here | apply aF.there)) ?_ | apply Sub.drop))
 ·obtain rfl : i = n.toNat := by omega
  exact k _ _ _ h
theorem J6 (h : Hp R L M) [o : b7 eC b L x L'] (k : ∀ A c M', Hp R (bG bu 3 A c x.l :: aB eC b x :: L') M' → K (.slice A x.l.length c) M') :
  ae Tryz.prog 105 #[.pointer (some ⟨b, 0, none⟩)] M K Kp := by
 refine ue ?_
 have h' := iZ h (b := b)
 clear h
 obtain ⟨A0, c0, head, slots, ok, h⟩ := h'
 have Yg := ok
 obtain ⟨h1, h2, h3, h4, h5, h6⟩ := Yg
 repeat (first | (refine av h ?_; clear h; intro kb M h) | (refine az h ?_; clear h; intro M h) | refine St.to h ?_ | (apply Exists.intro; (repeat apply Exists.intro); refine And.intro rfl ?_) | (refine And.intro ?_ ?_; first | exact rfl | (refine aa (aj h) ?_; (repeat (refine aa (aj h) ?_)); exact ai) | omega) | refine aq ?_ | refine au ?_)
 refine ⟨fun d ws M => ∃ (i : Nat) (A : Option Addr) (c : Nat), ws = [.slice A (x.l.take i).length c, .int .i64 (i : Int)] ∧ d = x.l.length - i ∧ i ≤ x.l.length ∧
  Hp R (bG bu 3 A c (x.l.take i) :: pt b [.slice A0 x.room c0, .int .i64 (head : Int), .int .i64 (x.l.length : Int)] 280 :: bG bu 3 A0 c0 slots :: L') M, ⟨_, 0, none, 0, rfl, rfl, by omega, h.bT _ _⟩, ?_⟩
 clear h
 rintro d _ A n1 c ii M ⟨i, _, _, he, hd, hi, h⟩
 simp only [List.cons.injEq, Value.slice.injEq, Value.int.injEq, and_true, true_and] at he
 obtain ⟨⟨rfl, rfl, rfl⟩, rfl⟩ := he
 refine aP.2 ⟨fun hlt => ?_, fun hge => ?_⟩
 ·obtain ⟨v, hv⟩ := aQ (l := x.l) (i := i) (by omega)
  have hs := h6 i v hv
  have Ey := Nat.mod_lt (head + i) h2
  obtain ⟨b2, rfl⟩ := h.drop.bx (A := A0) (by omega) (by decide)
  have s0 : Src R _ (some ⟨b2, 0, none⟩) (bu.cells slots) := h.src (A := some ⟨b2, 0, none⟩)
  repeat (first | (refine av h ?_; clear h; intro kb M h) | (refine az h ?_; clear h; intro M h) | refine St.to h ?_ | (apply Exists.intro; (repeat apply Exists.intro); refine And.intro rfl ?_) | (refine And.intro ?_ ?_; first | exact rfl | (refine aa (aj h) ?_; (repeat (refine aa (aj h) ?_)); exact ai) | omega) | refine aq ?_ | refine au ?_)
  have e1 : IntKind.wrap .i64 ((head : Int) + (i : Int)) = ((head + i : Nat) : Int) := wn (by simp) (by omega)
  rw [e1, pe]
  repeat (first | (refine av h ?_; clear h; intro kb M h) | (refine az h ?_; clear h; intro M h) | refine St.to h ?_ | (apply Exists.intro; (repeat apply Exists.intro); refine And.intro rfl ?_) | (refine And.intro ?_ ?_; first | exact rfl | (refine aa (aj h) ?_; (repeat (refine aa (aj h) ?_)); exact ai) | omega) | refine aq ?_ | refine au ?_)
  simp only [Int.toNat_natCast]
  refine be (s0.at h (i := (head + i) % x.room) (j := 0) hs rfl (by simp [bu])) ?_
  repeat (first | (refine av h ?_; clear h; intro kb M h) | (refine az h ?_; clear h; intro M h) | refine St.to h ?_ | (apply Exists.intro; (repeat apply Exists.intro); refine And.intro rfl ?_) | (refine And.intro ?_ ?_; first | exact rfl | (refine aa (aj h) ?_; (repeat (refine aa (aj h) ?_)); exact ai) | omega) | refine aq ?_ | refine au ?_)
  refine h.bO lJ [v] rfl rfl (by simp; omega) ?_
  clear h
  intro A' c' M h
  repeat (first | (refine av h ?_; clear h; intro kb M h) | (refine az h ?_; clear h; intro M h) | refine St.to h ?_ | (apply Exists.intro; (repeat apply Exists.intro); refine And.intro rfl ?_) | (refine And.intro ?_ ?_; first | exact rfl | (refine aa (aj h) ?_; (repeat (refine aa (aj h) ?_)); exact ai) | omega) | refine aq ?_ | refine au ?_)
  rw [aT (by omega), ← cq hv] at *
  exact ⟨x.l.length - (i + 1), by omega, i + 1, A', c', rfl, rfl, by omega, h⟩
 ·obtain rfl : i = x.l.length := by omega
  rw [List.take_length] at h ⊢
  refine k _ _ _ ?_
  have h7 := h.swap
  refine (qy (x := x) ok (h7.sub (by repeat (first | exact .refl | refine .cons (by repeat (first | exact .here | apply aF.there)) ?_ | apply Sub.drop)))).swap.sub (by repeat (first | exact .refl | refine .cons (by repeat (first | exact .here | apply aF.there)) ?_ | apply Sub.drop))
end
end Go.Proofs
namespace Go.Proofs
open Go.AF
set_option maxRecDepth 100000
set_option maxHeartbeats 1000000
attribute [local irreducible] aK cD fH bL aD fx aI aO bj aS bI aV
structure Loc where
 next : Int
 room : Nat
 l : List Int
def Loc.put (x : Loc) (v : Int) (g : List Int) : Loc × List Int × Nat :=
 if x.l.length < x.room then ({ x with l := x.l ++ [v] }, g, 0) else ({ x with l := x.l.drop (x.l.length / 2) }, g ++ (x.l.take (x.l.length / 2) ++ [v]), x.l.length / 2 + 1)
def Loc.ready (x : Loc) (v : Int) (g : List Int) : Loc × List Int × Nat := if x.next = -1 then ({ x with next := v }, g, 0) else ({ x with next := v } : Loc).put x.next g
def Loc.get (x : Loc) : Loc × Int := if x.next ≠ -1 then ({ x with next := -1 }, x.next) else match x.l with
 | [] => (x, -1)
 | v :: l => ({ x with l := l }, v)
def Loc.fW (x : Loc) (g : List Int) : Loc × List Int × Nat := if x.next = -1 then (x, g, 0) else ({ x with next := -1 } : Loc).put x.next g
def Loc.dw (x : Loc) (g : List Int) (p : Int) : Nat := if p < 1 then 1 else min (g.length / p.toNat + 1) (x.room - x.l.length + 1)
def Loc.ee (x : Loc) (g : List Int) (p : Int) : Loc × List Int × Int := match g.take (x.dw g p) with
 | [] => (x, g, -1)
 | v :: out => ({ x with l := x.l ++ out }, g.drop (x.dw g p), v)
def Loc.gM (x f : Loc) : Nat := min (f.l.length - f.l.length / 2) (x.room - x.l.length + 1)
def Loc.dh (x f : Loc) : Loc × Loc × Int := match f.l.take (x.gM f) with
 | [] => (x, { f with next := -1 }, f.next)
 | v :: out => ({ x with l := x.l ++ out }, { f with l := f.l.drop (x.gM f) }, v)
def Loc.Ok (x : Loc) : Prop := x.l.length ≤ x.room ∧ x.room ≤ 1024 ∧ 0 < x.room
def bK : tu Loc := ⟨fun b x => exs fun rb : Nat => sep [pt b [.int .i64 x.next, .pointer (some ⟨rb, 0, none⟩)] 224, aB eC rb ⟨x.room, x.l⟩]⟩
structure P8 (gb go : Nat) (P : Option Addr → Nat → Nat → HP) : Prop where
 Fp : ∀ (R : Mem) (L : List HP) (M : Mem) (A : Option Addr) (n c : Nat), Hp R (P A n c :: L) M → M.ld ⟨gb, go, none⟩ = some (.slice A n c)
 Yh : ∀ (R : Mem) (L : List HP) (M : Mem) (A A' : Option Addr) (n c n' c' : Nat) (G : Mem → Prop), Hp R (P A n c :: L) M → (∀ M', Hp R (P A' n' c' :: L) M' → G M') → aO M ⟨gb, go, none⟩ (.slice A' n' c') G
def fO (P : Option Addr → Nat → Nat → HP) (l : List Int) : HP := exs fun A : Option Addr => exs fun c : Nat => sep [P A l.length c, bG bu 3 A c l]
class rO (P : Option Addr → Nat → Nat → HP) (L : List HP) (g : outParam (List Int)) (L' : outParam (List HP)) : Prop where
 pick : aF L (fO P g) L'
instance rO.here {P : Option Addr → Nat → Nat → HP} {g : List Int} {L : List HP} : rO P (fO P g :: L) g L := ⟨.here⟩
instance (priority := low) rO.there {P : Option Addr → Nat → Nat → HP} {g : List Int} {Q : HP} {L L' : List HP} [h : rO P L g L'] : rO P (Q :: L) g (Q :: L') := ⟨.there h.pick⟩
section
variable {R : Mem} {L L' nm : List HP} {M : Mem} {K : Value → Mem → Prop} {Kp : List PanicEntry → Mem → Prop} {b gb go b' : Nat} {P : Option Addr → Nat → Nat → HP} {x f : Loc} {g : List Int}
theorem gT (h : Hp R L M) [o : b7 bK b L x L'] : ∃ rb, Hp R (pt b [.int .i64 x.next, .pointer (some ⟨rb, 0, none⟩)] 224 :: aB eC rb ⟨x.room, x.l⟩ :: L') M := by
 have := h.obj bK b
 simpa only [bK, Hp.dQ, Hp.bl, List.cons_append, List.nil_append] using this
theorem Vb {rb : Nat} (h : Hp R (pt b [.int .i64 x.next, .pointer (some ⟨rb, 0, none⟩)] 224 :: aB eC rb ⟨x.room, x.l⟩ :: L) M) : Hp R (aB bK b x :: L) M := by
 refine Hp.wS ?_
 simp only [bK, Hp.dQ, Hp.bl, List.cons_append, List.nil_append]
 exact ⟨_, h⟩
theorem cu {next : Int} {rb room : Nat} {l : List Int} {L1 L2 : List HP} (h : Hp R L M) (b : Nat) [p : jE b L [.int .i64 next, .pointer (some ⟨rb, 0, none⟩)] 224 L1] [o : b7 eC rb L1 ⟨room, l⟩ L2] : Hp R (aB bK b ⟨next, room, l⟩ :: L2) M :=
 Vb (h.sub (.cons p.pick (.cons o.pick .refl)))
theorem iI (h : Hp R L M) [o : rO P L g L'] : ∃ A c, Hp R (P A g.length c :: bG bu 3 A c g :: L') M := by
 have := h.pick o.pick
 simpa only [fO, Hp.dQ, Hp.bl, List.cons_append, List.nil_append] using this
theorem Ez {A : Option Addr} {c n : Nat} (h : Hp R (P A n c :: bG bu 3 A c g :: L) M) (e : n = g.length := by first | rfl | simp) : Hp R (fO P g :: L) M := by
 subst e
 simp only [fO, Hp.dQ, Hp.bl, List.cons_append, List.nil_append]
 exact ⟨_, _, h⟩
theorem P9 {rb : Nat} {r : Rg} (h : Hp R L M) [o : b7 eC rb L r L'] : r.l.length ≤ r.room ∧ r.room ≤ 1024 ∧ 0 < r.room := by
 obtain ⟨A, c, head, slots, ok, _⟩ := iZ h (b := rb)
 exact ⟨ok.2.2.2.2.1, ok.2.2.1, ok.2.1⟩
theorem vF (h : Hp R L M) [o : b7 bK b L x L'] : x.Ok := by
 obtain ⟨rb, h2⟩ := gT h (b := b)
 exact P9 (rb := rb) h2
theorem Bu {room : Int} (h : Hp R L M) (k : ∀ b M', Hp R (aB bK b ⟨-1, eN room, []⟩ :: L) M' → K (.pointer (some ⟨b, 0, none⟩)) M') : ae Tryz.prog 52 #[.int .i64 room] M K Kp := by
 refine Cv ?_
 refine NM h ?_
 clear h
 intro rb M h
 repeat (first | (refine av h ?_; clear h; intro kb M h) | (refine az h ?_; clear h; intro M h) | refine St.to h ?_ | (apply Exists.intro; (repeat apply Exists.intro); refine And.intro rfl ?_) | (refine And.intro ?_ ?_; first | exact rfl | (refine aa (aj h) ?_; (repeat (refine aa (aj h) ?_)); exact ai) | omega) | refine aq ?_ | refine au ?_)
 exact k _ _ (cu h kb)
theorem yY (h : Hp R L M) [o : b7 bK b L x L'] (k : K (.int .i64 x.next) M) : ae Tryz.prog 58 #[.pointer (some ⟨b, 0, none⟩)] M K Kp := by
 refine rj ?_
 have h' := gT h (b := b)
 clear h
 obtain ⟨rb, h⟩ := h'
 repeat (first | (refine av h ?_; clear h; intro kb M h) | (refine az h ?_; clear h; intro M h) | refine St.to h ?_ | (apply Exists.intro; (repeat apply Exists.intro); refine And.intro rfl ?_) | (refine And.intro ?_ ?_; first | exact rfl | (refine aa (aj h) ?_; (repeat (refine aa (aj h) ?_)); exact ai) | omega) | refine aq ?_ | refine au ?_)
 exact k
theorem GS (h : Hp R L M) [o : b7 bK b L x L'] (k : ∀ A c M', Hp R (bG bu 3 A c x.l :: aB bK b x :: L') M' → K (.slice A x.l.length c) M') : ae Tryz.prog 59 #[.pointer (some ⟨b, 0, none⟩)] M K Kp := by
 refine rm ?_
 have h' := gT h (b := b)
 clear h
 obtain ⟨rb, h⟩ := h'
 repeat (first | (refine av h ?_; clear h; intro kb M h) | (refine az h ?_; clear h; intro M h) | refine St.to h ?_ | (apply Exists.intro; (repeat apply Exists.intro); refine And.intro rfl ?_) | (refine And.intro ?_ ?_; first | exact rfl | (refine aa (aj h) ?_; (repeat (refine aa (aj h) ?_)); exact ai) | omega) | refine aq ?_ | refine au ?_)
 refine J6 h ?_
 clear h
 intro A c M h
 repeat (first | (refine av h ?_; clear h; intro kb M h) | (refine az h ?_; clear h; intro M h) | refine St.to h ?_ | (apply Exists.intro; (repeat apply Exists.intro); refine And.intro rfl ?_) | (refine And.intro ?_ ?_; first | exact rfl | (refine aa (aj h) ?_; (repeat (refine aa (aj h) ?_)); exact ai) | omega) | refine aq ?_ | refine au ?_)
 exact k _ _ _ ((cu h b).sub (by repeat (first | exact .refl | refine .cons (by repeat (first | exact .here | apply aF.there)) ?_ | apply Sub.drop)))
theorem GU (D : P8 gb go P) (h : Hp R L M) [o : rO P L g L'] (k : K (.int .i64 (g.length : Int)) M) : ae Tryz.prog 217 #[.pointer (some ⟨gb, go, none⟩)] M K Kp := by
 refine ry ?_
 have h' := iI h (P := P)
 clear h
 obtain ⟨A, c, h⟩ := h'
 rw [D.Fp _ _ _ _ _ _ h]
 exact aY k
theorem EA (D : P8 gb go P) (h : Hp R L M) [o : rO P L g L'] (hs : g.length ≤ 1000000000) (k : ∀ A c M', Hp R (bG bu 3 A c g :: fO P g :: L') M' → K (.slice A g.length c) M') : ae Tryz.prog 62 #[.pointer (some ⟨gb, go, none⟩)] M K Kp := by
 refine pJ ?_
 have h' := iI h (P := P)
 clear h
 obtain ⟨A, c, h⟩ := h'
 refine av h ?_
 clear h; intro kb M h
 rw [D.Fp _ _ _ _ _ _ h.swap]
 refine aY ?_
 refine h.jX bu lJ g (h.src (A := A)) rfl (by omega) ?_
 clear h
 intro A' c' M h
 refine aY ?_
 exact k _ _ _ (((h.pick (.there .here)).pick (.there (.there .here)) |> fun h => Ez (P := P) (h.sub (show Sub _ (P A g.length c :: bG bu 3 A c g :: bG bu 3 A' c' g :: L') from (by repeat (first | exact .refl | refine .cons (by repeat (first | exact .here | apply aF.there)) ?_ | apply Sub.drop))))).swap)
theorem nL (D : P8 gb go P) {B : Option Addr} {n c : Nat} {l : List Int} (h : Hp R L M) [o : rO P L g L'] (hB : Src R L' B (bu.cells l)) (hn : n = l.length) (hs : g.length + l.length ≤ 1000000000) (k : ∀ M', Hp R (fO P (g ++ l) :: L') M' → K (.tuple #[]) M') :
  ae Tryz.prog 53 #[.pointer (some ⟨gb, go, none⟩), .slice B n c] M K Kp := by
 refine ri ?_
 have h' := iI h (P := P)
 clear h
 obtain ⟨A, cg, h⟩ := h'
 rw [D.Fp _ _ _ _ _ _ h]
 refine aY ?_
 refine h.Ju (A := A) (r := l) lJ hB.cons.cons hn (by omega) ?_
 clear h
 intro A' c' M h
 refine aY ?_
 refine D.Yh _ _ _ _ _ _ _ _ _ _ h.swap ?_
 clear h; intro M h
 exact k _ (Ez h)
theorem pX (D : P8 gb go P) {n : Int} (h : Hp R L M) [o : rO P L g L'] (hs : g.length ≤ 1000000000) (k : ∀ A c M', Hp R (bG bu 3 A c (g.take n.toNat) :: fO P (g.drop n.toNat) :: L') M' → K (.slice A (g.take n.toNat).length c) M') :
  ae Tryz.prog 178 #[.pointer (some ⟨gb, go, none⟩), .int .i64 n] M K Kp := by
 refine pL ?_
 have h' := iI h (P := P)
 clear h
 obtain ⟨A, cg, h⟩ := h'
 have hcap := h.jF A
 have e : (if ((g.length : Nat) : Int) < (if (0 : Int) > n then 0 else n) then ((g.length : Nat) : Int) else (if (0 : Int) > n then 0 else n)) = ((min n.toNat g.length : Nat) : Int) := by split <;> split <;> omega
 have hq : g.take n.toNat = g.take (min n.toNat g.length) ∧ g.drop n.toNat = g.drop (min n.toNat g.length) := by
  rcases Nat.le_total n.toNat g.length with hl | hl
  ·rw [Nat.min_eq_left hl]; exact ⟨rfl, rfl⟩
  ·rw [Nat.min_eq_right hl, List.take_of_length_le hl, List.drop_of_length_le hl]; simp
 rw [hq.1, hq.2] at k
 have hql : min n.toNat g.length ≤ g.length := Nat.min_le_right ..
 rw [D.Fp _ _ _ _ _ _ h]
 refine aY ?_
 rw [e]
 generalize min n.toNat g.length = q at *
 have el : (g.take q).length = q := by rw [List.length_take]; omega
 refine av h ?_
 clear h; intro kb M h
 rw [D.Fp _ _ _ _ _ _ h.swap]
 refine aY ?_
 simp only [Int.toNat_natCast, Nat.sub_zero]
 refine ⟨by omega, by omega, by omega, by omega, by omega, by omega, ?_⟩
 refine h.jX bu lJ (g.take q) (Src.pre1 (h.src (A := A)) hcap q) (by rw [el]) (by rw [el]; omega) ?_
 clear h
 intro A' c' M h
 refine aY ?_
 refine av h ?_
 clear h; intro kb2 M h
 replace h : Hp R (P A g.length cg :: bG bu 3 A cg g :: pt kb2 [] 3 :: bG bu 3 A' c' (g.take q) :: L') M := h.sub (by repeat (first | exact .refl | refine .cons (by repeat (first | exact .here | apply aF.there)) ?_ | apply Sub.drop))
 rw [D.Fp _ _ _ _ _ _ h]
 refine aY ?_
 refine ⟨by omega, by omega, by omega, by omega, by omega, by omega, ?_⟩
 refine h.jX bu lJ (g.drop q) (Src.P5 (h.src (A := A)) hcap q) (by rw [List.length_drop]) (by rw [List.length_drop]; omega) ?_
 clear h
 intro A2 c2 M h
 refine aY ?_
 replace h : Hp R (P A g.length cg :: bG bu 3 A2 c2 (g.drop q) :: bG bu 3 A' c' (g.take q) :: L') M := h.sub (by repeat (first | exact .refl | refine .cons (by repeat (first | exact .here | apply aF.there)) ?_ | apply Sub.drop))
 refine D.Yh _ _ _ _ _ _ _ _ _ _ h ?_
 clear h; intro M h
 rw [← el]
 rw [el]
 exact k _ _ _ ((Ez (P := P) h).swap)
theorem Bv (D : P8 gb go P) {v : Int} (h : Hp R L M) [o : b7 bK b L x L'] [og : rO P L' g nm] (hs : g.length ≤ 100000000)
  (k : ∀ M', Hp R (aB bK b (x.put v g).1 :: fO P (x.put v g).2.1 :: nm) M' → K (.int .i64 ((x.put v g).2.2 : Int)) M') :
  ae Tryz.prog 184 #[.pointer (some ⟨b, 0, none⟩), .int .i64 v, .pointer (some ⟨gb, go, none⟩)] M K Kp := by
 have bd := vF h (b := b)
 have h0 : Hp R (aB bK b x :: fO P g :: nm) M := (h.pick o.pick).map fun _ hs => hs.tail (fun _ => bW.pick og.pick)
 clear h
 have h := h0
 clear h0
 refine sR ?_
 have h' := gT h (b := b)
 clear h
 obtain ⟨rb, h⟩ := h'
 repeat (first | (refine av h ?_; clear h; intro kb M h) | (refine az h ?_; clear h; intro M h) | refine St.to h ?_ | (apply Exists.intro; (repeat apply Exists.intro); refine And.intro rfl ?_) | (refine And.intro ?_ ?_; first | exact rfl | (refine aa (aj h) ?_; (repeat (refine aa (aj h) ?_)); exact ai) | omega) | refine aq ?_ | refine au ?_)
 refine qz h (fun e M' h' => ?_) fun e M' h' => ?_
 ·clear h
  have h := h'
  clear h'
  dsimp only at e
  have hp : x.put v g = ({ x with l := x.l.drop (x.l.length / 2) }, g ++ (x.l.take (x.l.length / 2) ++ [v]), x.l.length / 2 + 1) := by unfold Loc.put; rw [if_neg (by omega)]
  rw [hp] at k
  repeat (first | (refine av h ?_; clear h; intro kb M h) | (refine az h ?_; clear h; intro M h) | refine St.to h ?_ | (apply Exists.intro; (repeat apply Exists.intro); refine And.intro rfl ?_) | (refine And.intro ?_ ?_; first | exact rfl | (refine aa (aj h) ?_; (repeat (refine aa (aj h) ?_)); exact ai) | omega) | refine aq ?_ | refine au ?_)
  refine uy h ?_
  repeat (first | (refine av h ?_; clear h; intro kb M h) | (refine az h ?_; clear h; intro M h) | refine St.to h ?_ | (apply Exists.intro; (repeat apply Exists.intro); refine And.intro rfl ?_) | (refine And.intro ?_ ?_; first | exact rfl | (refine aa (aj h) ?_; (repeat (refine aa (aj h) ?_)); exact ai) | omega) | refine aq ?_ | refine au ?_)
  have e2 : IntKind.wrap .i64 (Int.tdiv (x.l.length : Int) 2) = ((x.l.length / 2 : Nat) : Int) := wn rfl (by have := bd.1; have := bd.2.1; omega)
  simp only [e2]
  refine Bt h ?_
  clear h
  intro A c M h
  simp only [Int.toNat_natCast] at h ⊢
  repeat (first | (refine av h ?_; clear h; intro kb M h) | (refine az h ?_; clear h; intro M h) | refine St.to h ?_ | (apply Exists.intro; (repeat apply Exists.intro); refine And.intro rfl ?_) | (refine And.intro ?_ ?_; first | exact rfl | (refine aa (aj h) ?_; (repeat (refine aa (aj h) ?_)); exact ai) | omega) | refine aq ?_ | refine au ?_)
  have ZF : (x.l.take (x.l.length / 2)).length = x.l.length / 2 := by rw [List.length_take]; omega
  refine h.bO lJ [v] rfl rfl (by have := bd.2.1; have := bd.1; simp; omega) ?_
  clear h
  intro A' c' M h
  repeat (first | (refine av h ?_; clear h; intro kb M h) | (refine az h ?_; clear h; intro M h) | refine St.to h ?_ | (apply Exists.intro; (repeat apply Exists.intro); refine And.intro rfl ?_) | (refine And.intro ?_ ?_; first | exact rfl | (refine aa (aj h) ?_; (repeat (refine aa (aj h) ?_)); exact ai) | omega) | refine aq ?_ | refine au ?_)
  replace h := h.sub (show Sub _ (fO P g :: bG bu 3 A' c' (x.l.take (x.l.length / 2) ++ [v]) :: aB eC rb ⟨x.room, x.l.drop (x.l.length / 2)⟩ :: pt b [.int .i64 x.next, .pointer (some ⟨rb, 0, none⟩)] 224 :: nm) from (by repeat (first | exact .refl | refine .cons (by repeat (first | exact .here | apply aF.there)) ?_ | apply Sub.drop)))
  refine nL D h Src.row rfl (by have := bd.2.1; have := bd.1; simp; omega) ?_
  clear h
  intro M h
  repeat (first | (refine av h ?_; clear h; intro kb M h) | (refine az h ?_; clear h; intro M h) | refine St.to h ?_ | (apply Exists.intro; (repeat apply Exists.intro); refine And.intro rfl ?_) | (refine And.intro ?_ ?_; first | exact rfl | (refine aa (aj h) ?_; (repeat (refine aa (aj h) ?_)); exact ai) | omega) | refine aq ?_ | refine au ?_)
  have e3 : (((x.l.take (x.l.length / 2) ++ [v]).length : Nat) : Int) = ((x.l.length / 2 + 1 : Nat) : Int) := by simp; omega
  rw [e3]
  exact k _ ((cu h b).sub (by repeat (first | exact .refl | refine .cons (by repeat (first | exact .here | apply aF.there)) ?_ | apply Sub.drop)))
 ·clear h
  have h := h'
  clear h'
  dsimp only at e
  have hp : x.put v g = ({ x with l := x.l ++ [v] }, g, 0) := by unfold Loc.put; rw [if_pos e]
  rw [hp] at k
  repeat (first | (refine av h ?_; clear h; intro kb M h) | (refine az h ?_; clear h; intro M h) | refine St.to h ?_ | (apply Exists.intro; (repeat apply Exists.intro); refine And.intro rfl ?_) | (refine And.intro ?_ ?_; first | exact rfl | (refine aa (aj h) ?_; (repeat (refine aa (aj h) ?_)); exact ai) | omega) | refine aq ?_ | refine au ?_)
  exact k _ ((cu h b).sub (by repeat (first | exact .refl | refine .cons (by repeat (first | exact .here | apply aF.there)) ?_ | apply Sub.drop)))
theorem CL (h : Hp R L M) [o : b7 bK b L x L'] [og : rO P L' g nm] : Hp R (aB bK b x :: fO P g :: nm) M := (h.pick o.pick).map fun _ hs => hs.tail (fun _ => bW.pick og.pick)
theorem EB (D : P8 gb go P) {v : Int} (h : Hp R L M) [o : b7 bK b L x L'] [og : rO P L' g nm] (hs : g.length ≤ 100000000)
  (k : ∀ M', Hp R (aB bK b (x.ready v g).1 :: fO P (x.ready v g).2.1 :: nm) M' → K (.int .i64 ((x.ready v g).2.2 : Int)) M') :
  ae Tryz.prog 134 #[.pointer (some ⟨b, 0, none⟩), .int .i64 v, .pointer (some ⟨gb, go, none⟩)] M K Kp := by
 replace h := CL (P := P) h (b := b)
 refine pK ?_
 have h' := gT h (b := b)
 clear h
 obtain ⟨rb, h⟩ := h'
 repeat (first | (refine av h ?_; clear h; intro kb M h) | (refine az h ?_; clear h; intro M h) | refine St.to h ?_ | (apply Exists.intro; (repeat apply Exists.intro); refine And.intro rfl ?_) | (refine And.intro ?_ ?_; first | exact rfl | (refine aa (aj h) ?_; (repeat (refine aa (aj h) ?_)); exact ai) | omega) | refine aq ?_ | refine au ?_)
 refine aZ.2 ⟨fun e => ?_, fun e => ?_⟩
 ·have hp : x.ready v g = ({ x with next := v }, g, 0) := by unfold Loc.ready; rw [if_pos e]
  rw [hp] at k
  repeat (first | (refine av h ?_; clear h; intro kb M h) | (refine az h ?_; clear h; intro M h) | refine St.to h ?_ | (apply Exists.intro; (repeat apply Exists.intro); refine And.intro rfl ?_) | (refine And.intro ?_ ?_; first | exact rfl | (refine aa (aj h) ?_; (repeat (refine aa (aj h) ?_)); exact ai) | omega) | refine aq ?_ | refine au ?_)
  exact k _ ((cu h b).sub (by repeat (first | exact .refl | refine .cons (by repeat (first | exact .here | apply aF.there)) ?_ | apply Sub.drop)))
 ·have hp : x.ready v g = ({ x with next := v } : Loc).put x.next g := by unfold Loc.ready; rw [if_neg e]
  rw [hp] at k
  replace h := cu h b
  refine Bv D h hs ?_
  clear h
  intro M h
  repeat (first | (refine av h ?_; clear h; intro kb M h) | (refine az h ?_; clear h; intro M h) | refine St.to h ?_ | (apply Exists.intro; (repeat apply Exists.intro); refine And.intro rfl ?_) | (refine And.intro ?_ ?_; first | exact rfl | (refine aa (aj h) ?_; (repeat (refine aa (aj h) ?_)); exact ai) | omega) | refine aq ?_ | refine au ?_)
  exact k _ h
theorem GV (D : P8 gb go P) (h : Hp R L M) [o : b7 bK b L x L'] [og : rO P L' g nm] (hs : g.length ≤ 100000000)
  (k : ∀ M', Hp R (aB bK b (x.fW g).1 :: fO P (x.fW g).2.1 :: nm) M' → K (.int .i64 ((x.fW g).2.2 : Int)) M') :
  ae Tryz.prog 177 #[.pointer (some ⟨b, 0, none⟩), .pointer (some ⟨gb, go, none⟩)] M K Kp := by
 replace h := CL (P := P) h (b := b)
 refine ru ?_
 have h' := gT h (b := b)
 clear h
 obtain ⟨rb, h⟩ := h'
 repeat (first | (refine av h ?_; clear h; intro kb M h) | (refine az h ?_; clear h; intro M h) | refine St.to h ?_ | (apply Exists.intro; (repeat apply Exists.intro); refine And.intro rfl ?_) | (refine And.intro ?_ ?_; first | exact rfl | (refine aa (aj h) ?_; (repeat (refine aa (aj h) ?_)); exact ai) | omega) | refine aq ?_ | refine au ?_)
 refine aZ.2 ⟨fun e => ?_, fun e => ?_⟩
 ·have hp : x.fW g = (x, g, 0) := by unfold Loc.fW; rw [if_pos e]
  rw [hp] at k
  exact k _ ((cu h b).sub (by repeat (first | exact .refl | refine .cons (by repeat (first | exact .here | apply aF.there)) ?_ | apply Sub.drop)))
 ·have hp : x.fW g = ({ x with next := -1 } : Loc).put x.next g := by unfold Loc.fW; rw [if_neg e]
  rw [hp] at k
  repeat (first | (refine av h ?_; clear h; intro kb M h) | (refine az h ?_; clear h; intro M h) | refine St.to h ?_ | (apply Exists.intro; (repeat apply Exists.intro); refine And.intro rfl ?_) | (refine And.intro ?_ ?_; first | exact rfl | (refine aa (aj h) ?_; (repeat (refine aa (aj h) ?_)); exact ai) | omega) | refine aq ?_ | refine au ?_)
  replace h := cu h b
  refine Bv D h hs ?_
  clear h
  intro M h
  repeat (first | (refine av h ?_; clear h; intro kb M h) | (refine az h ?_; clear h; intro M h) | refine St.to h ?_ | (apply Exists.intro; (repeat apply Exists.intro); refine And.intro rfl ?_) | (refine And.intro ?_ ?_; first | exact rfl | (refine aa (aj h) ?_; (repeat (refine aa (aj h) ?_)); exact ai) | omega) | refine aq ?_ | refine au ?_)
  exact k _ h
theorem Bw (h : Hp R L M) [o : b7 bK b L x L']
  (k : ∀ t M', (x.get.2 = -1 → x.next = -1 → x.l = [] → t = false) → (x.next ≠ -1 ∨ x.l ≠ [] → t = true) → Hp R (aB bK b x.get.1 :: L') M' → K (.tuple #[.int .i64 x.get.2, .bool t]) M') :
  ae Tryz.prog 131 #[.pointer (some ⟨b, 0, none⟩)] M K Kp := by
 refine sQ ?_
 have h' := gT h (b := b)
 clear h
 obtain ⟨rb, h⟩ := h'
 obtain ⟨next, room, l⟩ := x
 dsimp only at h
 repeat (first | (refine av h ?_; clear h; intro kb M h) | (refine az h ?_; clear h; intro M h) | refine St.to h ?_ | (apply Exists.intro; (repeat apply Exists.intro); refine And.intro rfl ?_) | (refine And.intro ?_ ?_; first | exact rfl | (refine aa (aj h) ?_; (repeat (refine aa (aj h) ?_)); exact ai) | omega) | refine aq ?_ | refine au ?_)
 refine de.2 ⟨fun e => ?_, fun e => ?_⟩
 ·have hp : (Loc.mk next room l).get = (⟨-1, room, l⟩, next) := by unfold Loc.get; dsimp only; rw [if_pos e]
  rw [hp] at k
  repeat (first | (refine av h ?_; clear h; intro kb M h) | (refine az h ?_; clear h; intro M h) | refine St.to h ?_ | (apply Exists.intro; (repeat apply Exists.intro); refine And.intro rfl ?_) | (refine And.intro ?_ ?_; first | exact rfl | (refine aa (aj h) ?_; (repeat (refine aa (aj h) ?_)); exact ai) | omega) | refine aq ?_ | refine au ?_)
  exact k true _ (fun _ h2 => absurd h2 e) (fun _ => rfl) ((cu h b).sub (by repeat (first | exact .refl | refine .cons (by repeat (first | exact .here | apply aF.there)) ?_ | apply Sub.drop)))
 ·repeat (first | (refine av h ?_; clear h; intro kb M h) | (refine az h ?_; clear h; intro M h) | refine St.to h ?_ | (apply Exists.intro; (repeat apply Exists.intro); refine And.intro rfl ?_) | (refine And.intro ?_ ?_; first | exact rfl | (refine aa (aj h) ?_; (repeat (refine aa (aj h) ?_)); exact ai) | omega) | refine aq ?_ | refine au ?_)
  refine Ew h (fun e2 M' h' => ?_) fun v l2 e2 M' h' => ?_
  ·dsimp only at e2
   subst e2
   have hp : (Loc.mk next room []).get = (⟨next, room, []⟩, -1) := by unfold Loc.get; dsimp only; rw [if_neg (by simpa using e)]
   rw [hp] at k
   repeat (first | (refine av h ?_; clear h; intro kb M h) | (refine az h ?_; clear h; intro M h) | refine St.to h ?_ | (apply Exists.intro; (repeat apply Exists.intro); refine And.intro rfl ?_) | (refine And.intro ?_ ?_; first | exact rfl | (refine aa (aj h) ?_; (repeat (refine aa (aj h) ?_)); exact ai) | omega) | refine aq ?_ | refine au ?_)
   exact k false _ (fun _ _ _ => rfl) (fun hx => by rcases hx with hx | hx; exact absurd e hx; exact absurd rfl hx) ((cu h' b).sub (by repeat (first | exact .refl | refine .cons (by repeat (first | exact .here | apply aF.there)) ?_ | apply Sub.drop)))
  ·dsimp only at e2
   subst e2
   have hp : (Loc.mk next room (v :: l2)).get = (⟨next, room, l2⟩, v) := by unfold Loc.get; dsimp only; rw [if_neg (by simpa using e)]
   rw [hp] at k
   repeat (first | (refine av h ?_; clear h; intro kb M h) | (refine az h ?_; clear h; intro M h) | refine St.to h ?_ | (apply Exists.intro; (repeat apply Exists.intro); refine And.intro rfl ?_) | (refine And.intro ?_ ?_; first | exact rfl | (refine aa (aj h) ?_; (repeat (refine aa (aj h) ?_)); exact ai) | omega) | refine aq ?_ | refine au ?_)
   exact k true _ (fun _ _ hx => by simp at hx) (fun _ => rfl) ((cu h' b).sub (by repeat (first | exact .refl | refine .cons (by repeat (first | exact .here | apply aF.there)) ?_ | apply Sub.drop)))
end
end Go.Proofs
namespace Go.Proofs
open Go.AF
set_option maxRecDepth 100000
set_option maxHeartbeats 1000000
attribute [local irreducible] aK cD fH bL aD fx aI aO bj aS bI aV
section
variable {R : Mem} {L L' nm : List HP} {M : Mem} {K : Value → Mem → Prop} {Kp : List PanicEntry → Mem → Prop} {b gb go b' : Nat} {P : Option Addr → Nat → Nat → HP} {x f : Loc} {g : List Int}
theorem Vc {b b' T T' : Nat} {cs cs' : List Value} (h : Hp R (pt b cs T :: L) M) [p : jE b' L cs' T' L'] : b ≠ b' := by
 rintro rfl
 have h2 : Hp R (pt b cs T :: pt b cs' T' :: L') M := h.map fun _ hs => hs.tail fun _ => bW.pick p.pick
 obtain ⟨B, rfl, h1, X, Y, rfl, h2, hp, X2, Y2, rfl, h3, ZG, hs⟩ := h2
 unfold AF.pt at hp ZG
 rcases h2 b with h | h
 ·rw [hp] at h; cases h
 ·rw [Mem.union_left ZG] at h; cases h
theorem Vd {a : Addr} {b : Nat} {G : Bool → Prop} (hne : a.block ≠ b) (h1 : kF M a.block) (h2 : kF M b) (g : G false) : ptrEq M (some a) (some ⟨b, 0, none⟩) G :=
 ⟨fun e => absurd (by rw [e]) hne, fun _ => ⟨.inr ⟨h1, h2⟩, g⟩⟩
theorem EC {b T : Nat} {cs : List Value} (h : Hp R L M) [p : jE b L cs T L'] : kF M b := ⟨_, _, (h.pick p.pick).yc⟩
theorem ED (D : P8 gb go P) {p : Int} (h : Hp R L M) [o : b7 bK b L x L'] [og : rO P L' g nm] (hs : g.length ≤ 100000000) (hp9 : p < 9223372036854775808)
  (k : ∀ t M', ((x.ee g p).2.2 = -1 → g = [] → t = false) → (g ≠ [] → t = true) → Hp R (aB bK b (x.ee g p).1 :: fO P (x.ee g p).2.1 :: nm) M' → K (.tuple #[.int .i64 (x.ee g p).2.2, .bool t]) M') :
  ae Tryz.prog 179 #[.pointer (some ⟨b, 0, none⟩), .pointer (some ⟨gb, go, none⟩), .int .i64 p] M K Kp := by
 have bd := vF h (b := b)
 obtain ⟨bd1, bd2, bd3⟩ := bd
 replace h := CL (P := P) h (b := b)
 refine pM ?_
 have h' := gT h (b := b)
 clear h
 obtain ⟨rb, h⟩ := h'
 repeat (first | (refine av h ?_; clear h; intro kb M h) | (refine az h ?_; clear h; intro M h) | refine St.to h ?_ | (apply Exists.intro; (repeat apply Exists.intro); refine And.intro rfl ?_) | (refine And.intro ?_ ?_; first | exact rfl | (refine aa (aj h) ?_; (repeat (refine aa (aj h) ?_)); exact ai) | omega) | refine aq ?_ | refine au ?_)
 refine GU D h ?_
 repeat (first | (refine av h ?_; clear h; intro kb M h) | (refine az h ?_; clear h; intro M h) | refine St.to h ?_ | (apply Exists.intro; (repeat apply Exists.intro); refine And.intro rfl ?_) | (refine And.intro ?_ ?_; first | exact rfl | (refine aa (aj h) ?_; (repeat (refine aa (aj h) ?_)); exact ai) | omega) | refine aq ?_ | refine au ?_)
 refine Bs h ?_
 repeat (first | (refine av h ?_; clear h; intro kb M h) | (refine az h ?_; clear h; intro M h) | refine St.to h ?_ | (apply Exists.intro; (repeat apply Exists.intro); refine And.intro rfl ?_) | (refine And.intro ?_ ?_; first | exact rfl | (refine aa (aj h) ?_; (repeat (refine aa (aj h) ?_)); exact ai) | omega) | refine aq ?_ | refine au ?_)
 refine uy h ?_
 repeat (first | (refine av h ?_; clear h; intro kb M h) | (refine az h ?_; clear h; intro M h) | refine St.to h ?_ | (apply Exists.intro; (repeat apply Exists.intro); refine And.intro rfl ?_) | (refine And.intro ?_ ?_; first | exact rfl | (refine aa (aj h) ?_; (repeat (refine aa (aj h) ?_)); exact ai) | omega) | refine aq ?_ | refine au ?_)
 dsimp only at *
 have hn0 : 1 ≤ x.dw g p := by unfold Loc.dw; generalize g.length / p.toNat = q; split <;> omega
 have Qa : x.l.length + (x.dw g p - 1) ≤ x.room := by unfold Loc.dw; generalize g.length / p.toNat = q; split <;> omega
 have key : ∀ n : Int, n.toNat = x.dw g p → ∀ {Q : Prop}, Q → Q := fun _ _ _ q => q
 refine aP.2 ⟨fun Qb => ?_, fun Qb => ?_⟩
 ·have hn : (1 : Int).toNat = x.dw g p := by unfold Loc.dw; rw [if_pos Qb]; rfl
  refine pX D h (by omega) ?_
  clear h
  intro A c M h
  rw [hn] at h ⊢
  repeat (first | (refine av h ?_; clear h; intro kb M h) | (refine az h ?_; clear h; intro M h) | refine St.to h ?_ | (apply Exists.intro; (repeat apply Exists.intro); refine And.intro rfl ?_) | (refine And.intro ?_ ?_; first | exact rfl | (refine aa (aj h) ?_; (repeat (refine aa (aj h) ?_)); exact ai) | omega) | refine aq ?_ | refine au ?_)
  cases hg : g.take (x.dw g p) with
  | nil =>
   have Ve : g = [] := by
    have := congrArg List.length hg
    rw [List.length_take, List.length_nil] at this
    exact List.length_eq_zero_iff.1 (by omega)
   have hp : x.ee g p = (x, g, -1) := by unfold Loc.ee; rw [hg]
   rw [hp] at k
   refine u9 rfl ?_
   have e3 : g.drop (x.dw g p) = g := by rw [Ve]; simp
   rw [e3] at h
   exact k false _ (fun _ _ => rfl) (fun h1 => absurd Ve h1) ((cu h b).sub (by repeat (first | exact .refl | refine .cons (by repeat (first | exact .here | apply aF.there)) ?_ | apply Sub.drop)))
  | cons v out =>
   have hp : x.ee g p = ({ x with l := x.l ++ out }, g.drop (x.dw g p), v) := by unfold Loc.ee; rw [hg]
   rw [hp] at k
   have VW : out.length + 1 ≤ x.dw g p := by
    have := congrArg List.length hg
    rw [List.length_take, List.length_cons] at this
    omega
   refine FT (by simp; omega) ?_
   rw [hg] at h
   generalize g.drop (x.dw g p) = g2 at *
   have Yi : g ≠ [] := by rintro rfl; simp at hg
   obtain ⟨A0, RL⟩ : ∃ A0, A0 = lj A 1 c 1 := ⟨_, rfl⟩
   have hcap := h.jF A
   rw [List.length_cons] at hcap
   simp only [Int.toNat_natCast, List.length_cons]
   repeat (first | (refine av h ?_; clear h; intro kb M h) | (refine az h ?_; clear h; intro M h) | refine St.to h ?_ | (apply Exists.intro; (repeat apply Exists.intro); refine And.intro rfl ?_) | (refine And.intro ?_ ?_; first | exact rfl | (refine aa (aj h) ?_; (repeat (refine aa (aj h) ?_)); exact ai) | omega) | refine aq ?_ | refine au ?_)
   refine ⟨fun d ws M => ∃ i : Nat, ws = [.int .i64 (i : Int)] ∧ d = out.length - i ∧ i ≤ out.length ∧
    Hp R (bG bu 3 A c (v :: out) :: pt b [.int .i64 x.next, .pointer (some ⟨rb, 0, none⟩)] 224 :: aB eC rb ⟨x.room, x.l ++ out.take i⟩ :: fO P g2 :: nm) M,
    ⟨_, 0, rfl, rfl, by omega, by rw [List.take_zero, List.append_nil]; exact h.sub (by repeat (first | exact .refl | refine .cons (by repeat (first | exact .here | apply aF.there)) ?_ | apply Sub.drop))⟩, ?_⟩
   clear h
   rintro d _ ii M ⟨i, he, hd, hi, h⟩
   simp only [List.cons.injEq, Value.int.injEq, and_true, true_and] at he
   subst he
   refine aP.2 ⟨fun hlt => ?_, fun hge => ?_⟩
   ·obtain ⟨w, hw⟩ := aQ (l := out) (i := i) (by omega)
    have s0 := Src.P5 (h.src (A := A)) (by rw [List.length_cons]; exact hcap) 1
    rw [← RL] at s0 ⊢
    rw [show (v :: out).drop 1 = out from rfl] at s0
    obtain ⟨b0, o0, rfl⟩ := s0.mw h (by omega) (by decide)
    repeat (first | (refine av h ?_; clear h; intro kb M h) | (refine az h ?_; clear h; intro M h) | refine St.to h ?_ | (apply Exists.intro; (repeat apply Exists.intro); refine And.intro rfl ?_) | (refine And.intro ?_ ?_; first | exact rfl | (refine aa (aj h) ?_; (repeat (refine aa (aj h) ?_)); exact ai) | omega) | refine aq ?_ | refine au ?_)
    simp only [Int.toNat_natCast]
    refine be (s0.at h (i := i) (j := 0) hw rfl (by simp [bu])) ?_
    repeat (first | (refine av h ?_; clear h; intro kb M h) | (refine az h ?_; clear h; intro M h) | refine St.to h ?_ | (apply Exists.intro; (repeat apply Exists.intro); refine And.intro rfl ?_) | (refine And.intro ?_ ?_; first | exact rfl | (refine aa (aj h) ?_; (repeat (refine aa (aj h) ?_)); exact ai) | omega) | refine aq ?_ | refine au ?_)
    refine qz (v := w) h (fun e M' h' => ?_) fun e M' h' => ?_
    ·exfalso
     simp only [List.length_append, List.length_take] at e
     omega
    ·clear h
     have h := h'
     clear h'
     repeat (first | (refine av h ?_; clear h; intro kb M h) | (refine az h ?_; clear h; intro M h) | refine St.to h ?_ | (apply Exists.intro; (repeat apply Exists.intro); refine And.intro rfl ?_) | (refine And.intro ?_ ?_; first | exact rfl | (refine aa (aj h) ?_; (repeat (refine aa (aj h) ?_)); exact ai) | omega) | refine aq ?_ | refine au ?_)
     rw [aT (by omega)]
     refine ⟨out.length - (i + 1), by omega, i + 1, rfl, rfl, by omega, ?_⟩
     rw [cq hw, ← List.append_assoc]
     exact h.sub (by repeat (first | exact .refl | refine .cons (by repeat (first | exact .here | apply aF.there)) ?_ | apply Sub.drop))
   ·obtain rfl : i = out.length := by omega
    rw [List.take_length] at h
    have s0 := h.src (A := A)
    obtain ⟨b0, rfl⟩ := h.bx (A := A) (by simp) (by decide)
    repeat (first | (refine av h ?_; clear h; intro kb M h) | (refine az h ?_; clear h; intro M h) | refine St.to h ?_ | (apply Exists.intro; (repeat apply Exists.intro); refine And.intro rfl ?_) | (refine And.intro ?_ ?_; first | exact rfl | (refine aa (aj h) ?_; (repeat (refine aa (aj h) ?_)); exact ai) | omega) | refine aq ?_ | refine au ?_)
    refine be (s0.at h (i := 0) (j := 0) rfl rfl (by simp [bu])) ?_
    repeat (first | (refine av h ?_; clear h; intro kb M h) | (refine az h ?_; clear h; intro M h) | refine St.to h ?_ | (apply Exists.intro; (repeat apply Exists.intro); refine And.intro rfl ?_) | (refine And.intro ?_ ?_; first | exact rfl | (refine aa (aj h) ?_; (repeat (refine aa (aj h) ?_)); exact ai) | omega) | refine aq ?_ | refine au ?_)
    exact k true _ (fun _ h1 => absurd h1 Yi) (fun _ => rfl) ((cu h b).sub (by repeat (first | exact .refl | refine .cons (by repeat (first | exact .here | apply aF.there)) ?_ | apply Sub.drop)))
 ·have hn : (if IntKind.wrap .i64 (IntKind.wrap .i64 ((x.room : Int) - (x.l.length : Int)) + 1) < IntKind.wrap .i64 (IntKind.wrap .i64 (Int.tdiv (g.length : Int) (if (1 : Int) > p then 1 else p)) + 1) then IntKind.wrap .i64 (IntKind.wrap .i64 ((x.room : Int) - (x.l.length : Int)) + 1) else IntKind.wrap .i64 (IntKind.wrap .i64 (Int.tdiv (g.length : Int) (if (1 : Int) > p then 1 else p)) + 1)).toNat = x.dw g p := by
   obtain ⟨q, rfl⟩ := Int.eq_ofNat_of_zero_le (show 0 ≤ p by omega)
   have e1 : (if (1 : Int) > (q : Int) then 1 else (q : Int)) = (q : Int) := by split <;> omega
   rw [e1]
   have hd : g.length / q ≤ g.length := Nat.div_le_self ..
   have e2 : IntKind.wrap .i64 (Int.tdiv (g.length : Int) (q : Int)) = ((g.length / q : Nat) : Int) := wn rfl (by omega)
   rw [e2, aT (by omega), ni (n := (x.room : Int) - (x.l.length : Int)) (by omega) (by omega), ni (n := (x.room : Int) - (x.l.length : Int) + 1) (by omega) (by omega)]
   unfold Loc.dw
   rw [if_neg Qb, Int.toNat_natCast]
   generalize g.length / q = z at *
   split <;> omega
  revert hn
  generalize (if IntKind.wrap .i64 (IntKind.wrap .i64 ((x.room : Int) - (x.l.length : Int)) + 1) < IntKind.wrap .i64 (IntKind.wrap .i64 (Int.tdiv (g.length : Int) (if (1 : Int) > p then 1 else p)) + 1) then IntKind.wrap .i64 (IntKind.wrap .i64 ((x.room : Int) - (x.l.length : Int)) + 1) else IntKind.wrap .i64 (IntKind.wrap .i64 (Int.tdiv (g.length : Int) (if (1 : Int) > p then 1 else p)) + 1)) = n
  intro hn
  refine pX D h (by omega) ?_
  clear h
  intro A c M h
  rw [hn] at h ⊢
  repeat (first | (refine av h ?_; clear h; intro kb M h) | (refine az h ?_; clear h; intro M h) | refine St.to h ?_ | (apply Exists.intro; (repeat apply Exists.intro); refine And.intro rfl ?_) | (refine And.intro ?_ ?_; first | exact rfl | (refine aa (aj h) ?_; (repeat (refine aa (aj h) ?_)); exact ai) | omega) | refine aq ?_ | refine au ?_)
  cases hg : g.take (x.dw g p) with
  | nil =>
   have Ve : g = [] := by
    have := congrArg List.length hg
    rw [List.length_take, List.length_nil] at this
    exact List.length_eq_zero_iff.1 (by omega)
   have hp : x.ee g p = (x, g, -1) := by unfold Loc.ee; rw [hg]
   rw [hp] at k
   refine u9 rfl ?_
   have e3 : g.drop (x.dw g p) = g := by rw [Ve]; simp
   rw [e3] at h
   exact k false _ (fun _ _ => rfl) (fun h1 => absurd Ve h1) ((cu h b).sub (by repeat (first | exact .refl | refine .cons (by repeat (first | exact .here | apply aF.there)) ?_ | apply Sub.drop)))
  | cons v out =>
   have hp : x.ee g p = ({ x with l := x.l ++ out }, g.drop (x.dw g p), v) := by unfold Loc.ee; rw [hg]
   rw [hp] at k
   have VW : out.length + 1 ≤ x.dw g p := by
    have := congrArg List.length hg
    rw [List.length_take, List.length_cons] at this
    omega
   refine FT (by simp; omega) ?_
   rw [hg] at h
   generalize g.drop (x.dw g p) = g2 at *
   have Yi : g ≠ [] := by rintro rfl; simp at hg
   obtain ⟨A0, RL⟩ : ∃ A0, A0 = lj A 1 c 1 := ⟨_, rfl⟩
   have hcap := h.jF A
   rw [List.length_cons] at hcap
   simp only [Int.toNat_natCast, List.length_cons]
   repeat (first | (refine av h ?_; clear h; intro kb M h) | (refine az h ?_; clear h; intro M h) | refine St.to h ?_ | (apply Exists.intro; (repeat apply Exists.intro); refine And.intro rfl ?_) | (refine And.intro ?_ ?_; first | exact rfl | (refine aa (aj h) ?_; (repeat (refine aa (aj h) ?_)); exact ai) | omega) | refine aq ?_ | refine au ?_)
   refine ⟨fun d ws M => ∃ i : Nat, ws = [.int .i64 (i : Int)] ∧ d = out.length - i ∧ i ≤ out.length ∧
    Hp R (bG bu 3 A c (v :: out) :: pt b [.int .i64 x.next, .pointer (some ⟨rb, 0, none⟩)] 224 :: aB eC rb ⟨x.room, x.l ++ out.take i⟩ :: fO P g2 :: nm) M,
    ⟨_, 0, rfl, rfl, by omega, by rw [List.take_zero, List.append_nil]; exact h.sub (by repeat (first | exact .refl | refine .cons (by repeat (first | exact .here | apply aF.there)) ?_ | apply Sub.drop))⟩, ?_⟩
   clear h
   rintro d _ ii M ⟨i, he, hd, hi, h⟩
   simp only [List.cons.injEq, Value.int.injEq, and_true, true_and] at he
   subst he
   refine aP.2 ⟨fun hlt => ?_, fun hge => ?_⟩
   ·obtain ⟨w, hw⟩ := aQ (l := out) (i := i) (by omega)
    have s0 := Src.P5 (h.src (A := A)) (by rw [List.length_cons]; exact hcap) 1
    rw [← RL] at s0 ⊢
    rw [show (v :: out).drop 1 = out from rfl] at s0
    obtain ⟨b0, o0, rfl⟩ := s0.mw h (by omega) (by decide)
    repeat (first | (refine av h ?_; clear h; intro kb M h) | (refine az h ?_; clear h; intro M h) | refine St.to h ?_ | (apply Exists.intro; (repeat apply Exists.intro); refine And.intro rfl ?_) | (refine And.intro ?_ ?_; first | exact rfl | (refine aa (aj h) ?_; (repeat (refine aa (aj h) ?_)); exact ai) | omega) | refine aq ?_ | refine au ?_)
    simp only [Int.toNat_natCast]
    refine be (s0.at h (i := i) (j := 0) hw rfl (by simp [bu])) ?_
    repeat (first | (refine av h ?_; clear h; intro kb M h) | (refine az h ?_; clear h; intro M h) | refine St.to h ?_ | (apply Exists.intro; (repeat apply Exists.intro); refine And.intro rfl ?_) | (refine And.intro ?_ ?_; first | exact rfl | (refine aa (aj h) ?_; (repeat (refine aa (aj h) ?_)); exact ai) | omega) | refine aq ?_ | refine au ?_)
    refine qz (v := w) h (fun e M' h' => ?_) fun e M' h' => ?_
    ·exfalso
     simp only [List.length_append, List.length_take] at e
     omega
    ·clear h
     have h := h'
     clear h'
     repeat (first | (refine av h ?_; clear h; intro kb M h) | (refine az h ?_; clear h; intro M h) | refine St.to h ?_ | (apply Exists.intro; (repeat apply Exists.intro); refine And.intro rfl ?_) | (refine And.intro ?_ ?_; first | exact rfl | (refine aa (aj h) ?_; (repeat (refine aa (aj h) ?_)); exact ai) | omega) | refine aq ?_ | refine au ?_)
     rw [aT (by omega)]
     refine ⟨out.length - (i + 1), by omega, i + 1, rfl, rfl, by omega, ?_⟩
     rw [cq hw, ← List.append_assoc]
     exact h.sub (by repeat (first | exact .refl | refine .cons (by repeat (first | exact .here | apply aF.there)) ?_ | apply Sub.drop))
   ·obtain rfl : i = out.length := by omega
    rw [List.take_length] at h
    have s0 := h.src (A := A)
    obtain ⟨b0, rfl⟩ := h.bx (A := A) (by simp) (by decide)
    repeat (first | (refine av h ?_; clear h; intro kb M h) | (refine az h ?_; clear h; intro M h) | refine St.to h ?_ | (apply Exists.intro; (repeat apply Exists.intro); refine And.intro rfl ?_) | (refine And.intro ?_ ?_; first | exact rfl | (refine aa (aj h) ?_; (repeat (refine aa (aj h) ?_)); exact ai) | omega) | refine aq ?_ | refine au ?_)
    refine be (s0.at h (i := 0) (j := 0) rfl rfl (by simp [bu])) ?_
    repeat (first | (refine av h ?_; clear h; intro kb M h) | (refine az h ?_; clear h; intro M h) | refine St.to h ?_ | (apply Exists.intro; (repeat apply Exists.intro); refine And.intro rfl ?_) | (refine And.intro ?_ ?_; first | exact rfl | (refine aa (aj h) ?_; (repeat (refine aa (aj h) ?_)); exact ai) | omega) | refine aq ?_ | refine au ?_)
    exact k true _ (fun _ h1 => absurd h1 Yi) (fun _ => rfl) ((cu h b).sub (by repeat (first | exact .refl | refine .cons (by repeat (first | exact .here | apply aF.there)) ?_ | apply Sub.drop)))
theorem EE (h : Hp R L M) [o : b7 bK b L x L'] [of : b7 bK b' L' f nm]
  (k : ∀ t M', ((x.dh f).2.2 = -1 → f.l = [] → t = false) → ((x.dh f).2.2 ≠ -1 ∨ f.l ≠ [] → t = true) → Hp R (aB bK b (x.dh f).1 :: aB bK b' (x.dh f).2.1 :: nm) M' → K (.tuple #[.int .i64 (x.dh f).2.2, .bool t]) M') :
  ae Tryz.prog 133 #[.pointer (some ⟨b, 0, none⟩), .pointer (some ⟨b', 0, none⟩)] M K Kp := by
 have bd := vF h (b := b)
 obtain ⟨bd1, bd2, bd3⟩ := bd
 have h0 : Hp R (aB bK b x :: aB bK b' f :: nm) M := (h.pick o.pick).map fun _ hs => hs.tail (fun _ => bW.pick of.pick)
 clear h
 have h := h0
 clear h0
 have bdf := vF h (b := b')
 obtain ⟨bf1, bf2, bf3⟩ := bdf
 refine jv ?_
 have h' := gT h (b := b)
 clear h
 obtain ⟨rb, h⟩ := h'
 have h' := gT h (b := b')
 clear h
 obtain ⟨rf, h⟩ := h'
 have hne : b' ≠ b := Vc h
 refine Vd (Ne.symm hne) (EC h (b := b)) (EC h (b := b')) ?_
 repeat (first | (refine av h ?_; clear h; intro kb M h) | (refine az h ?_; clear h; intro M h) | refine St.to h ?_ | (apply Exists.intro; (repeat apply Exists.intro); refine And.intro rfl ?_) | (refine And.intro ?_ ?_; first | exact rfl | (refine aa (aj h) ?_; (repeat (refine aa (aj h) ?_)); exact ai) | omega) | refine aq ?_ | refine au ?_)
 refine uy h ?_
 repeat (first | (refine av h ?_; clear h; intro kb M h) | (refine az h ?_; clear h; intro M h) | refine St.to h ?_ | (apply Exists.intro; (repeat apply Exists.intro); refine And.intro rfl ?_) | (refine And.intro ?_ ?_; first | exact rfl | (refine aa (aj h) ?_; (repeat (refine aa (aj h) ?_)); exact ai) | omega) | refine aq ?_ | refine au ?_)
 dsimp only at *
 refine aZ.2 ⟨fun e => ?_, fun e => ?_⟩
 ·have hl : f.l = [] := List.length_eq_zero_iff.1 (by omega)
  have hp : x.dh f = (x, { f with next := -1 }, f.next) := by unfold Loc.dh; rw [hl, List.take_nil]
  rw [hp] at k
  repeat (first | (refine av h ?_; clear h; intro kb M h) | (refine az h ?_; clear h; intro M h) | refine St.to h ?_ | (apply Exists.intro; (repeat apply Exists.intro); refine And.intro rfl ?_) | (refine And.intro ?_ ?_; first | exact rfl | (refine aa (aj h) ?_; (repeat (refine aa (aj h) ?_)); exact ai) | omega) | refine aq ?_ | refine au ?_)
  have h2 := cu (cu h b) b'
  exact k _ _ (fun h1 _ => by dsimp only at h1; rw [h1]; rfl) (fun h1 => by rcases h1 with h1 | h1; exact bne_iff_ne.2 h1; exact absurd hl h1) (h2.sub (by repeat (first | exact .refl | refine .cons (by repeat (first | exact .here | apply aF.there)) ?_ | apply Sub.drop)))
 ·have hn0 : 1 ≤ x.gM f := by unfold Loc.gM; omega
  have Qa : x.l.length + (x.gM f - 1) ≤ x.room := by unfold Loc.gM; omega
  repeat (first | (refine av h ?_; clear h; intro kb M h) | (refine az h ?_; clear h; intro M h) | refine St.to h ?_ | (apply Exists.intro; (repeat apply Exists.intro); refine And.intro rfl ?_) | (refine And.intro ?_ ?_; first | exact rfl | (refine aa (aj h) ?_; (repeat (refine aa (aj h) ?_)); exact ai) | omega) | refine aq ?_ | refine au ?_)
  refine Bs h ?_
  repeat (first | (refine av h ?_; clear h; intro kb M h) | (refine az h ?_; clear h; intro M h) | refine St.to h ?_ | (apply Exists.intro; (repeat apply Exists.intro); refine And.intro rfl ?_) | (refine And.intro ?_ ?_; first | exact rfl | (refine aa (aj h) ?_; (repeat (refine aa (aj h) ?_)); exact ai) | omega) | refine aq ?_ | refine au ?_)
  refine uy h ?_
  repeat (first | (refine av h ?_; clear h; intro kb M h) | (refine az h ?_; clear h; intro M h) | refine St.to h ?_ | (apply Exists.intro; (repeat apply Exists.intro); refine And.intro rfl ?_) | (refine And.intro ?_ ?_; first | exact rfl | (refine aa (aj h) ?_; (repeat (refine aa (aj h) ?_)); exact ai) | omega) | refine aq ?_ | refine au ?_)
  dsimp only at *
  have hn : (if IntKind.wrap .i64 (IntKind.wrap .i64 ((x.room : Int) - (x.l.length : Int)) + 1) < IntKind.wrap .i64 ((f.l.length : Int) - IntKind.wrap .i64 (Int.tdiv (f.l.length : Int) 2)) then IntKind.wrap .i64 (IntKind.wrap .i64 ((x.room : Int) - (x.l.length : Int)) + 1) else IntKind.wrap .i64 ((f.l.length : Int) - IntKind.wrap .i64 (Int.tdiv (f.l.length : Int) 2))).toNat = x.gM f := by
   have e2 : IntKind.wrap .i64 (Int.tdiv (f.l.length : Int) 2) = ((f.l.length / 2 : Nat) : Int) := wn rfl (by omega)
   rw [e2, ni (n := (x.room : Int) - (x.l.length : Int)) (by omega) (by omega), ni (n := (x.room : Int) - (x.l.length : Int) + 1) (by omega) (by omega), ni (n := (f.l.length : Int) - ((f.l.length / 2 : Nat) : Int)) (by omega) (by omega)]
   unfold Loc.gM
   split <;> omega
  revert hn
  generalize (if IntKind.wrap .i64 (IntKind.wrap .i64 ((x.room : Int) - (x.l.length : Int)) + 1) < IntKind.wrap .i64 ((f.l.length : Int) - IntKind.wrap .i64 (Int.tdiv (f.l.length : Int) 2)) then IntKind.wrap .i64 (IntKind.wrap .i64 ((x.room : Int) - (x.l.length : Int)) + 1) else IntKind.wrap .i64 ((f.l.length : Int) - IntKind.wrap .i64 (Int.tdiv (f.l.length : Int) 2))) = n
  intro hn
  refine Bt h ?_
  clear h
  intro A c M h
  rw [hn] at h ⊢
  repeat (first | (refine av h ?_; clear h; intro kb M h) | (refine az h ?_; clear h; intro M h) | refine St.to h ?_ | (apply Exists.intro; (repeat apply Exists.intro); refine And.intro rfl ?_) | (refine And.intro ?_ ?_; first | exact rfl | (refine aa (aj h) ?_; (repeat (refine aa (aj h) ?_)); exact ai) | omega) | refine aq ?_ | refine au ?_)
  cases hg : f.l.take (x.gM f) with
  | nil =>
   exfalso
   have := congrArg List.length hg
   rw [List.length_take, List.length_nil] at this
   omega
  | cons v out =>
   have hp : x.dh f = ({ x with l := x.l ++ out }, { f with l := f.l.drop (x.gM f) }, v) := by unfold Loc.dh; rw [hg]
   rw [hp] at k
   have VW : out.length + 1 ≤ x.gM f := by
    have := congrArg List.length hg
    rw [List.length_take, List.length_cons] at this
    omega
   dsimp only at h
   rw [hg] at h
   generalize f.l.drop (x.gM f) = f2 at *
   have Yi : f.l ≠ [] := by intro e0; rw [e0] at hg; simp at hg
   obtain ⟨A0, RL⟩ : ∃ A0, A0 = lj A 1 c 1 := ⟨_, rfl⟩
   have hcap := h.jF A
   rw [List.length_cons] at hcap
   simp only [Int.toNat_natCast, List.length_cons]
   repeat (first | (refine av h ?_; clear h; intro kb M h) | (refine az h ?_; clear h; intro M h) | refine St.to h ?_ | (apply Exists.intro; (repeat apply Exists.intro); refine And.intro rfl ?_) | (refine And.intro ?_ ?_; first | exact rfl | (refine aa (aj h) ?_; (repeat (refine aa (aj h) ?_)); exact ai) | omega) | refine aq ?_ | refine au ?_)
   refine ⟨fun d ws M => ∃ i : Nat, ws = [.int .i64 (i : Int)] ∧ d = out.length - i ∧ i ≤ out.length ∧
    Hp R (bG bu 3 A c (v :: out) :: pt b [.int .i64 x.next, .pointer (some ⟨rb, 0, none⟩)] 224 :: aB eC rb ⟨x.room, x.l ++ out.take i⟩ :: aB eC rf ⟨f.room, f2⟩ :: pt b' [.int .i64 f.next, .pointer (some ⟨rf, 0, none⟩)] 224 :: nm) M,
    ⟨_, 0, rfl, rfl, by omega, by rw [List.take_zero, List.append_nil]; exact h.sub (by repeat (first | exact .refl | refine .cons (by repeat (first | exact .here | apply aF.there)) ?_ | apply Sub.drop))⟩, ?_⟩
   clear h
   rintro d _ ii M ⟨i, he, hd, hi, h⟩
   simp only [List.cons.injEq, Value.int.injEq, and_true, true_and] at he
   subst he
   refine aP.2 ⟨fun hlt => ?_, fun hge => ?_⟩
   ·obtain ⟨w, hw⟩ := aQ (l := out) (i := i) (by omega)
    have s0 := Src.P5 (h.src (A := A)) (by rw [List.length_cons]; exact hcap) 1
    rw [← RL] at s0 ⊢
    rw [show (v :: out).drop 1 = out from rfl] at s0
    obtain ⟨b0, o0, rfl⟩ := s0.mw h (by omega) (by decide)
    repeat (first | (refine av h ?_; clear h; intro kb M h) | (refine az h ?_; clear h; intro M h) | refine St.to h ?_ | (apply Exists.intro; (repeat apply Exists.intro); refine And.intro rfl ?_) | (refine And.intro ?_ ?_; first | exact rfl | (refine aa (aj h) ?_; (repeat (refine aa (aj h) ?_)); exact ai) | omega) | refine aq ?_ | refine au ?_)
    simp only [Int.toNat_natCast]
    refine be (s0.at h (i := i) (j := 0) hw rfl (by simp [bu])) ?_
    repeat (first | (refine av h ?_; clear h; intro kb M h) | (refine az h ?_; clear h; intro M h) | refine St.to h ?_ | (apply Exists.intro; (repeat apply Exists.intro); refine And.intro rfl ?_) | (refine And.intro ?_ ?_; first | exact rfl | (refine aa (aj h) ?_; (repeat (refine aa (aj h) ?_)); exact ai) | omega) | refine aq ?_ | refine au ?_)
    refine qz (v := w) h (fun e M' h' => ?_) fun e M' h' => ?_
    ·exfalso
     simp only [List.length_append, List.length_take] at e
     omega
    ·clear h
     have h := h'
     clear h'
     repeat (first | (refine av h ?_; clear h; intro kb M h) | (refine az h ?_; clear h; intro M h) | refine St.to h ?_ | (apply Exists.intro; (repeat apply Exists.intro); refine And.intro rfl ?_) | (refine And.intro ?_ ?_; first | exact rfl | (refine aa (aj h) ?_; (repeat (refine aa (aj h) ?_)); exact ai) | omega) | refine aq ?_ | refine au ?_)
     rw [aT (by omega)]
     refine ⟨out.length - (i + 1), by omega, i + 1, rfl, rfl, by omega, ?_⟩
     rw [cq hw, ← List.append_assoc]
     exact h.sub (by repeat (first | exact .refl | refine .cons (by repeat (first | exact .here | apply aF.there)) ?_ | apply Sub.drop))
   ·obtain rfl : i = out.length := by omega
    rw [List.take_length] at h
    have s0 := h.src (A := A)
    obtain ⟨b0, rfl⟩ := h.bx (A := A) (by simp) (by decide)
    repeat (first | (refine av h ?_; clear h; intro kb M h) | (refine az h ?_; clear h; intro M h) | refine St.to h ?_ | (apply Exists.intro; (repeat apply Exists.intro); refine And.intro rfl ?_) | (refine And.intro ?_ ?_; first | exact rfl | (refine aa (aj h) ?_; (repeat (refine aa (aj h) ?_)); exact ai) | omega) | refine aq ?_ | refine au ?_)
    refine be (s0.at h (i := 0) (j := 0) rfl rfl (by simp [bu])) ?_
    repeat (first | (refine av h ?_; clear h; intro kb M h) | (refine az h ?_; clear h; intro M h) | refine St.to h ?_ | (apply Exists.intro; (repeat apply Exists.intro); refine And.intro rfl ?_) | (refine And.intro ?_ ?_; first | exact rfl | (refine aa (aj h) ?_; (repeat (refine aa (aj h) ?_)); exact ai) | omega) | refine aq ?_ | refine au ?_)
    have h2 := cu (cu h b) b'
    exact k true _ (fun _ h1 => absurd h1 Yi) (fun _ => rfl) (h2.sub (by repeat (first | exact .refl | refine .cons (by repeat (first | exact .here | apply aF.there)) ?_ | apply Sub.drop)))
end
end Go.Proofs
namespace Go.Proofs
structure S8 where
 xs : List Loc
 g : List Int
 next : Int
 out : List Int
def Loc.all (x : Loc) : List Int := (if x.next = -1 then [] else [x.next]) ++ x.l
def S8.all (s : S8) : List Int := s.xs.flatMap Loc.all ++ (s.g ++ s.out)
def dc (v : Int) : List Int := if 0 ≤ v then [v] else []
def lc (xs : List Loc) (i : Nat) : Loc := xs.getD i ⟨-1, 1, []⟩
def does8 (s : S8) (kind i k : Nat) (n : Int) : S8 :=
 if kind = 0 ∨ kind = 1 then ⟨s.xs.set i ((lc s.xs i).ready s.next s.g).1, ((lc s.xs i).ready s.next s.g).2.1, s.next + 1, s.out⟩
 else if kind = 2 ∨ kind = 3 then ⟨s.xs.set i ((lc s.xs i).put s.next s.g).1, ((lc s.xs i).put s.next s.g).2.1, s.next + 1, s.out⟩
 else if kind = 4 then ⟨s.xs.set i (lc s.xs i).get.1, s.g, s.next, s.out ++ dc (lc s.xs i).get.2⟩
 else if kind = 5 then ⟨s.xs.set i ((lc s.xs i).ee s.g n).1, ((lc s.xs i).ee s.g n).2.1, s.next, s.out ++ dc ((lc s.xs i).ee s.g n).2.2⟩
 else if kind = 6 then (if i = k then s else ⟨(s.xs.set i ((lc s.xs i).dh (lc s.xs k)).1).set k ((lc s.xs i).dh (lc s.xs k)).2.1, s.g, s.next, s.out ++ dc ((lc s.xs i).dh (lc s.xs k)).2.2⟩)
 else if kind = 9 then ⟨s.xs.set i ((lc s.xs i).fW s.g).1, ((lc s.xs i).fW s.g).2.1, s.next, s.out⟩
 else if kind = 7 then ⟨s.xs, s.g ++ [s.next], s.next + 1, s.out⟩
 else ⟨s.xs, s.g.drop n.toNat, s.next, s.out ++ s.g.take n.toNat⟩
theorem Qc {xs : List Loc} {i : Nat} {x y : Loc} (a : Int) (h : xs[i]? = some x) : ((xs.set i y).flatMap Loc.all).count a + x.all.count a = (xs.flatMap Loc.all).count a + y.all.count a := by
 induction xs generalizing i with
 | nil => simp at h
 | cons z xs ih =>
  cases i with
  | zero => simp only [List.getElem?_cons_zero, Option.some.injEq] at h; subst h; simp only [List.set_cons_zero, List.flatMap_cons, List.count_append]; omega
  | succ i => have := ih (i := i) (by simpa using h); simp only [List.set_cons_succ, List.flatMap_cons, List.count_append]; omega
theorem GW (a : Int) (l : List Int) (n : Nat) : (l.take n).count a + (l.drop n).count a = l.count a := by rw [← List.count_append, List.take_append_drop]
theorem Iw (x : Loc) (v : Int) (g : List Int) (a : Int) : (x.put v g).1.all.count a + (x.put v g).2.1.count a = x.all.count a + g.count a + [v].count a := by
 unfold Loc.put Loc.all
 have := GW a x.l (x.l.length / 2)
 split <;> simp only [List.count_append] <;> omega
theorem NN (x : Loc) (v : Int) (hv : v ≠ -1) (a : Int) : (({ x with next := v } : Loc).all).count a + (if x.next = -1 then ([] : List Int) else [x.next]).count a = x.all.count a + [v].count a := by
 unfold Loc.all
 simp only [List.count_append, if_neg hv]; omega
theorem CM (x : Loc) (a : Int) : (({ x with next := -1 } : Loc).all).count a + (if x.next = -1 then ([] : List Int) else [x.next]).count a = x.all.count a := by
 unfold Loc.all
 simp only [List.count_append, if_true, List.count_nil]; omega
theorem J7 (x : Loc) (v : Int) (hv : v ≠ -1) (g : List Int) (a : Int) : (x.ready v g).1.all.count a + (x.ready v g).2.1.count a = x.all.count a + g.count a + [v].count a := by
 have h1 := NN x v hv a
 unfold Loc.ready
 split
 ·rename_i h; rw [if_pos h] at h1; simp only [List.count_nil] at h1; dsimp only; omega
 ·rename_i h; rw [if_neg h] at h1; rw [Iw]; omega
theorem NO (x : Loc) (g : List Int) (a : Int) : (x.fW g).1.all.count a + (x.fW g).2.1.count a = x.all.count a + g.count a := by
 have h1 := CM x a
 unfold Loc.fW
 split
 ·rfl
 ·rename_i h; rw [if_neg h] at h1; rw [Iw]; omega
def Loc.Pos (x : Loc) : Prop := -1 ≤ x.next ∧ ∀ v ∈ x.l, 0 ≤ v
theorem iJ {v : Int} (h : 0 ≤ v) : dc v = [v] := if_pos h
theorem Ix (x : Loc) (hx : x.Pos) (a : Int) : x.get.1.all.count a + (dc x.get.2).count a = x.all.count a := by
 obtain ⟨h1, h2⟩ := hx
 have h3 := CM x a
 unfold Loc.get
 split
 ·rename_i h; rw [if_neg h] at h3; rw [iJ (show 0 ≤ x.next by omega)]; omega
 ·rename_i h
  split
  ·rfl
  ·rename_i v l e
   rw [iJ (h2 v (by rw [e]; simp))]
   unfold Loc.all
   rw [e]
   simp only [List.count_append, List.count_cons, List.count_nil]; omega
theorem Ka (x : Loc) (g : List Int) (hg : ∀ v ∈ g, 0 ≤ v) (p : Int) (a : Int) : (x.ee g p).1.all.count a + (x.ee g p).2.1.count a + (dc (x.ee g p).2.2).count a = x.all.count a + g.count a := by
 have h1 := GW a g (x.dw g p)
 unfold Loc.ee
 split
 ·rfl
 ·rename_i v out e
  rw [e] at h1
  rw [iJ (hg v (List.mem_of_mem_take (by rw [e]; simp)))]
  unfold Loc.all
  simp only [List.count_append, List.count_cons, List.count_nil] at h1 ⊢; omega
theorem Kb (x f : Loc) (hf : f.Pos) (hx : x.l.length ≤ x.room) (a : Int) : (x.dh f).1.all.count a + (x.dh f).2.1.all.count a + (dc (x.dh f).2.2).count a = x.all.count a + f.all.count a := by
 obtain ⟨h1, h2⟩ := hf
 have h3 := GW a f.l (x.gM f)
 have h4 := CM f a
 unfold Loc.dh
 split
 ·rename_i e
  by_cases hn : f.next = -1
  ·have : dc f.next = [] := by unfold dc; rw [if_neg (by omega)]
   dsimp only
   rw [this]; rw [if_pos hn] at h4; simp only [List.count_nil] at h4 ⊢; omega
  ·dsimp only; rw [iJ (by omega)]; rw [if_neg hn] at h4; omega
 ·rename_i v out e
  rw [e] at h3
  rw [iJ (h2 v (List.mem_of_mem_take (by rw [e]; simp)))]
  unfold Loc.all
  simp only [List.count_append, List.count_cons, List.count_nil] at h3 ⊢; omega
theorem Iy {x : Loc} (hx : x.Pos) : (x.next = -1 ∧ x.l = [] ∧ x.get.2 = -1) ∨ ((x.next ≠ -1 ∨ x.l ≠ []) ∧ 0 ≤ x.get.2) := by
 obtain ⟨h1, h2⟩ := hx
 unfold Loc.get
 split
 ·rename_i h; exact .inr ⟨.inl h, by dsimp only; omega⟩
 ·rename_i h
  split
  ·rename_i e; exact .inl ⟨by omega, e, rfl⟩
  ·rename_i v l e; exact .inr ⟨.inr (by rw [e]; simp), h2 v (by rw [e]; simp)⟩
theorem GX (x : Loc) (g : List Int) (p : Int) : 1 ≤ x.dw g p := by unfold Loc.dw; generalize g.length / p.toNat = q; split <;> omega
theorem Bx {x : Loc} {g : List Int} (hg : ∀ v ∈ g, 0 ≤ v) (p : Int) : (g = [] ∧ (x.ee g p).2.2 = -1) ∨ (g ≠ [] ∧ 0 ≤ (x.ee g p).2.2) := by
 have hn := GX x g p
 unfold Loc.ee
 split
 ·rename_i e
  have := congrArg List.length e
  rw [List.length_take, List.length_nil] at this
  exact .inl ⟨List.length_eq_zero_iff.1 (by omega), rfl⟩
 ·rename_i v out e
  exact .inr ⟨by rintro rfl; simp at e, hg v (List.mem_of_mem_take (by rw [e]; simp))⟩
theorem Kc {x f : Loc} (hf : f.Pos) (hx : x.l.length ≤ x.room) : (f.l = [] ∧ (x.dh f).2.2 = f.next) ∨ (f.l ≠ [] ∧ 0 ≤ (x.dh f).2.2) := by
 obtain ⟨h1, h2⟩ := hf
 unfold Loc.dh
 split
 ·rename_i e
  have := congrArg List.length e
  rw [List.length_take, List.length_nil] at this
  unfold Loc.gM at this
  exact .inl ⟨List.length_eq_zero_iff.1 (by omega), rfl⟩
 ·rename_i v out e
  exact .inr ⟨by intro h; rw [h] at e; simp at e, h2 v (List.mem_of_mem_take (by rw [e]; simp))⟩
structure S8.Ok (s : S8) (n : Nat) : Prop where
 len : s.xs.length = 4
 next : s.next = n
 room : ∀ x ∈ s.xs, x.l.length ≤ x.room ∧ x.room ≤ 1024 ∧ 0 < x.room
 perm : ∀ a, s.all.count a = ((List.range n).map Int.ofNat).count a
def rP (n : Nat) : List Int := (List.range n).map Int.ofNat
theorem S8.Ok.perm' {s : S8} {n : Nat} (h : s.Ok n) : s.all.Perm (rP n) := List.perm_iff_count.2 h.perm
theorem S8.Ok.total {s : S8} {n : Nat} (h : s.Ok n) : s.all.length = n := by rw [h.perm'.length_eq]; simp [rP]
theorem S8.Ok.nn {s : S8} {n : Nat} (h : s.Ok n) : ∀ v ∈ s.all, 0 ≤ v := fun v hv => by
 have := h.perm'.mem_iff.1 hv
 obtain ⟨k, _, rfl⟩ := List.mem_map.1 this
 exact Int.natCast_nonneg k
theorem S8.Ok.gl {s : S8} {n : Nat} (h : s.Ok n) : s.g.length ≤ n ∧ s.out.length ≤ n := by
 have := h.total
 unfold S8.all at this
 simp only [List.length_append] at this
 omega
theorem S8.Ok.pos {s : S8} {n : Nat} (h : s.Ok n) {x : Loc} (hx : x ∈ s.xs) : x.Pos := by
 have gJ : ∀ v ∈ x.all, 0 ≤ v := fun v hv => h.nn v (by
  unfold S8.all
  exact List.mem_append_left _ (List.mem_flatMap.2 ⟨x, hx, hv⟩))
 refine ⟨?_, fun v hv => gJ v (by unfold Loc.all; simp [hv])⟩
 by_cases hn : x.next = -1
 ·omega
 ·have := gJ x.next (by unfold Loc.all; rw [if_neg hn]; simp)
  omega
theorem NP {x : Loc} (h : x.l.length ≤ x.room ∧ x.room ≤ 1024 ∧ 0 < x.room) (v : Int) (g : List Int) : (x.put v g).1.l.length ≤ (x.put v g).1.room ∧ (x.put v g).1.room ≤ 1024 ∧ 0 < (x.put v g).1.room := by
 unfold Loc.put; split
 ·dsimp only; simp only [List.length_append, List.length_singleton]; omega
 ·dsimp only; simp only [List.length_drop]; omega
theorem NQ {x : Loc} (h : x.l.length ≤ x.room ∧ x.room ≤ 1024 ∧ 0 < x.room) (v : Int) (g : List Int) : (x.ready v g).1.l.length ≤ (x.ready v g).1.room ∧ (x.ready v g).1.room ≤ 1024 ∧ 0 < (x.ready v g).1.room := by
 unfold Loc.ready; split
 ·exact h
 ·exact NP (x := { x with next := v }) h _ _
theorem Qd {x : Loc} (h : x.l.length ≤ x.room ∧ x.room ≤ 1024 ∧ 0 < x.room) (g : List Int) : (x.fW g).1.l.length ≤ (x.fW g).1.room ∧ (x.fW g).1.room ≤ 1024 ∧ 0 < (x.fW g).1.room := by
 unfold Loc.fW; split
 ·exact h
 ·exact NP (x := { x with next := -1 }) h _ _
theorem NR {x : Loc} (h : x.l.length ≤ x.room ∧ x.room ≤ 1024 ∧ 0 < x.room) : x.get.1.l.length ≤ x.get.1.room ∧ x.get.1.room ≤ 1024 ∧ 0 < x.get.1.room := by
 unfold Loc.get; split
 ·exact h
 ·split
  ·exact h
  ·rename_i e; dsimp only; rw [e, List.length_cons] at h; omega
theorem NS {x : Loc} (h : x.l.length ≤ x.room ∧ x.room ≤ 1024 ∧ 0 < x.room) (g : List Int) (p : Int) : (x.ee g p).1.l.length ≤ (x.ee g p).1.room ∧ (x.ee g p).1.room ≤ 1024 ∧ 0 < (x.ee g p).1.room := by
 have Qa : x.l.length + (x.dw g p - 1) ≤ x.room := by unfold Loc.dw; generalize g.length / p.toNat = q; split <;> omega
 unfold Loc.ee; split
 ·exact h
 ·rename_i v out e
  have := congrArg List.length e
  rw [List.length_take, List.length_cons] at this
  dsimp only; simp only [List.length_append]; omega
theorem NT {x f : Loc} (h : x.l.length ≤ x.room ∧ x.room ≤ 1024 ∧ 0 < x.room) (hf : f.l.length ≤ f.room ∧ f.room ≤ 1024 ∧ 0 < f.room) :
  ((x.dh f).1.l.length ≤ (x.dh f).1.room ∧ (x.dh f).1.room ≤ 1024 ∧ 0 < (x.dh f).1.room) ∧ ((x.dh f).2.1.l.length ≤ (x.dh f).2.1.room ∧ (x.dh f).2.1.room ≤ 1024 ∧ 0 < (x.dh f).2.1.room) := by
 have Qa : x.l.length + (x.gM f - 1) ≤ x.room := by unfold Loc.gM; omega
 unfold Loc.dh; split
 ·exact ⟨h, hf⟩
 ·rename_i v out e
  have := congrArg List.length e
  rw [List.length_take, List.length_cons] at this
  dsimp only; simp only [List.length_append, List.length_drop]; omega
end Go.Proofs
namespace Go.Proofs
open Go.AF
set_option maxRecDepth 100000
set_option maxHeartbeats 1000000
attribute [local irreducible] aK cD fH bL aD fx aI aO bj aS bI aV
section
variable {R : Mem} {L L' nm : List HP} {M : Mem} {K : Value → Mem → Prop} {Kp : List PanicEntry → Mem → Prop} {x f : Loc} {g : List Int}
theorem By {room : Int} (h : Hp R L M) (k : ∀ M', Hp R L M' → K (.agg #[.int .i64 (-1), .slice none 0 0, .int .i64 (eN room : Nat)]) M') : ae Tryz.prog 107 #[.int .i64 room] M K Kp := by
 refine rq ?_
 have e : (if (if (1024 : Int) < room then 1024 else room) > 1 then (if (1024 : Int) < room then 1024 else room) else 1) = ((eN room : Nat) : Int) := by unfold eN; split <;> split <;> omega
 rw [e]
 repeat (first | (refine av h ?_; clear h; intro kb M h) | (refine az h ?_; clear h; intro M h) | refine St.to h ?_ | (apply Exists.intro; (repeat apply Exists.intro); refine And.intro rfl ?_) | (refine And.intro ?_ ?_; first | exact rfl | (refine aa (aj h) ?_; (repeat (refine aa (aj h) ?_)); exact ai) | omega) | refine aq ?_ | refine au ?_)
 exact k _ h.vb
end
end Go.Proofs
