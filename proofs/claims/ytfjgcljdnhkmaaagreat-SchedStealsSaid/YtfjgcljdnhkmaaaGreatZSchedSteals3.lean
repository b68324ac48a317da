/- A part of proofs about functions of one program: a condition over a partial memory that is enough for a call, and what calls answer by it. No condition of its own. -/
import Derived.ChangeArms
import Derived.Deep.Slices
import Derived.OpenShut
import Derived.Scope
import Derived.Test.YtfjgcljdnhkmaaaGreatProg
import Derived.WalkKit
import Derived.Test.YtfjgcljdnhkmaaaGreatZSchedStealsBase
import Derived.Test.YtfjgcljdnhkmaaaGreatZSchedStealsOps
import Derived.Test.YtfjgcljdnhkmaaaGreatZSchedStealsOpsB
import Derived.Test.YtfjgcljdnhkmaaaGreatZSchedStealsOpC
import Derived.Test.YtfjgcljdnhkmaaaGreatZSchedStealsFrame
import Derived.Test.YtfjgcljdnhkmaaaGreatZSchedStealsReg
import Derived.Test.YtfjgcljdnhkmaaaGreatZSchedStealsRegB
import Derived.Test.YtfjgcljdnhkmaaaGreatZSchedStealsRegL
import Derived.Test.YtfjgcljdnhkmaaaGreatZSchedStealsRegC
import Derived.Test.YtfjgcljdnhkmaaaGreatZSchedStealsExec
import Derived.Test.YtfjgcljdnhkmaaaGreatZSchedStealsSound
import Derived.Test.YtfjgcljdnhkmaaaGreatZSchedStealsSoundB
import Derived.Test.YtfjgcljdnhkmaaaGreatZSchedStealsLib
import Derived.Test.YtfjgcljdnhkmaaaGreatZSchedStealsHp
import Derived.Test.YtfjgcljdnhkmaaaGreatZSchedStealsRow
import Derived.Test.YtfjgcljdnhkmaaaGreatZSchedStealsMod
import Derived.Test.YtfjgcljdnhkmaaaGreatZSchedStealsOpen
import Derived.Test.YtfjgcljdnhkmaaaGreatZSchedStealsArgs
import Derived.Test.YtfjgcljdnhkmaaaGreatZSchedSteals0
import Derived.Test.YtfjgcljdnhkmaaaGreatZSchedSteals1

namespace Go.AF
theorem wn {z : Int} {n : Nat} (e : z = (n : Int)) (h : n < 9223372036854775808) : IntKind.wrap .i64 z = (n : Int) := by rw [e]; exact wrap_nat h
theorem Src.row {α : Type} {E : Enc α} {R : Mem} {L L' : List HP} {A : Option Addr} {T c : Nat} {l : List α} [hp : RowAt A L α E T c l L'] : Src R L A (E.cells l) := fun M h => h.src (A := A) M h
theorem Src.pre1 {R : Mem} {L : List HP} {A : Option Addr} {c : Nat} {l : List Int} (hs : Src R L A (intE.cells l)) (hc : l.length ≤ c) (q : Nat) : Src R L (slA A 0 c 1) (intE.cells (l.take q)) := by
  have := (hs.drop (m := 0) (c := c) hc).takeE q
  rw [List.drop_zero] at this
  exact this
theorem Src.suf1 {R : Mem} {L : List HP} {A : Option Addr} {c : Nat} {l : List Int} (hs : Src R L A (intE.cells l)) (hc : l.length ≤ c) (q : Nat) : Src R L (slA A q c 1) (intE.cells (l.drop q)) := hs.drop hc
end Go.AF

set_option linter.unusedVariables false
namespace Go.AF
abbrev AL := List (Int × Value)
def entsFrom : Nat → AL → List MapEntry
  | _, [] => []
  | i, (k, v) :: l => ⟨.int .i64 k, v, i⟩ :: entsFrom (i + 1) l
/-- A map as it was filled. -/
def mapO (l : AL) : Obj := .map (entsFrom 0 l).toArray l.length
def aidx (k : Int) : AL → Nat → Option (Nat × Value)
  | [], _ => none
  | (k', v) :: l, i => if k = k' then some (i, v) else aidx k l (i + 1)
def aget (l : AL) (k : Int) : Option Value := (aidx k l 0).map (·.2)
def aset (l : AL) (k : Int) (v : Value) : AL := match aidx k l 0 with
  | some (i, _) => l.set i (k, v)
  | none => l ++ [(k, v)]
theorem findNow_ents {kd : IntKind} (k : Int) : ∀ (l : AL) (i b : Nat), Instr.findNow (.int kd) (.int .i64 k) (entsFrom b l) i = some (aidx k l i)
  | [], _, _ => rfl
  | (k', v) :: l, i, b => by
    simp only [entsFrom, Instr.findNow, Instr.sameNow, if_true, aidx]
    by_cases h : k = k'
    · simp [h]
    · have : (k == k') = false := by simp [h]
      rw [this, if_neg h]
      exact findNow_ents k l (i + 1) (b + 1)
theorem aidx_at {k : Int} : ∀ {l : AL} {i j : Nat} {v : Value}, aidx k l i = some (j, v) → i ≤ j ∧ l[j - i]? = some (k, v)
  | [], _, _, _, h => by simp [aidx] at h
  | (k', v') :: l, i, j, v, h => by
    simp only [aidx] at h
    split at h
    · rename_i e; cases h; subst e; exact ⟨Nat.le_refl _, by simp⟩
    · obtain ⟨h1, h2⟩ := aidx_at h
      refine ⟨by omega, ?_⟩
      rw [show j - i = (j - (i + 1)) + 1 from by omega, List.getElem?_cons_succ]; exact h2
theorem ents_at : ∀ {l : AL} {i b : Nat} {k : Int} {v : Value}, l[i]? = some (k, v) → (entsFrom b l)[i]? = some ⟨.int .i64 k, v, b + i⟩
  | [], _, _, _, _, h => by simp at h
  | (k', v') :: l, 0, b, k, v, h => by simp at h; obtain ⟨rfl, rfl⟩ := h; rfl
  | (k', v') :: l, i + 1, b, k, v, h => by
    have := ents_at (b := b + 1) (show l[i]? = some (k, v) from by simpa using h)
    simp only [entsFrom, List.getElem?_cons_succ, this]
    congr 2; omega
theorem ents_set : ∀ {l : AL} {i b : Nat} {k : Int} {v w : Value}, l[i]? = some (k, w) → (entsFrom b l).modify i (fun e => { e with key := .int .i64 k, val := v }) = entsFrom b (l.set i (k, v))
  | [], _, _, _, _, _, h => by simp at h
  | (k', v') :: l, 0, b, k, v, w, h => by simp at h; obtain ⟨rfl, rfl⟩ := h; rfl
  | (k', v') :: l, i + 1, b, k, v, w, h => by
    have := ents_set (b := b + 1) (v := v) (show l[i]? = some (k, w) from by simpa using h)
    simp only [entsFrom, List.modify_succ_cons, List.set_cons_succ, this]
theorem ents_app : ∀ (l m : AL) (b : Nat), entsFrom b (l ++ m) = entsFrom b l ++ entsFrom (b + l.length) m
  | [], m, b => by simp [entsFrom]
  | (k, v) :: l, m, b => by simp only [List.cons_append, entsFrom, ents_app l m (b + 1), List.length_cons]; congr 3; omega
/-! what stands in it -/
def agetR : AL → Int → Option Value
  | [], _ => none
  | (k', v) :: l, k => if k = k' then some v else agetR l k
def asetR : AL → Int → Value → AL
  | [], k, v => [(k, v)]
  | (k', w) :: l, k, v => if k = k' then (k, v) :: l else (k', w) :: asetR l k v
theorem aidx_map (k : Int) : ∀ (l : AL) (i : Nat), (aidx k l i).map (·.2) = agetR l k
  | [], _ => rfl
  | (k', v) :: l, i => by
    simp only [aidx, agetR]
    split
    · rfl
    · exact aidx_map k l (i + 1)
theorem aget_eq (l : AL) (k : Int) : aget l k = agetR l k := aidx_map k l 0
theorem aidx_shift (k : Int) : ∀ (l : AL) (i j : Nat), aidx k l (i + j) = (aidx k l i).map fun x => (x.1 + j, x.2)
  | [], _, _ => rfl
  | (k', v) :: l, i, j => by
    simp only [aidx]
    split
    · rfl
    · rw [show i + j + 1 = (i + 1) + j from by omega]; exact aidx_shift k l (i + 1) j
theorem aset_eq (k : Int) (v : Value) : ∀ (l : AL), aset l k v = asetR l k v
  | [] => rfl
  | (k', w) :: l => by
    have ih := aset_eq k v l
    unfold aset at ih ⊢
    simp only [aidx, asetR]
    by_cases h : k = k'
    · rw [if_pos h, if_pos h]; rfl
    · rw [if_neg h, if_neg h]
      have := aidx_shift k l 0 1
      rw [this]
      cases ha : aidx k l 0 with
      | none => rw [ha] at ih; simp only [Option.map_none]; rw [← ih]; rfl
      | some x => obtain ⟨i, u⟩ := x; rw [ha] at ih; simp only [Option.map_some, List.set_cons_succ]; rw [← ih]
theorem aget_aset (k k' : Int) (v : Value) : ∀ (l : AL), agetR (asetR l k v) k' = if k' = k then some v else agetR l k'
  | [] => by simp only [asetR, agetR]
  | (q, w) :: l => by
    have ih := aget_aset k k' v l
    simp only [asetR]
    by_cases h : k = q
    · subst h
      rw [if_pos rfl]
      simp only [agetR]
      by_cases h2 : k' = k
      · rw [if_pos h2, if_pos h2]
      · rw [if_neg h2, if_neg h2, if_neg h2]
    · rw [if_neg h]
      simp only [agetR, ih]
      by_cases h2 : k' = q
      · rw [if_pos h2]
        rw [if_neg (by rw [h2]; exact Ne.symm h)]
        rw [if_pos h2]
      · rw [if_neg h2]
        by_cases h3 : k' = k
        · rw [if_pos h3, if_pos h3]
        · rw [if_neg h3, if_neg h3, if_neg h2]
theorem aget_none {k : Int} : ∀ {l : AL}, agetR l k = none ↔ k ∉ l.map (·.1)
  | [] => by simp [agetR]
  | (q, w) :: l => by
    have ih := aget_none (k := k) (l := l)
    simp only [agetR, List.map_cons, List.mem_cons, not_or]
    by_cases h : k = q
    · rw [if_pos h]; simp [h]
    · rw [if_neg h]; simp [h, ih]
theorem aset_keys (k : Int) (v : Value) : ∀ (l : AL), (asetR l k v).map (·.1) = if k ∈ l.map (·.1) then l.map (·.1) else l.map (·.1) ++ [k]
  | [] => by simp [asetR]
  | (q, w) :: l => by
    have ih := aset_keys k v l
    simp only [asetR]
    by_cases h : k = q
    · subst h; rw [if_pos rfl, if_pos (by simp)]; simp
    · rw [if_neg h, List.map_cons, ih]
      by_cases h2 : k ∈ l.map (·.1)
      · rw [if_pos h2, if_pos (by simp only [List.map_cons, List.mem_cons]; exact .inr h2)]; rfl
      · rw [if_neg h2, if_neg (by simp only [List.map_cons, List.mem_cons, not_or]; exact ⟨h, h2⟩)]; simp
theorem aset_nodup {k : Int} {v : Value} {l : AL} (h : (l.map (·.1)).Nodup) : ((asetR l k v).map (·.1)).Nodup := by
  rw [aset_keys]
  split
  · exact h
  · rename_i hn
    rw [List.nodup_append]
    refine ⟨h, by simp, fun a ha b hb => ?_⟩
    simp only [List.mem_singleton] at hb
    subst hb
    rintro rfl
    exact hn ha
/-- How often each number was seen. -/
def Cnt (l : AL) (seen : List Int) : Prop := (l.map (·.1)).Nodup ∧ ∀ v, agetR l v = if seen.count v = 0 then none else some (.int .i64 (seen.count v : Int))
theorem Cnt.nil : Cnt [] [] := ⟨by simp, fun v => by simp [agetR]⟩
theorem Cnt.get {l : AL} {seen : List Int} (h : Cnt l seen) (v : Int) : (aget l v).getD (.int .i64 0) = .int .i64 (seen.count v : Int) := by
  rw [aget_eq, h.2 v]; split
  · rename_i e; rw [e]; rfl
  · rfl
theorem Cnt.step {l : AL} {seen : List Int} (h : Cnt l seen) (v : Int) : Cnt (aset l v (.int .i64 ((seen.count v + 1 : Nat) : Int))) (seen ++ [v]) := by
  rw [aset_eq]
  refine ⟨aset_nodup h.1, fun w => ?_⟩
  rw [aget_aset, h.2 w, List.count_append]
  by_cases hw : w = v
  · subst hw; simp
  · rw [if_neg hw]
    have : [v].count w = 0 := by rw [List.count_eq_zero]; simp [hw]
    rw [this, Nat.add_zero]
section
variable {R : Mem} {L L' : List HP} {M : Mem} {P : Program} {t kt et : TypeId} {r : Nat} {l : AL} {k : Int} {kd : IntKind}
class ObAt (b : Nat) (L : List HP) (o : outParam Obj) (L' : outParam (List HP)) : Prop where
  pick : Pick L (ob b o) L'
instance ObAt.here {b : Nat} {o : Obj} {L : List HP} : ObAt b (ob b o :: L) o L := ⟨.here⟩
instance (priority := low) ObAt.there {b : Nat} {o : Obj} {Q : HP} {L L' : List HP} [h : ObAt b L o L'] : ObAt b (Q :: L) o (Q :: L') := ⟨.there h.pick⟩
theorem rd_checkKey {P : Program} {M : Mem} {b : Bool} (hk : P.underlying kt = some (.int kd)) : rdS P (Instr.checkKey b 10000 kt (.int .i64 k)) M = some () := by
  unfold Instr.checkKey
  rw [rd_bind, rd_underlying hk]; rfl
theorem rd_findKey {P : Program} {M : Mem} (hk : P.underlying kt = some (.int kd)) : rdS P (Instr.findKey kt (.int .i64 k) (entsFrom 0 l)) M = some (aidx k l 0) := by
  unfold Instr.findKey
  rw [rd_bind, rd_underlying hk, Option.bind_some, findNow_ents]; rfl
theorem awp_getObj {P : Program} {α : Type} {M : Mem} {r : Nat} {l : AL} {f : Obj → Sem α} {K : α → Mem → Prop} {Kp : Value → Mem → Prop} (hb : M r = some (mapO l)) (h : awp P (f (mapO l)) M K Kp) : awp P (getObj r >>= f) M K Kp := by
  refine awp_bind P _ _ ?_
  unfold getObj
  simp only [awp, hb, mapO]
  exact h
theorem s_lookup {z : Value} {i : TypeInfo} {K : Value → Mem → Prop} {Kp : List PanicEntry → Mem → Prop} (h : Hp R L M) [p : ObAt r L (mapO l) L'] (hu : P.underlying t = some (.map kt et)) (hk : P.underlying kt = some (.int kd)) (hi : P.info? et = some i) (hz : i.zero = some z)
    (g : K ((aget l k).getD z) M) : semK P (Instr.lookup t (.map (some r)) (.int .i64 k) false) M K Kp := by
  have hb : M r = some (mapO l) := (h.pick p.pick).ob_at
  unfold semK Instr.lookup
  refine awp_run (rd_underlying hu M) ?_
  simp only
  refine awp_bind P _ _ ?_
  refine awp_getObj hb ?_
  simp only [mapO]
  refine awp_run (x := ()) (rd_checkKey hk) ?_
  refine awp_run (rd_findKey hk) ?_
  unfold aget at g
  cases ha : aidx k l 0 with
  | none =>
    rw [ha] at g
    simp only
    have hz0 : rdS P (zeroValue et) M = some z := by rw [zeroInfo]; simp [zeroOf, hi, hz]
    refine awp_run hz0 ?_
    refine awp_run (x := (z, false)) rfl ?_
    exact g
  | some x =>
    rw [ha] at g
    exact g
theorem s_mapUpdate {v : Value} {K : Mem → Prop} {Kp : List PanicEntry → Mem → Prop} (h : Hp R L M) [p : ObAt r L (mapO l) L'] (hu : P.underlying t = some (.map kt et)) (hk : P.underlying kt = some (.int kd))
    (g : ∀ M', Hp R (ob r (mapO (aset l k v)) :: L') M' → K M') : semU P (Instr.mapUpdate t (.map (some r)) (.int .i64 k) v) M K Kp := by
  have h1 := h.pick p.pick
  have hb : M r = some (mapO l) := h1.ob_at
  have fin : ∀ o, o = mapO (aset l k v) → K (M.set r o) := fun o e => by
    subst e
    exact g _ (h1.set (x := mapO l) (fun A ha => by unfold ob at ha; exact ha) fun A ha => by unfold ob; exact set_same)
  unfold semU Instr.mapUpdate
  refine awp_run (rd_underlying hu M) ?_
  simp only
  refine awp_getObj hb ?_
  simp only [mapO]
  refine awp_run (x := ()) (rd_checkKey hk) ?_
  refine awp_run (rd_findKey hk) ?_
  have hset : ∀ o : Obj, K (M.set r o) → awp P (setObj r o) M (fun _ => K) (fun v M' => Kp [{ v, recovered := false }] M') := fun o hK => by
    unfold setObj
    simp only [awp, hb, mapO]
    exact hK
  cases ha : aidx k l 0 with
  | none =>
    simp only
    refine hset _ (fin _ ?_)
    unfold aset mapO
    rw [ha]
    simp only [List.push_toArray, List.length_append, List.length_singleton]
    rw [ents_app]; simp [entsFrom]
  | some x =>
    obtain ⟨i, w⟩ := x
    obtain ⟨_, hw⟩ := aidx_at ha
    rw [Nat.sub_zero] at hw
    simp only
    have he := ents_at (b := 0) hw
    refine awp_run (x := Value.int .i64 k) ?_ ?_
    · have : (((entsFrom 0 l).toArray[i]?).map (·.key)).getD (.int .i64 k) = .int .i64 k := by simp [he]
      rw [this]
      unfold Instr.keyThatStays
      simp [Instr.sameBits]; rfl
    · refine hset _ (fin _ ?_)
      unfold aset mapO
      rw [ha]
      simp only [List.length_set]
      rw [← ents_set (v := v) hw]
      simp [List.modify_toArray]
end
end Go.AF

set_option linter.unusedVariables false
namespace Go.AF
theorem semK_appendF {P : Program} {t t' e ty : TypeId} {i : TypeInfo} {zv : Value} {A B : Option Addr} {n c m d : Nat} {l r : List Value} {M : Mem} {K : Value → Mem → Prop} {Kp : List PanicEntry → Mem → Prop}
    (hu : P.underlying t = some (.slice e)) (hu' : P.underlying t' = some (.slice e)) (hi : P.info? e = some i) (hz : i.zero = some zv) (hs : zv.cells.size = i.size)
    (hol : Sl M A l) (hl : l.length = n * i.size) (hr : Sl M B r) (hrl : r.length = m * i.size) (hc : c < n + m) (hb : (n + m) * i.bytes ≤ 140737488355328) (hby : 0 < i.bytes)
    (h : ∀ k c' M', M k = none → Own M' i.size e (some ⟨k, 0, none⟩) (n + m) c' (l ++ r) → Chg [] M M' → K (.slice (some ⟨k, 0, none⟩) (n + m) c') M') :
    semK P (Builtin.append_ #[t, t'] ty #[.slice A n c, .slice B m d]) M K Kp := by
  unfold semK Builtin.append_
  simp only [List.getElem?_toArray, List.getElem?_cons_zero, List.getElem?_cons_succ]
  refine awp_run (rd_underlying hu M) ?_
  simp only
  refine awp_run (rd_sizeOfI hi M) ?_
  refine awp_run (rd_underlying hu' M) ?_
  refine awp_run (x := false) rfl ?_
  refine awp_run (x := m) rfl ?_
  simp only [Bool.not_false, if_true]
  rw [if_neg (by omega)]
  refine awp_run (rd_typeInfo hi M) ?_
  rw [if_neg (by simp; omega)]
  refine awp_run (rd_typeInfo hi M) ?_
  rw [if_neg (by have := growslice_fits (need := n + m) (old := c) (bytes := i.bytes) (by omega) hb; omega)]
  show ∀ q, _
  intro q
  have hcap : n + m ≤ Question.cut (.appendCap (n + m) c e) q := by simp only [Question.cut]; omega
  generalize Question.cut (.appendCap (n + m) c e) q = nc at hcap
  refine awp_run (x := nc) rfl ?_
  refine awp_run (rd_typeInfo hi M) ?_
  refine awp_bind P _ _ ?_
  have room : ∀ (X : Prop) , X → awp P (askRoom (nc * i.bytes)) M (fun _ M' => M' = M) (fun _ _ => False) := by
    intro X _
    unfold askRoom
    split
    · exact rfl
    · exact rfl
  refine awp_mono P _ (room True trivial) (fun _ M' hM' => ?_) (fun _ _ hf => hf.elim)
  subst hM'
  refine awp_run (rd_firstCells hol hl) ?_
  refine awp_run (rd_firstCells hr hrl) ?_
  refine awp_run (x := zv) (by rw [zeroInfo]; simp [zeroOf, hi, hz]) ?_
  intro k hk
  refine h k nc _ hk ⟨by rw [List.length_append, hl, hrl, Nat.add_mul], .inr ⟨k, _, rfl, set_same, ?_, hcap, fun j hj => ?_⟩⟩ ((Chg.refl _ _).set (.inr hk))
  · simp only [Array.size_append, List.size_toArray, hl, hrl]
    have : (Builtin.zeroCells zv.cells (nc - (n + m))).size = (nc - (n + m)) * i.size := by simp [Builtin.zeroCells, hs]
    rw [this, ← Nat.add_mul, ← Nat.add_mul]; congr 1; omega
  · rw [Nat.add_mul] at hj
    rw [Array.getElem?_append_left (by simp [hl, hrl]; omega)]
    simp
theorem Hp.appendF {α : Type} {E : Enc α} {R : Mem} {L L' : List HP} {M : Mem} {T : Nat} {P : Program} {t bytes ty d m k n c : Nat} {zero rc : List Value} {A : Option Addr} {l r : List α} {K : Value → Mem → Prop} {Kp : List PanicEntry → Mem → Prop}
    (h : Hp R L M) [hk : PtAt k L rc T L'] (hA : Src R L A (E.cells l)) (hn : n = l.length) (El : ElemOk P t T E.z bytes zero) (he : rc = E.cells r) (hm : m = r.length) (hc : c < n + m) (hb : (l.length + r.length) * bytes ≤ 140737488355328)
    (g : ∀ b c' M', Hp R (rowP E T (some ⟨b, 0, none⟩) c' (l ++ r) :: L') M' → K (.slice (some ⟨b, 0, none⟩) (l ++ r).length c') M') :
    semK P (Builtin.append_ #[t, t] ty #[.slice A n c, .slice (some ⟨k, 0, none⟩) m d]) M K Kp := by
  subst hm; subst he; subst hn
  have hB : Sl M (some ⟨k, 0, none⟩) (E.cells r) := h.sl_pt hk.pick
  obtain ⟨hu, i, zv, hi, hs, hby, hz, rfl, hl, hpos⟩ := El
  refine semK_appendF hu hu hi hz (by rw [hs, ← hl]; simp) (hA M h) (by rw [hs]; exact E.cells_len) hB (by rw [hs]; exact E.cells_len) hc (by rw [hby]; exact hb) (by omega) fun b c' M' hbn ho hch => ?_
  have h2 : Hp R (rowP E T (some ⟨b, 0, none⟩) c' (l ++ r) :: L) M' := by
    have h3 : Hp R (fact True :: L) M := Hp.fact_iff.2 ⟨trivial, h⟩
    refine h3.change (D := []) (D' := [b]) (fun A hA x hx => by cases hx) hch (fun x hx => by simp only [List.mem_singleton] at hx; subst hx; exact .inr hbn) ?_
    unfold rowP own
    rw [List.length_append, E.cells_app]
    rw [hs] at ho
    have := ho.rst
    simpa [blk] using this
  have := g b c' M' (h2.map fun _ hs => hs.tail fun _ hx => (Star.pick hk.pick hx).drop)
  rwa [List.length_append] at this
section
variable {R : Mem} {L L' : List HP} {M : Mem} {P : Program} {t kt et : TypeId} {r : Nat} {l : AL} {k : Int} {kd : IntKind}
theorem s_lookup2 {z : Value} {i : TypeInfo} {K : Value → Mem → Prop} {Kp : List PanicEntry → Mem → Prop} (h : Hp R L M) [p : ObAt r L (mapO l) L'] (hu : P.underlying t = some (.map kt et)) (hk : P.underlying kt = some (.int kd)) (hi : P.info? et = some i) (hz : i.zero = some z)
    (g : K (.tuple #[(aget l k).getD z, .bool (aget l k).isSome]) M) : semK P (Instr.lookup t (.map (some r)) (.int .i64 k) true) M K Kp := by
  have hb : M r = some (mapO l) := (h.pick p.pick).ob_at
  unfold semK Instr.lookup
  refine awp_run (rd_underlying hu M) ?_
  simp only
  refine awp_bind P _ _ ?_
  refine awp_getObj hb ?_
  simp only [mapO]
  refine awp_run (x := ()) (rd_checkKey hk) ?_
  refine awp_run (rd_findKey hk) ?_
  unfold aget at g
  cases ha : aidx k l 0 with
  | none =>
    rw [ha] at g
    simp only
    have hz0 : rdS P (zeroValue et) M = some z := by rw [zeroInfo]; simp [zeroOf, hi, hz]
    refine awp_run hz0 ?_
    refine awp_run (x := (z, false)) rfl ?_
    exact g
  | some x =>
    rw [ha] at g
    exact g
end
theorem callK_fn {C : Ctx} {g : Nat} {args : List Value} {M : Mem} {K : Value → Mem → Prop} {Kp : List PanicEntry → Mem → Prop} (hg : 1 < g ∧ g < C.ok) (h : ACalls C.P g args.toArray M K Kp) : callK C (.func (.func g) #[] #[]) args M K Kp := by
  unfold callK
  simp only
  rw [if_pos hg]
  simpa using h
theorem wrap_succ' {z : Int} (h0 : 0 ≤ z) (h : z < 9223372036854775807) : IntKind.wrap .i64 (z + 1) = z + 1 := by
  obtain ⟨n, rfl⟩ := Int.eq_ofNat_of_zero_le h0
  have := wrap_nat (n := n + 1) (by omega)
  exact_mod_cast this
theorem Hp.append1n {α : Type} {E : Enc α} {R : Mem} {L L' L'' : List HP} {M : Mem} {T c n : Nat} {A : Option Addr} {l : List α} {P : Program} {t bytes ty k d m : Nat} {zero rc : List Value} {K : Value → Mem → Prop} {Kp : List PanicEntry → Mem → Prop}
    (h : Hp R L M) [ha : RowAt A L α E T c l L'] [hk : PtAt k L' rc T L''] (El : ElemOk P t T E.z bytes zero) (r : List α) (he : rc = E.cells r) (hn : n = l.length) (hm : m = r.length) (hb : (l.length + r.length) * bytes ≤ 140737488355328)
    (g : ∀ A' c' M', Hp R (rowP E T A' c' (l ++ r) :: L'') M' → K (.slice A' (n + m) c') M') :
    semK P (Builtin.append_ #[t, t] ty #[.slice A n c, .slice (some ⟨k, 0, none⟩) m d]) M K Kp := by
  subst hn
  refine h.rowAppend1 (A := A) El r he hm hb fun A' c' M' h => ?_
  have := g A' c' M' h
  rwa [hm, ← List.length_append] at this
theorem callK_cap {C : Ctx} {g : Nat} {caps : Array Value} {args : List Value} {M : Mem} {K : Value → Mem → Prop} {Kp : List PanicEntry → Mem → Prop} (hg : 1 < g ∧ g < C.ok) (h : ACalls C.P g (args ++ caps.toList).toArray M K Kp) : callK C (.func (.func g) #[] caps) args M K Kp := by
  unfold callK
  simp only
  rw [if_pos hg]
  simpa using h
end Go.AF

namespace Go.Proofs
open Go.AF
set_option linter.unusedVariables false
set_option maxRecDepth 100000
set_option maxHeartbeats 1000000
attribute [local irreducible] exI exB exS exP exSl exV nilc stc nwc semK semU bsp
abbrev rowF (A : Option Addr) (c : Nat) (l : List Frm) : HP := rowP frmE 234 A c l
theorem el_frm : ElemOk Tryz.prog 179 234 11 88 (frmE.f ⟨0, 0, [], 0⟩) := ElemOk.mk' (zv := .agg #[.int .i64 0, .int .i64 0, .int .i64 0, .int .i64 0, .int .i64 0, .int .i64 0, .int .i64 0, .int .i64 0, .int .i64 0, .int .i64 0, .int .i64 0]) (by kernel_rfl) (by kernel_rfl) rfl (by omega)
theorem Frm.set_set {f : Frm} {q u v : Int} : (f.set q u).set q v = f.set q v := by
  unfold Frm.set
  congr 1
  apply List.map_congr_left
  intro i hi
  by_cases h : i = q.toNat
  · rw [if_pos h, if_pos h]
  · rw [if_neg h, if_neg h]
    simp [List.mem_range.1 hi, h]
def insC (x : Ins) : List Value := [.int .i64 x.op, .int .i64 x.a, .int .i64 x.b, .int .i64 x.c]
section
variable {R : Mem} {L L' : List HP} {M : Mem} {K : Value → Mem → Prop} {Kp : List PanicEntry → Mem → Prop} {b i c : Nat} {l : List Frm} {f : Frm} {x : Ins}

theorem f_ld {q : Int} {o : Nat} {G : Int → Prop} (h : Hp R L M) [p : RowAt (some ⟨b, 0, none⟩) L Frm frmE 234 c l L'] (hi : l[i]? = some f) (hq : isReg q) (e : o = i * 11 + 2 + q.toNat) (g : G (f.reg q)) : exI (M.ld ⟨b, o, none⟩) .i64 G := by
  refine v_exI (Src.at (h.src (A := some ⟨b, 0, none⟩)) h (i := i) (j := 2 + q.toNat) hi (frm_at hq.1 hq.2) ?_) g
  show _ = 0 + (i * 11 + (2 + q.toNat)); omega
theorem f_st {q v : Int} {o : Nat} {G : Mem → Prop} (h : Hp R L M) [p : RowAt (some ⟨b, 0, none⟩) L Frm frmE 234 c l L'] (hi : l[i]? = some f) (hq : isReg q) (e : o = i * 11 + 2 + q.toNat)
    (k : ∀ M', Hp R (rowF (some ⟨b, 0, none⟩) c (l.set i (f.set q v)) :: L') M' → G M') : stc M ⟨b, o, none⟩ (.int .i64 v) G := by
  obtain ⟨q0, q8⟩ := hq
  refine s_row i (2 + q.toNat) h hi ?_ (frm_set q0 q8) ?_ k
  · show _ < 11; omega
  · show _ = i * 11 + (2 + q.toNat); omega
theorem f_ldPc {o : Nat} {G : Int → Prop} (h : Hp R L M) [p : RowAt (some ⟨b, 0, none⟩) L Frm frmE 234 c l L'] (hi : l[i]? = some f) (e : o = i * 11 + 1) (g : G f.pc) : exI (M.ld ⟨b, o, none⟩) .i64 G := by
  refine v_exI (Src.at (h.src (A := some ⟨b, 0, none⟩)) h (i := i) (j := 1) hi rfl ?_) g
  show _ = 0 + (i * 11 + 1); omega
theorem f_stPc {v : Int} {o : Nat} {G : Mem → Prop} (h : Hp R L M) [p : RowAt (some ⟨b, 0, none⟩) L Frm frmE 234 c l L'] (hi : l[i]? = some f) (e : o = i * 11 + 1)
    (k : ∀ M', Hp R (rowF (some ⟨b, 0, none⟩) c (l.set i { f with pc := v }) :: L') M' → G M') : stc M ⟨b, o, none⟩ (.int .i64 v) G := by
  refine s_row i 1 h hi (by show 1 < 11; omega) frm_pc ?_ k
  show _ = i * 11 + 1; omega
theorem set_set' {α : Type} {l : List α} {i : Nat} {u v : α} : (l.set i u).set i v = l.set i v := by simp

/-- The functions of the ops that registers alone decide. -/
def fOp : List Nat := [195, 196, 197, 198, 199, 200, 201, 202, 203]
/-- What each pure op does. -/
theorem frame_op (h : Hp R L M) [p : RowAt (some ⟨b, 0, none⟩) L Frm frmE 234 c l L'] (hi : l[i]? = some f) (hx : x.okPure) (n : Nat) (hn : x.op = (n : Int)) (h8 : n ≤ 8)
    (k : ∀ M', Hp R (rowF (some ⟨b, 0, none⟩) c (l.set i (f.pure x)) :: L') M' → K (.tuple #[]) M') :
    ACalls Tryz.prog (fOp.getD n 0) #[.pointer (some ⟨b, i * 11, none⟩), .agg #[.int .i64 x.op, .int .i64 x.a, .int .i64 x.b, .int .i64 x.c]] M K Kp := by
  obtain ⟨op, xa, xb, xc⟩ := x
  obtain ⟨o1, o2, o3⟩ := hx
  dsimp only at hn o1 o2 o3 k ⊢
  have hsame : l.set i f = l := by obtain ⟨hl, rfl⟩ := List.getElem?_eq_some_iff.1 hi; simp
  subst hn
  have hlt := (List.getElem?_eq_some_iff.1 hi).1
  obtain rfl | rfl | rfl | rfl | rfl | rfl | rfl | rfl | rfl : n = 0 ∨ n = 1 ∨ n = 2 ∨ n = 3 ∨ n = 4 ∨ n = 5 ∨ n = 6 ∨ n = 7 ∨ n = 8 := by omega
  · refine vc_frame_Frame_nop ?_
    have e : f.pure ⟨((0 : Nat) : Int), xa, xb, xc⟩ = f := rfl
    rw [e, hsame] at k
    repeat (first | (refine s_nwc h ?_; clear h; intro kb M h) | (refine s_stc h ?_; clear h; intro M h) | refine t_exI h ?_ | refine t_exB h ?_ | refine t_exS h ?_ | refine t_exP h ?_ | refine t_exSl h ?_ | refine t_exV h ?_ | refine u_exI ?_ | refine u_exB ?_ | refine u_exS ?_ | refine u_exP ?_ | refine u_exSl ?_ | refine u_exV ?_ | refine u_nilc ?_ | (apply Exists.intro; (repeat apply Exists.intro); refine And.intro rfl ?_) | (refine And.intro ?_ ?_; first | exact trivial | exact rfl | exact t_ld h | (refine lds_s (t_ld h) ?_; (repeat (refine lds_s (t_ld h) ?_)); exact lds_nil) | omega) | refine u_bspT ?_ | refine u_bspF ?_)
    exact k _ ((h.row (some ⟨b, 0, none⟩)).fin1)
  · have ra : isReg xa := o1 (by simp)
    refine vc_frame_Frame_constant ?_
    repeat (first | (refine s_nwc h ?_; clear h; intro kb M h) | (refine s_stc h ?_; clear h; intro M h) | refine t_exI h ?_ | refine t_exB h ?_ | refine t_exS h ?_ | refine t_exP h ?_ | refine t_exSl h ?_ | refine t_exV h ?_ | refine u_exI ?_ | refine u_exB ?_ | refine u_exS ?_ | refine u_exP ?_ | refine u_exSl ?_ | refine u_exV ?_ | refine u_nilc ?_ | (apply Exists.intro; (repeat apply Exists.intro); refine And.intro rfl ?_) | (refine And.intro ?_ ?_; first | exact trivial | exact rfl | exact t_ld h | (refine lds_s (t_ld h) ?_; (repeat (refine lds_s (t_ld h) ?_)); exact lds_nil) | omega) | refine u_bspT ?_ | refine u_bspF ?_)
    refine ⟨ra.1, ra.2, f_st h hi ra rfl fun M h => ?_⟩
    exact k _ h.fin1
  · obtain ⟨ra, rb⟩ := o2 rfl
    refine vc_frame_Frame_move ?_
    repeat (first | (refine s_nwc h ?_; clear h; intro kb M h) | (refine s_stc h ?_; clear h; intro M h) | refine t_exI h ?_ | refine t_exB h ?_ | refine t_exS h ?_ | refine t_exP h ?_ | refine t_exSl h ?_ | refine t_exV h ?_ | refine u_exI ?_ | refine u_exB ?_ | refine u_exS ?_ | refine u_exP ?_ | refine u_exSl ?_ | refine u_exV ?_ | refine u_nilc ?_ | (apply Exists.intro; (repeat apply Exists.intro); refine And.intro rfl ?_) | (refine And.intro ?_ ?_; first | exact trivial | exact rfl | exact t_ld h | (refine lds_s (t_ld h) ?_; (repeat (refine lds_s (t_ld h) ?_)); exact lds_nil) | omega) | refine u_bspT ?_ | refine u_bspF ?_)
    refine ⟨rb.1, rb.2, f_ld h hi rb rfl ?_⟩
    refine ⟨ra.1, ra.2, f_st h hi ra rfl fun M h => ?_⟩
    exact k _ h.fin1
  · obtain ⟨ra, rb, rc⟩ := o3 (by simp)
    refine vc_frame_Frame_add ?_
    repeat (first | (refine s_nwc h ?_; clear h; intro kb M h) | (refine s_stc h ?_; clear h; intro M h) | refine t_exI h ?_ | refine t_exB h ?_ | refine t_exS h ?_ | refine t_exP h ?_ | refine t_exSl h ?_ | refine t_exV h ?_ | refine u_exI ?_ | refine u_exB ?_ | refine u_exS ?_ | refine u_exP ?_ | refine u_exSl ?_ | refine u_exV ?_ | refine u_nilc ?_ | (apply Exists.intro; (repeat apply Exists.intro); refine And.intro rfl ?_) | (refine And.intro ?_ ?_; first | exact trivial | exact rfl | exact t_ld h | (refine lds_s (t_ld h) ?_; (repeat (refine lds_s (t_ld h) ?_)); exact lds_nil) | omega) | refine u_bspT ?_ | refine u_bspF ?_)
    refine ⟨rb.1, rb.2, f_ld h hi rb rfl ?_⟩
    repeat (first | (refine s_nwc h ?_; clear h; intro kb M h) | (refine s_stc h ?_; clear h; intro M h) | refine t_exI h ?_ | refine t_exB h ?_ | refine t_exS h ?_ | refine t_exP h ?_ | refine t_exSl h ?_ | refine t_exV h ?_ | refine u_exI ?_ | refine u_exB ?_ | refine u_exS ?_ | refine u_exP ?_ | refine u_exSl ?_ | refine u_exV ?_ | refine u_nilc ?_ | (apply Exists.intro; (repeat apply Exists.intro); refine And.intro rfl ?_) | (refine And.intro ?_ ?_; first | exact trivial | exact rfl | exact t_ld h | (refine lds_s (t_ld h) ?_; (repeat (refine lds_s (t_ld h) ?_)); exact lds_nil) | omega) | refine u_bspT ?_ | refine u_bspF ?_)
    refine ⟨rc.1, rc.2, f_ld h hi rc rfl ?_⟩
    refine ⟨ra.1, ra.2, f_st h hi ra rfl fun M h => ?_⟩
    exact k _ h.fin1
  · obtain ⟨ra, rb, rc⟩ := o3 (by simp)
    refine vc_frame_Frame_sub ?_
    repeat (first | (refine s_nwc h ?_; clear h; intro kb M h) | (refine s_stc h ?_; clear h; intro M h) | refine t_exI h ?_ | refine t_exB h ?_ | refine t_exS h ?_ | refine t_exP h ?_ | refine t_exSl h ?_ | refine t_exV h ?_ | refine u_exI ?_ | refine u_exB ?_ | refine u_exS ?_ | refine u_exP ?_ | refine u_exSl ?_ | refine u_exV ?_ | refine u_nilc ?_ | (apply Exists.intro; (repeat apply Exists.intro); refine And.intro rfl ?_) | (refine And.intro ?_ ?_; first | exact trivial | exact rfl | exact t_ld h | (refine lds_s (t_ld h) ?_; (repeat (refine lds_s (t_ld h) ?_)); exact lds_nil) | omega) | refine u_bspT ?_ | refine u_bspF ?_)
    refine ⟨rb.1, rb.2, f_ld h hi rb rfl ?_⟩
    repeat (first | (refine s_nwc h ?_; clear h; intro kb M h) | (refine s_stc h ?_; clear h; intro M h) | refine t_exI h ?_ | refine t_exB h ?_ | refine t_exS h ?_ | refine t_exP h ?_ | refine t_exSl h ?_ | refine t_exV h ?_ | refine u_exI ?_ | refine u_exB ?_ | refine u_exS ?_ | refine u_exP ?_ | refine u_exSl ?_ | refine u_exV ?_ | refine u_nilc ?_ | (apply Exists.intro; (repeat apply Exists.intro); refine And.intro rfl ?_) | (refine And.intro ?_ ?_; first | exact trivial | exact rfl | exact t_ld h | (refine lds_s (t_ld h) ?_; (repeat (refine lds_s (t_ld h) ?_)); exact lds_nil) | omega) | refine u_bspT ?_ | refine u_bspF ?_)
    refine ⟨rc.1, rc.2, f_ld h hi rc rfl ?_⟩
    refine ⟨ra.1, ra.2, f_st h hi ra rfl fun M h => ?_⟩
    exact k _ h.fin1
  · obtain ⟨ra, rb, rc⟩ := o3 (by simp)
    refine vc_frame_Frame_mul ?_
    repeat (first | (refine s_nwc h ?_; clear h; intro kb M h) | (refine s_stc h ?_; clear h; intro M h) | refine t_exI h ?_ | refine t_exB h ?_ | refine t_exS h ?_ | refine t_exP h ?_ | refine t_exSl h ?_ | refine t_exV h ?_ | refine u_exI ?_ | refine u_exB ?_ | refine u_exS ?_ | refine u_exP ?_ | refine u_exSl ?_ | refine u_exV ?_ | refine u_nilc ?_ | (apply Exists.intro; (repeat apply Exists.intro); refine And.intro rfl ?_) | (refine And.intro ?_ ?_; first | exact trivial | exact rfl | exact t_ld h | (refine lds_s (t_ld h) ?_; (repeat (refine lds_s (t_ld h) ?_)); exact lds_nil) | omega) | refine u_bspT ?_ | refine u_bspF ?_)
    refine ⟨rb.1, rb.2, f_ld h hi rb rfl ?_⟩
    repeat (first | (refine s_nwc h ?_; clear h; intro kb M h) | (refine s_stc h ?_; clear h; intro M h) | refine t_exI h ?_ | refine t_exB h ?_ | refine t_exS h ?_ | refine t_exP h ?_ | refine t_exSl h ?_ | refine t_exV h ?_ | refine u_exI ?_ | refine u_exB ?_ | refine u_exS ?_ | refine u_exP ?_ | refine u_exSl ?_ | refine u_exV ?_ | refine u_nilc ?_ | (apply Exists.intro; (repeat apply Exists.intro); refine And.intro rfl ?_) | (refine And.intro ?_ ?_; first | exact trivial | exact rfl | exact t_ld h | (refine lds_s (t_ld h) ?_; (repeat (refine lds_s (t_ld h) ?_)); exact lds_nil) | omega) | refine u_bspT ?_ | refine u_bspF ?_)
    refine ⟨rc.1, rc.2, f_ld h hi rc rfl ?_⟩
    refine ⟨ra.1, ra.2, f_st h hi ra rfl fun M h => ?_⟩
    exact k _ h.fin1
  · obtain ⟨ra, rb, rc⟩ := o3 (by simp)
    refine vc_frame_Frame_less ?_
    repeat (first | (refine s_nwc h ?_; clear h; intro kb M h) | (refine s_stc h ?_; clear h; intro M h) | refine t_exI h ?_ | refine t_exB h ?_ | refine t_exS h ?_ | refine t_exP h ?_ | refine t_exSl h ?_ | refine t_exV h ?_ | refine u_exI ?_ | refine u_exB ?_ | refine u_exS ?_ | refine u_exP ?_ | refine u_exSl ?_ | refine u_exV ?_ | refine u_nilc ?_ | (apply Exists.intro; (repeat apply Exists.intro); refine And.intro rfl ?_) | (refine And.intro ?_ ?_; first | exact trivial | exact rfl | exact t_ld h | (refine lds_s (t_ld h) ?_; (repeat (refine lds_s (t_ld h) ?_)); exact lds_nil) | omega) | refine u_bspT ?_ | refine u_bspF ?_)
    refine ⟨rb.1, rb.2, f_ld h hi rb rfl ?_⟩
    repeat (first | (refine s_nwc h ?_; clear h; intro kb M h) | (refine s_stc h ?_; clear h; intro M h) | refine t_exI h ?_ | refine t_exB h ?_ | refine t_exS h ?_ | refine t_exP h ?_ | refine t_exSl h ?_ | refine t_exV h ?_ | refine u_exI ?_ | refine u_exB ?_ | refine u_exS ?_ | refine u_exP ?_ | refine u_exSl ?_ | refine u_exV ?_ | refine u_nilc ?_ | (apply Exists.intro; (repeat apply Exists.intro); refine And.intro rfl ?_) | (refine And.intro ?_ ?_; first | exact trivial | exact rfl | exact t_ld h | (refine lds_s (t_ld h) ?_; (repeat (refine lds_s (t_ld h) ?_)); exact lds_nil) | omega) | refine u_bspT ?_ | refine u_bspF ?_)
    refine ⟨rc.1, rc.2, f_ld h hi rc rfl ?_⟩
    repeat (first | (refine s_nwc h ?_; clear h; intro kb M h) | (refine s_stc h ?_; clear h; intro M h) | refine t_exI h ?_ | refine t_exB h ?_ | refine t_exS h ?_ | refine t_exP h ?_ | refine t_exSl h ?_ | refine t_exV h ?_ | refine u_exI ?_ | refine u_exB ?_ | refine u_exS ?_ | refine u_exP ?_ | refine u_exSl ?_ | refine u_exV ?_ | refine u_nilc ?_ | (apply Exists.intro; (repeat apply Exists.intro); refine And.intro rfl ?_) | (refine And.intro ?_ ?_; first | exact trivial | exact rfl | exact t_ld h | (refine lds_s (t_ld h) ?_; (repeat (refine lds_s (t_ld h) ?_)); exact lds_nil) | omega) | refine u_bspT ?_ | refine u_bspF ?_)
    refine ⟨ra.1, ra.2, f_st h hi ra rfl fun M h => ?_⟩
    have e : f.pure ⟨((6 : Nat) : Int), xa, xb, xc⟩ = f.set xa (if f.reg xb < f.reg xc then 1 else 0) := rfl
    rw [e] at k
    refine bsp_dec.2 ⟨fun hl => ?_, fun hl => ?_⟩
    · rw [if_pos hl] at k
      repeat (first | (refine s_nwc h ?_; clear h; intro kb M h) | (refine s_stc h ?_; clear h; intro M h) | refine t_exI h ?_ | refine t_exB h ?_ | refine t_exS h ?_ | refine t_exP h ?_ | refine t_exSl h ?_ | refine t_exV h ?_ | refine u_exI ?_ | refine u_exB ?_ | refine u_exS ?_ | refine u_exP ?_ | refine u_exSl ?_ | refine u_exV ?_ | refine u_nilc ?_ | (apply Exists.intro; (repeat apply Exists.intro); refine And.intro rfl ?_) | (refine And.intro ?_ ?_; first | exact trivial | exact rfl | exact t_ld h | (refine lds_s (t_ld h) ?_; (repeat (refine lds_s (t_ld h) ?_)); exact lds_nil) | omega) | refine u_bspT ?_ | refine u_bspF ?_)
      have hi2 : (l.set i (f.set xa 0))[i]? = some (f.set xa 0) := by simp [hlt]
      refine ⟨ra.1, ra.2, f_st h hi2 ra rfl fun M h => ?_⟩
      rw [set_set', Frm.set_set] at h
      exact k _ h.fin1
    · rw [if_neg hl] at k
      exact k _ h.fin1
  · refine vc_frame_Frame_jump ?_
    repeat (first | (refine s_nwc h ?_; clear h; intro kb M h) | (refine s_stc h ?_; clear h; intro M h) | refine t_exI h ?_ | refine t_exB h ?_ | refine t_exS h ?_ | refine t_exP h ?_ | refine t_exSl h ?_ | refine t_exV h ?_ | refine u_exI ?_ | refine u_exB ?_ | refine u_exS ?_ | refine u_exP ?_ | refine u_exSl ?_ | refine u_exV ?_ | refine u_nilc ?_ | (apply Exists.intro; (repeat apply Exists.intro); refine And.intro rfl ?_) | (refine And.intro ?_ ?_; first | exact trivial | exact rfl | exact t_ld h | (refine lds_s (t_ld h) ?_; (repeat (refine lds_s (t_ld h) ?_)); exact lds_nil) | omega) | refine u_bspT ?_ | refine u_bspF ?_)
    refine f_stPc h hi rfl fun M h => ?_
    exact k _ h.fin1
  · have ra : isReg xa := o1 (by simp)
    refine vc_frame_Frame_branch ?_
    repeat (first | (refine s_nwc h ?_; clear h; intro kb M h) | (refine s_stc h ?_; clear h; intro M h) | refine t_exI h ?_ | refine t_exB h ?_ | refine t_exS h ?_ | refine t_exP h ?_ | refine t_exSl h ?_ | refine t_exV h ?_ | refine u_exI ?_ | refine u_exB ?_ | refine u_exS ?_ | refine u_exP ?_ | refine u_exSl ?_ | refine u_exV ?_ | refine u_nilc ?_ | (apply Exists.intro; (repeat apply Exists.intro); refine And.intro rfl ?_) | (refine And.intro ?_ ?_; first | exact trivial | exact rfl | exact t_ld h | (refine lds_s (t_ld h) ?_; (repeat (refine lds_s (t_ld h) ?_)); exact lds_nil) | omega) | refine u_bspT ?_ | refine u_bspF ?_)
    have e : f.pure ⟨((8 : Nat) : Int), xa, xb, xc⟩ = if f.reg xa ≠ 0 then { f with pc := xb } else f := rfl
    rw [e] at k
    refine ⟨ra.1, ra.2, f_ld h hi ra rfl ?_⟩
    refine bsp_ne.2 ⟨fun hl => ?_, fun hl => ?_⟩
    · rw [if_pos hl] at k
      repeat (first | (refine s_nwc h ?_; clear h; intro kb M h) | (refine s_stc h ?_; clear h; intro M h) | refine t_exI h ?_ | refine t_exB h ?_ | refine t_exS h ?_ | refine t_exP h ?_ | refine t_exSl h ?_ | refine t_exV h ?_ | refine u_exI ?_ | refine u_exB ?_ | refine u_exS ?_ | refine u_exP ?_ | refine u_exSl ?_ | refine u_exV ?_ | refine u_nilc ?_ | (apply Exists.intro; (repeat apply Exists.intro); refine And.intro rfl ?_) | (refine And.intro ?_ ?_; first | exact trivial | exact rfl | exact t_ld h | (refine lds_s (t_ld h) ?_; (repeat (refine lds_s (t_ld h) ?_)); exact lds_nil) | omega) | refine u_bspT ?_ | refine u_bspF ?_)
      refine f_stPc h hi rfl fun M h => ?_
      exact k _ h.fin1
    · rw [if_neg (by simpa using hl), hsame] at k
      exact k _ ((h.row (some ⟨b, 0, none⟩)).fin1)
def fTab : AL := (List.range 9).map fun n : Nat => ((n : Int), .func (.func (fOp.getD n 0)) #[] #[])
theorem frame_table (h : Hp R L M) (k : ∀ m M', Hp R (ob m (mapO fTab) :: L) M' → K (.map (some m)) M') : ACalls Tryz.prog 153 #[] M K Kp := by
  refine vc_frame_table ?_
  refine s_nwo h ?_
  clear h
  intro m M h
  replace h : Hp R (ob m (mapO []) :: L) M := h
  have hu : Tryz.prog.underlying 302 = some (.map 32 300) := by kernel_rfl
  have hk : Tryz.prog.underlying 32 = some (.int .i64) := by kernel_rfl
  iterate 9
    refine s_mapUpdate h hu hk ?_
    clear h
    intro M h
  exact k _ _ h
/-- An instruction is done, if registers alone decide it. -/
theorem frame_Pure (h : Hp R L M) [p : RowAt (some ⟨b, 0, none⟩) L Frm frmE 234 c l L'] (hi : l[i]? = some f) (hx : x.okPure) (h0 : 0 ≤ x.op) (hs : 0 ≤ f.pc ∧ f.pc < 1000000000)
    (k1 : x.op ≤ 8 → ∀ M', Hp R (rowF (some ⟨b, 0, none⟩) c (l.set i (f.next.pure x)) :: L') M' → K (.bool true) M')
    (k2 : 8 < x.op → ∀ M', Hp R (rowF (some ⟨b, 0, none⟩) c l :: L') M' → K (.bool false) M') :
    ACalls Tryz.prog 121 #[.pointer (some ⟨b, i * 11, none⟩), .agg #[.int .i64 x.op, .int .i64 x.a, .int .i64 x.b, .int .i64 x.c]] M K Kp := by
  have hlt := (List.getElem?_eq_some_iff.1 hi).1
  obtain ⟨q, hq⟩ := Int.eq_ofNat_of_zero_le h0
  refine vc_frame_Frame_Pure ?_
  repeat (first | (refine s_nwc h ?_; clear h; intro kb M h) | (refine s_stc h ?_; clear h; intro M h) | refine t_exI h ?_ | refine t_exB h ?_ | refine t_exS h ?_ | refine t_exP h ?_ | refine t_exSl h ?_ | refine t_exV h ?_ | refine u_exI ?_ | refine u_exB ?_ | refine u_exS ?_ | refine u_exP ?_ | refine u_exSl ?_ | refine u_exV ?_ | refine u_nilc ?_ | (apply Exists.intro; (repeat apply Exists.intro); refine And.intro rfl ?_) | (refine And.intro ?_ ?_; first | exact trivial | exact rfl | exact t_ld h | (refine lds_s (t_ld h) ?_; (repeat (refine lds_s (t_ld h) ?_)); exact lds_nil) | omega) | refine u_bspT ?_ | refine u_bspF ?_)
  refine frame_table h ?_
  clear h
  intro m M h
  repeat (first | (refine s_nwc h ?_; clear h; intro kb M h) | (refine s_stc h ?_; clear h; intro M h) | refine t_exI h ?_ | refine t_exB h ?_ | refine t_exS h ?_ | refine t_exP h ?_ | refine t_exSl h ?_ | refine t_exV h ?_ | refine u_exI ?_ | refine u_exB ?_ | refine u_exS ?_ | refine u_exP ?_ | refine u_exSl ?_ | refine u_exV ?_ | refine u_nilc ?_ | (apply Exists.intro; (repeat apply Exists.intro); refine And.intro rfl ?_) | (refine And.intro ?_ ?_; first | exact trivial | exact rfl | exact t_ld h | (refine lds_s (t_ld h) ?_; (repeat (refine lds_s (t_ld h) ?_)); exact lds_nil) | omega) | refine u_bspT ?_ | refine u_bspF ?_)
  have hu : Tryz.prog.underlying 302 = some (.map 32 300) := by kernel_rfl
  have hk : Tryz.prog.underlying 32 = some (.int .i64) := by kernel_rfl
  obtain ⟨ti, hti, htz⟩ : ∃ ti, Tryz.prog.info? 300 = some ti ∧ ti.zero = some .nilFunc := ⟨_, rfl, rfl⟩
  refine s_lookup2 h hu hk hti htz ?_
  refine ⟨_, _, rfl, t_ld h, ?_⟩
  by_cases h8 : x.op ≤ 8
  · have hq8 : q ≤ 8 := by omega
    have hl : aget fTab x.op = some (.func (.func (fOp.getD q 0)) #[] #[]) := by
      rw [hq]
      obtain rfl | rfl | rfl | rfl | rfl | rfl | rfl | rfl | rfl : q = 0 ∨ q = 1 ∨ q = 2 ∨ q = 3 ∨ q = 4 ∨ q = 5 ∨ q = 6 ∨ q = 7 ∨ q = 8 := by omega
      all_goals rfl
    rw [hl]
    refine u_bspT ?_
    refine f_ldPc h hi rfl ?_
    rw [wrap_succ' (by omega) (by omega)]
    refine f_stPc h hi rfl ?_
    clear h
    intro M h
    have hi2 : (l.set i { f with pc := f.pc + 1 })[i]? = some f.next := by simp [hlt, Frm.next]
    repeat (first | (refine s_nwc h ?_; clear h; intro kb M h) | (refine s_stc h ?_; clear h; intro M h) | refine t_exI h ?_ | refine t_exB h ?_ | refine t_exS h ?_ | refine t_exP h ?_ | refine t_exSl h ?_ | refine t_exV h ?_ | refine u_exI ?_ | refine u_exB ?_ | refine u_exS ?_ | refine u_exP ?_ | refine u_exSl ?_ | refine u_exV ?_ | refine u_nilc ?_ | (apply Exists.intro; (repeat apply Exists.intro); refine And.intro rfl ?_) | (refine And.intro ?_ ?_; first | exact trivial | exact rfl | exact t_ld h | (refine lds_s (t_ld h) ?_; (repeat (refine lds_s (t_ld h) ?_)); exact lds_nil) | omega) | refine u_bspT ?_ | refine u_bspF ?_)
    have hg : 1 < fOp.getD q 0 ∧ fOp.getD q 0 < Cx.ok := by
      obtain rfl | rfl | rfl | rfl | rfl | rfl | rfl | rfl | rfl : q = 0 ∨ q = 1 ∨ q = 2 ∨ q = 3 ∨ q = 4 ∨ q = 5 ∨ q = 6 ∨ q = 7 ∨ q = 8 := by omega
      all_goals exact ⟨by decide, by show _ < 228; decide⟩
    refine callK_fn hg ?_
    refine frame_op (f := f.next) h hi2 hx q hq hq8 ?_
    clear h
    intro M h
    rw [set_set'] at h
    exact ⟨rfl, k1 h8 _ h.fin1⟩
  · have hl : aget fTab x.op = none := by
      rw [aget_eq, aget_none]
      have : fTab.map (·.1) = [0, 1, 2, 3, 4, 5, 6, 7, 8] := by decide
      rw [this]; simp; omega
    rw [hl]
    refine u_bspF ?_
    exact k2 (by omega) _ ((h.row (some ⟨b, 0, none⟩)).fin1)
end
end Go.Proofs

namespace Go.Proofs
open Go.AF
set_option linter.unusedVariables false
set_option maxRecDepth 100000
set_option maxHeartbeats 1000000
attribute [local irreducible] exI exB exS exP exSl exV nilc stc nwc semK semU bsp
section
variable {R : Mem} {L L' : List HP} {M : Mem} {K : Value → Mem → Prop} {Kp : List PanicEntry → Mem → Prop} {b i c : Nat} {l : List Frm} {f : Frm} {x : Ins}
theorem frame_Top {m : Nat} (hm : 0 < m) (h2 : m ≤ 1000000000) (k : K (.pointer (some ⟨b, (m - 1) * 11, none⟩)) M) : ACalls Tryz.prog 120 #[.slice (some ⟨b, 0, none⟩) m c] M K Kp := by
  refine vc_frame_Stack_Top ?_
  have e : IntKind.wrap .i64 ((m : Int) - 1) = ((m - 1 : Nat) : Int) := wn (by omega) (by omega)
  refine bsp_eq.2 ⟨fun h0 => by omega, fun _ => ?_⟩
  rw [e]
  refine ⟨by omega, by omega, u_nilc ?_⟩
  simp only [Int.toNat_natCast, Nat.zero_add]
  exact k
theorem frame_Begin {fn v : Int} (h : Hp R L M) (k : ∀ b M', Hp R (rowF (some ⟨b, 0, none⟩) 1 [Frm.begin fn v] :: L) M' → K (.slice (some ⟨b, 0, none⟩) 1 1) M') : ACalls Tryz.prog 71 #[.int .i64 fn, .int .i64 v] M K Kp := by
  refine vc_frame_Begin ?_
  refine s_nwc h ?_
  clear h
  intro b M h
  exact k b M (h.row_pt (E := frmE) (l := [Frm.begin fn v]) rfl)
theorem frame_Call {fn v into : Int} {A : Option Addr} (h : Hp R L M) [p : RowAt A L Frm frmE 234 c l L'] (hl : 0 < l.length)
    (k1 : 16 ≤ l.length → K (.tuple #[.slice A l.length c, .bool false]) M)
    (k2 : l.length < 16 → ∀ b c' M', Hp R (rowF (some ⟨b, 0, none⟩) c' (l ++ [⟨fn, 0, [v, 0, 0, 0, 0, 0, 0, 0], into⟩]) :: L) M' → K (.tuple #[.slice (some ⟨b, 0, none⟩) (l.length + 1) c', .bool true]) M') :
    ACalls Tryz.prog 211 #[.slice A l.length c, .int .i64 fn, .int .i64 v, .int .i64 into] M K Kp := by
  refine vc_frame_Stack_Call ?_
  have hcap := h.row_le A
  refine bsp_dec.2 ⟨fun h16 => k1 (by omega), fun h16 => ?_⟩
  refine ⟨by omega, by omega, by omega, by omega, by omega, by omega, ?_⟩
  refine s_nwc h ?_
  clear h
  intro kb M h
  simp only [Int.toNat_natCast, Nat.sub_zero]
  have e : slA A 0 l.length 11 = A := by
    obtain ⟨bb, rfl⟩ := h.row_some (A := A) hl (by decide)
    unfold slA
    rw [if_neg (by omega)]
    rfl
  rw [e]
  refine Hp.appendF (E := frmE) (r := [⟨fn, 0, [v, 0, 0, 0, 0, 0, 0, 0], into⟩]) h (h.src (A := A)) rfl el_frm rfl rfl (by omega) (by simp; omega) ?_
  clear h
  intro b c' M h
  refine u_exSl ?_
  have := k2 (by omega) b c' M h
  rwa [List.length_append]
theorem frame_Return {v : Int} {A : Option Addr} (h : Hp R L M) [p : RowAt A L Frm frmE 234 c l L'] (hl : 0 < l.length) (hs : l.length ≤ 1000000)
    (hlast : l[l.length - 1]? = some f) (hin : isReg f.into)
    (k1 : l.length < 2 → K (.tuple #[.slice none 0 0, .bool false]) M)
    (k2 : 2 ≤ l.length → ∀ b c' M', ∀ g, l[l.length - 2]? = some g → Hp R (rowF (some ⟨b, 0, none⟩) c' ((l.take (l.length - 1)).set (l.length - 2) (g.set f.into v)) :: L) M' → K (.tuple #[.slice (some ⟨b, 0, none⟩) (l.length - 1) c', .bool true]) M') :
    ACalls Tryz.prog 212 #[.slice A l.length c, .int .i64 v] M K Kp := by
  refine vc_frame_Stack_Return ?_
  have hcap := h.row_le A
  refine bsp_dec.2 ⟨fun h16 => k1 (by omega), fun h16 => ?_⟩
  have e : IntKind.wrap .i64 ((l.length : Int) - 1) = ((l.length - 1 : Nat) : Int) := wn (by omega) (by omega)
  obtain ⟨ba, rfl⟩ := h.row_some (A := A) hl (by decide)
  refine s_nwc h ?_
  clear h
  intro kb M h
  rw [e]
  refine ⟨by omega, by omega, by omega, by omega, by omega, by omega, ?_⟩
  simp only [Int.toNat_natCast, Nat.sub_zero]
  have e2 : slA (some ⟨ba, 0, none⟩) 0 c 11 = some ⟨ba, 0, none⟩ := by
    unfold slA
    rw [if_neg (by omega)]
    rfl
  rw [e2]
  refine h.rowCopy frmE el_frm (l.take (l.length - 1)) ((h.src (A := some ⟨ba, 0, none⟩)).takeE _) (by simp) (by simp; omega) ?_
  clear h
  intro A' c' M h
  have hlen : (l.take (l.length - 1)).length = l.length - 1 := by simp
  obtain ⟨b', rfl⟩ := h.row_some (A := A') (by omega) (by decide)
  refine u_exSl ?_
  rw [hlen]
  refine frame_Top (by omega) (by omega) ?_
  refine u_exP (u_nilc ?_)
  refine frame_Top (by omega) (by omega) ?_
  refine u_exP (u_nilc ?_)
  refine v_exI (Src.at (h.src (A := some ⟨ba, 0, none⟩)) h (i := l.length - 1) (j := 10) hlast rfl (by show _ = 0 + ((l.length - 1) * 11 + 10); omega)) ?_
  obtain ⟨g, hg⟩ := idx_ex (l := l) (i := l.length - 2) (by omega)
  refine ⟨hin.1, hin.2, ?_⟩
  have hg2 : (l.take (l.length - 1))[l.length - 2]? = some g := by rw [List.getElem?_take, if_pos (by omega)]; exact hg
  refine f_st h hg2 hin (by omega) ?_
  clear h
  intro M h
  exact k2 (by omega) b' c' M g hg h
/-- A lock stands at b. -/
abbrev rowI (A : Option Addr) (c : Nat) (l : List Int) : HP := rowP intE 3 A c l
def lockR : Rep Lk := ⟨fun b x => exs fun A : Option Addr => exs fun c : Nat => sep [pt b [.int .i64 x.owner, .slice A x.waits.length c] 238, rowI A c x.waits]⟩
def Lk.take (x : Lk) (g : Int) : Lk × Bool := if x.owner = -1 then (⟨g, x.waits⟩, true) else (⟨x.owner, x.waits ++ [g]⟩, false)
def Lk.give (x : Lk) (g : Int) : Lk × Int × Int :=
  if x.owner = -1 ∨ x.owner ≠ g then (x, -1, 5) else (⟨x.waits.headD (-1), x.waits.tail⟩, x.waits.headD (-1), 0)
variable {y : Lk}
theorem lock_open (h : Hp R L M) [o : ObjAt lockR b L y L'] : ∃ A c, Hp R (pt b [.int .i64 y.owner, .slice A y.waits.length c] 238 :: rowI A c y.waits :: L') M := by
  have := h.obj lockR b
  simpa only [lockR, Hp.ex_iff, Hp.sep_iff, List.cons_append, List.nil_append] using this
theorem lock_close {A : Option Addr} {n c : Nat} {o : Int} {ws : List Int} {L1 L2 : List HP} (h : Hp R L M) (b : Nat) [p : PtAt b L [.int .i64 o, .slice A n c] 238 L1] [p1 : RowAt A L1 Int intE 3 c ws L2] (e : n = ws.length := by first | rfl | simp) : Hp R (objP lockR b ⟨o, ws⟩ :: L2) M := by
  subst e
  refine Hp.objI ?_
  simp only [lockR, Hp.ex_iff, Hp.sep_iff, List.cons_append, List.nil_append]
  exact ⟨_, _, h.sub (.cons p.pick (.cons p1.pick .refl))⟩
theorem locks_New (h : Hp R L M) (k : ∀ b M', Hp R (objP lockR b ⟨-1, []⟩ :: L) M' → K (.pointer (some ⟨b, 0, none⟩)) M') : ACalls Tryz.prog 73 #[] M K Kp := by
  refine vc_locks_New ?_
  refine s_nwc h ?_
  clear h
  intro b M h
  have h := h.row_nil intE 3
  exact k b M (lock_close h b)
theorem locks_Take {g : Int} (h : Hp R L M) [o : ObjAt lockR b L y L'] (hs : y.waits.length ≤ 1000000000) (k : ∀ M', Hp R (objP lockR b (y.take g).1 :: L') M' → K (.bool (y.take g).2) M') :
    ACalls Tryz.prog 215 #[.pointer (some ⟨b, 0, none⟩), .int .i64 g] M K Kp := by
  refine vc_locks_Lock_Take ?_
  have h' := lock_open h (b := b)
  clear h
  obtain ⟨A, c, h⟩ := h'
  repeat (first | (refine s_nwc h ?_; clear h; intro kb M h) | (refine s_stc h ?_; clear h; intro M h) | refine t_exI h ?_ | refine t_exB h ?_ | refine t_exS h ?_ | refine t_exP h ?_ | refine t_exSl h ?_ | refine t_exV h ?_ | refine u_exI ?_ | refine u_exB ?_ | refine u_exS ?_ | refine u_exP ?_ | refine u_exSl ?_ | refine u_exV ?_ | refine u_nilc ?_ | (apply Exists.intro; (repeat apply Exists.intro); refine And.intro rfl ?_) | (refine And.intro ?_ ?_; first | exact trivial | exact rfl | exact t_ld h | (refine lds_s (t_ld h) ?_; (repeat (refine lds_s (t_ld h) ?_)); exact lds_nil) | omega) | refine u_bspT ?_ | refine u_bspF ?_)
  unfold Lk.take at k
  refine bsp_ne.2 ⟨fun hn => ?_, fun hn => ?_⟩
  · rw [if_neg hn] at k
    repeat (first | (refine s_nwc h ?_; clear h; intro kb M h) | (refine s_stc h ?_; clear h; intro M h) | refine t_exI h ?_ | refine t_exB h ?_ | refine t_exS h ?_ | refine t_exP h ?_ | refine t_exSl h ?_ | refine t_exV h ?_ | refine u_exI ?_ | refine u_exB ?_ | refine u_exS ?_ | refine u_exP ?_ | refine u_exSl ?_ | refine u_exV ?_ | refine u_nilc ?_ | (apply Exists.intro; (repeat apply Exists.intro); refine And.intro rfl ?_) | (refine And.intro ?_ ?_; first | exact trivial | exact rfl | exact t_ld h | (refine lds_s (t_ld h) ?_; (repeat (refine lds_s (t_ld h) ?_)); exact lds_nil) | omega) | refine u_bspT ?_ | refine u_bspF ?_)
    refine h.rowAppend1 el_int [g] rfl rfl (by simp; omega) ?_
    clear h
    intro A' c' M h
    repeat (first | (refine s_nwc h ?_; clear h; intro kb M h) | (refine s_stc h ?_; clear h; intro M h) | refine t_exI h ?_ | refine t_exB h ?_ | refine t_exS h ?_ | refine t_exP h ?_ | refine t_exSl h ?_ | refine t_exV h ?_ | refine u_exI ?_ | refine u_exB ?_ | refine u_exS ?_ | refine u_exP ?_ | refine u_exSl ?_ | refine u_exV ?_ | refine u_nilc ?_ | (apply Exists.intro; (repeat apply Exists.intro); refine And.intro rfl ?_) | (refine And.intro ?_ ?_; first | exact trivial | exact rfl | exact t_ld h | (refine lds_s (t_ld h) ?_; (repeat (refine lds_s (t_ld h) ?_)); exact lds_nil) | omega) | refine u_bspT ?_ | refine u_bspF ?_)
    exact k _ (lock_close h b).fin1
  · rw [if_pos hn] at k
    repeat (first | (refine s_nwc h ?_; clear h; intro kb M h) | (refine s_stc h ?_; clear h; intro M h) | refine t_exI h ?_ | refine t_exB h ?_ | refine t_exS h ?_ | refine t_exP h ?_ | refine t_exSl h ?_ | refine t_exV h ?_ | refine u_exI ?_ | refine u_exB ?_ | refine u_exS ?_ | refine u_exP ?_ | refine u_exSl ?_ | refine u_exV ?_ | refine u_nilc ?_ | (apply Exists.intro; (repeat apply Exists.intro); refine And.intro rfl ?_) | (refine And.intro ?_ ?_; first | exact trivial | exact rfl | exact t_ld h | (refine lds_s (t_ld h) ?_; (repeat (refine lds_s (t_ld h) ?_)); exact lds_nil) | omega) | refine u_bspT ?_ | refine u_bspF ?_)
    exact k _ (lock_close h b).fin1
theorem locks_Give {g : Int} (h : Hp R L M) [o : ObjAt lockR b L y L'] (hs : y.waits.length ≤ 1000000000) (k : ∀ M', Hp R (objP lockR b (y.give g).1 :: L') M' → K (.tuple #[.int .i64 (y.give g).2.1, .int .i64 (y.give g).2.2]) M') :
    ACalls Tryz.prog 216 #[.pointer (some ⟨b, 0, none⟩), .int .i64 g] M K Kp := by
  refine vc_locks_Lock_Give ?_
  obtain ⟨ow, ws⟩ := y
  have h' := lock_open h (b := b)
  clear h
  obtain ⟨A, c, h⟩ := h'
  dsimp only at h hs
  repeat (first | (refine s_nwc h ?_; clear h; intro kb M h) | (refine s_stc h ?_; clear h; intro M h) | refine t_exI h ?_ | refine t_exB h ?_ | refine t_exS h ?_ | refine t_exP h ?_ | refine t_exSl h ?_ | refine t_exV h ?_ | refine u_exI ?_ | refine u_exB ?_ | refine u_exS ?_ | refine u_exP ?_ | refine u_exSl ?_ | refine u_exV ?_ | refine u_nilc ?_ | (apply Exists.intro; (repeat apply Exists.intro); refine And.intro rfl ?_) | (refine And.intro ?_ ?_; first | exact trivial | exact rfl | exact t_ld h | (refine lds_s (t_ld h) ?_; (repeat (refine lds_s (t_ld h) ?_)); exact lds_nil) | omega) | refine u_bspT ?_ | refine u_bspF ?_)
  unfold Lk.give at k
  refine bsp_eq.2 ⟨fun hn => ?_, fun hn => ?_⟩
  · rw [if_pos (.inl hn)] at k
    exact k _ (lock_close h b).fin1
  repeat (first | (refine s_nwc h ?_; clear h; intro kb M h) | (refine s_stc h ?_; clear h; intro M h) | refine t_exI h ?_ | refine t_exB h ?_ | refine t_exS h ?_ | refine t_exP h ?_ | refine t_exSl h ?_ | refine t_exV h ?_ | refine u_exI ?_ | refine u_exB ?_ | refine u_exS ?_ | refine u_exP ?_ | refine u_exSl ?_ | refine u_exV ?_ | refine u_nilc ?_ | (apply Exists.intro; (repeat apply Exists.intro); refine And.intro rfl ?_) | (refine And.intro ?_ ?_; first | exact trivial | exact rfl | exact t_ld h | (refine lds_s (t_ld h) ?_; (repeat (refine lds_s (t_ld h) ?_)); exact lds_nil) | omega) | refine u_bspT ?_ | refine u_bspF ?_)
  refine bsp_ne.2 ⟨fun hn2 => ?_, fun hn2 => ?_⟩
  · rw [if_pos (.inr hn2)] at k
    exact k _ (lock_close h b).fin1
  rw [if_neg (by rintro (h | h) <;> contradiction)] at k
  repeat (first | (refine s_nwc h ?_; clear h; intro kb M h) | (refine s_stc h ?_; clear h; intro M h) | refine t_exI h ?_ | refine t_exB h ?_ | refine t_exS h ?_ | refine t_exP h ?_ | refine t_exSl h ?_ | refine t_exV h ?_ | refine u_exI ?_ | refine u_exB ?_ | refine u_exS ?_ | refine u_exP ?_ | refine u_exSl ?_ | refine u_exV ?_ | refine u_nilc ?_ | (apply Exists.intro; (repeat apply Exists.intro); refine And.intro rfl ?_) | (refine And.intro ?_ ?_; first | exact trivial | exact rfl | exact t_ld h | (refine lds_s (t_ld h) ?_; (repeat (refine lds_s (t_ld h) ?_)); exact lds_nil) | omega) | refine u_bspT ?_ | refine u_bspF ?_)
  refine bsp_dec.2 ⟨fun hr => ?_, fun hr => ?_⟩
  · cases ws with
    | nil => simp at hr
    | cons w r =>
      repeat (first | (refine s_nwc h ?_; clear h; intro kb M h) | (refine s_stc h ?_; clear h; intro M h) | refine t_exI h ?_ | refine t_exB h ?_ | refine t_exS h ?_ | refine t_exP h ?_ | refine t_exSl h ?_ | refine t_exV h ?_ | refine u_exI ?_ | refine u_exB ?_ | refine u_exS ?_ | refine u_exP ?_ | refine u_exSl ?_ | refine u_exV ?_ | refine u_nilc ?_ | (apply Exists.intro; (repeat apply Exists.intro); refine And.intro rfl ?_) | (refine And.intro ?_ ?_; first | exact trivial | exact rfl | exact t_ld h | (refine lds_s (t_ld h) ?_; (repeat (refine lds_s (t_ld h) ?_)); exact lds_nil) | omega) | refine u_bspT ?_ | refine u_bspF ?_)
      obtain ⟨q, rfl⟩ := h.row_some (A := A) (by simp) (by decide)
      repeat (first | (refine s_nwc h ?_; clear h; intro kb M h) | (refine s_stc h ?_; clear h; intro M h) | refine t_exI h ?_ | refine t_exB h ?_ | refine t_exS h ?_ | refine t_exP h ?_ | refine t_exSl h ?_ | refine t_exV h ?_ | refine u_exI ?_ | refine u_exB ?_ | refine u_exS ?_ | refine u_exP ?_ | refine u_exSl ?_ | refine u_exV ?_ | refine u_nilc ?_ | (apply Exists.intro; (repeat apply Exists.intro); refine And.intro rfl ?_) | (refine And.intro ?_ ?_; first | exact trivial | exact rfl | exact t_ld h | (refine lds_s (t_ld h) ?_; (repeat (refine lds_s (t_ld h) ?_)); exact lds_nil) | omega) | refine u_bspT ?_ | refine u_bspF ?_)
      refine v_exI (Src.at (h.src (A := some ⟨q, 0, none⟩)) h (i := 0) (j := 0) rfl rfl (by simp [intE])) ?_
      have hcap := h.row_le (some ⟨q, 0, none⟩)
      have hlen : r.length + 1 ≤ 1000000000 := by simpa using hs
      repeat (first | (refine s_nwc h ?_; clear h; intro kb M h) | (refine s_stc h ?_; clear h; intro M h) | refine t_exI h ?_ | refine t_exB h ?_ | refine t_exS h ?_ | refine t_exP h ?_ | refine t_exSl h ?_ | refine t_exV h ?_ | refine u_exI ?_ | refine u_exB ?_ | refine u_exS ?_ | refine u_exP ?_ | refine u_exSl ?_ | refine u_exV ?_ | refine u_nilc ?_ | (apply Exists.intro; (repeat apply Exists.intro); refine And.intro rfl ?_) | (refine And.intro ?_ ?_; first | exact trivial | exact rfl | exact t_ld h | (refine lds_s (t_ld h) ?_; (repeat (refine lds_s (t_ld h) ?_)); exact lds_nil) | omega) | refine u_bspT ?_ | refine u_bspF ?_)
      simp only [Int.toNat_natCast]
      refine h.rowCopy intE el_int r ((h.src (A := some ⟨q, 0, none⟩)).drop (m := 1) hcap) (by simp) (by omega) ?_
      clear h
      intro A' c' M h
      repeat (first | (refine s_nwc h ?_; clear h; intro kb M h) | (refine s_stc h ?_; clear h; intro M h) | refine t_exI h ?_ | refine t_exB h ?_ | refine t_exS h ?_ | refine t_exP h ?_ | refine t_exSl h ?_ | refine t_exV h ?_ | refine u_exI ?_ | refine u_exB ?_ | refine u_exS ?_ | refine u_exP ?_ | refine u_exSl ?_ | refine u_exV ?_ | refine u_nilc ?_ | (apply Exists.intro; (repeat apply Exists.intro); refine And.intro rfl ?_) | (refine And.intro ?_ ?_; first | exact trivial | exact rfl | exact t_ld h | (refine lds_s (t_ld h) ?_; (repeat (refine lds_s (t_ld h) ?_)); exact lds_nil) | omega) | refine u_bspT ?_ | refine u_bspF ?_)
      exact k _ (lock_close h b).fin1
  · cases ws with
    | cons v l => simp at hr
    | nil =>
      repeat (first | (refine s_nwc h ?_; clear h; intro kb M h) | (refine s_stc h ?_; clear h; intro M h) | refine t_exI h ?_ | refine t_exB h ?_ | refine t_exS h ?_ | refine t_exP h ?_ | refine t_exSl h ?_ | refine t_exV h ?_ | refine u_exI ?_ | refine u_exB ?_ | refine u_exS ?_ | refine u_exP ?_ | refine u_exSl ?_ | refine u_exV ?_ | refine u_nilc ?_ | (apply Exists.intro; (repeat apply Exists.intro); refine And.intro rfl ?_) | (refine And.intro ?_ ?_; first | exact trivial | exact rfl | exact t_ld h | (refine lds_s (t_ld h) ?_; (repeat (refine lds_s (t_ld h) ?_)); exact lds_nil) | omega) | refine u_bspT ?_ | refine u_bspF ?_)
      exact k _ (lock_close h b).fin1
end
end Go.Proofs

namespace Go.Proofs
open Go.AF
set_option linter.unusedVariables false
set_option maxRecDepth 100000
set_option maxHeartbeats 1000000
attribute [local irreducible] exI exB exS exP exSl exV nilc stc nwc semK semU bsp
/-- Where the program's rows stand. -/
structure PA where
  f : Option Addr
  fc : Nat
  c : Option Addr
  cc : Nat
  k : Option Addr
  kc : Nat
abbrev GA := Option Addr × Nat
abbrev gorCells (y : Gor) (A : Option Addr) (c : Nat) : List Value := [.int .i64 y.st, .slice A y.fs.length c, .int .i64 y.wt.op, .int .i64 y.wt.a, .int .i64 y.wt.b, .int .i64 y.wt.c]
def gorR : Rep (Gor × GA) := ⟨fun b x => sep [pt b (gorCells x.1 x.2.1 x.2.2) 182, rowF x.2.1 x.2.2 x.1.fs]⟩
structure WA where
  ag : Option Addr
  cg : Nat
  gb : List Nat
  ac : Option Addr
  cc : Nat
  cb : List Nat
  al : Option Addr
  cl : Nat
  lb : List Nat
  ah : Option Addr
  ch : Nat
  ao : Option Addr
  co : Nat
  ar : Option Addr
  cr : Nat
abbrev wCells (pa : PA) (p : Prg) (dr : Value) (a : WA) (x : Wd) : List Value :=
  [.slice pa.f p.funcs.length pa.fc, .slice pa.c p.chs.length pa.cc, .int .i64 p.locks, .slice pa.k p.cases.length pa.kc, .slice a.ag a.gb.length a.cg, .int .u64 x.clock,
   .slice a.ac a.cb.length a.cc, .slice a.al a.lb.length a.cl, .slice a.ah x.hl.length a.ch, .int .u64 x.hseq, .slice a.ao x.out.length a.co, .int .i64 x.end_, .int .i64 x.code, .slice a.ar x.ready.length a.cr, dr]
abbrev rowPG (A : Option Addr) (c : Nat) (l : List Nat) : HP := rowP ptrE 177 A c l
abbrev rowPC (A : Option Addr) (c : Nat) (l : List Nat) : HP := rowP ptrE 183 A c l
abbrev rowPL (A : Option Addr) (c : Nat) (l : List Nat) : HP := rowP ptrE 185 A c l
abbrev rowH (A : Option Addr) (c : Nat) (l : List HItem) : HP := rowP itemE 205 A c l
abbrev wRest (a : WA) (x : Wd) (L : List HP) : List HP :=
  rowPG a.ag a.cg a.gb :: rowPC a.ac a.cc a.cb :: objsP chanR a.cb x.chans :: rowPL a.al a.cl a.lb :: objsP lockR a.lb x.locks :: rowH a.ah a.ch x.hl :: rowB a.ao a.co x.out :: rowI a.ar a.cr x.ready :: L
def wLens (gg : List GA) (a : WA) (x : Wd) : Prop := a.gb.length = x.gs.length ∧ gg.length = x.gs.length ∧ a.cb.length = x.chans.length ∧ a.lb.length = x.locks.length
/-- A world stands at b, while something goes on in it. -/
def worldR (pa : PA) (p : Prg) (gg : List GA) (dr : Value) : Rep Wd := ⟨fun b x => exs fun a : WA =>
  sep (pt b (wCells pa p dr a x) 164 :: objsP gorR a.gb (x.gs.zip gg) :: fact (wLens gg a x) :: wRest a x [])⟩
class WAt (b : Nat) (L : List HP) (pa : outParam PA) (p : outParam Prg) (gg : outParam (List GA)) (dr : outParam Value) (x : outParam Wd) (L' : outParam (List HP)) : Prop where
  pick : Pick L (objP (worldR pa p gg dr) b x) L'
instance WAt.here {pa : PA} {p : Prg} {gg : List GA} {dr : Value} {b : Nat} {x : Wd} {L : List HP} : WAt b (objP (worldR pa p gg dr) b x :: L) pa p gg dr x L := ⟨.here⟩
instance (priority := low) WAt.there {pa : PA} {p : Prg} {gg : List GA} {dr : Value} {b : Nat} {x : Wd} {Q : HP} {L L' : List HP} [h : WAt b L pa p gg dr x L'] : WAt b (Q :: L) pa p gg dr x (Q :: L') := ⟨.there h.pick⟩
section
variable {R : Mem} {L L' : List HP} {M : Mem} {K : Value → Mem → Prop} {Kp : List PanicEntry → Mem → Prop} {pa : PA} {p : Prg} {gg : List GA} {dr : Value} {b : Nat} {x : Wd}

theorem world_open (h : Hp R L M) [o : WAt b L pa p gg dr x L'] : ∃ a : WA, wLens gg a x ∧ Hp R (pt b (wCells pa p dr a x) 164 :: objsP gorR a.gb (x.gs.zip gg) :: wRest a x L') M := by
  have := h.pick o.pick
  unfold objP at this
  simp only [worldR, wRest, Hp.ex_iff, Hp.sep_iff, List.cons_append, List.nil_append] at this
  obtain ⟨a, h⟩ := this
  have h2 := h.pick (P := fact (wLens gg a x)) (.there (.there .here))
  exact ⟨a, (Hp.fact_iff.1 h2).1, (Hp.fact_iff.1 h2).2⟩
theorem world_mk {a : WA} (hl : wLens gg a x) (h : Hp R (pt b (wCells pa p dr a x) 164 :: objsP gorR a.gb (x.gs.zip gg) :: wRest a x L) M) : Hp R (objP (worldR pa p gg dr) b x :: L) M := by
  refine Hp.objI ?_
  simp only [worldR, wRest, Hp.ex_iff, Hp.sep_iff, List.cons_append, List.nil_append]
  refine ⟨a, ?_⟩
  have h2 : Hp R (fact (wLens gg a x) :: pt b (wCells pa p dr a x) 164 :: objsP gorR a.gb (x.gs.zip gg) :: wRest a x L) M := Hp.fact_iff.2 ⟨hl, h⟩
  exact h2.unpick (.there (.there .here))
/-- The same, from parts in any order. -/
theorem world_close {a : WA} {L0 L1 L2 L3 L4 L5 L6 L7 L8 L9 : List HP} (hl : wLens gg a x) (h : Hp R L M) (b : Nat)
    [p0 : PtAt b L (wCells pa p dr a x) 164 L0] [p1 : ObjsAt gorR L0 a.gb (x.gs.zip gg) L1] [p2 : RowAt a.ag L1 Nat ptrE 177 a.cg a.gb L2] [p3 : RowAt a.ac L2 Nat ptrE 183 a.cc a.cb L3]
    [p4 : ObjsAt chanR L3 a.cb x.chans L4] [p5 : RowAt a.al L4 Nat ptrE 185 a.cl a.lb L5] [p6 : ObjsAt lockR L5 a.lb x.locks L6] [p7 : RowAt a.ah L6 HItem itemE 205 a.ch x.hl L7] [p8 : RowAt a.ao L7 Int intE 2 a.co x.out L8]
    [p9 : RowAt a.ar L8 Int intE 3 a.cr x.ready L9] : Hp R (objP (worldR pa p gg dr) b x :: L9) M :=
  world_mk hl (h.sub (.cons p0.pick (.cons p1.pick (.cons p2.pick (.cons p3.pick (.cons p4.pick (.cons p5.pick (.cons p6.pick (.cons p7.pick (.cons p8.pick (.cons p9.pick .refl)))))))))))
theorem zip_setL {α β : Type} : ∀ {l : List α} {m : List β} {i : Nat} {u : α} {v : β}, m[i]? = some v → (l.zip m).set i (u, v) = (l.set i u).zip m
  | [], _, _, _, _, _ => by simp
  | a :: l, [], i, u, v, h => by simp at h
  | a :: l, w :: m, 0, u, v, h => by simp at h; subst h; rfl
  | a :: l, w :: m, i + 1, u, v, h => by
    have := zip_setL (l := l) (u := u) (show m[i]? = some v from by simpa using h)
    simp [this]
theorem zip_atL {α β : Type} : ∀ {l : List α} {m : List β} {i : Nat} {u : α} {v : β}, l[i]? = some u → m[i]? = some v → (l.zip m)[i]? = some (u, v)
  | [], _, _, _, _, h, _ => by simp at h
  | a :: l, [], i, u, v, _, h => by simp at h
  | a :: l, w :: m, 0, u, v, h, g => by simp at h g; subst h; subst g; rfl
  | a :: l, w :: m, i + 1, u, v, h, g => by simpa using zip_atL (show l[i]? = some u from by simpa using h) (show m[i]? = some v from by simpa using g)
theorem gor_open {c : Nat} {y : Gor} {A : Option Addr} (h : Hp R L M) [o : ObjAt gorR b L (y, (A, c)) L'] : Hp R (pt b (gorCells y A c) 182 :: rowF A c y.fs :: L') M := by
  have := h.obj gorR b
  simpa only [gorR, Hp.sep_iff, List.cons_append, List.nil_append] using this
theorem gor_close {A : Option Addr} {n c : Nat} {st o1 o2 o3 o4 : Int} {fs : List Frm} {L1 L2 : List HP} (h : Hp R L M) (b : Nat) [p : PtAt b L [.int .i64 st, .slice A n c, .int .i64 o1, .int .i64 o2, .int .i64 o3, .int .i64 o4] 182 L1] [p1 : RowAt A L1 Frm frmE 234 c fs L2]
    (e : n = fs.length := by first | rfl | simp) : Hp R (objP gorR b (⟨st, fs, ⟨o1, o2, o3, o4⟩⟩, (A, c)) :: L2) M := by
  subst e
  refine Hp.objI ?_
  simp only [gorR, Hp.sep_iff, List.cons_append, List.nil_append]
  exact h.sub (.cons p.pick (.cons p1.pick .refl))
/-- A world of which one goroutine lies open. -/
theorem world_at {g : Int} (h : Hp R L M) [o : WAt b L pa p gg dr x L'] (h0 : 0 ≤ g) (hg : g < x.gs.length) :
    ∃ (a : WA) (gb : Nat) (A : Option Addr) (c : Nat), wLens gg a x ∧ a.gb[g.toNat]? = some gb ∧ gg[g.toNat]? = some (A, c) ∧
      Hp R (pt gb (gorCells (gorAt x g) A c) 182 :: rowF A c (gorAt x g).fs :: pt b (wCells pa p dr a x) 164 :: objsX gorR a.gb (x.gs.zip gg) g.toNat :: wRest a x L') M := by
  obtain ⟨a, hl, h1⟩ := world_open h (b := b)
  obtain ⟨l1, l2, l3, l4⟩ := hl
  obtain ⟨gb, hgb⟩ := idx_ex (l := a.gb) (i := g.toNat) (by omega)
  obtain ⟨⟨A, c⟩, hgg⟩ := idx_ex (l := gg) (i := g.toNat) (by omega)
  obtain ⟨y, hy⟩ := idx_ex (l := x.gs) (i := g.toNat) (by omega)
  have e : gorAt x g = y := by simp [gorAt, hy]
  rw [e]
  have h2 := h1.objs_out gorR hgb (zip_atL hy hgg)
  have h3 := gor_open (b := gb) h2
  exact ⟨a, gb, A, c, ⟨l1, l2, l3, l4⟩, hgb, hgg, h3.sub (by repeat (first | exact .refl | refine .cons (by repeat (first | exact .here | apply Pick.there)) ?_ | apply Sub.drop))⟩
/-- It goes back, and all that lies beside it. -/
theorem world_in {a : WA} {A : Option Addr} {c n : Nat} {g : Int} {st o1 o2 o3 o4 : Int} {fs : List Frm} {L1 L2 L3 : List HP} (h : Hp R L M) (gb : Nat) (hl : wLens gg a x) (hgb : a.gb[g.toNat]? = some gb) (hgg : gg[g.toNat]? = some (A, c))
    [p1 : PtAt gb L [.int .i64 st, .slice A n c, .int .i64 o1, .int .i64 o2, .int .i64 o3, .int .i64 o4] 182 L1] [p2 : RowAt A L1 Frm frmE 234 c fs L2]
    [p3 : ObjsX gorR L2 a.gb (x.gs.zip gg) g.toNat L3] (e : n = fs.length := by first | rfl | simp) : Hp R (objsP gorR a.gb ((x.gs.set g.toNat ⟨st, fs, ⟨o1, o2, o3, o4⟩⟩).zip gg) :: L3) M := by
  have h1 := gor_close h gb e
  obtain ⟨l1, l2, l3, l4⟩ := hl
  have hi := (List.getElem?_eq_some_iff.1 hgb).1
  have h2 := h1.objs_in gorR gb hgb (by rw [List.length_zip]; omega)
  rwa [zip_setL hgg] at h2
end
end Go.Proofs

namespace Go.Proofs
open Go.AF
set_option linter.unusedVariables false
set_option maxRecDepth 100000
set_option maxHeartbeats 1000000
attribute [local irreducible] exI exB exS exP exSl exV nilc stc nwc semK semU bsp
section
variable {R : Mem} {L L' : List HP} {M : Mem} {K : Value → Mem → Prop} {Kp : List PanicEntry → Mem → Prop} {pa : PA} {p : Prg} {gg : List GA} {dr : Value} {b : Nat} {x : Wd}
theorem w_ld {A : Option Addr} {l : List Nat} {T c q i bb : Nat} (h : Hp R L M) [r : RowAt A L Nat ptrE T c l L'] (hq : A = some ⟨q, 0, none⟩) (hb : l[i]? = some bb) : M.ld ⟨q, 0 + i, none⟩ = some (.pointer (some ⟨bb, 0, none⟩)) := by
  subst hq
  exact Src.at (h.src (A := some ⟨q, 0, none⟩)) h (i := i) (j := 0) hb rfl (by simp [ptrE])
theorem w_g {A : Option Addr} {l : List Nat} {T c bb i : Nat} {G : Nat → Nat → Option Addr → Prop} (h : Hp R L M) [r : RowAt A L Nat ptrE T c l L'] (hb : l[i]? = some bb) (k : ∀ q, A = some ⟨q, 0, none⟩ → G q 0 (some ⟨bb, 0, none⟩)) :
    nilc A fun k4 k5 => exP (M.ld ⟨k4, k5 + i, none⟩) fun A6 => G k4 k5 A6 := by
  obtain ⟨q, hq⟩ := h.row_some (A := A) (by have := (List.getElem?_eq_some_iff.1 hb).1; omega) (by decide)
  have h2 := w_ld h hq hb
  subst hq
  refine u_nilc ?_
  rw [h2]
  exact u_exP (k q rfl)
theorem world_wake {g : Int} (h : Hp R L M) [o : WAt b L pa p gg dr x L'] (h0 : 0 ≤ g) (hg : g < x.gs.length) (hr : x.ready.length ≤ 1000000000)
    (k : ∀ M', Hp R (objP (worldR pa p gg dr) b (x.wake g) :: L') M' → K (.tuple #[]) M') : ACalls Tryz.prog 90 #[.pointer (some ⟨b, 0, none⟩), .int .i64 g] M K Kp := by
  refine vc_world_World_wake ?_
  have h' := world_at h (b := b) h0 hg
  clear h
  obtain ⟨a, gb, A, c, hl, hgb, hgg, h⟩ := h'
  have hl' := hl
  obtain ⟨l1, l2, l3, l4⟩ := hl'
  repeat (first | (refine s_nwc h ?_; clear h; intro kb M h) | (refine s_stc h ?_; clear h; intro M h) | refine t_exI h ?_ | refine t_exB h ?_ | refine t_exS h ?_ | refine t_exP h ?_ | refine t_exSl h ?_ | refine t_exV h ?_ | refine u_exI ?_ | refine u_exB ?_ | refine u_exS ?_ | refine u_exP ?_ | refine u_exSl ?_ | refine u_exV ?_ | refine u_nilc ?_ | (apply Exists.intro; (repeat apply Exists.intro); refine And.intro rfl ?_) | (refine And.intro ?_ ?_; first | exact trivial | exact rfl | exact t_ld h | (refine lds_s (t_ld h) ?_; (repeat (refine lds_s (t_ld h) ?_)); exact lds_nil) | omega) | refine u_bspT ?_ | refine u_bspF ?_)
  refine w_g h hgb fun q hq => ?_
  repeat (first | (refine s_nwc h ?_; clear h; intro kb M h) | (refine s_stc h ?_; clear h; intro M h) | refine t_exI h ?_ | refine t_exB h ?_ | refine t_exS h ?_ | refine t_exP h ?_ | refine t_exSl h ?_ | refine t_exV h ?_ | refine u_exI ?_ | refine u_exB ?_ | refine u_exS ?_ | refine u_exP ?_ | refine u_exSl ?_ | refine u_exV ?_ | refine u_nilc ?_ | (apply Exists.intro; (repeat apply Exists.intro); refine And.intro rfl ?_) | (refine And.intro ?_ ?_; first | exact trivial | exact rfl | exact t_ld h | (refine lds_s (t_ld h) ?_; (repeat (refine lds_s (t_ld h) ?_)); exact lds_nil) | omega) | refine u_bspT ?_ | refine u_bspF ?_)
  refine h.rowAppend1 el_int [g] rfl rfl (by simp; omega) ?_
  clear h
  intro A' c' M h
  repeat (first | (refine s_nwc h ?_; clear h; intro kb M h) | (refine s_stc h ?_; clear h; intro M h) | refine t_exI h ?_ | refine t_exB h ?_ | refine t_exS h ?_ | refine t_exP h ?_ | refine t_exSl h ?_ | refine t_exV h ?_ | refine u_exI ?_ | refine u_exB ?_ | refine u_exS ?_ | refine u_exP ?_ | refine u_exSl ?_ | refine u_exV ?_ | refine u_nilc ?_ | (apply Exists.intro; (repeat apply Exists.intro); refine And.intro rfl ?_) | (refine And.intro ?_ ?_; first | exact trivial | exact rfl | exact t_ld h | (refine lds_s (t_ld h) ?_; (repeat (refine lds_s (t_ld h) ?_)); exact lds_nil) | omega) | refine u_bspT ?_ | refine u_bspF ?_)
  replace h := world_in h gb hl hgb hgg
  exact k _ (world_mk (a := { a with ar := A', cr := c' }) ⟨by simpa [Wd.wake, Wd.putG] using l1, by simpa [Wd.wake, Wd.putG] using l2, l3, l4⟩ (h.sub (by repeat (first | exact .refl | refine .cons (by repeat (first | exact .here | apply Pick.there)) ?_ | apply Sub.drop))))
theorem gor_top {y : Gor} (h : 0 < y.fs.length) : y.fs[y.fs.length - 1]? = some y.top := by
  unfold Gor.top
  rw [List.getD_eq_getElem?_getD, List.getElem?_eq_getElem (by omega)]; rfl
theorem lens_put {a : WA} {g : Int} {y : Gor} (hl : wLens gg a x) : wLens gg a (x.putG g y) := by
  obtain ⟨l1, l2, l3, l4⟩ := hl
  exact ⟨by simpa [Wd.putG] using l1, by simpa [Wd.putG] using l2, l3, l4⟩
theorem world_block {g : Int} {i : Ins} (h : Hp R L M) [o : WAt b L pa p gg dr x L'] (h0 : 0 ≤ g) (hg : g < x.gs.length)
    (k : ∀ M', Hp R (objP (worldR pa p gg dr) b (x.block g i) :: L') M' → K (.tuple #[]) M') : ACalls Tryz.prog 158 #[.pointer (some ⟨b, 0, none⟩), .int .i64 g, .agg #[.int .i64 i.op, .int .i64 i.a, .int .i64 i.b, .int .i64 i.c]] M K Kp := by
  refine vc_world_World_block ?_
  have h' := world_at h (b := b) h0 hg
  clear h
  obtain ⟨a, gb, A, c, hl, hgb, hgg, h⟩ := h'
  have hl' := hl
  obtain ⟨l1, l2, l3, l4⟩ := hl'
  repeat (first | (refine s_nwc h ?_; clear h; intro kb M h) | (refine s_stc h ?_; clear h; intro M h) | refine t_exI h ?_ | refine t_exB h ?_ | refine t_exS h ?_ | refine t_exP h ?_ | refine t_exSl h ?_ | refine t_exV h ?_ | refine u_exI ?_ | refine u_exB ?_ | refine u_exS ?_ | refine u_exP ?_ | refine u_exSl ?_ | refine u_exV ?_ | refine u_nilc ?_ | (apply Exists.intro; (repeat apply Exists.intro); refine And.intro rfl ?_) | (refine And.intro ?_ ?_; first | exact trivial | exact rfl | exact t_ld h | (refine lds_s (t_ld h) ?_; (repeat (refine lds_s (t_ld h) ?_)); exact lds_nil) | omega) | refine u_bspT ?_ | refine u_bspF ?_)
  refine w_g h hgb fun q hq => ?_
  repeat (first | (refine s_nwc h ?_; clear h; intro kb M h) | (refine s_stc h ?_; clear h; intro M h) | refine t_exI h ?_ | refine t_exB h ?_ | refine t_exS h ?_ | refine t_exP h ?_ | refine t_exSl h ?_ | refine t_exV h ?_ | refine u_exI ?_ | refine u_exB ?_ | refine u_exS ?_ | refine u_exP ?_ | refine u_exSl ?_ | refine u_exV ?_ | refine u_nilc ?_ | (apply Exists.intro; (repeat apply Exists.intro); refine And.intro rfl ?_) | (refine And.intro ?_ ?_; first | exact trivial | exact rfl | exact t_ld h | (refine lds_s (t_ld h) ?_; (repeat (refine lds_s (t_ld h) ?_)); exact lds_nil) | omega) | refine u_bspT ?_ | refine u_bspF ?_)
  refine w_g h hgb fun q2 hq2 => ?_
  repeat (first | (refine s_nwc h ?_; clear h; intro kb M h) | (refine s_stc h ?_; clear h; intro M h) | refine t_exI h ?_ | refine t_exB h ?_ | refine t_exS h ?_ | refine t_exP h ?_ | refine t_exSl h ?_ | refine t_exV h ?_ | refine u_exI ?_ | refine u_exB ?_ | refine u_exS ?_ | refine u_exP ?_ | refine u_exSl ?_ | refine u_exV ?_ | refine u_nilc ?_ | (apply Exists.intro; (repeat apply Exists.intro); refine And.intro rfl ?_) | (refine And.intro ?_ ?_; first | exact trivial | exact rfl | exact t_ld h | (refine lds_s (t_ld h) ?_; (repeat (refine lds_s (t_ld h) ?_)); exact lds_nil) | omega) | refine u_bspT ?_ | refine u_bspF ?_)
  replace h := world_in h gb hl hgb hgg
  exact k _ (world_mk (a := a) (lens_put hl) (h.sub (by repeat (first | exact .refl | refine .cons (by repeat (first | exact .here | apply Pick.there)) ?_ | apply Sub.drop))))
theorem world_chosen {g kk : Int} (h : Hp R L M) [o : WAt b L pa p gg dr x L'] (hg : gorOk x g) (hc : isReg (gorAt x g).wt.c) (hs : x.Sm)
    (k : ∀ M', Hp R (objP (worldR pa p gg dr) b (x.chosen g kk) :: L') M' → K (.tuple #[]) M') : ACalls Tryz.prog 223 #[.pointer (some ⟨b, 0, none⟩), .int .i64 g, .int .i64 kk] M K Kp := by
  refine vc_world_World_chosen ?_
  obtain ⟨h0, h1, h2, h3⟩ := hg
  obtain ⟨s1, s2, s3, s4, s5, s6, s7, s8⟩ := hs
  have h' := world_at h (b := b) h0 h1
  clear h
  obtain ⟨a, gb, A, c, hl, hgb, hgg, h⟩ := h'
  have hl' := hl
  obtain ⟨l1, l2, l3, l4⟩ := hl'
  repeat (first | (refine s_nwc h ?_; clear h; intro kb M h) | (refine s_stc h ?_; clear h; intro M h) | refine t_exI h ?_ | refine t_exB h ?_ | refine t_exS h ?_ | refine t_exP h ?_ | refine t_exSl h ?_ | refine t_exV h ?_ | refine u_exI ?_ | refine u_exB ?_ | refine u_exS ?_ | refine u_exP ?_ | refine u_exSl ?_ | refine u_exV ?_ | refine u_nilc ?_ | (apply Exists.intro; (repeat apply Exists.intro); refine And.intro rfl ?_) | (refine And.intro ?_ ?_; first | exact trivial | exact rfl | exact t_ld h | (refine lds_s (t_ld h) ?_; (repeat (refine lds_s (t_ld h) ?_)); exact lds_nil) | omega) | refine u_bspT ?_ | refine u_bspF ?_)
  refine w_g h hgb fun q hq => ?_
  repeat (first | (refine s_nwc h ?_; clear h; intro kb M h) | (refine s_stc h ?_; clear h; intro M h) | refine t_exI h ?_ | refine t_exB h ?_ | refine t_exS h ?_ | refine t_exP h ?_ | refine t_exSl h ?_ | refine t_exV h ?_ | refine u_exI ?_ | refine u_exB ?_ | refine u_exS ?_ | refine u_exP ?_ | refine u_exSl ?_ | refine u_exV ?_ | refine u_nilc ?_ | (apply Exists.intro; (repeat apply Exists.intro); refine And.intro rfl ?_) | (refine And.intro ?_ ?_; first | exact trivial | exact rfl | exact t_ld h | (refine lds_s (t_ld h) ?_; (repeat (refine lds_s (t_ld h) ?_)); exact lds_nil) | omega) | refine u_bspT ?_ | refine u_bspF ?_)
  refine w_g h hgb fun q2 hq2 => ?_
  repeat (first | (refine s_nwc h ?_; clear h; intro kb M h) | (refine s_stc h ?_; clear h; intro M h) | refine t_exI h ?_ | refine t_exB h ?_ | refine t_exS h ?_ | refine t_exP h ?_ | refine t_exSl h ?_ | refine t_exV h ?_ | refine u_exI ?_ | refine u_exB ?_ | refine u_exS ?_ | refine u_exP ?_ | refine u_exSl ?_ | refine u_exV ?_ | refine u_nilc ?_ | (apply Exists.intro; (repeat apply Exists.intro); refine And.intro rfl ?_) | (refine And.intro ?_ ?_; first | exact trivial | exact rfl | exact t_ld h | (refine lds_s (t_ld h) ?_; (repeat (refine lds_s (t_ld h) ?_)); exact lds_nil) | omega) | refine u_bspT ?_ | refine u_bspF ?_)
  obtain ⟨bs, rfl⟩ := h.row_some (A := A) h2 (by decide)
  refine frame_Top h2 (by omega) ?_
  repeat (first | (refine s_nwc h ?_; clear h; intro kb M h) | (refine s_stc h ?_; clear h; intro M h) | refine t_exI h ?_ | refine t_exB h ?_ | refine t_exS h ?_ | refine t_exP h ?_ | refine t_exSl h ?_ | refine t_exV h ?_ | refine u_exI ?_ | refine u_exB ?_ | refine u_exS ?_ | refine u_exP ?_ | refine u_exSl ?_ | refine u_exV ?_ | refine u_nilc ?_ | (apply Exists.intro; (repeat apply Exists.intro); refine And.intro rfl ?_) | (refine And.intro ?_ ?_; first | exact trivial | exact rfl | exact t_ld h | (refine lds_s (t_ld h) ?_; (repeat (refine lds_s (t_ld h) ?_)); exact lds_nil) | omega) | refine u_bspT ?_ | refine u_bspF ?_)
  refine ⟨hc.1, hc.2, f_st h (gor_top h2) hc rfl ?_⟩
  clear h
  intro M h
  repeat (first | (refine s_nwc h ?_; clear h; intro kb M h) | (refine s_stc h ?_; clear h; intro M h) | refine t_exI h ?_ | refine t_exB h ?_ | refine t_exS h ?_ | refine t_exP h ?_ | refine t_exSl h ?_ | refine t_exV h ?_ | refine u_exI ?_ | refine u_exB ?_ | refine u_exS ?_ | refine u_exP ?_ | refine u_exSl ?_ | refine u_exV ?_ | refine u_nilc ?_ | (apply Exists.intro; (repeat apply Exists.intro); refine And.intro rfl ?_) | (refine And.intro ?_ ?_; first | exact trivial | exact rfl | exact t_ld h | (refine lds_s (t_ld h) ?_; (repeat (refine lds_s (t_ld h) ?_)); exact lds_nil) | omega) | refine u_bspT ?_ | refine u_bspF ?_)
  refine picks_Leave h (Src.row (A := a.ac)) rfl (by omega) l3 (fun c hc => (s1 c hc).mono (by omega)) ?_
  clear h
  intro M h
  refine ⟨rfl, ?_⟩
  replace h := world_in h gb hl hgb hgg
  exact k _ (world_mk (a := a) (x := x.chosen g kk) ⟨by simpa [Wd.chosen, Wd.leave, Wd.putReg, Wd.putG] using l1, by simpa [Wd.chosen, Wd.leave, Wd.putReg, Wd.putG] using l2, by simpa [Wd.chosen, Wd.leave, Wd.putReg, Wd.putG] using l3, l4⟩ (h.sub (by repeat (first | exact .refl | refine .cons (by repeat (first | exact .here | apply Pick.there)) ?_ | apply Sub.drop))))
end
end Go.Proofs

namespace Go.Proofs
open Go.AF
set_option linter.unusedVariables false
set_option maxRecDepth 100000
set_option maxHeartbeats 1000000
attribute [local irreducible] exI exB exS exP exSl exV nilc stc nwc semK semU bsp
theorem gorAt_putReg {x : Wd} {g q v : Int} (h : gorOk x g) : gorAt (x.putReg g q v) g = (gorAt x g).putTop ((gorAt x g).top.set q v) := gorAt_put h.1 h.2.1
theorem gorOk_putReg {x : Wd} {g q v : Int} (h : gorOk x g) : gorOk (x.putReg g q v) g := by
  obtain ⟨h0, h1, h2, h3⟩ := h
  refine ⟨h0, by simpa [Wd.putReg, Wd.putG] using h1, ?_, ?_⟩ <;> rw [gorAt_putReg ⟨h0, h1, h2, h3⟩] <;> simpa [Gor.putTop]
theorem wt_putReg {x : Wd} {g q v : Int} (h : gorOk x g) : (gorAt (x.putReg g q v) g).wt = (gorAt x g).wt := by rw [gorAt_putReg h]; rfl
theorem gorOk_chosen {x : Wd} {g k : Int} (h : gorOk x g) : gorOk (x.chosen g k) g := gorOk_putReg h
theorem Sm_putG {x : Wd} {g : Int} {y : Gor} (h : x.Sm) : (x.putG g y).Sm := by
  obtain ⟨s1, s2, s3, s4⟩ := h
  exact ⟨s1, s2, by simpa [Wd.putG] using s3, s4⟩
theorem wrap_id {z : Int} (h0 : 0 ≤ z) (h : z < 9223372036854775808) : IntKind.wrap .i64 z = z := by
  obtain ⟨n, rfl⟩ := Int.eq_ofNat_of_zero_le h0
  exact wrap_nat (by omega)
section
variable {R : Mem} {L L' : List HP} {M : Mem} {K : Value → Mem → Prop} {Kp : List PanicEntry → Mem → Prop} {pa : PA} {p : Prg} {gg : List GA} {dr : Value} {b : Nat} {x : Wd}
theorem cas_at {A : Option Addr} {c : Nat} {l : List Cas} {q : Int} {G : Nat → Nat → Int → Prop} (h : Hp R L M) (hp : RS casE R A c l) (h0 : 0 ≤ q) (hq : q < l.length) (k : ∀ b o, G b o (l.getD q.toNat ⟨0, 0, 0⟩).reg) :
    nilc A fun b o => exI (M.ld ⟨b, ((o + q.toNat * 3) + 2), none⟩) .i64 fun n => G b o n := by
  obtain ⟨bb, o, rfl⟩ := hp.some (by omega) (by decide)
  obtain ⟨y, hy⟩ := idx_ex (l := l) (i := q.toNat) (by omega)
  have e : l.getD q.toNat ⟨0, 0, 0⟩ = y := by simp [hy]
  refine u_nilc ?_
  refine v_exI (Src.at (hp.src (L := L)) h (i := q.toNat) (j := 2) hy rfl (by show _ = o + (q.toNat * 3 + 2); omega)) ?_
  have := k bb o
  rwa [e] at this
theorem world_received {v : Wt} {some : Int} (h : Hp R L M) [o : WAt b L pa p gg dr x L'] (hp : RS casE R pa.k pa.kc p.cases) (hv : rcvOk p x v) (hs : x.Sm)
    (k : ∀ M', Hp R (objP (worldR pa p gg dr) b (x.received p v some) :: L') M' → K (.tuple #[]) M') : ACalls Tryz.prog 208 #[.pointer (Option.some ⟨b, 0, none⟩), .agg #[.int .i64 v.g, .int .i64 v.cs, .int .i64 v.v], .int .i64 some] M K Kp := by
  refine vc_world_World_received ?_
  obtain ⟨hg, hv⟩ := hv
  have hg' := hg
  obtain ⟨h0, h1, h2, h3⟩ := hg'
  have hs' := hs
  obtain ⟨s1, s2, s3, s4, s5, s6, s7, s8⟩ := hs'
  have h' := world_at h (b := b) h0 h1
  clear h
  obtain ⟨a, gb, A, c, hl, hgb, hgg, h⟩ := h'
  have hl' := hl
  obtain ⟨l1, l2, l3, l4⟩ := hl'
  repeat (first | (refine s_nwc h ?_; clear h; intro kb M h) | (refine s_stc h ?_; clear h; intro M h) | refine t_exI h ?_ | refine t_exB h ?_ | refine t_exS h ?_ | refine t_exP h ?_ | refine t_exSl h ?_ | refine t_exV h ?_ | refine u_exI ?_ | refine u_exB ?_ | refine u_exS ?_ | refine u_exP ?_ | refine u_exSl ?_ | refine u_exV ?_ | refine u_nilc ?_ | (apply Exists.intro; (repeat apply Exists.intro); refine And.intro rfl ?_) | (refine And.intro ?_ ?_; first | exact trivial | exact rfl | exact t_ld h | (refine lds_s (t_ld h) ?_; (repeat (refine lds_s (t_ld h) ?_)); exact lds_nil) | omega) | refine u_bspT ?_ | refine u_bspF ?_)
  refine w_g h hgb fun q hq => ?_
  repeat (first | (refine s_nwc h ?_; clear h; intro kb M h) | (refine s_stc h ?_; clear h; intro M h) | refine t_exI h ?_ | refine t_exB h ?_ | refine t_exS h ?_ | refine t_exP h ?_ | refine t_exSl h ?_ | refine t_exV h ?_ | refine u_exI ?_ | refine u_exB ?_ | refine u_exS ?_ | refine u_exP ?_ | refine u_exSl ?_ | refine u_exV ?_ | refine u_nilc ?_ | (apply Exists.intro; (repeat apply Exists.intro); refine And.intro rfl ?_) | (refine And.intro ?_ ?_; first | exact trivial | exact rfl | exact t_ld h | (refine lds_s (t_ld h) ?_; (repeat (refine lds_s (t_ld h) ?_)); exact lds_nil) | omega) | refine u_bspT ?_ | refine u_bspF ?_)
  refine w_g h hgb fun q2 hq2 => ?_
  repeat (first | (refine s_nwc h ?_; clear h; intro kb M h) | (refine s_stc h ?_; clear h; intro M h) | refine t_exI h ?_ | refine t_exB h ?_ | refine t_exS h ?_ | refine t_exP h ?_ | refine t_exSl h ?_ | refine t_exV h ?_ | refine u_exI ?_ | refine u_exB ?_ | refine u_exS ?_ | refine u_exP ?_ | refine u_exSl ?_ | refine u_exV ?_ | refine u_nilc ?_ | (apply Exists.intro; (repeat apply Exists.intro); refine And.intro rfl ?_) | (refine And.intro ?_ ?_; first | exact trivial | exact rfl | exact t_ld h | (refine lds_s (t_ld h) ?_; (repeat (refine lds_s (t_ld h) ?_)); exact lds_nil) | omega) | refine u_bspT ?_ | refine u_bspF ?_)
  obtain ⟨bs, rfl⟩ := h.row_some (A := A) h2 (by decide)
  refine frame_Top h2 (by omega) ?_
  repeat (first | (refine s_nwc h ?_; clear h; intro kb M h) | (refine s_stc h ?_; clear h; intro M h) | refine t_exI h ?_ | refine t_exB h ?_ | refine t_exS h ?_ | refine t_exP h ?_ | refine t_exSl h ?_ | refine t_exV h ?_ | refine u_exI ?_ | refine u_exB ?_ | refine u_exS ?_ | refine u_exP ?_ | refine u_exSl ?_ | refine u_exV ?_ | refine u_nilc ?_ | (apply Exists.intro; (repeat apply Exists.intro); refine And.intro rfl ?_) | (refine And.intro ?_ ?_; first | exact trivial | exact rfl | exact t_ld h | (refine lds_s (t_ld h) ?_; (repeat (refine lds_s (t_ld h) ?_)); exact lds_nil) | omega) | refine u_bspT ?_ | refine u_bspF ?_)
  refine ⟨w_ld h hq2 hgb, ?_⟩
  repeat (first | (refine s_nwc h ?_; clear h; intro kb M h) | (refine s_stc h ?_; clear h; intro M h) | refine t_exI h ?_ | refine t_exB h ?_ | refine t_exS h ?_ | refine t_exP h ?_ | refine t_exSl h ?_ | refine t_exV h ?_ | refine u_exI ?_ | refine u_exB ?_ | refine u_exS ?_ | refine u_exP ?_ | refine u_exSl ?_ | refine u_exV ?_ | refine u_nilc ?_ | (apply Exists.intro; (repeat apply Exists.intro); refine And.intro rfl ?_) | (refine And.intro ?_ ?_; first | exact trivial | exact rfl | exact t_ld h | (refine lds_s (t_ld h) ?_; (repeat (refine lds_s (t_ld h) ?_)); exact lds_nil) | omega) | refine u_bspT ?_ | refine u_bspF ?_)
  refine ⟨w_ld h hq2 hgb, ?_⟩
  repeat (first | (refine s_nwc h ?_; clear h; intro kb M h) | (refine s_stc h ?_; clear h; intro M h) | refine t_exI h ?_ | refine t_exB h ?_ | refine t_exS h ?_ | refine t_exP h ?_ | refine t_exSl h ?_ | refine t_exV h ?_ | refine u_exI ?_ | refine u_exB ?_ | refine u_exS ?_ | refine u_exP ?_ | refine u_exSl ?_ | refine u_exV ?_ | refine u_nilc ?_ | (apply Exists.intro; (repeat apply Exists.intro); refine And.intro rfl ?_) | (refine And.intro ?_ ?_; first | exact trivial | exact rfl | exact t_ld h | (refine lds_s (t_ld h) ?_; (repeat (refine lds_s (t_ld h) ?_)); exact lds_nil) | omega) | refine u_bspT ?_ | refine u_bspF ?_)
  unfold Wd.received at k
  refine bsp_eq.2 ⟨fun e16 => ?_, fun e16 => ?_⟩
  · simp only [e16, if_true] at k hv
    obtain ⟨v1, v2, v3, v4, v5⟩ := hv
    repeat (first | (refine s_nwc h ?_; clear h; intro kb M h) | (refine s_stc h ?_; clear h; intro M h) | refine t_exI h ?_ | refine t_exB h ?_ | refine t_exS h ?_ | refine t_exP h ?_ | refine t_exSl h ?_ | refine t_exV h ?_ | refine u_exI ?_ | refine u_exB ?_ | refine u_exS ?_ | refine u_exP ?_ | refine u_exSl ?_ | refine u_exV ?_ | refine u_nilc ?_ | (apply Exists.intro; (repeat apply Exists.intro); refine And.intro rfl ?_) | (refine And.intro ?_ ?_; first | exact trivial | exact rfl | exact t_ld h | (refine lds_s (t_ld h) ?_; (repeat (refine lds_s (t_ld h) ?_)); exact lds_nil) | omega) | refine u_bspT ?_ | refine u_bspF ?_)
    rw [wrap_id v1 (by omega)]
    refine ⟨v1, by omega, cas_at (q := (gorAt x v.g).wt.a + v.cs) h hp v1 v2 fun _ _ => ?_⟩
    repeat (first | (refine s_nwc h ?_; clear h; intro kb M h) | (refine s_stc h ?_; clear h; intro M h) | refine t_exI h ?_ | refine t_exB h ?_ | refine t_exS h ?_ | refine t_exP h ?_ | refine t_exSl h ?_ | refine t_exV h ?_ | refine u_exI ?_ | refine u_exB ?_ | refine u_exS ?_ | refine u_exP ?_ | refine u_exSl ?_ | refine u_exV ?_ | refine u_nilc ?_ | (apply Exists.intro; (repeat apply Exists.intro); refine And.intro rfl ?_) | (refine And.intro ?_ ?_; first | exact trivial | exact rfl | exact t_ld h | (refine lds_s (t_ld h) ?_; (repeat (refine lds_s (t_ld h) ?_)); exact lds_nil) | omega) | refine u_bspT ?_ | refine u_bspF ?_)
    refine ⟨v4.1, v4.2, f_st h (gor_top h2) v4 rfl ?_⟩
    clear h
    intro M h
    repeat (first | (refine s_nwc h ?_; clear h; intro kb M h) | (refine s_stc h ?_; clear h; intro M h) | refine t_exI h ?_ | refine t_exB h ?_ | refine t_exS h ?_ | refine t_exP h ?_ | refine t_exSl h ?_ | refine t_exV h ?_ | refine u_exI ?_ | refine u_exB ?_ | refine u_exS ?_ | refine u_exP ?_ | refine u_exSl ?_ | refine u_exV ?_ | refine u_nilc ?_ | (apply Exists.intro; (repeat apply Exists.intro); refine And.intro rfl ?_) | (refine And.intro ?_ ?_; first | exact trivial | exact rfl | exact t_ld h | (refine lds_s (t_ld h) ?_; (repeat (refine lds_s (t_ld h) ?_)); exact lds_nil) | omega) | refine u_bspT ?_ | refine u_bspF ?_)
    replace h := world_in h gb hl hgb hgg
    replace h := world_close (a := a) (p := p) (pa := pa) (dr := dr) (gg := gg) (x := x.putReg v.g (casAt p ((gorAt x v.g).wt.a + v.cs)).reg v.v) (lens_put hl) h b
    have v5' := v5
    rw [← wt_putReg (q := (casAt p ((gorAt x v.g).wt.a + v.cs)).reg) (v := v.v) hg] at v5'
    refine world_chosen (b := b) h (gorOk_putReg hg) v5' (Sm_putG hs) ?_
    clear h
    intro M h
    repeat (first | (refine s_nwc h ?_; clear h; intro kb M h) | (refine s_stc h ?_; clear h; intro M h) | refine t_exI h ?_ | refine t_exB h ?_ | refine t_exS h ?_ | refine t_exP h ?_ | refine t_exSl h ?_ | refine t_exV h ?_ | refine u_exI ?_ | refine u_exB ?_ | refine u_exS ?_ | refine u_exP ?_ | refine u_exSl ?_ | refine u_exV ?_ | refine u_nilc ?_ | (apply Exists.intro; (repeat apply Exists.intro); refine And.intro rfl ?_) | (refine And.intro ?_ ?_; first | exact trivial | exact rfl | exact t_ld h | (refine lds_s (t_ld h) ?_; (repeat (refine lds_s (t_ld h) ?_)); exact lds_nil) | omega) | refine u_bspT ?_ | refine u_bspF ?_)
    have hg2 := gorOk_chosen (k := v.cs) (gorOk_putReg (q := (casAt p ((gorAt x v.g).wt.a + v.cs)).reg) (v := v.v) hg)
    refine world_wake (b := b) h hg2.1 hg2.2.1 (by show x.ready.length ≤ _; omega) ?_
    clear h
    intro M h
    exact ⟨rfl, k _ h.fin1⟩
  · simp only [e16, if_false] at k hv
    obtain ⟨v1, v2⟩ := hv
    repeat (first | (refine s_nwc h ?_; clear h; intro kb M h) | (refine s_stc h ?_; clear h; intro M h) | refine t_exI h ?_ | refine t_exB h ?_ | refine t_exS h ?_ | refine t_exP h ?_ | refine t_exSl h ?_ | refine t_exV h ?_ | refine u_exI ?_ | refine u_exB ?_ | refine u_exS ?_ | refine u_exP ?_ | refine u_exSl ?_ | refine u_exV ?_ | refine u_nilc ?_ | (apply Exists.intro; (repeat apply Exists.intro); refine And.intro rfl ?_) | (refine And.intro ?_ ?_; first | exact trivial | exact rfl | exact t_ld h | (refine lds_s (t_ld h) ?_; (repeat (refine lds_s (t_ld h) ?_)); exact lds_nil) | omega) | refine u_bspT ?_ | refine u_bspF ?_)
    refine ⟨v1.1, v1.2, ?_⟩
    repeat (first | (refine s_nwc h ?_; clear h; intro kb M h) | (refine s_stc h ?_; clear h; intro M h) | refine t_exI h ?_ | refine t_exB h ?_ | refine t_exS h ?_ | refine t_exP h ?_ | refine t_exSl h ?_ | refine t_exV h ?_ | refine u_exI ?_ | refine u_exB ?_ | refine u_exS ?_ | refine u_exP ?_ | refine u_exSl ?_ | refine u_exV ?_ | refine u_nilc ?_ | (apply Exists.intro; (repeat apply Exists.intro); refine And.intro rfl ?_) | (refine And.intro ?_ ?_; first | exact trivial | exact rfl | exact t_ld h | (refine lds_s (t_ld h) ?_; (repeat (refine lds_s (t_ld h) ?_)); exact lds_nil) | omega) | refine u_bspT ?_ | refine u_bspF ?_)
    refine f_st h (gor_top h2) v1 rfl ?_
    clear h
    intro M h
    repeat (first | (refine s_nwc h ?_; clear h; intro kb M h) | (refine s_stc h ?_; clear h; intro M h) | refine t_exI h ?_ | refine t_exB h ?_ | refine t_exS h ?_ | refine t_exP h ?_ | refine t_exSl h ?_ | refine t_exV h ?_ | refine u_exI ?_ | refine u_exB ?_ | refine u_exS ?_ | refine u_exP ?_ | refine u_exSl ?_ | refine u_exV ?_ | refine u_nilc ?_ | (apply Exists.intro; (repeat apply Exists.intro); refine And.intro rfl ?_) | (refine And.intro ?_ ?_; first | exact trivial | exact rfl | exact t_ld h | (refine lds_s (t_ld h) ?_; (repeat (refine lds_s (t_ld h) ?_)); exact lds_nil) | omega) | refine u_bspT ?_ | refine u_bspF ?_)
    have hi2 : ((gorAt x v.g).fs.set ((gorAt x v.g).fs.length - 1) ((gorAt x v.g).top.set (gorAt x v.g).wt.b v.v))[(gorAt x v.g).fs.length - 1]? = Option.some ((gorAt x v.g).top.set (gorAt x v.g).wt.b v.v) := by
      rw [List.getElem?_set_self]; omega
    refine ⟨v2.1, v2.2, f_st h hi2 v2 rfl ?_⟩
    clear h
    intro M h
    rw [set_set'] at h
    repeat (first | (refine s_nwc h ?_; clear h; intro kb M h) | (refine s_stc h ?_; clear h; intro M h) | refine t_exI h ?_ | refine t_exB h ?_ | refine t_exS h ?_ | refine t_exP h ?_ | refine t_exSl h ?_ | refine t_exV h ?_ | refine u_exI ?_ | refine u_exB ?_ | refine u_exS ?_ | refine u_exP ?_ | refine u_exSl ?_ | refine u_exV ?_ | refine u_nilc ?_ | (apply Exists.intro; (repeat apply Exists.intro); refine And.intro rfl ?_) | (refine And.intro ?_ ?_; first | exact trivial | exact rfl | exact t_ld h | (refine lds_s (t_ld h) ?_; (repeat (refine lds_s (t_ld h) ?_)); exact lds_nil) | omega) | refine u_bspT ?_ | refine u_bspF ?_)
    replace h := world_in h gb hl hgb hgg (by simp)
    have ex : (x.putReg v.g (gorAt x v.g).wt.b v.v).putReg v.g (gorAt x v.g).wt.c some = x.putG v.g ((gorAt x v.g).putTop (((gorAt x v.g).top.set (gorAt x v.g).wt.b v.v).set (gorAt x v.g).wt.c some)) := by
      have e1 := gorAt_putReg (q := (gorAt x v.g).wt.b) (v := v.v) hg
      have e2 : ∀ (z : Wd) (q u : Int), z.putReg v.g q u = z.putG v.g ((gorAt z v.g).putTop ((gorAt z v.g).top.set q u)) := fun _ _ _ => rfl
      rw [e2 (x.putReg v.g (gorAt x v.g).wt.b v.v), e1]
      have e3 : ((gorAt x v.g).putTop ((gorAt x v.g).top.set (gorAt x v.g).wt.b v.v)).top = (gorAt x v.g).top.set (gorAt x v.g).wt.b v.v := by
        unfold Gor.top Gor.putTop
        dsimp only
        rw [List.length_set, List.getD_eq_getElem?_getD, List.getElem?_set_self (by omega)]; rfl
      rw [e3]
      simp [Wd.putReg, Wd.putG, Gor.putTop]
    rw [ex] at k
    replace h := world_close (a := a) (p := p) (pa := pa) (dr := dr) (gg := gg) (x := x.putG v.g ((gorAt x v.g).putTop (((gorAt x v.g).top.set (gorAt x v.g).wt.b v.v).set (gorAt x v.g).wt.c some))) (lens_put hl) h b
    refine world_wake (b := b) h h0 (by simpa [Wd.putG] using h1) (by show x.ready.length ≤ _; omega) ?_
    clear h
    intro M h
    exact ⟨rfl, k _ h.fin1⟩
theorem world_sent {v : Wt} (h : Hp R L M) [o : WAt b L pa p gg dr x L'] (hv : sndOk x v) (hs : x.Sm)
    (k : ∀ M', Hp R (objP (worldR pa p gg dr) b (x.sent v) :: L') M' → K (.tuple #[]) M') : ACalls Tryz.prog 210 #[.pointer (some ⟨b, 0, none⟩), .agg #[.int .i64 v.g, .int .i64 v.cs, .int .i64 v.v]] M K Kp := by
  refine vc_world_World_sent ?_
  obtain ⟨hg, hv⟩ := hv
  have hg' := hg
  obtain ⟨h0, h1, h2, h3⟩ := hg'
  have hs' := hs
  obtain ⟨s1, s2, s3, s4, s5, s6, s7, s8⟩ := hs'
  have h' := world_at h (b := b) h0 h1
  clear h
  obtain ⟨a, gb, A, c, hl, hgb, hgg, h⟩ := h'
  have hl' := hl
  obtain ⟨l1, l2, l3, l4⟩ := hl'
  repeat (first | (refine s_nwc h ?_; clear h; intro kb M h) | (refine s_stc h ?_; clear h; intro M h) | refine t_exI h ?_ | refine t_exB h ?_ | refine t_exS h ?_ | refine t_exP h ?_ | refine t_exSl h ?_ | refine t_exV h ?_ | refine u_exI ?_ | refine u_exB ?_ | refine u_exS ?_ | refine u_exP ?_ | refine u_exSl ?_ | refine u_exV ?_ | refine u_nilc ?_ | (apply Exists.intro; (repeat apply Exists.intro); refine And.intro rfl ?_) | (refine And.intro ?_ ?_; first | exact trivial | exact rfl | exact t_ld h | (refine lds_s (t_ld h) ?_; (repeat (refine lds_s (t_ld h) ?_)); exact lds_nil) | omega) | refine u_bspT ?_ | refine u_bspF ?_)
  refine w_g h hgb fun q hq => ?_
  repeat (first | (refine s_nwc h ?_; clear h; intro kb M h) | (refine s_stc h ?_; clear h; intro M h) | refine t_exI h ?_ | refine t_exB h ?_ | refine t_exS h ?_ | refine t_exP h ?_ | refine t_exSl h ?_ | refine t_exV h ?_ | refine u_exI ?_ | refine u_exB ?_ | refine u_exS ?_ | refine u_exP ?_ | refine u_exSl ?_ | refine u_exV ?_ | refine u_nilc ?_ | (apply Exists.intro; (repeat apply Exists.intro); refine And.intro rfl ?_) | (refine And.intro ?_ ?_; first | exact trivial | exact rfl | exact t_ld h | (refine lds_s (t_ld h) ?_; (repeat (refine lds_s (t_ld h) ?_)); exact lds_nil) | omega) | refine u_bspT ?_ | refine u_bspF ?_)
  unfold Wd.sent at k
  have ex : x.putG v.g (gorAt x v.g) = x := by
    obtain ⟨y, hy⟩ := idx_ex (l := x.gs) (i := v.g.toNat) (by omega)
    have e : gorAt x v.g = y := by simp [gorAt, hy]
    rw [e]
    obtain ⟨hi, rfl⟩ := List.getElem?_eq_some_iff.1 hy
    simp [Wd.putG]
  refine bsp_eq.2 ⟨fun e16 => ?_, fun e16 => ?_⟩
  · simp only [e16, if_true] at k hv
    repeat (first | (refine s_nwc h ?_; clear h; intro kb M h) | (refine s_stc h ?_; clear h; intro M h) | refine t_exI h ?_ | refine t_exB h ?_ | refine t_exS h ?_ | refine t_exP h ?_ | refine t_exSl h ?_ | refine t_exV h ?_ | refine u_exI ?_ | refine u_exB ?_ | refine u_exS ?_ | refine u_exP ?_ | refine u_exSl ?_ | refine u_exV ?_ | refine u_nilc ?_ | (apply Exists.intro; (repeat apply Exists.intro); refine And.intro rfl ?_) | (refine And.intro ?_ ?_; first | exact trivial | exact rfl | exact t_ld h | (refine lds_s (t_ld h) ?_; (repeat (refine lds_s (t_ld h) ?_)); exact lds_nil) | omega) | refine u_bspT ?_ | refine u_bspF ?_)
    replace h := world_in h gb hl hgb hgg
    replace h := world_close (a := a) (p := p) (pa := pa) (dr := dr) (gg := gg) (x := x.putG v.g (gorAt x v.g)) (lens_put hl) h b
    rw [ex] at h
    refine world_chosen (b := b) (x := x) h hg (hv trivial) hs ?_
    clear h
    intro M h
    repeat (first | (refine s_nwc h ?_; clear h; intro kb M h) | (refine s_stc h ?_; clear h; intro M h) | refine t_exI h ?_ | refine t_exB h ?_ | refine t_exS h ?_ | refine t_exP h ?_ | refine t_exSl h ?_ | refine t_exV h ?_ | refine u_exI ?_ | refine u_exB ?_ | refine u_exS ?_ | refine u_exP ?_ | refine u_exSl ?_ | refine u_exV ?_ | refine u_nilc ?_ | (apply Exists.intro; (repeat apply Exists.intro); refine And.intro rfl ?_) | (refine And.intro ?_ ?_; first | exact trivial | exact rfl | exact t_ld h | (refine lds_s (t_ld h) ?_; (repeat (refine lds_s (t_ld h) ?_)); exact lds_nil) | omega) | refine u_bspT ?_ | refine u_bspF ?_)
    have hg2 := gorOk_chosen (k := v.cs) hg
    refine world_wake (b := b) h hg2.1 hg2.2.1 (by show x.ready.length ≤ _; omega) ?_
    clear h
    intro M h
    exact ⟨rfl, k _ h.fin1⟩
  · simp only [e16, if_false] at k
    repeat (first | (refine s_nwc h ?_; clear h; intro kb M h) | (refine s_stc h ?_; clear h; intro M h) | refine t_exI h ?_ | refine t_exB h ?_ | refine t_exS h ?_ | refine t_exP h ?_ | refine t_exSl h ?_ | refine t_exV h ?_ | refine u_exI ?_ | refine u_exB ?_ | refine u_exS ?_ | refine u_exP ?_ | refine u_exSl ?_ | refine u_exV ?_ | refine u_nilc ?_ | (apply Exists.intro; (repeat apply Exists.intro); refine And.intro rfl ?_) | (refine And.intro ?_ ?_; first | exact trivial | exact rfl | exact t_ld h | (refine lds_s (t_ld h) ?_; (repeat (refine lds_s (t_ld h) ?_)); exact lds_nil) | omega) | refine u_bspT ?_ | refine u_bspF ?_)
    replace h := world_in h gb hl hgb hgg
    replace h := world_close (a := a) (p := p) (pa := pa) (dr := dr) (gg := gg) (x := x.putG v.g (gorAt x v.g)) (lens_put hl) h b
    rw [ex] at h
    refine world_wake (b := b) (x := x) h h0 h1 (by omega) ?_
    clear h
    intro M h
    exact ⟨rfl, k _ h.fin1⟩
end
end Go.Proofs

namespace Go.Proofs
open Go.AF
set_option linter.unusedVariables false
set_option maxRecDepth 100000
set_option maxHeartbeats 1000000
attribute [local irreducible] exI exB exS exP exSl exV nilc stc nwc semK semU bsp
/-- A channel that is there. -/
def chOk (x : Wd) (k : Int) : Prop := 0 ≤ k ∧ k < x.chans.length
instance (x : Wd) (k : Int) : Decidable (chOk x k) := by unfold chOk; infer_instance
def putOk (p : Prg) (x : Wd) (k v : Int) : Prop := chOk x k ∧ (((chAt x.chans k).send v).2.2.1 = true → rcvOk p x ((chAt x.chans k).send v).2.1) ∧ ((chAt x.chans k).send v).1.Small 1000000
instance (p : Prg) (x : Wd) (k v : Int) : Decidable (putOk p x k v) := by unfold putOk; infer_instance
def getOk (x : Wd) (k : Int) : Prop := chOk x k ∧ ((chAt x.chans k).recv.2.2.2.2.1 = true → sndOk x (chAt x.chans k).recv.2.2.2.1) ∧ (chAt x.chans k).recv.1.Small 1000000
instance (x : Wd) (k : Int) : Decidable (getOk x k) := by unfold getOk; infer_instance
theorem Sm_putCh {x : Wd} {k : Int} {c : Chan} (h : x.Sm) (hc : c.Small 1000000) : (x.putCh k c).Sm := by
  obtain ⟨s1, s2, s3⟩ := h
  refine ⟨fun d hd => ?_, by simpa [Wd.putCh] using s2, s3⟩
  rcases mem_set hd with h | rfl
  · exact s1 d h
  · exact hc
section
variable {R : Mem} {L L' : List HP} {M : Mem} {K : Value → Mem → Prop} {Kp : List PanicEntry → Mem → Prop} {pa : PA} {p : Prg} {gg : List GA} {dr : Value} {b : Nat} {x : Wd}
theorem lens_ch {a : WA} {k : Int} {c : Chan} (hl : wLens gg a x) : wLens gg a (x.putCh k c) := by
  obtain ⟨l1, l2, l3, l4⟩ := hl
  exact ⟨l1, l2, by simpa [Wd.putCh] using l3, l4⟩
/-- A channel of an open world comes to the front. -/
theorem w_ch {a : WA} {k : Int} (h : Hp R L M) [q : ObjsAt chanR L a.cb x.chans L'] (hl : wLens gg a x) (hk : chOk x k) : ∃ cb, a.cb[k.toNat]? = some cb ∧ x.chans[k.toNat]? = some (chAt x.chans k) ∧ Hp R (objP chanR cb (chAt x.chans k) :: objsX chanR a.cb x.chans k.toNat :: L') M := by
  obtain ⟨l1, l2, l3, l4⟩ := hl
  obtain ⟨k0, k1⟩ := hk
  obtain ⟨cb, hcb⟩ := idx_ex (l := a.cb) (i := k.toNat) (by omega)
  obtain ⟨y, hy⟩ := idx_ex (l := x.chans) (i := k.toNat) (by omega)
  have e : chAt x.chans k = y := by simp [chAt, hy]
  rw [e]
  exact ⟨cb, hcb, hy, h.objs_out chanR hcb hy⟩
theorem world_put {k v : Int} (h : Hp R L M) [o : WAt b L pa p gg dr x L'] (hp : RS casE R pa.k pa.kc p.cases) (hk : putOk p x k v) (hs : x.Sm)
    (k1 : ∀ y ok M', x.put p k v = .on (y, ok) → Hp R (objP (worldR pa p gg dr) b y :: L') M' → K (.bool ok) M')
    (k2 : ∀ y n M', x.put p k v = .trap n y → Hp R (objP (worldR pa p gg dr) b y :: L') M' → Kp [{ v := .iface 256 (.int .i64 n), recovered := false }] M') :
    ACalls Tryz.prog 159 #[.pointer (some ⟨b, 0, none⟩), .int .i64 k, .int .i64 v] M K Kp := by
  refine vc_world_World_put ?_
  obtain ⟨hc, hr, hsm⟩ := hk
  have hs' := hs
  obtain ⟨s1, s2, s3, s4, s5, s6, s7, s8⟩ := hs'
  have h' := world_open h (b := b)
  clear h
  obtain ⟨a, hl, h⟩ := h'
  have hl' := hl
  obtain ⟨l1, l2, l3, l4⟩ := hl'
  have hc' := hc
  obtain ⟨c0, c1⟩ := hc'
  have h' := w_ch h hl hc
  clear h
  obtain ⟨cb, hcb, hch, h⟩ := h'
  repeat (first | (refine s_nwc h ?_; clear h; intro kb M h) | (refine s_stc h ?_; clear h; intro M h) | refine t_exI h ?_ | refine t_exB h ?_ | refine t_exS h ?_ | refine t_exP h ?_ | refine t_exSl h ?_ | refine t_exV h ?_ | refine u_exI ?_ | refine u_exB ?_ | refine u_exS ?_ | refine u_exP ?_ | refine u_exSl ?_ | refine u_exV ?_ | refine u_nilc ?_ | (apply Exists.intro; (repeat apply Exists.intro); refine And.intro rfl ?_) | (refine And.intro ?_ ?_; first | exact trivial | exact rfl | exact t_ld h | (refine lds_s (t_ld h) ?_; (repeat (refine lds_s (t_ld h) ?_)); exact lds_nil) | omega) | refine u_bspT ?_ | refine u_bspF ?_)
  refine w_g h hcb fun q hq => ?_
  have hsc : (chAt x.chans k).Small 1000000 := s1 _ (chAt_mem c0 c1)
  refine chans_Send h (hsc.mono (by omega)) ?_
  clear h
  intro M h
  replace h := h.objs_in chanR cb hcb (by omega)
  unfold Wd.put at k1 k2
  dsimp only at k1 k2
  generalize (chAt x.chans k).send v = s at h k1 k2 hr hsm
  obtain ⟨c', w, ok, e⟩ := s
  dsimp only [sendV] at h k1 k2 hr hsm ⊢
  refine ⟨w.g, w.cs, w.v, ok, e, rfl, ?_⟩
  repeat (first | (refine s_nwc h ?_; clear h; intro kb M h) | (refine s_stc h ?_; clear h; intro M h) | refine t_exI h ?_ | refine t_exB h ?_ | refine t_exS h ?_ | refine t_exP h ?_ | refine t_exSl h ?_ | refine t_exV h ?_ | refine u_exI ?_ | refine u_exB ?_ | refine u_exS ?_ | refine u_exP ?_ | refine u_exSl ?_ | refine u_exV ?_ | refine u_nilc ?_ | (apply Exists.intro; (repeat apply Exists.intro); refine And.intro rfl ?_) | (refine And.intro ?_ ?_; first | exact trivial | exact rfl | exact t_ld h | (refine lds_s (t_ld h) ?_; (repeat (refine lds_s (t_ld h) ?_)); exact lds_nil) | omega) | refine u_bspT ?_ | refine u_bspF ?_)
  refine bsp_eq.2 ⟨fun e10 => ?_, fun e10 => ?_⟩
  · rw [if_pos e10] at k2
    replace h := world_close (a := a) (p := p) (pa := pa) (dr := dr) (gg := gg) (x := x.putCh k c') (lens_ch hl) h b
    exact k2 _ _ _ rfl h.fin1
  · rw [if_neg e10] at k1
    replace h := world_close (a := a) (p := p) (pa := pa) (dr := dr) (gg := gg) (x := x.putCh k c') (lens_ch hl) h b
    refine bsp_iff.2 ⟨fun ht => ?_, fun ht => ?_⟩
    · subst ht
      simp only [if_true] at k1
      repeat (first | (refine s_nwc h ?_; clear h; intro kb M h) | (refine s_stc h ?_; clear h; intro M h) | refine t_exI h ?_ | refine t_exB h ?_ | refine t_exS h ?_ | refine t_exP h ?_ | refine t_exSl h ?_ | refine t_exV h ?_ | refine u_exI ?_ | refine u_exB ?_ | refine u_exS ?_ | refine u_exP ?_ | refine u_exSl ?_ | refine u_exV ?_ | refine u_nilc ?_ | (apply Exists.intro; (repeat apply Exists.intro); refine And.intro rfl ?_) | (refine And.intro ?_ ?_; first | exact trivial | exact rfl | exact t_ld h | (refine lds_s (t_ld h) ?_; (repeat (refine lds_s (t_ld h) ?_)); exact lds_nil) | omega) | refine u_bspT ?_ | refine u_bspF ?_)
      refine world_received (b := b) (v := w) h hp (show rcvOk p (x.putCh k c') w from hr rfl) (Sm_putCh hs hsm) ?_
      clear h
      intro M h
      exact ⟨rfl, k1 _ _ _ rfl h.fin1⟩
    · subst ht
      simp only [Bool.false_eq_true, if_false] at k1
      exact k1 _ _ _ rfl h.fin1
theorem world_get {k : Int} (h : Hp R L M) [o : WAt b L pa p gg dr x L'] (hk : getOk x k) (hs : x.Sm)
    (k1 : ∀ M', Hp R (objP (worldR pa p gg dr) b (x.get k).1 :: L') M' → K (.tuple #[.int .i64 (x.get k).2.1, .int .i64 (x.get k).2.2.1, .bool (x.get k).2.2.2]) M') :
    ACalls Tryz.prog 160 #[.pointer (some ⟨b, 0, none⟩), .int .i64 k] M K Kp := by
  refine vc_world_World_get ?_
  obtain ⟨hc, hr, hsm⟩ := hk
  have hs' := hs
  obtain ⟨s1, s2, s3, s4, s5, s6, s7, s8⟩ := hs'
  have h' := world_open h (b := b)
  clear h
  obtain ⟨a, hl, h⟩ := h'
  have hl' := hl
  obtain ⟨l1, l2, l3, l4⟩ := hl'
  have hc' := hc
  obtain ⟨c0, c1⟩ := hc'
  have h' := w_ch h hl hc
  clear h
  obtain ⟨cb, hcb, hch, h⟩ := h'
  repeat (first | (refine s_nwc h ?_; clear h; intro kb M h) | (refine s_stc h ?_; clear h; intro M h) | refine t_exI h ?_ | refine t_exB h ?_ | refine t_exS h ?_ | refine t_exP h ?_ | refine t_exSl h ?_ | refine t_exV h ?_ | refine u_exI ?_ | refine u_exB ?_ | refine u_exS ?_ | refine u_exP ?_ | refine u_exSl ?_ | refine u_exV ?_ | refine u_nilc ?_ | (apply Exists.intro; (repeat apply Exists.intro); refine And.intro rfl ?_) | (refine And.intro ?_ ?_; first | exact trivial | exact rfl | exact t_ld h | (refine lds_s (t_ld h) ?_; (repeat (refine lds_s (t_ld h) ?_)); exact lds_nil) | omega) | refine u_bspT ?_ | refine u_bspF ?_)
  refine w_g h hcb fun q hq => ?_
  have hsc : (chAt x.chans k).Small 1000000 := s1 _ (chAt_mem c0 c1)
  refine chans_Recv h (hsc.mono (by omega)) ?_
  clear h
  intro M h
  replace h := h.objs_in chanR cb hcb (by omega)
  unfold Wd.get at k1
  dsimp only at k1
  generalize (chAt x.chans k).recv = s at h k1 hr hsm
  obtain ⟨c', v, some, w, woken, e⟩ := s
  dsimp only [recvV] at h k1 hr hsm ⊢
  refine ⟨v, some, w.g, w.cs, w.v, woken, e, rfl, ?_⟩
  repeat (first | (refine s_nwc h ?_; clear h; intro kb M h) | (refine s_stc h ?_; clear h; intro M h) | refine t_exI h ?_ | refine t_exB h ?_ | refine t_exS h ?_ | refine t_exP h ?_ | refine t_exSl h ?_ | refine t_exV h ?_ | refine u_exI ?_ | refine u_exB ?_ | refine u_exS ?_ | refine u_exP ?_ | refine u_exSl ?_ | refine u_exV ?_ | refine u_nilc ?_ | (apply Exists.intro; (repeat apply Exists.intro); refine And.intro rfl ?_) | (refine And.intro ?_ ?_; first | exact trivial | exact rfl | exact t_ld h | (refine lds_s (t_ld h) ?_; (repeat (refine lds_s (t_ld h) ?_)); exact lds_nil) | omega) | refine u_bspT ?_ | refine u_bspF ?_)
  replace h := world_close (a := a) (p := p) (pa := pa) (dr := dr) (gg := gg) (x := x.putCh k c') (lens_ch hl) h b
  refine bsp_iff.2 ⟨fun ht => ?_, fun ht => ?_⟩
  · subst ht
    simp only [if_true] at k1
    repeat (first | (refine s_nwc h ?_; clear h; intro kb M h) | (refine s_stc h ?_; clear h; intro M h) | refine t_exI h ?_ | refine t_exB h ?_ | refine t_exS h ?_ | refine t_exP h ?_ | refine t_exSl h ?_ | refine t_exV h ?_ | refine u_exI ?_ | refine u_exB ?_ | refine u_exS ?_ | refine u_exP ?_ | refine u_exSl ?_ | refine u_exV ?_ | refine u_nilc ?_ | (apply Exists.intro; (repeat apply Exists.intro); refine And.intro rfl ?_) | (refine And.intro ?_ ?_; first | exact trivial | exact rfl | exact t_ld h | (refine lds_s (t_ld h) ?_; (repeat (refine lds_s (t_ld h) ?_)); exact lds_nil) | omega) | refine u_bspT ?_ | refine u_bspF ?_)
    refine world_sent (b := b) (v := w) h (show sndOk (x.putCh k c') w from hr rfl) (Sm_putCh hs hsm) ?_
    clear h
    intro M h
    repeat (first | (refine s_nwc h ?_; clear h; intro kb M h) | (refine s_stc h ?_; clear h; intro M h) | refine t_exI h ?_ | refine t_exB h ?_ | refine t_exS h ?_ | refine t_exP h ?_ | refine t_exSl h ?_ | refine t_exV h ?_ | refine u_exI ?_ | refine u_exB ?_ | refine u_exS ?_ | refine u_exP ?_ | refine u_exSl ?_ | refine u_exV ?_ | refine u_nilc ?_ | (apply Exists.intro; (repeat apply Exists.intro); refine And.intro rfl ?_) | (refine And.intro ?_ ?_; first | exact trivial | exact rfl | exact t_ld h | (refine lds_s (t_ld h) ?_; (repeat (refine lds_s (t_ld h) ?_)); exact lds_nil) | omega) | refine u_bspT ?_ | refine u_bspF ?_)
    refine bsp_iff.2 ⟨fun hb => ?_, fun hb => ?_⟩
    · subst hb
      repeat (first | (refine s_nwc h ?_; clear h; intro kb M h) | (refine s_stc h ?_; clear h; intro M h) | refine t_exI h ?_ | refine t_exB h ?_ | refine t_exS h ?_ | refine t_exP h ?_ | refine t_exSl h ?_ | refine t_exV h ?_ | refine u_exI ?_ | refine u_exB ?_ | refine u_exS ?_ | refine u_exP ?_ | refine u_exSl ?_ | refine u_exV ?_ | refine u_nilc ?_ | (apply Exists.intro; (repeat apply Exists.intro); refine And.intro rfl ?_) | (refine And.intro ?_ ?_; first | exact trivial | exact rfl | exact t_ld h | (refine lds_s (t_ld h) ?_; (repeat (refine lds_s (t_ld h) ?_)); exact lds_nil) | omega) | refine u_bspT ?_ | refine u_bspF ?_)
      exact k1 _ h.fin1
    · subst hb
      exact k1 _ h.fin1
  · subst ht
    simp only [Bool.false_eq_true, if_false] at k1
    repeat (first | (refine s_nwc h ?_; clear h; intro kb M h) | (refine s_stc h ?_; clear h; intro M h) | refine t_exI h ?_ | refine t_exB h ?_ | refine t_exS h ?_ | refine t_exP h ?_ | refine t_exSl h ?_ | refine t_exV h ?_ | refine u_exI ?_ | refine u_exB ?_ | refine u_exS ?_ | refine u_exP ?_ | refine u_exSl ?_ | refine u_exV ?_ | refine u_nilc ?_ | (apply Exists.intro; (repeat apply Exists.intro); refine And.intro rfl ?_) | (refine And.intro ?_ ?_; first | exact trivial | exact rfl | exact t_ld h | (refine lds_s (t_ld h) ?_; (repeat (refine lds_s (t_ld h) ?_)); exact lds_nil) | omega) | refine u_bspT ?_ | refine u_bspF ?_)
    refine bsp_iff.2 ⟨fun hb => ?_, fun hb => ?_⟩
    · subst hb
      repeat (first | (refine s_nwc h ?_; clear h; intro kb M h) | (refine s_stc h ?_; clear h; intro M h) | refine t_exI h ?_ | refine t_exB h ?_ | refine t_exS h ?_ | refine t_exP h ?_ | refine t_exSl h ?_ | refine t_exV h ?_ | refine u_exI ?_ | refine u_exB ?_ | refine u_exS ?_ | refine u_exP ?_ | refine u_exSl ?_ | refine u_exV ?_ | refine u_nilc ?_ | (apply Exists.intro; (repeat apply Exists.intro); refine And.intro rfl ?_) | (refine And.intro ?_ ?_; first | exact trivial | exact rfl | exact t_ld h | (refine lds_s (t_ld h) ?_; (repeat (refine lds_s (t_ld h) ?_)); exact lds_nil) | omega) | refine u_bspT ?_ | refine u_bspF ?_)
      exact k1 _ h.fin1
    · subst hb
      exact k1 _ h.fin1
end
end Go.Proofs

set_option linter.unusedVariables false
namespace Go.Proofs
open Go.AF
def topReg (x : Wd) (g q : Int) : Int := (gorAt x g).top.reg q
def Wd.waitS (x : Wd) (k g v : Int) : Wd := x.putCh k { chAt x.chans k with snd := (chAt x.chans k).snd ++ [⟨g, 0, v⟩] }
def Wd.waitR (x : Wd) (k g : Int) : Wd := x.putCh k { chAt x.chans k with rcv := (chAt x.chans k).rcv ++ [⟨g, 0, 0⟩] }
def Wd.send (p : Prg) (x : Wd) (g : Int) (i : Ins) : Out Wd := match x.put p i.a (topReg x g i.b) with
  | .trap n y => .trap n y
  | .dry l y => .dry l y
  | .on (y, true) => .on y
  | .on (y, false) => .on ((y.waitS i.a g (topReg y g i.b)).block g i)
def Wd.recv (x : Wd) (g : Int) (i : Ins) : Wd :=
  if (x.get i.a).2.2.2 then ((x.get i.a).1.putReg g i.b (x.get i.a).2.1).putReg g i.c (x.get i.a).2.2.1
  else ((x.get i.a).1.waitR i.a g).block g i
def shutStep (p : Prg) (x : Wd) (v : Wt) : Wd := if (gorAt x v.g).st = 2 then x.received p { v with v := 0 } 0 else x
def Wd.shut (p : Prg) (x : Wd) (i : Ins) : Out Wd :=
  let s := (chAt x.chans i.a).close
  let y := x.putCh i.a s.1
  if s.2.2.2 ≠ 0 then .trap (-2) y else if 0 < s.2.2.1.length then .trap (-1) y else .on (s.2.1.foldl (shutStep p) y)
/-- What the ones that wait need. -/
def shutOk (p : Prg) (x : Wd) : List Wt → Prop
  | [] => True
  | v :: l => x.Sm ∧ 0 ≤ v.g ∧ v.g < x.gs.length ∧ ((gorAt x v.g).st = 2 → rcvOk p x { v with v := 0 }) ∧ shutOk p (shutStep p x v) l
instance shutOk_dec (p : Prg) : ∀ (l : List Wt) (x : Wd), Decidable (shutOk p x l)
  | [], _ => isTrue trivial
  | v :: l, x => by
    have := shutOk_dec p l (shutStep p x v)
    unfold shutOk; infer_instance
theorem shutOk_at {p : Prg} : ∀ {l : List Wt} {x : Wd} {i : Nat} {v : Wt}, shutOk p x l → l[i]? = some v →
    let y := (l.take i).foldl (shutStep p) x
    y.Sm ∧ 0 ≤ v.g ∧ v.g < y.gs.length ∧ ((gorAt y v.g).st = 2 → rcvOk p y { v with v := 0 })
  | [], _, _, _, _, h => by simp at h
  | w :: l, x, 0, v, h, hv => by simp at hv; subst hv; exact ⟨h.1, h.2.1, h.2.2.1, h.2.2.2.1⟩
  | w :: l, x, i + 1, v, h, hv => shutOk_at (l := l) h.2.2.2.2 (by simpa using hv)
def Wd.emit (x : Wd) (g : Int) (i : Ins) : Out Wd := if x.out.length ≥ 1000 then .trap (-6) x else .on { x with out := x.out ++ [topReg x g i.a] }
def Wd.spawn (x : Wd) (g : Int) (i : Ins) : Out Wd := if x.gs.length ≥ 100 then .trap (-5) x else
  .on ((Wd.wake { x with gs := x.gs ++ [⟨0, [Frm.begin i.a (topReg x g i.b)], .zero⟩] } (x.gs.length : Int)).putReg g i.c (x.gs.length : Int))
def Wd.call (x : Wd) (g : Int) (i : Ins) : Out Wd := if (gorAt x g).fs.length ≥ 16 then .trap (-4) x else
  .on (x.putG g { gorAt x g with fs := (gorAt x g).fs ++ [⟨i.a, 0, [topReg x g i.b, 0, 0, 0, 0, 0, 0, 0], i.c⟩] })
def Gor.back (y : Gor) (v : Int) : Gor := { y with fs := (y.fs.take (y.fs.length - 1)).set (y.fs.length - 2) ((y.fs.getD (y.fs.length - 2) ⟨0, 0, [], 0⟩).set y.top.into v) }
def Wd.back (x : Wd) (g : Int) (i : Ins) : Wd := if 2 ≤ (gorAt x g).fs.length then x.putG g ((gorAt x g).back (topReg x g i.a))
  else if g = 0 then { x.putG g { gorAt x g with st := 4 } with end_ := 1 } else x.putG g { gorAt x g with st := 4 }
end Go.Proofs

namespace Go.Proofs
open Go.AF
set_option linter.unusedVariables false
set_option maxRecDepth 100000
set_option maxHeartbeats 1000000
attribute [local irreducible] exI exB exS exP exSl exV nilc stc nwc semK semU bsp
section
variable {R : Mem} {L L' : List HP} {M : Mem} {K : Value → Mem → Prop} {Kp : List PanicEntry → Mem → Prop} {pa : PA} {p : Prg} {gg : List GA} {dr : Value} {b : Nat} {x : Wd}
theorem world_at2 {g : Int} {A : Option Addr} {c : Nat} (h : Hp R L M) [o : WAt b L pa p gg dr x L'] (h0 : 0 ≤ g) (hg : g < x.gs.length) (hgg : gg[g.toNat]? = some (A, c)) :
    ∃ (a : WA) (gb : Nat), wLens gg a x ∧ a.gb[g.toNat]? = some gb ∧
      Hp R (pt gb (gorCells (gorAt x g) A c) 182 :: rowF A c (gorAt x g).fs :: pt b (wCells pa p dr a x) 164 :: objsX gorR a.gb (x.gs.zip gg) g.toNat :: wRest a x L') M := by
  obtain ⟨a, gb, A', c', hl, hgb, hgg', h1⟩ := world_at h (b := b) h0 hg
  rw [hgg] at hgg'
  cases hgg'
  exact ⟨a, gb, hl, hgb, h1⟩
/-- A register of a goroutine's last frame. -/
theorem w_reg {g q : Int} {bs c oo : Nat} {G : Int → Prop} (h : Hp R L M) [o : WAt b L pa p gg dr x L'] (hg : gorOk x g) (hgg : gg[g.toNat]? = some (some ⟨bs, 0, none⟩, c)) (hq : isReg q) (e : oo = ((gorAt x g).fs.length - 1) * 11 + 2 + q.toNat)
    (k : G (topReg x g q)) : exI (M.ld ⟨bs, oo, none⟩) .i64 G := by
  obtain ⟨h0, h1, h2, h3⟩ := hg
  obtain ⟨a, gb, hl, hgb, h4⟩ := world_at2 h (b := b) h0 h1 hgg
  exact f_ld h4 (gor_top h2) hq e k
theorem w_stReg {g q v : Int} {bs c oo : Nat} {G : Mem → Prop} (h : Hp R L M) [o : WAt b L pa p gg dr x L'] (hg : gorOk x g) (hgg : gg[g.toNat]? = some (some ⟨bs, 0, none⟩, c)) (hq : isReg q) (e : oo = ((gorAt x g).fs.length - 1) * 11 + 2 + q.toNat)
    (k : ∀ M', Hp R (objP (worldR pa p gg dr) b (x.putReg g q v) :: L') M' → G M') : stc M ⟨bs, oo, none⟩ (.int .i64 v) G := by
  obtain ⟨h0, h1, h2, h3⟩ := hg
  obtain ⟨a, gb, hl, hgb, h4⟩ := world_at2 h (b := b) h0 h1 hgg
  refine f_st h4 (gor_top h2) hq e fun M' h5 => ?_
  replace h5 := world_in h5 gb hl hgb hgg (by simp)
  exact k M' (world_close (a := a) (p := p) (pa := pa) (dr := dr) (gg := gg) (x := x.putReg g q v) (lens_put hl) h5 b)
/-- A channel's pointer. -/
theorem w_chp {G : Option Addr → Nat → Nat → Prop} (h : Hp R L M) [o : WAt b L pa p gg dr x L'] (k1 : ∀ a : WA, wLens gg a x → Hp R (pt b (wCells pa p dr a x) 164 :: objsP gorR a.gb (x.gs.zip gg) :: wRest a x L') M → G a.ac a.cb.length a.cc) : exSl (M.ld ⟨b, 0 + 6, none⟩) G := by
  obtain ⟨a, hl, h1⟩ := world_open h (b := b)
  exact t_exSl h1 (k1 a hl h1)
def Out.Ok {α : Type} (r : Out α) (k1 : α → Prop) (k2 : Int → Wd → Prop) (k3 : List PanicEntry → Wd → Prop := fun _ _ => True) : Prop := match r with
  | .on y => k1 y
  | .trap n y => k2 n y
  | .dry l y => k3 l y
def waitOk (x : Wd) (k : Int) : Prop := chOk x k ∧ (chAt x.chans k).Small 999999
instance (x : Wd) (k : Int) : Decidable (waitOk x k) := by unfold waitOk; infer_instance
/-- What a send needs. -/
def sendOk (p : Prg) (x : Wd) (g : Int) (i : Ins) : Prop := gorOk x g ∧ isReg i.b ∧ putOk p x i.a (topReg x g i.b) ∧
  match x.put p i.a (topReg x g i.b) with
  | .on (y, false) => gorOk y g ∧ (gorAt y g).fs.length = (gorAt x g).fs.length ∧ waitOk y i.a
  | _ => True
theorem world_send {g : Int} {i : Ins} {bs c : Nat} (h : Hp R L M) [o : WAt b L pa p gg dr x L'] (hp : RS casE R pa.k pa.kc p.cases) (hgg : gg[g.toNat]? = some (some ⟨bs, 0, none⟩, c)) (hk : sendOk p x g i) (hs : x.Sm)
    (k : Out.Ok (x.send p g i) (fun y => ∀ M', Hp R (objP (worldR pa p gg dr) b y :: L') M' → K (.tuple #[]) M')
      (fun n y => ∀ M', Hp R (objP (worldR pa p gg dr) b y :: L') M' → Kp [{ v := .iface 256 (.int .i64 n), recovered := false }] M')) :
    ACalls Tryz.prog 165 #[.pointer (some ⟨b, 0, none⟩), .int .i64 g, .pointer (some ⟨bs, ((gorAt x g).fs.length - 1) * 11, none⟩), .agg #[.int .i64 i.op, .int .i64 i.a, .int .i64 i.b, .int .i64 i.c]] M K Kp := by
  refine vc_world_World_send ?_
  obtain ⟨hg, hb, hput, hw⟩ := hk
  repeat (first | (refine s_nwc h ?_; clear h; intro kb M h) | (refine s_stc h ?_; clear h; intro M h) | refine t_exI h ?_ | refine t_exB h ?_ | refine t_exS h ?_ | refine t_exP h ?_ | refine t_exSl h ?_ | refine t_exV h ?_ | refine u_exI ?_ | refine u_exB ?_ | refine u_exS ?_ | refine u_exP ?_ | refine u_exSl ?_ | refine u_exV ?_ | refine u_nilc ?_ | (apply Exists.intro; (repeat apply Exists.intro); refine And.intro rfl ?_) | (refine And.intro ?_ ?_; first | exact trivial | exact rfl | exact t_ld h | (refine lds_s (t_ld h) ?_; (repeat (refine lds_s (t_ld h) ?_)); exact lds_nil) | omega) | refine u_bspT ?_ | refine u_bspF ?_)
  refine ⟨hb.1, hb.2, w_reg (b := b) h hg hgg hb rfl ?_⟩
  unfold Wd.send at k
  refine world_put (b := b) h hp hput hs ?_ ?_
  · intro y ok M' e h
    rw [e] at k hw
    cases ok with
    | true =>
      dsimp only at k
      refine u_exB (u_bspF ?_)
      exact k _ h.fin1
    | false =>
      dsimp only at k hw
      obtain ⟨hgy, hfl, hch, hsm⟩ := hw
      refine u_exB (u_bspT ?_)
      refine w_chp h fun a hl h => ?_
      have hl' := hl
      obtain ⟨l1, l2, l3, l4⟩ := hl'
      have hc' := hch
      obtain ⟨c0, c1⟩ := hc'
      have h' := w_ch h hl hch
      clear h
      obtain ⟨cb, hcb, hchx, h⟩ := h'
      repeat (first | (refine s_nwc h ?_; clear h; intro kb M h) | (refine s_stc h ?_; clear h; intro M h) | refine t_exI h ?_ | refine t_exB h ?_ | refine t_exS h ?_ | refine t_exP h ?_ | refine t_exSl h ?_ | refine t_exV h ?_ | refine u_exI ?_ | refine u_exB ?_ | refine u_exS ?_ | refine u_exP ?_ | refine u_exSl ?_ | refine u_exV ?_ | refine u_nilc ?_ | (apply Exists.intro; (repeat apply Exists.intro); refine And.intro rfl ?_) | (refine And.intro ?_ ?_; first | exact trivial | exact rfl | exact t_ld h | (refine lds_s (t_ld h) ?_; (repeat (refine lds_s (t_ld h) ?_)); exact lds_nil) | omega) | refine u_bspT ?_ | refine u_bspF ?_)
      refine w_g h hcb fun q hq => ?_
      repeat (first | (refine s_nwc h ?_; clear h; intro kb M h) | (refine s_stc h ?_; clear h; intro M h) | refine t_exI h ?_ | refine t_exB h ?_ | refine t_exS h ?_ | refine t_exP h ?_ | refine t_exSl h ?_ | refine t_exV h ?_ | refine u_exI ?_ | refine u_exB ?_ | refine u_exS ?_ | refine u_exP ?_ | refine u_exSl ?_ | refine u_exV ?_ | refine u_nilc ?_ | (apply Exists.intro; (repeat apply Exists.intro); refine And.intro rfl ?_) | (refine And.intro ?_ ?_; first | exact trivial | exact rfl | exact t_ld h | (refine lds_s (t_ld h) ?_; (repeat (refine lds_s (t_ld h) ?_)); exact lds_nil) | omega) | refine u_bspT ?_ | refine u_bspF ?_)
      refine ⟨hb.1, hb.2, ?_⟩
      have h2 := h.objs_same chanR cb hcb hchx
      have h3 := world_close (a := a) (p := p) (pa := pa) (dr := dr) (gg := gg) (x := y) hl h2 b
      refine w_reg (b := b) h3 hgy hgg hb (by rw [hfl]) ?_
      clear h2 h3
      refine chans_WaitSend (w := ⟨g, 0, topReg y g i.b⟩) h (hsm.mono (by omega)) ?_
      clear h
      intro M h
      replace h := h.objs_in chanR cb hcb (by omega)
      replace h := world_close (a := a) (p := p) (pa := pa) (dr := dr) (gg := gg) (x := y.waitS i.a g (topReg y g i.b)) (lens_ch hl) h b
      repeat (first | (refine s_nwc h ?_; clear h; intro kb M h) | (refine s_stc h ?_; clear h; intro M h) | refine t_exI h ?_ | refine t_exB h ?_ | refine t_exS h ?_ | refine t_exP h ?_ | refine t_exSl h ?_ | refine t_exV h ?_ | refine u_exI ?_ | refine u_exB ?_ | refine u_exS ?_ | refine u_exP ?_ | refine u_exSl ?_ | refine u_exV ?_ | refine u_nilc ?_ | (apply Exists.intro; (repeat apply Exists.intro); refine And.intro rfl ?_) | (refine And.intro ?_ ?_; first | exact trivial | exact rfl | exact t_ld h | (refine lds_s (t_ld h) ?_; (repeat (refine lds_s (t_ld h) ?_)); exact lds_nil) | omega) | refine u_bspT ?_ | refine u_bspF ?_)
      refine world_block (b := b) (i := i) (x := y.waitS i.a g (topReg y g i.b)) h hgy.1 hgy.2.1 ?_
      clear h
      intro M h
      exact ⟨rfl, k _ h.fin1⟩
  · intro y n M' e h
    rw [e] at k
    exact k _ h.fin1
/-- What a receive needs. -/
def recvOk (x : Wd) (g : Int) (i : Ins) : Prop := gorOk x g ∧ isReg i.b ∧ isReg i.c ∧ getOk x i.a ∧ gorOk (x.get i.a).1 g ∧ (gorAt (x.get i.a).1 g).fs.length = (gorAt x g).fs.length ∧ ((x.get i.a).2.2.2 = false → waitOk (x.get i.a).1 i.a)
theorem world_recv {g : Int} {i : Ins} {bs c : Nat} (h : Hp R L M) [o : WAt b L pa p gg dr x L'] (hgg : gg[g.toNat]? = some (some ⟨bs, 0, none⟩, c)) (hk : recvOk x g i) (hs : x.Sm)
    (k : ∀ M', Hp R (objP (worldR pa p gg dr) b (x.recv g i) :: L') M' → K (.tuple #[]) M') :
    ACalls Tryz.prog 166 #[.pointer (some ⟨b, 0, none⟩), .int .i64 g, .pointer (some ⟨bs, ((gorAt x g).fs.length - 1) * 11, none⟩), .agg #[.int .i64 i.op, .int .i64 i.a, .int .i64 i.b, .int .i64 i.c]] M K Kp := by
  refine vc_world_World_recv ?_
  obtain ⟨hg, hb, hc, hget, hgy, hfl, hw⟩ := hk
  repeat (first | (refine s_nwc h ?_; clear h; intro kb M h) | (refine s_stc h ?_; clear h; intro M h) | refine t_exI h ?_ | refine t_exB h ?_ | refine t_exS h ?_ | refine t_exP h ?_ | refine t_exSl h ?_ | refine t_exV h ?_ | refine u_exI ?_ | refine u_exB ?_ | refine u_exS ?_ | refine u_exP ?_ | refine u_exSl ?_ | refine u_exV ?_ | refine u_nilc ?_ | (apply Exists.intro; (repeat apply Exists.intro); refine And.intro rfl ?_) | (refine And.intro ?_ ?_; first | exact trivial | exact rfl | exact t_ld h | (refine lds_s (t_ld h) ?_; (repeat (refine lds_s (t_ld h) ?_)); exact lds_nil) | omega) | refine u_bspT ?_ | refine u_bspF ?_)
  refine world_get (b := b) h hget hs ?_
  clear h
  intro M h
  unfold Wd.recv at k
  generalize x.get i.a = r at h k hgy hfl hw
  obtain ⟨y, v, sm, ok⟩ := r
  dsimp only at h k hgy hfl hw ⊢
  refine ⟨v, sm, ok, rfl, ?_⟩
  cases ok with
  | true =>
    simp only [if_true] at k
    refine u_bspF ?_
    repeat (first | (refine s_nwc h ?_; clear h; intro kb M h) | (refine s_stc h ?_; clear h; intro M h) | refine t_exI h ?_ | refine t_exB h ?_ | refine t_exS h ?_ | refine t_exP h ?_ | refine t_exSl h ?_ | refine t_exV h ?_ | refine u_exI ?_ | refine u_exB ?_ | refine u_exS ?_ | refine u_exP ?_ | refine u_exSl ?_ | refine u_exV ?_ | refine u_nilc ?_ | (apply Exists.intro; (repeat apply Exists.intro); refine And.intro rfl ?_) | (refine And.intro ?_ ?_; first | exact trivial | exact rfl | exact t_ld h | (refine lds_s (t_ld h) ?_; (repeat (refine lds_s (t_ld h) ?_)); exact lds_nil) | omega) | refine u_bspT ?_ | refine u_bspF ?_)
    refine ⟨hb.1, hb.2, ?_⟩
    repeat (first | (refine s_nwc h ?_; clear h; intro kb M h) | (refine s_stc h ?_; clear h; intro M h) | refine t_exI h ?_ | refine t_exB h ?_ | refine t_exS h ?_ | refine t_exP h ?_ | refine t_exSl h ?_ | refine t_exV h ?_ | refine u_exI ?_ | refine u_exB ?_ | refine u_exS ?_ | refine u_exP ?_ | refine u_exSl ?_ | refine u_exV ?_ | refine u_nilc ?_ | (apply Exists.intro; (repeat apply Exists.intro); refine And.intro rfl ?_) | (refine And.intro ?_ ?_; first | exact trivial | exact rfl | exact t_ld h | (refine lds_s (t_ld h) ?_; (repeat (refine lds_s (t_ld h) ?_)); exact lds_nil) | omega) | refine u_bspT ?_ | refine u_bspF ?_)
    refine w_stReg (b := b) h hgy hgg hb (by rw [hfl]) ?_
    clear h
    intro M h
    repeat (first | (refine s_nwc h ?_; clear h; intro kb M h) | (refine s_stc h ?_; clear h; intro M h) | refine t_exI h ?_ | refine t_exB h ?_ | refine t_exS h ?_ | refine t_exP h ?_ | refine t_exSl h ?_ | refine t_exV h ?_ | refine u_exI ?_ | refine u_exB ?_ | refine u_exS ?_ | refine u_exP ?_ | refine u_exSl ?_ | refine u_exV ?_ | refine u_nilc ?_ | (apply Exists.intro; (repeat apply Exists.intro); refine And.intro rfl ?_) | (refine And.intro ?_ ?_; first | exact trivial | exact rfl | exact t_ld h | (refine lds_s (t_ld h) ?_; (repeat (refine lds_s (t_ld h) ?_)); exact lds_nil) | omega) | refine u_bspT ?_ | refine u_bspF ?_)
    have hg2 := gorOk_putReg (q := i.b) (v := v) hgy
    have hf2 : (gorAt (y.putReg g i.b v) g).fs.length = (gorAt x g).fs.length := by rw [gorAt_putReg hgy]; simpa [Gor.putTop] using hfl
    refine ⟨hc.1, hc.2, w_stReg (b := b) h hg2 hgg hc (by rw [hf2]) ?_⟩
    clear h
    intro M h
    repeat (first | (refine s_nwc h ?_; clear h; intro kb M h) | (refine s_stc h ?_; clear h; intro M h) | refine t_exI h ?_ | refine t_exB h ?_ | refine t_exS h ?_ | refine t_exP h ?_ | refine t_exSl h ?_ | refine t_exV h ?_ | refine u_exI ?_ | refine u_exB ?_ | refine u_exS ?_ | refine u_exP ?_ | refine u_exSl ?_ | refine u_exV ?_ | refine u_nilc ?_ | (apply Exists.intro; (repeat apply Exists.intro); refine And.intro rfl ?_) | (refine And.intro ?_ ?_; first | exact trivial | exact rfl | exact t_ld h | (refine lds_s (t_ld h) ?_; (repeat (refine lds_s (t_ld h) ?_)); exact lds_nil) | omega) | refine u_bspT ?_ | refine u_bspF ?_)
    exact k _ h.fin1
  | false =>
    simp only [Bool.false_eq_true, if_false] at k
    refine u_bspT ?_
    obtain ⟨hch, hsm⟩ := hw rfl
    refine w_chp h fun a hl h => ?_
    have hl' := hl
    obtain ⟨l1, l2, l3, l4⟩ := hl'
    have hc' := hch
    obtain ⟨c0, c1⟩ := hc'
    have h' := w_ch h hl hch
    clear h
    obtain ⟨cb, hcb, hchx, h⟩ := h'
    repeat (first | (refine s_nwc h ?_; clear h; intro kb M h) | (refine s_stc h ?_; clear h; intro M h) | refine t_exI h ?_ | refine t_exB h ?_ | refine t_exS h ?_ | refine t_exP h ?_ | refine t_exSl h ?_ | refine t_exV h ?_ | refine u_exI ?_ | refine u_exB ?_ | refine u_exS ?_ | refine u_exP ?_ | refine u_exSl ?_ | refine u_exV ?_ | refine u_nilc ?_ | (apply Exists.intro; (repeat apply Exists.intro); refine And.intro rfl ?_) | (refine And.intro ?_ ?_; first | exact trivial | exact rfl | exact t_ld h | (refine lds_s (t_ld h) ?_; (repeat (refine lds_s (t_ld h) ?_)); exact lds_nil) | omega) | refine u_bspT ?_ | refine u_bspF ?_)
    refine w_g h hcb fun q hq => ?_
    refine chans_WaitRecv (w := ⟨g, 0, 0⟩) h (hsm.mono (by omega)) ?_
    clear h
    intro M h
    replace h := h.objs_in chanR cb hcb (by omega)
    replace h := world_close (a := a) (p := p) (pa := pa) (dr := dr) (gg := gg) (x := y.waitR i.a g) (lens_ch hl) h b
    repeat (first | (refine s_nwc h ?_; clear h; intro kb M h) | (refine s_stc h ?_; clear h; intro M h) | refine t_exI h ?_ | refine t_exB h ?_ | refine t_exS h ?_ | refine t_exP h ?_ | refine t_exSl h ?_ | refine t_exV h ?_ | refine u_exI ?_ | refine u_exB ?_ | refine u_exS ?_ | refine u_exP ?_ | refine u_exSl ?_ | refine u_exV ?_ | refine u_nilc ?_ | (apply Exists.intro; (repeat apply Exists.intro); refine And.intro rfl ?_) | (refine And.intro ?_ ?_; first | exact trivial | exact rfl | exact t_ld h | (refine lds_s (t_ld h) ?_; (repeat (refine lds_s (t_ld h) ?_)); exact lds_nil) | omega) | refine u_bspT ?_ | refine u_bspF ?_)
    refine world_block (b := b) (i := i) (x := y.waitR i.a g) h hgy.1 hgy.2.1 ?_
    clear h
    intro M h
    exact ⟨rfl, k _ h.fin1⟩
theorem world_emit {g : Int} {i : Ins} {bs c : Nat} (h : Hp R L M) [o : WAt b L pa p gg dr x L'] (hgg : gg[g.toNat]? = some (some ⟨bs, 0, none⟩, c)) (hg : gorOk x g) (ha : isReg i.a) (hs : x.Sm)
    (k : Out.Ok (x.emit g i) (fun y => ∀ M', Hp R (objP (worldR pa p gg dr) b y :: L') M' → K (.tuple #[]) M')
      (fun n y => ∀ M', Hp R (objP (worldR pa p gg dr) b y :: L') M' → Kp [{ v := .iface 256 (.int .i64 n), recovered := false }] M')) :
    ACalls Tryz.prog 171 #[.pointer (some ⟨b, 0, none⟩), .int .i64 g, .pointer (some ⟨bs, ((gorAt x g).fs.length - 1) * 11, none⟩), .agg #[.int .i64 i.op, .int .i64 i.a, .int .i64 i.b, .int .i64 i.c]] M K Kp := by
  refine vc_world_World_emit ?_
  obtain ⟨s1, s2, s3, s4, s5, s6, s7, s8⟩ := hs
  have hg' := hg
  obtain ⟨h0, h1, h2, h3⟩ := hg'
  unfold Wd.emit at k
  refine s_nwc h ?_
  clear h
  intro kb M h
  have h' := world_at2 h (b := b) h0 h1 hgg
  clear h
  obtain ⟨a, gb, hl, hgb, h⟩ := h'
  have hl' := hl
  obtain ⟨l1, l2, l3, l4⟩ := hl'
  have ex : x.putG g (gorAt x g) = x := by
    obtain ⟨y, hy⟩ := idx_ex (l := x.gs) (i := g.toNat) (by omega)
    have e : gorAt x g = y := by simp [gorAt, hy]
    rw [e]
    obtain ⟨hi, rfl⟩ := List.getElem?_eq_some_iff.1 hy
    simp [Wd.putG]
  repeat (first | (refine s_nwc h ?_; clear h; intro kb M h) | (refine s_stc h ?_; clear h; intro M h) | refine t_exI h ?_ | refine t_exB h ?_ | refine t_exS h ?_ | refine t_exP h ?_ | refine t_exSl h ?_ | refine t_exV h ?_ | refine u_exI ?_ | refine u_exB ?_ | refine u_exS ?_ | refine u_exP ?_ | refine u_exSl ?_ | refine u_exV ?_ | refine u_nilc ?_ | (apply Exists.intro; (repeat apply Exists.intro); refine And.intro rfl ?_) | (refine And.intro ?_ ?_; first | exact trivial | exact rfl | exact t_ld h | (refine lds_s (t_ld h) ?_; (repeat (refine lds_s (t_ld h) ?_)); exact lds_nil) | omega) | refine u_bspT ?_ | refine u_bspF ?_)
  refine bsp_dec.2 ⟨fun hn => ?_, fun hn => ?_⟩
  · rw [if_pos (by omega)] at k
    replace h := world_in h gb hl hgb hgg
    have hl2 := lens_put (y := gorAt x g) (g := g) hl
    replace h := world_close (a := a) (p := p) (pa := pa) (dr := dr) (gg := gg) (x := x.putG g (gorAt x g)) hl2 h b
    rw [ex] at h
    exact k _ h.fin1
  · rw [if_neg (by omega)] at k
    repeat (first | (refine s_nwc h ?_; clear h; intro kb M h) | (refine s_stc h ?_; clear h; intro M h) | refine t_exI h ?_ | refine t_exB h ?_ | refine t_exS h ?_ | refine t_exP h ?_ | refine t_exSl h ?_ | refine t_exV h ?_ | refine u_exI ?_ | refine u_exB ?_ | refine u_exS ?_ | refine u_exP ?_ | refine u_exSl ?_ | refine u_exV ?_ | refine u_nilc ?_ | (apply Exists.intro; (repeat apply Exists.intro); refine And.intro rfl ?_) | (refine And.intro ?_ ?_; first | exact trivial | exact rfl | exact t_ld h | (refine lds_s (t_ld h) ?_; (repeat (refine lds_s (t_ld h) ?_)); exact lds_nil) | omega) | refine u_bspT ?_ | refine u_bspF ?_)
    refine ⟨ha.1, ha.2, f_ld h (gor_top h2) ha rfl ?_⟩
    repeat (first | (refine s_nwc h ?_; clear h; intro kb M h) | (refine s_stc h ?_; clear h; intro M h) | refine t_exI h ?_ | refine t_exB h ?_ | refine t_exS h ?_ | refine t_exP h ?_ | refine t_exSl h ?_ | refine t_exV h ?_ | refine u_exI ?_ | refine u_exB ?_ | refine u_exS ?_ | refine u_exP ?_ | refine u_exSl ?_ | refine u_exV ?_ | refine u_nilc ?_ | (apply Exists.intro; (repeat apply Exists.intro); refine And.intro rfl ?_) | (refine And.intro ?_ ?_; first | exact trivial | exact rfl | exact t_ld h | (refine lds_s (t_ld h) ?_; (repeat (refine lds_s (t_ld h) ?_)); exact lds_nil) | omega) | refine u_bspT ?_ | refine u_bspF ?_)
    refine h.rowAppend1 el_i64 [topReg x g i.a] rfl rfl (by simp; omega) ?_
    clear h
    intro A' c' M h
    repeat (first | (refine s_nwc h ?_; clear h; intro kb M h) | (refine s_stc h ?_; clear h; intro M h) | refine t_exI h ?_ | refine t_exB h ?_ | refine t_exS h ?_ | refine t_exP h ?_ | refine t_exSl h ?_ | refine t_exV h ?_ | refine u_exI ?_ | refine u_exB ?_ | refine u_exS ?_ | refine u_exP ?_ | refine u_exSl ?_ | refine u_exV ?_ | refine u_nilc ?_ | (apply Exists.intro; (repeat apply Exists.intro); refine And.intro rfl ?_) | (refine And.intro ?_ ?_; first | exact trivial | exact rfl | exact t_ld h | (refine lds_s (t_ld h) ?_; (repeat (refine lds_s (t_ld h) ?_)); exact lds_nil) | omega) | refine u_bspT ?_ | refine u_bspF ?_)
    replace h := world_in h gb hl hgb hgg
    have hl2 := lens_put (y := gorAt x g) (g := g) hl
    have h5 := world_close (a := { a with ao := A', co := c' }) (p := p) (pa := pa) (dr := dr) (gg := gg) (x := { x.putG g (gorAt x g) with out := x.out ++ [topReg x g i.a] }) hl2 h b
    rw [ex] at h5
    exact k _ h5.fin1
end
end Go.Proofs

namespace Go.Proofs
open Go.AF
set_option linter.unusedVariables false
set_option maxRecDepth 100000
set_option maxHeartbeats 1000000
attribute [local irreducible] exI exB exS exP exSl exV nilc stc nwc semK semU bsp
theorem el_pg : ElemOk Tryz.prog 158 177 1 8 [.pointer none] := ElemOk.mk' (zv := .pointer none) (by kernel_rfl) (by kernel_rfl) rfl (by omega)
section
variable {R : Mem} {L L' : List HP} {M : Mem} {K : Value → Mem → Prop} {Kp : List PanicEntry → Mem → Prop} {pa : PA} {p : Prg} {gg : List GA} {dr : Value} {b : Nat} {x : Wd}
def newG (x : Wd) (fn v : Int) : Wd := { x with gs := x.gs ++ [⟨0, [Frm.begin fn v], .zero⟩] }
theorem w_newG {a : WA} {k bs : Nat} {A' : Option Addr} {c' : Nat} {fn v : Int} (hl : wLens gg a x)
    (h : Hp R (pt b (wCells pa p dr { a with ag := A', cg := c', gb := a.gb ++ [k] } x) 164 :: rowPG A' c' (a.gb ++ [k]) :: pt k [.int .i64 0, .slice (some ⟨bs, 0, none⟩) 1 1, .int .i64 0, .int .i64 0, .int .i64 0, .int .i64 0] 182 ::
      rowF (some ⟨bs, 0, none⟩) 1 [Frm.begin fn v] :: objsP gorR a.gb (x.gs.zip gg) :: rowPC a.ac a.cc a.cb :: objsP chanR a.cb x.chans :: rowPL a.al a.cl a.lb :: objsP lockR a.lb x.locks :: rowH a.ah a.ch x.hl :: rowB a.ao a.co x.out :: rowI a.ar a.cr x.ready :: L) M) :
    Hp R (objP (worldR pa p (gg ++ [(some ⟨bs, 0, none⟩, 1)]) dr) b (newG x fn v) :: L) M := by
  obtain ⟨l1, l2, l3, l4⟩ := hl
  have h1 := gor_close h k
  have h2 := h1.objs_snoc gorR k (by rw [List.length_zip]; omega)
  have e : x.gs.zip gg ++ [(⟨0, [Frm.begin fn v], ⟨0, 0, 0, 0⟩⟩, (some ⟨bs, 0, none⟩, 1))] = (newG x fn v).gs.zip (gg ++ [(some ⟨bs, 0, none⟩, 1)]) := by
    unfold newG
    rw [List.zip_append (by omega)]; rfl
  rw [e] at h2
  exact world_close (a := { a with ag := A', cg := c', gb := a.gb ++ [k] }) (p := p) (pa := pa) (dr := dr) (gg := gg ++ [(some ⟨bs, 0, none⟩, 1)]) (x := newG x fn v) ⟨by simp [newG, l1], by simp [newG, l2], l3, l4⟩ h2 b
theorem gorAt_newG {g fn v : Int} (hg : gorOk x g) : gorAt (newG x fn v) g = gorAt x g := by
  obtain ⟨h0, h1, h2, h3⟩ := hg
  unfold gorAt newG
  dsimp only
  rw [List.getD_eq_getElem?_getD, List.getElem?_append_left (by omega), ← List.getD_eq_getElem?_getD]
theorem world_spawn {g : Int} {i : Ins} {bs c : Nat} (h : Hp R L M) [o : WAt b L pa p gg dr x L'] (hgg : gg[g.toNat]? = some (some ⟨bs, 0, none⟩, c)) (hg : gorOk x g) (hb : isReg i.b) (hc : isReg i.c) (hs : x.Sm)
    (k : Out.Ok (x.spawn g i) (fun y => ∀ gg' M', Hp R (objP (worldR pa p gg' dr) b y :: L') M' → K (.tuple #[]) M')
      (fun n y => ∀ M', Hp R (objP (worldR pa p gg dr) b y :: L') M' → Kp [{ v := .iface 256 (.int .i64 n), recovered := false }] M')) :
    ACalls Tryz.prog 163 #[.pointer (some ⟨b, 0, none⟩), .int .i64 g, .pointer (some ⟨bs, ((gorAt x g).fs.length - 1) * 11, none⟩), .agg #[.int .i64 i.op, .int .i64 i.a, .int .i64 i.b, .int .i64 i.c]] M K Kp := by
  refine vc_world_World_spawn ?_
  obtain ⟨s1, s2, s3, s4, s5, s6, s7, s8⟩ := hs
  unfold Wd.spawn at k
  refine s_nwc h ?_
  clear h
  intro kb M h
  have hC := h
  have h' := world_open h (b := b)
  clear h
  obtain ⟨a, hl, h⟩ := h'
  have hl' := hl
  obtain ⟨l1, l2, l3, l4⟩ := hl'
  refine t_exSl h ?_
  refine bsp_dec.2 ⟨fun hn => ?_, fun hn => ?_⟩
  · rw [if_pos (by omega)] at k
    exact k _ (hC.drop.pick o.pick)
  rw [if_neg (by omega)] at k
  refine t_exSl h ?_
  refine ⟨fun vs M => ∃ bs', Hp R (objP (worldR pa p (gg ++ [(some ⟨bs', 0, none⟩, 1)]) dr) b (newG x i.a (topReg x g i.b)) :: pt kb [.int .i64 i.op, .int .i64 i.a, .int .i64 i.b, .int .i64 i.c] 34 :: L') M, ?_, ?_⟩
  · repeat (first | (refine s_nwc h ?_; clear h; intro kb M h) | (refine s_stc h ?_; clear h; intro M h) | refine t_exI h ?_ | refine t_exB h ?_ | refine t_exS h ?_ | refine t_exP h ?_ | refine t_exSl h ?_ | refine t_exV h ?_ | refine u_exI ?_ | refine u_exB ?_ | refine u_exS ?_ | refine u_exP ?_ | refine u_exSl ?_ | refine u_exV ?_ | refine u_nilc ?_ | (apply Exists.intro; (repeat apply Exists.intro); refine And.intro rfl ?_) | (refine And.intro ?_ ?_; first | exact trivial | exact rfl | exact t_ld h | (refine lds_s (t_ld h) ?_; (repeat (refine lds_s (t_ld h) ?_)); exact lds_nil) | omega) | refine u_bspT ?_ | refine u_bspF ?_)
    refine ⟨hb.1, hb.2, w_reg (b := b) hC hg hgg hb rfl ?_⟩
    clear hC
    refine ⟨?_, ?_, trivial⟩
    · repeat (first | (refine s_nwc h ?_; clear h; intro kb M h) | (refine s_stc h ?_; clear h; intro M h) | refine t_exI h ?_ | refine t_exB h ?_ | refine t_exS h ?_ | refine t_exP h ?_ | refine t_exSl h ?_ | refine t_exV h ?_ | refine u_exI ?_ | refine u_exB ?_ | refine u_exS ?_ | refine u_exP ?_ | refine u_exSl ?_ | refine u_exV ?_ | refine u_nilc ?_ | (apply Exists.intro; (repeat apply Exists.intro); refine And.intro rfl ?_) | (refine And.intro ?_ ?_; first | exact trivial | exact rfl | exact t_ld h | (refine lds_s (t_ld h) ?_; (repeat (refine lds_s (t_ld h) ?_)); exact lds_nil) | omega) | refine u_bspT ?_ | refine u_bspF ?_)
      refine frame_Begin h ?_
      clear h
      intro bs' M h
      repeat (first | (refine s_nwc h ?_; clear h; intro kb M h) | (refine s_stc h ?_; clear h; intro M h) | refine t_exI h ?_ | refine t_exB h ?_ | refine t_exS h ?_ | refine t_exP h ?_ | refine t_exSl h ?_ | refine t_exV h ?_ | refine u_exI ?_ | refine u_exB ?_ | refine u_exS ?_ | refine u_exP ?_ | refine u_exSl ?_ | refine u_exV ?_ | refine u_nilc ?_ | (apply Exists.intro; (repeat apply Exists.intro); refine And.intro rfl ?_) | (refine And.intro ?_ ?_; first | exact trivial | exact rfl | exact t_ld h | (refine lds_s (t_ld h) ?_; (repeat (refine lds_s (t_ld h) ?_)); exact lds_nil) | omega) | refine u_bspT ?_ | refine u_bspF ?_)
      refine h.rowAppend1 el_pg [_] rfl rfl (by simp; omega) ?_
      clear h
      intro A' c' M h
      repeat (first | (refine s_nwc h ?_; clear h; intro kb M h) | (refine s_stc h ?_; clear h; intro M h) | refine t_exI h ?_ | refine t_exB h ?_ | refine t_exS h ?_ | refine t_exP h ?_ | refine t_exSl h ?_ | refine t_exV h ?_ | refine u_exI ?_ | refine u_exB ?_ | refine u_exS ?_ | refine u_exP ?_ | refine u_exSl ?_ | refine u_exV ?_ | refine u_nilc ?_ | (apply Exists.intro; (repeat apply Exists.intro); refine And.intro rfl ?_) | (refine And.intro ?_ ?_; first | exact trivial | exact rfl | exact t_ld h | (refine lds_s (t_ld h) ?_; (repeat (refine lds_s (t_ld h) ?_)); exact lds_nil) | omega) | refine u_bspT ?_ | refine u_bspF ?_)
      exact ⟨bs', w_newG hl (h.sub (by repeat (first | exact .refl | refine .cons (by repeat (first | exact .here | apply Pick.there)) ?_ | apply Sub.drop)))⟩
    · refine frame_Begin h ?_
      clear h
      intro bs' M h
      repeat (first | (refine s_nwc h ?_; clear h; intro kb M h) | (refine s_stc h ?_; clear h; intro M h) | refine t_exI h ?_ | refine t_exB h ?_ | refine t_exS h ?_ | refine t_exP h ?_ | refine t_exSl h ?_ | refine t_exV h ?_ | refine u_exI ?_ | refine u_exB ?_ | refine u_exS ?_ | refine u_exP ?_ | refine u_exSl ?_ | refine u_exV ?_ | refine u_nilc ?_ | (apply Exists.intro; (repeat apply Exists.intro); refine And.intro rfl ?_) | (refine And.intro ?_ ?_; first | exact trivial | exact rfl | exact t_ld h | (refine lds_s (t_ld h) ?_; (repeat (refine lds_s (t_ld h) ?_)); exact lds_nil) | omega) | refine u_bspT ?_ | refine u_bspF ?_)
      refine h.rowAppend1 el_pg [_] rfl rfl (by simp; omega) ?_
      clear h
      intro A' c' M h
      repeat (first | (refine s_nwc h ?_; clear h; intro kb M h) | (refine s_stc h ?_; clear h; intro M h) | refine t_exI h ?_ | refine t_exB h ?_ | refine t_exS h ?_ | refine t_exP h ?_ | refine t_exSl h ?_ | refine t_exV h ?_ | refine u_exI ?_ | refine u_exB ?_ | refine u_exS ?_ | refine u_exP ?_ | refine u_exSl ?_ | refine u_exV ?_ | refine u_nilc ?_ | (apply Exists.intro; (repeat apply Exists.intro); refine And.intro rfl ?_) | (refine And.intro ?_ ?_; first | exact trivial | exact rfl | exact t_ld h | (refine lds_s (t_ld h) ?_; (repeat (refine lds_s (t_ld h) ?_)); exact lds_nil) | omega) | refine u_bspT ?_ | refine u_bspF ?_)
      exact ⟨bs', w_newG hl (h.sub (by repeat (first | exact .refl | refine .cons (by repeat (first | exact .here | apply Pick.there)) ?_ | apply Sub.drop)))⟩
  · clear h hC
    rintro _ M ⟨bs', h⟩
    have hlen : (newG x i.a (topReg x g i.b)).gs.length = x.gs.length + 1 := by simp [newG]
    have hn2 : (x.gs.length : Int) = (a.gb.length : Int) := by omega
    rw [← hn2]
    refine world_wake (b := b) h (by omega) (by omega) (by show x.ready.length ≤ _; omega) ?_
    clear h
    intro M h
    repeat (first | (refine s_nwc h ?_; clear h; intro kb M h) | (refine s_stc h ?_; clear h; intro M h) | refine t_exI h ?_ | refine t_exB h ?_ | refine t_exS h ?_ | refine t_exP h ?_ | refine t_exSl h ?_ | refine t_exV h ?_ | refine u_exI ?_ | refine u_exB ?_ | refine u_exS ?_ | refine u_exP ?_ | refine u_exSl ?_ | refine u_exV ?_ | refine u_nilc ?_ | (apply Exists.intro; (repeat apply Exists.intro); refine And.intro rfl ?_) | (refine And.intro ?_ ?_; first | exact trivial | exact rfl | exact t_ld h | (refine lds_s (t_ld h) ?_; (repeat (refine lds_s (t_ld h) ?_)); exact lds_nil) | omega) | refine u_bspT ?_ | refine u_bspF ?_)
    have hg2 : gorAt ((newG x i.a (topReg x g i.b)).wake (x.gs.length : Int)) g = gorAt x g := by
      rw [← gorAt_newG (fn := i.a) (v := topReg x g i.b) hg]
      obtain ⟨h0, h1, _⟩ := hg
      have hne : x.gs.length ≠ g.toNat := by omega
      simp [gorAt, Wd.wake, Wd.putG, List.getElem?_set, hne]
    have hg3 : gorOk ((newG x i.a (topReg x g i.b)).wake (x.gs.length : Int)) g := by
      refine ⟨hg.1, ?_, ?_, ?_⟩
      · have h1 := hg.2.1
        simp only [Wd.wake, Wd.putG, List.length_set, hlen]; omega
      · rw [hg2]; exact hg.2.2.1
      · rw [hg2]; exact hg.2.2.2
    have hgg2 : (gg ++ [(some (⟨bs', 0, none⟩ : Addr), 1)])[g.toNat]? = some (some ⟨bs, 0, none⟩, c) := by
      rw [List.getElem?_append_left (by have := hg.2.1; have := hg.1; omega)]; exact hgg
    refine ⟨hc.1, hc.2, w_stReg (b := b) h hg3 hgg2 hc (by rw [hg2]) ?_⟩
    clear h
    intro M h
    repeat (first | (refine s_nwc h ?_; clear h; intro kb M h) | (refine s_stc h ?_; clear h; intro M h) | refine t_exI h ?_ | refine t_exB h ?_ | refine t_exS h ?_ | refine t_exP h ?_ | refine t_exSl h ?_ | refine t_exV h ?_ | refine u_exI ?_ | refine u_exB ?_ | refine u_exS ?_ | refine u_exP ?_ | refine u_exSl ?_ | refine u_exV ?_ | refine u_nilc ?_ | (apply Exists.intro; (repeat apply Exists.intro); refine And.intro rfl ?_) | (refine And.intro ?_ ?_; first | exact trivial | exact rfl | exact t_ld h | (refine lds_s (t_ld h) ?_; (repeat (refine lds_s (t_ld h) ?_)); exact lds_nil) | omega) | refine u_bspT ?_ | refine u_bspF ?_)
    exact k _ _ h.fin1
end
end Go.Proofs

namespace Go.Proofs
open Go.AF
set_option linter.unusedVariables false
set_option maxRecDepth 100000
set_option maxHeartbeats 1000000
attribute [local irreducible] exI exB exS exP exSl exV nilc stc nwc semK semU bsp
section
variable {R : Mem} {L L' : List HP} {M : Mem} {K : Value → Mem → Prop} {Kp : List PanicEntry → Mem → Prop} {pa : PA} {p : Prg} {gg : List GA} {dr : Value} {b : Nat} {x : Wd}
def closeOk (p : Prg) (x : Wd) (i : Ins) : Prop := chOk x i.a ∧ (chAt x.chans i.a).rcv.length ≤ 1000000 ∧
  ((chAt x.chans i.a).close.2.2.2 = 0 → (chAt x.chans i.a).close.2.2.1 = [] → shutOk p (x.putCh i.a (chAt x.chans i.a).close.1) (chAt x.chans i.a).close.2.1)
theorem world_shut {g : Int} {i : Ins} {f : Value} {bf of' : Nat} (h : Hp R L M) [o : WAt b L pa p gg dr x L'] (hp : RS casE R pa.k pa.kc p.cases) (hk : closeOk p x i) (hs : x.Sm)
    (k : Out.Ok (x.shut p i) (fun y => ∀ M', Hp R (objP (worldR pa p gg dr) b y :: L') M' → K (.tuple #[]) M')
      (fun n y => ∀ M', Hp R (objP (worldR pa p gg dr) b y :: L') M' → Kp [{ v := .iface 256 (.int .i64 n), recovered := false }] M')) :
    ACalls Tryz.prog 167 #[.pointer (some ⟨b, 0, none⟩), .int .i64 g, .pointer (some ⟨bf, of', none⟩), .agg #[.int .i64 i.op, .int .i64 i.a, .int .i64 i.b, .int .i64 i.c]] M K Kp := by
  refine vc_world_World_shut ?_
  obtain ⟨hch, hlen, hsh⟩ := hk
  obtain ⟨s1, s2, s3, s4, s5, s6, s7, s8⟩ := hs
  unfold Wd.shut at k
  dsimp only at k
  refine s_nwc h ?_
  clear h
  intro kb M h
  have h' := world_open h (b := b)
  clear h
  obtain ⟨a, hl, h⟩ := h'
  have hl' := hl
  obtain ⟨l1, l2, l3, l4⟩ := hl'
  have hc' := hch
  obtain ⟨c0, c1⟩ := hc'
  have h' := w_ch h hl hch
  clear h
  obtain ⟨cb, hcb, hchx, h⟩ := h'
  repeat (first | (refine s_nwc h ?_; clear h; intro kb M h) | (refine s_stc h ?_; clear h; intro M h) | refine t_exI h ?_ | refine t_exB h ?_ | refine t_exS h ?_ | refine t_exP h ?_ | refine t_exSl h ?_ | refine t_exV h ?_ | refine u_exI ?_ | refine u_exB ?_ | refine u_exS ?_ | refine u_exP ?_ | refine u_exSl ?_ | refine u_exV ?_ | refine u_nilc ?_ | (apply Exists.intro; (repeat apply Exists.intro); refine And.intro rfl ?_) | (refine And.intro ?_ ?_; first | exact trivial | exact rfl | exact t_ld h | (refine lds_s (t_ld h) ?_; (repeat (refine lds_s (t_ld h) ?_)); exact lds_nil) | omega) | refine u_bspT ?_ | refine u_bspF ?_)
  refine w_g h hcb fun q hq => ?_
  have hrl : (chAt x.chans i.a).close.2.1.length ≤ 1000000 := by
    unfold Chan.close; split <;> simp [hlen]
  refine chans_Close h ?_
  clear h
  intro A ca B cb' M h
  replace h := h.objs_in chanR cb hcb (by omega)
  generalize (chAt x.chans i.a).close = s at h k hsh hrl
  obtain ⟨c', r, sn, e⟩ := s
  dsimp only at h k hsh hrl ⊢
  refine ⟨A, _, ca, B, _, cb', e, rfl, ?_⟩
  replace h := world_close (a := a) (p := p) (pa := pa) (dr := dr) (gg := gg) (x := x.putCh i.a c') (lens_ch hl) h b
  refine bsp_ne.2 ⟨fun he => ?_, fun he => ?_⟩
  · rw [if_pos he] at k
    exact k _ h.fin1
  rw [if_neg (by simpa using he)] at k
  refine bsp_dec.2 ⟨fun hn => ?_, fun hn => ?_⟩
  · rw [if_pos (by omega)] at k
    exact k _ h.fin1
  rw [if_neg (by omega)] at k
  have hsn : sn = [] := by cases sn with
    | nil => rfl
    | cons _ _ => simp at hn
  have hok := hsh he hsn
  refine ⟨fun d vs M => ∃ (j : Nat), vs = [.int .i64 (j : Int)] ∧ d = r.length - j ∧ j ≤ r.length ∧ Hp R (objP (worldR pa p gg dr) b ((r.take j).foldl (shutStep p) (x.putCh i.a c')) :: rowW A ca r :: L') M, ⟨_, 0, rfl, rfl, by omega, h.sub (by repeat (first | exact .refl | refine .cons (by repeat (first | exact .here | apply Pick.there)) ?_ | apply Sub.drop))⟩, ?_⟩
  clear h
  rintro d _ nn M ⟨j, he2, hd, hj, h⟩
  simp only [List.cons.injEq, Value.int.injEq, and_true, true_and] at he2
  subst he2
  refine bsp_dec.2 ⟨fun hlt => ?_, fun hge => ?_⟩
  · obtain ⟨w, hw⟩ := idx_ex (l := r) (i := j) (by omega)
    obtain ⟨t1, t2, t3, t4⟩ := shutOk_at hok hw
    have hstep : (r.take (j + 1)).foldl (shutStep p) (x.putCh i.a c') = shutStep p ((r.take j).foldl (shutStep p) (x.putCh i.a c')) w := by
      rw [take_snoc hw, List.foldl_append]; rfl
    generalize (r.take j).foldl (shutStep p) (x.putCh i.a c') = y at h t1 t3 t4 hstep
    obtain ⟨qa, rfl⟩ := h.row_some (A := A) (by omega) (by decide)
    refine ⟨by omega, hlt, u_nilc ?_⟩
    simp only [Int.toNat_natCast]
    refine v_exI (Src.at (h.src (A := some ⟨qa, 0, none⟩)) h (i := j) (j := 0) hw rfl (by simp [waitE])) ?_
    refine v_exI (Src.at (h.src (A := some ⟨qa, 0, none⟩)) h (i := j) (j := 1) hw rfl (by simp [waitE])) ?_
    refine v_exI (Src.at (h.src (A := some ⟨qa, 0, none⟩)) h (i := j) (j := 2) hw rfl (by simp [waitE])) ?_
    refine s_nwc h ?_
    clear h
    intro kw M h
    refine s_stc h ?_
    clear h; intro M h
    refine s_stc h ?_
    clear h; intro M h
    refine s_stc h ?_
    clear h; intro M h
    have hC := h
    have h' := world_at h (b := b) t2 t3
    clear h
    obtain ⟨a2, gb, A2, c2, hl2, hgb, hgg2, h⟩ := h'
    have hl2' := hl2
    obtain ⟨m1, m2, m3, m4⟩ := hl2'
    repeat (first | (refine s_nwc h ?_; clear h; intro kb M h) | (refine s_stc h ?_; clear h; intro M h) | refine t_exI h ?_ | refine t_exB h ?_ | refine t_exS h ?_ | refine t_exP h ?_ | refine t_exSl h ?_ | refine t_exV h ?_ | refine u_exI ?_ | refine u_exB ?_ | refine u_exS ?_ | refine u_exP ?_ | refine u_exSl ?_ | refine u_exV ?_ | refine u_nilc ?_ | (apply Exists.intro; (repeat apply Exists.intro); refine And.intro rfl ?_) | (refine And.intro ?_ ?_; first | exact trivial | exact rfl | exact t_ld h | (refine lds_s (t_ld h) ?_; (repeat (refine lds_s (t_ld h) ?_)); exact lds_nil) | omega) | refine u_bspT ?_ | refine u_bspF ?_)
    refine w_g h hgb fun q2 hq2 => ?_
    repeat (first | (refine s_nwc h ?_; clear h; intro kb M h) | (refine s_stc h ?_; clear h; intro M h) | refine t_exI h ?_ | refine t_exB h ?_ | refine t_exS h ?_ | refine t_exP h ?_ | refine t_exSl h ?_ | refine t_exV h ?_ | refine u_exI ?_ | refine u_exB ?_ | refine u_exS ?_ | refine u_exP ?_ | refine u_exSl ?_ | refine u_exV ?_ | refine u_nilc ?_ | (apply Exists.intro; (repeat apply Exists.intro); refine And.intro rfl ?_) | (refine And.intro ?_ ?_; first | exact trivial | exact rfl | exact t_ld h | (refine lds_s (t_ld h) ?_; (repeat (refine lds_s (t_ld h) ?_)); exact lds_nil) | omega) | refine u_bspT ?_ | refine u_bspF ?_)
    clear h
    have h := hC
    clear hC
    rw [wrap_succ (by omega)]
    have hst : shutStep p y w = if (gorAt y w.g).st = 2 then y.received p { w with v := 0 } 0 else y := rfl
    rw [hst] at hstep
    refine bsp_eq.2 ⟨fun e2 => ?_, fun e2 => ?_⟩
    · rw [if_pos e2] at hstep
      refine s_stc h ?_
      clear h; intro M h
      repeat (first | (refine s_nwc h ?_; clear h; intro kb M h) | (refine s_stc h ?_; clear h; intro M h) | refine t_exI h ?_ | refine t_exB h ?_ | refine t_exS h ?_ | refine t_exP h ?_ | refine t_exSl h ?_ | refine t_exV h ?_ | refine u_exI ?_ | refine u_exB ?_ | refine u_exS ?_ | refine u_exP ?_ | refine u_exSl ?_ | refine u_exV ?_ | refine u_nilc ?_ | (apply Exists.intro; (repeat apply Exists.intro); refine And.intro rfl ?_) | (refine And.intro ?_ ?_; first | exact trivial | exact rfl | exact t_ld h | (refine lds_s (t_ld h) ?_; (repeat (refine lds_s (t_ld h) ?_)); exact lds_nil) | omega) | refine u_bspT ?_ | refine u_bspF ?_)
      refine world_received (b := b) (v := { w with v := 0 }) h hp (t4 e2) t1 ?_
      clear h; intro M h
      refine ⟨rfl, r.length - (j + 1), by omega, j + 1, rfl, rfl, by omega, ?_⟩
      rw [hstep]
      exact h.fin1
    · rw [if_neg e2] at hstep
      refine ⟨r.length - (j + 1), by omega, j + 1, rfl, rfl, by omega, ?_⟩
      rw [hstep]
      exact h.sub (by repeat (first | exact .refl | refine .cons (by repeat (first | exact .here | apply Pick.there)) ?_ | apply Sub.drop))
  · obtain rfl : j = r.length := by omega
    rw [List.take_length] at h
    exact k _ h.fin1
end
end Go.Proofs

namespace Go.Proofs
open Go.AF
set_option linter.unusedVariables false
set_option maxRecDepth 100000
set_option maxHeartbeats 1000000
attribute [local irreducible] exI exB exS exP exSl exV nilc stc nwc semK semU bsp
theorem el_intR : ElemOk Tryz.prog 38 3 1 8 [.int .i64 0] := ElemOk.mk' (zv := .int .i64 0) (by kernel_rfl) (by kernel_rfl) rfl (by omega)
/-- A ring: its room, its numbers. -/
structure Rg where
  room : Nat
  l : List Int
def Rg.Ok (x : Rg) (head : Nat) (slots : List Int) : Prop := slots.length = x.room ∧ 0 < x.room ∧ x.room ≤ 1024 ∧ head < x.room ∧ x.l.length ≤ x.room ∧ ∀ i v, x.l[i]? = some v → slots[(head + i) % x.room]? = some v
def ringR : Rep Rg := ⟨fun b x => exs fun A : Option Addr => exs fun c : Nat => exs fun head : Nat => exs fun slots : List Int =>
  sep [fact (x.Ok head slots), pt b [.slice A x.room c, .int .i64 (head : Int), .int .i64 (x.l.length : Int)] 280, rowP intE 3 A c slots]⟩
section
variable {R : Mem} {L L' : List HP} {M : Mem} {K : Value → Mem → Prop} {Kp : List PanicEntry → Mem → Prop} {b : Nat} {x : Rg}
theorem ring_open (h : Hp R L M) [o : ObjAt ringR b L x L'] : ∃ A c head slots, x.Ok head slots ∧ Hp R (pt b [.slice A x.room c, .int .i64 (head : Int), .int .i64 (x.l.length : Int)] 280 :: rowP intE 3 A c slots :: L') M := by
  have := h.obj ringR b
  simpa only [ringR, Hp.ex_iff, Hp.sep_iff, List.cons_append, List.nil_append, Hp.fact_iff] using this
theorem ring_mk {A : Option Addr} {c head : Nat} {slots : List Int} (ok : x.Ok head slots) (h : Hp R (pt b [.slice A x.room c, .int .i64 (head : Int), .int .i64 (x.l.length : Int)] 280 :: rowP intE 3 A c slots :: L) M) : Hp R (objP ringR b x :: L) M := by
  refine Hp.objI ?_
  simp only [ringR, Hp.ex_iff, Hp.sep_iff, List.cons_append, List.nil_append, Hp.fact_iff]
  exact ⟨_, _, _, _, ok, h⟩
def capR (n : Int) : Nat := (min (max n 1) 1024).toNat
theorem capR_bd (n : Int) : 0 < capR n ∧ capR n ≤ 1024 := by unfold capR; omega
theorem ring_New {n : Int} (h : Hp R L M) (k : ∀ b M', Hp R (objP ringR b ⟨capR n, []⟩ :: L) M' → K (.pointer (some ⟨b, 0, none⟩)) M') : ACalls Tryz.prog 103 #[.int .i64 n] M K Kp := by
  refine vc_ring_New ?_
  have e : (if (1024 : Int) < (if (1 : Int) > n then 1 else n) then 1024 else (if (1 : Int) > n then 1 else n)) = ((capR n : Nat) : Int) := by unfold capR; split <;> split <;> omega
  have bd := capR_bd n
  rw [e]
  refine h.rowMake (E := intE) (a := 0) el_intR (by omega) ?_
  clear h
  intro kb M h
  repeat (first | (refine s_nwc h ?_; clear h; intro kb M h) | (refine s_stc h ?_; clear h; intro M h) | refine t_exI h ?_ | refine t_exB h ?_ | refine t_exS h ?_ | refine t_exP h ?_ | refine t_exSl h ?_ | refine t_exV h ?_ | refine u_exI ?_ | refine u_exB ?_ | refine u_exS ?_ | refine u_exP ?_ | refine u_exSl ?_ | refine u_exV ?_ | refine u_nilc ?_ | (apply Exists.intro; (repeat apply Exists.intro); refine And.intro rfl ?_) | (refine And.intro ?_ ?_; first | exact trivial | exact rfl | exact t_ld h | (refine lds_s (t_ld h) ?_; (repeat (refine lds_s (t_ld h) ?_)); exact lds_nil) | omega) | refine u_bspT ?_ | refine u_bspF ?_)
  refine k _ _ (ring_mk (head := 0) (slots := List.replicate (capR n) 0) ⟨by simp, bd.1, bd.2, bd.1, by simp, fun i v hv => by simp at hv⟩ (h.sub (by repeat (first | exact .refl | refine .cons (by repeat (first | exact .here | apply Pick.there)) ?_ | apply Sub.drop))))
theorem ring_Room (h : Hp R L M) [o : ObjAt ringR b L x L'] (k : K (.int .i64 (x.room : Int)) M) : ACalls Tryz.prog 182 #[.pointer (some ⟨b, 0, none⟩)] M K Kp := by
  refine vc_ring_Ring_Room ?_
  have h' := ring_open h (b := b)
  clear h
  obtain ⟨A, c, head, slots, ok, h⟩ := h'
  repeat (first | (refine s_nwc h ?_; clear h; intro kb M h) | (refine s_stc h ?_; clear h; intro M h) | refine t_exI h ?_ | refine t_exB h ?_ | refine t_exS h ?_ | refine t_exP h ?_ | refine t_exSl h ?_ | refine t_exV h ?_ | refine u_exI ?_ | refine u_exB ?_ | refine u_exS ?_ | refine u_exP ?_ | refine u_exSl ?_ | refine u_exV ?_ | refine u_nilc ?_ | (apply Exists.intro; (repeat apply Exists.intro); refine And.intro rfl ?_) | (refine And.intro ?_ ?_; first | exact trivial | exact rfl | exact t_ld h | (refine lds_s (t_ld h) ?_; (repeat (refine lds_s (t_ld h) ?_)); exact lds_nil) | omega) | refine u_bspT ?_ | refine u_bspF ?_)
  exact k
theorem ring_Len (h : Hp R L M) [o : ObjAt ringR b L x L'] (k : K (.int .i64 (x.l.length : Int)) M) : ACalls Tryz.prog 180 #[.pointer (some ⟨b, 0, none⟩)] M K Kp := by
  refine vc_ring_Ring_Len ?_
  have h' := ring_open h (b := b)
  clear h
  obtain ⟨A, c, head, slots, ok, h⟩ := h'
  repeat (first | (refine s_nwc h ?_; clear h; intro kb M h) | (refine s_stc h ?_; clear h; intro M h) | refine t_exI h ?_ | refine t_exB h ?_ | refine t_exS h ?_ | refine t_exP h ?_ | refine t_exSl h ?_ | refine t_exV h ?_ | refine u_exI ?_ | refine u_exB ?_ | refine u_exS ?_ | refine u_exP ?_ | refine u_exSl ?_ | refine u_exV ?_ | refine u_nilc ?_ | (apply Exists.intro; (repeat apply Exists.intro); refine And.intro rfl ?_) | (refine And.intro ?_ ?_; first | exact trivial | exact rfl | exact t_ld h | (refine lds_s (t_ld h) ?_; (repeat (refine lds_s (t_ld h) ?_)); exact lds_nil) | omega) | refine u_bspT ?_ | refine u_bspF ?_)
  exact k
theorem tmod_nat {a b : Nat} : Int.tmod (a : Int) (b : Int) = ((a % b : Nat) : Int) := rfl
theorem ring_Push {v : Int} (h : Hp R L M) [o : ObjAt ringR b L x L'] (k1 : x.l.length = x.room → ∀ M', Hp R (objP ringR b x :: L') M' → K (.bool false) M') (k2 : x.l.length < x.room → ∀ M', Hp R (objP ringR b ⟨x.room, x.l ++ [v]⟩ :: L') M' → K (.bool true) M') :
    ACalls Tryz.prog 183 #[.pointer (some ⟨b, 0, none⟩), .int .i64 v] M K Kp := by
  refine vc_ring_Ring_Push ?_
  have h' := ring_open h (b := b)
  clear h
  obtain ⟨A, c, head, slots, ok, h⟩ := h'
  have ok0 := ok
  obtain ⟨h1, h2, h3, h4, h5, h6⟩ := ok0
  repeat (first | (refine s_nwc h ?_; clear h; intro kb M h) | (refine s_stc h ?_; clear h; intro M h) | refine t_exI h ?_ | refine t_exB h ?_ | refine t_exS h ?_ | refine t_exP h ?_ | refine t_exSl h ?_ | refine t_exV h ?_ | refine u_exI ?_ | refine u_exB ?_ | refine u_exS ?_ | refine u_exP ?_ | refine u_exSl ?_ | refine u_exV ?_ | refine u_nilc ?_ | (apply Exists.intro; (repeat apply Exists.intro); refine And.intro rfl ?_) | (refine And.intro ?_ ?_; first | exact trivial | exact rfl | exact t_ld h | (refine lds_s (t_ld h) ?_; (repeat (refine lds_s (t_ld h) ?_)); exact lds_nil) | omega) | refine u_bspT ?_ | refine u_bspF ?_)
  refine bsp_eq.2 ⟨fun e => ?_, fun e => ?_⟩
  · exact k1 (by omega) _ (ring_mk ok h)
  · have hlt : x.l.length < x.room := by omega
    repeat (first | (refine s_nwc h ?_; clear h; intro kb M h) | (refine s_stc h ?_; clear h; intro M h) | refine t_exI h ?_ | refine t_exB h ?_ | refine t_exS h ?_ | refine t_exP h ?_ | refine t_exSl h ?_ | refine t_exV h ?_ | refine u_exI ?_ | refine u_exB ?_ | refine u_exS ?_ | refine u_exP ?_ | refine u_exSl ?_ | refine u_exV ?_ | refine u_nilc ?_ | (apply Exists.intro; (repeat apply Exists.intro); refine And.intro rfl ?_) | (refine And.intro ?_ ?_; first | exact trivial | exact rfl | exact t_ld h | (refine lds_s (t_ld h) ?_; (repeat (refine lds_s (t_ld h) ?_)); exact lds_nil) | omega) | refine u_bspT ?_ | refine u_bspF ?_)
    have e1 : IntKind.wrap .i64 ((head : Int) + (x.l.length : Int)) = ((head + x.l.length : Nat) : Int) := wn (by simp) (by omega)
    rw [e1, tmod_nat]
    have hm := Nat.mod_lt (head + x.l.length) h2
    obtain ⟨b2, rfl⟩ := h.row_some (A := A) (by omega) (by decide)
    obtain ⟨w, hw⟩ := idx_ex (l := slots) (i := (head + x.l.length) % x.room) (by omega)
    repeat (first | (refine s_nwc h ?_; clear h; intro kb M h) | (refine s_stc h ?_; clear h; intro M h) | refine t_exI h ?_ | refine t_exB h ?_ | refine t_exS h ?_ | refine t_exP h ?_ | refine t_exSl h ?_ | refine t_exV h ?_ | refine u_exI ?_ | refine u_exB ?_ | refine u_exS ?_ | refine u_exP ?_ | refine u_exSl ?_ | refine u_exV ?_ | refine u_nilc ?_ | (apply Exists.intro; (repeat apply Exists.intro); refine And.intro rfl ?_) | (refine And.intro ?_ ?_; first | exact trivial | exact rfl | exact t_ld h | (refine lds_s (t_ld h) ?_; (repeat (refine lds_s (t_ld h) ?_)); exact lds_nil) | omega) | refine u_bspT ?_ | refine u_bspF ?_)
    simp only [Int.toNat_natCast]
    refine s_row (a' := v) ((head + x.l.length) % x.room) 0 h hw (by decide) rfl (by simp [intE]) ?_
    clear h; intro M h
    repeat (first | (refine s_nwc h ?_; clear h; intro kb M h) | (refine s_stc h ?_; clear h; intro M h) | refine t_exI h ?_ | refine t_exB h ?_ | refine t_exS h ?_ | refine t_exP h ?_ | refine t_exSl h ?_ | refine t_exV h ?_ | refine u_exI ?_ | refine u_exB ?_ | refine u_exS ?_ | refine u_exP ?_ | refine u_exSl ?_ | refine u_exV ?_ | refine u_nilc ?_ | (apply Exists.intro; (repeat apply Exists.intro); refine And.intro rfl ?_) | (refine And.intro ?_ ?_; first | exact trivial | exact rfl | exact t_ld h | (refine lds_s (t_ld h) ?_; (repeat (refine lds_s (t_ld h) ?_)); exact lds_nil) | omega) | refine u_bspT ?_ | refine u_bspF ?_)
    have e2 : IntKind.wrap .i64 ((x.l.length : Int) + 1) = ((x.l.length + 1 : Nat) : Int) := wrap_succ (by omega)
    rw [e2] at h
    refine k2 hlt _ (ring_mk (x := ⟨x.room, x.l ++ [v]⟩) (head := head) (slots := slots.set ((head + x.l.length) % x.room) v) ⟨by simpa using h1, h2, h3, h4, by simp; omega, fun i u hu => ?_⟩ (by simpa using h.sub (by repeat (first | exact .refl | refine .cons (by repeat (first | exact .here | apply Pick.there)) ?_ | apply Sub.drop))))
    dsimp only at hu ⊢
    rcases Nat.lt_or_ge i x.l.length with hi | hi
    · rw [List.getElem?_append_left hi] at hu
      have hne : (head + i) % x.room ≠ (head + x.l.length) % x.room := by
        intro he
        have a1 : (head + i) % x.room = if head + i < x.room then head + i else head + i - x.room := by
          split
          · exact Nat.mod_eq_of_lt (by omega)
          · rw [Nat.mod_eq_sub_mod (by omega)]; exact Nat.mod_eq_of_lt (by omega)
        have a2 : (head + x.l.length) % x.room = if head + x.l.length < x.room then head + x.l.length else head + x.l.length - x.room := by
          split
          · exact Nat.mod_eq_of_lt (by omega)
          · rw [Nat.mod_eq_sub_mod (by omega)]; exact Nat.mod_eq_of_lt (by omega)
        rw [a1, a2] at he
        split at he <;> split at he <;> omega
      rw [List.getElem?_set_ne (Ne.symm hne)]
      exact h6 i u hu
    · rw [List.getElem?_append_right hi] at hu
      have : i = x.l.length := by
        have := (List.getElem?_eq_some_iff.1 hu).1
        simp at this; omega
      subst this
      simp at hu; subst hu
      rw [List.getElem?_set_self (by omega)]
theorem ring_Pop (h : Hp R L M) [o : ObjAt ringR b L x L'] (k1 : x.l = [] → ∀ M', Hp R (objP ringR b x :: L') M' → K (.tuple #[.int .i64 0, .bool false]) M')
    (k2 : ∀ v l, x.l = v :: l → ∀ M', Hp R (objP ringR b ⟨x.room, l⟩ :: L') M' → K (.tuple #[.int .i64 v, .bool true]) M') :
    ACalls Tryz.prog 176 #[.pointer (some ⟨b, 0, none⟩)] M K Kp := by
  refine vc_ring_Ring_Pop ?_
  have h' := ring_open h (b := b)
  clear h
  obtain ⟨A, c, head, slots, ok, h⟩ := h'
  have ok0 := ok
  obtain ⟨h1, h2, h3, h4, h5, h6⟩ := ok0
  obtain ⟨room, l⟩ := x
  dsimp only at *
  repeat (first | (refine s_nwc h ?_; clear h; intro kb M h) | (refine s_stc h ?_; clear h; intro M h) | refine t_exI h ?_ | refine t_exB h ?_ | refine t_exS h ?_ | refine t_exP h ?_ | refine t_exSl h ?_ | refine t_exV h ?_ | refine u_exI ?_ | refine u_exB ?_ | refine u_exS ?_ | refine u_exP ?_ | refine u_exSl ?_ | refine u_exV ?_ | refine u_nilc ?_ | (apply Exists.intro; (repeat apply Exists.intro); refine And.intro rfl ?_) | (refine And.intro ?_ ?_; first | exact trivial | exact rfl | exact t_ld h | (refine lds_s (t_ld h) ?_; (repeat (refine lds_s (t_ld h) ?_)); exact lds_nil) | omega) | refine u_bspT ?_ | refine u_bspF ?_)
  refine bsp_eq.2 ⟨fun e => ?_, fun e => ?_⟩
  · exact k1 (List.length_eq_zero_iff.1 (by omega)) _ (ring_mk ok h)
  · cases l with
    | nil => simp at e
    | cons v l =>
    have hv := h6 0 v rfl
    rw [Nat.add_zero, Nat.mod_eq_of_lt h4] at hv
    obtain ⟨b2, rfl⟩ := h.row_some (A := A) (by omega) (by decide)
    have s0 := h.src (A := some ⟨b2, 0, none⟩)
    repeat (first | (refine s_nwc h ?_; clear h; intro kb M h) | (refine s_stc h ?_; clear h; intro M h) | refine t_exI h ?_ | refine t_exB h ?_ | refine t_exS h ?_ | refine t_exP h ?_ | refine t_exSl h ?_ | refine t_exV h ?_ | refine u_exI ?_ | refine u_exB ?_ | refine u_exS ?_ | refine u_exP ?_ | refine u_exSl ?_ | refine u_exV ?_ | refine u_nilc ?_ | (apply Exists.intro; (repeat apply Exists.intro); refine And.intro rfl ?_) | (refine And.intro ?_ ?_; first | exact trivial | exact rfl | exact t_ld h | (refine lds_s (t_ld h) ?_; (repeat (refine lds_s (t_ld h) ?_)); exact lds_nil) | omega) | refine u_bspT ?_ | refine u_bspF ?_)
    simp only [Int.toNat_natCast]
    refine v_exI (s0.at h (i := head) (j := 0) hv rfl (by simp [intE])) ?_
    repeat (first | (refine s_nwc h ?_; clear h; intro kb M h) | (refine s_stc h ?_; clear h; intro M h) | refine t_exI h ?_ | refine t_exB h ?_ | refine t_exS h ?_ | refine t_exP h ?_ | refine t_exSl h ?_ | refine t_exV h ?_ | refine u_exI ?_ | refine u_exB ?_ | refine u_exS ?_ | refine u_exP ?_ | refine u_exSl ?_ | refine u_exV ?_ | refine u_nilc ?_ | (apply Exists.intro; (repeat apply Exists.intro); refine And.intro rfl ?_) | (refine And.intro ?_ ?_; first | exact trivial | exact rfl | exact t_ld h | (refine lds_s (t_ld h) ?_; (repeat (refine lds_s (t_ld h) ?_)); exact lds_nil) | omega) | refine u_bspT ?_ | refine u_bspF ?_)
    have e1 : IntKind.wrap .i64 ((head : Int) + 1) = ((head + 1 : Nat) : Int) := wrap_succ (by omega)
    rw [e1, tmod_nat] at h
    have e2 : IntKind.wrap .i64 ((((v :: l).length : Nat) : Int) - 1) = ((l.length : Nat) : Int) := by rw [wrap_in (by simp only [List.length_cons]; omega) (by simp only [List.length_cons] at h5 ⊢; omega)]; simp
    rw [e2] at h
    have h5' : l.length + 1 ≤ room := by simpa using h5
    refine k2 v l rfl _ (ring_mk (x := ⟨room, l⟩) (head := (head + 1) % room) (slots := slots) ⟨h1, h2, h3, Nat.mod_lt _ h2, by dsimp only; omega, fun i u hu => ?_⟩ (h.sub (by repeat (first | exact .refl | refine .cons (by repeat (first | exact .here | apply Pick.there)) ?_ | apply Sub.drop))))
    dsimp only at hu ⊢
    have := h6 (i + 1) u (by simpa using hu)
    rw [Nat.mod_add_mod, ← this]
    congr 2; omega
theorem ring_Take {n : Int} (h : Hp R L M) [o : ObjAt ringR b L x L'] (k : ∀ A c M', Hp R (rowP intE 3 A c (x.l.take n.toNat) :: objP ringR b ⟨x.room, x.l.drop n.toNat⟩ :: L') M' → K (.slice A (x.l.take n.toNat).length c) M') :
    ACalls Tryz.prog 181 #[.pointer (some ⟨b, 0, none⟩), .int .i64 n] M K Kp := by
  replace h := h.front ringR b
  have hx : x.l.length ≤ 1024 := by
    obtain ⟨A, c, head, slots, ok, _⟩ := ring_open h (b := b)
    have := ok.2.2.1; have := ok.2.2.2.2.1; omega
  refine vc_ring_Ring_Take ⟨fun d ws M => ∃ (i : Nat) (A : Option Addr) (c : Nat), ws = [.slice A (x.l.take i).length c] ∧ d = n.toNat - i ∧ i ≤ n.toNat ∧ i ≤ x.l.length ∧
    Hp R (rowP intE 3 A c (x.l.take i) :: objP ringR b ⟨x.room, x.l.drop i⟩ :: L') M, ⟨_, 0, none, 0, rfl, rfl, by omega, by omega, h.row_nil _ _⟩, ?_⟩
  clear h
  rintro d _ A n1 c M ⟨i, _, _, he, hd, hi, hil, h⟩
  simp only [List.cons.injEq, Value.slice.injEq, and_true, true_and] at he
  obtain ⟨rfl, rfl, rfl⟩ := he
  have hlen : (x.l.take i).length = i := by rw [List.length_take]; omega
  refine bsp_dec.2 ⟨fun hlt => ?_, fun hge => ?_⟩
  · refine ring_Pop h (fun e M' h' => ?_) fun v l e M' h' => ?_
    · repeat (first | (refine s_nwc h ?_; clear h; intro kb M h) | (refine s_stc h ?_; clear h; intro M h) | refine t_exI h ?_ | refine t_exB h ?_ | refine t_exS h ?_ | refine t_exP h ?_ | refine t_exSl h ?_ | refine t_exV h ?_ | refine u_exI ?_ | refine u_exB ?_ | refine u_exS ?_ | refine u_exP ?_ | refine u_exSl ?_ | refine u_exV ?_ | refine u_nilc ?_ | (apply Exists.intro; (repeat apply Exists.intro); refine And.intro rfl ?_) | (refine And.intro ?_ ?_; first | exact trivial | exact rfl | exact t_ld h | (refine lds_s (t_ld h) ?_; (repeat (refine lds_s (t_ld h) ?_)); exact lds_nil) | omega) | refine u_bspT ?_ | refine u_bspF ?_)
      have : x.l.length ≤ i := by
        have := congrArg List.length e; simp at this; omega
      rw [List.take_of_length_le this] at h' ⊢
      rw [List.drop_of_length_le this] at h'
      have h1 : x.l.take n.toNat = x.l := List.take_of_length_le (by omega)
      have h2 : x.l.drop n.toNat = [] := List.drop_of_length_le (by omega)
      rw [h1, h2] at k
      exact k _ _ _ h'.swap
    · clear h
      have h := h'.swap
      clear h'
      dsimp only at e
      have hv : x.l[i]? = some v := by
        have := congrArg (fun l => l[0]?) e
        simpa using this
      have e3 : x.l.drop (i + 1) = l := by
        have := congrArg (List.drop 1) e
        simpa using this
      repeat (first | (refine s_nwc h ?_; clear h; intro kb M h) | (refine s_stc h ?_; clear h; intro M h) | refine t_exI h ?_ | refine t_exB h ?_ | refine t_exS h ?_ | refine t_exP h ?_ | refine t_exSl h ?_ | refine t_exV h ?_ | refine u_exI ?_ | refine u_exB ?_ | refine u_exS ?_ | refine u_exP ?_ | refine u_exSl ?_ | refine u_exV ?_ | refine u_nilc ?_ | (apply Exists.intro; (repeat apply Exists.intro); refine And.intro rfl ?_) | (refine And.intro ?_ ?_; first | exact trivial | exact rfl | exact t_ld h | (refine lds_s (t_ld h) ?_; (repeat (refine lds_s (t_ld h) ?_)); exact lds_nil) | omega) | refine u_bspT ?_ | refine u_bspF ?_)
      refine h.rowAppend1 el_intR [v] rfl rfl (by simp; omega) ?_
      clear h
      intro A' c' M h
      repeat (first | (refine s_nwc h ?_; clear h; intro kb M h) | (refine s_stc h ?_; clear h; intro M h) | refine t_exI h ?_ | refine t_exB h ?_ | refine t_exS h ?_ | refine t_exP h ?_ | refine t_exSl h ?_ | refine t_exV h ?_ | refine u_exI ?_ | refine u_exB ?_ | refine u_exS ?_ | refine u_exP ?_ | refine u_exSl ?_ | refine u_exV ?_ | refine u_nilc ?_ | (apply Exists.intro; (repeat apply Exists.intro); refine And.intro rfl ?_) | (refine And.intro ?_ ?_; first | exact trivial | exact rfl | exact t_ld h | (refine lds_s (t_ld h) ?_; (repeat (refine lds_s (t_ld h) ?_)); exact lds_nil) | omega) | refine u_bspT ?_ | refine u_bspF ?_)
      rw [← take_snoc hv] at h ⊢
      have hl2 := (List.getElem?_eq_some_iff.1 hv).1
      refine ⟨n.toNat - (i + 1), by omega, i + 1, A', c', rfl, rfl, by omega, by omega, ?_⟩
      rw [e3]; exact h.sub (by repeat (first | exact .refl | refine .cons (by repeat (first | exact .here | apply Pick.there)) ?_ | apply Sub.drop))
  · obtain rfl : i = n.toNat := by omega
    exact k _ _ _ h
theorem ring_List (h : Hp R L M) [o : ObjAt ringR b L x L'] (k : ∀ A c M', Hp R (rowP intE 3 A c x.l :: objP ringR b x :: L') M' → K (.slice A x.l.length c) M') :
    ACalls Tryz.prog 105 #[.pointer (some ⟨b, 0, none⟩)] M K Kp := by
  refine vc_ring_Ring_List ?_
  have h' := ring_open h (b := b)
  clear h
  obtain ⟨A0, c0, head, slots, ok, h⟩ := h'
  have ok0 := ok
  obtain ⟨h1, h2, h3, h4, h5, h6⟩ := ok0
  repeat (first | (refine s_nwc h ?_; clear h; intro kb M h) | (refine s_stc h ?_; clear h; intro M h) | refine t_exI h ?_ | refine t_exB h ?_ | refine t_exS h ?_ | refine t_exP h ?_ | refine t_exSl h ?_ | refine t_exV h ?_ | refine u_exI ?_ | refine u_exB ?_ | refine u_exS ?_ | refine u_exP ?_ | refine u_exSl ?_ | refine u_exV ?_ | refine u_nilc ?_ | (apply Exists.intro; (repeat apply Exists.intro); refine And.intro rfl ?_) | (refine And.intro ?_ ?_; first | exact trivial | exact rfl | exact t_ld h | (refine lds_s (t_ld h) ?_; (repeat (refine lds_s (t_ld h) ?_)); exact lds_nil) | omega) | refine u_bspT ?_ | refine u_bspF ?_)
  refine ⟨fun d ws M => ∃ (i : Nat) (A : Option Addr) (c : Nat), ws = [.slice A (x.l.take i).length c, .int .i64 (i : Int)] ∧ d = x.l.length - i ∧ i ≤ x.l.length ∧
    Hp R (rowP intE 3 A c (x.l.take i) :: pt b [.slice A0 x.room c0, .int .i64 (head : Int), .int .i64 (x.l.length : Int)] 280 :: rowP intE 3 A0 c0 slots :: L') M, ⟨_, 0, none, 0, rfl, rfl, by omega, h.row_nil _ _⟩, ?_⟩
  clear h
  rintro d _ A n1 c ii M ⟨i, _, _, he, hd, hi, h⟩
  simp only [List.cons.injEq, Value.slice.injEq, Value.int.injEq, and_true, true_and] at he
  obtain ⟨⟨rfl, rfl, rfl⟩, rfl⟩ := he
  refine bsp_dec.2 ⟨fun hlt => ?_, fun hge => ?_⟩
  · obtain ⟨v, hv⟩ := idx_ex (l := x.l) (i := i) (by omega)
    have hs := h6 i v hv
    have hlt2 := Nat.mod_lt (head + i) h2
    obtain ⟨b2, rfl⟩ := h.drop.row_some (A := A0) (by omega) (by decide)
    have s0 : Src R _ (some ⟨b2, 0, none⟩) (intE.cells slots) := h.src (A := some ⟨b2, 0, none⟩)
    repeat (first | (refine s_nwc h ?_; clear h; intro kb M h) | (refine s_stc h ?_; clear h; intro M h) | refine t_exI h ?_ | refine t_exB h ?_ | refine t_exS h ?_ | refine t_exP h ?_ | refine t_exSl h ?_ | refine t_exV h ?_ | refine u_exI ?_ | refine u_exB ?_ | refine u_exS ?_ | refine u_exP ?_ | refine u_exSl ?_ | refine u_exV ?_ | refine u_nilc ?_ | (apply Exists.intro; (repeat apply Exists.intro); refine And.intro rfl ?_) | (refine And.intro ?_ ?_; first | exact trivial | exact rfl | exact t_ld h | (refine lds_s (t_ld h) ?_; (repeat (refine lds_s (t_ld h) ?_)); exact lds_nil) | omega) | refine u_bspT ?_ | refine u_bspF ?_)
    have e1 : IntKind.wrap .i64 ((head : Int) + (i : Int)) = ((head + i : Nat) : Int) := wn (by simp) (by omega)
    rw [e1, tmod_nat]
    repeat (first | (refine s_nwc h ?_; clear h; intro kb M h) | (refine s_stc h ?_; clear h; intro M h) | refine t_exI h ?_ | refine t_exB h ?_ | refine t_exS h ?_ | refine t_exP h ?_ | refine t_exSl h ?_ | refine t_exV h ?_ | refine u_exI ?_ | refine u_exB ?_ | refine u_exS ?_ | refine u_exP ?_ | refine u_exSl ?_ | refine u_exV ?_ | refine u_nilc ?_ | (apply Exists.intro; (repeat apply Exists.intro); refine And.intro rfl ?_) | (refine And.intro ?_ ?_; first | exact trivial | exact rfl | exact t_ld h | (refine lds_s (t_ld h) ?_; (repeat (refine lds_s (t_ld h) ?_)); exact lds_nil) | omega) | refine u_bspT ?_ | refine u_bspF ?_)
    simp only [Int.toNat_natCast]
    refine v_exI (s0.at h (i := (head + i) % x.room) (j := 0) hs rfl (by simp [intE])) ?_
    repeat (first | (refine s_nwc h ?_; clear h; intro kb M h) | (refine s_stc h ?_; clear h; intro M h) | refine t_exI h ?_ | refine t_exB h ?_ | refine t_exS h ?_ | refine t_exP h ?_ | refine t_exSl h ?_ | refine t_exV h ?_ | refine u_exI ?_ | refine u_exB ?_ | refine u_exS ?_ | refine u_exP ?_ | refine u_exSl ?_ | refine u_exV ?_ | refine u_nilc ?_ | (apply Exists.intro; (repeat apply Exists.intro); refine And.intro rfl ?_) | (refine And.intro ?_ ?_; first | exact trivial | exact rfl | exact t_ld h | (refine lds_s (t_ld h) ?_; (repeat (refine lds_s (t_ld h) ?_)); exact lds_nil) | omega) | refine u_bspT ?_ | refine u_bspF ?_)
    refine h.rowAppend1 el_intR [v] rfl rfl (by simp; omega) ?_
    clear h
    intro A' c' M h
    repeat (first | (refine s_nwc h ?_; clear h; intro kb M h) | (refine s_stc h ?_; clear h; intro M h) | refine t_exI h ?_ | refine t_exB h ?_ | refine t_exS h ?_ | refine t_exP h ?_ | refine t_exSl h ?_ | refine t_exV h ?_ | refine u_exI ?_ | refine u_exB ?_ | refine u_exS ?_ | refine u_exP ?_ | refine u_exSl ?_ | refine u_exV ?_ | refine u_nilc ?_ | (apply Exists.intro; (repeat apply Exists.intro); refine And.intro rfl ?_) | (refine And.intro ?_ ?_; first | exact trivial | exact rfl | exact t_ld h | (refine lds_s (t_ld h) ?_; (repeat (refine lds_s (t_ld h) ?_)); exact lds_nil) | omega) | refine u_bspT ?_ | refine u_bspF ?_)
    rw [wrap_succ (by omega), ← take_snoc hv] at *
    exact ⟨x.l.length - (i + 1), by omega, i + 1, A', c', rfl, rfl, by omega, h⟩
  · obtain rfl : i = x.l.length := by omega
    rw [List.take_length] at h ⊢
    refine k _ _ _ ?_
    have h7 := h.swap
    refine (ring_mk (x := x) ok (h7.sub (by repeat (first | exact .refl | refine .cons (by repeat (first | exact .here | apply Pick.there)) ?_ | apply Sub.drop)))).swap.sub (by repeat (first | exact .refl | refine .cons (by repeat (first | exact .here | apply Pick.there)) ?_ | apply Sub.drop))
end
end Go.Proofs

namespace Go.Proofs
open Go.AF
set_option linter.unusedVariables false
set_option maxRecDepth 100000
set_option maxHeartbeats 1000000
attribute [local irreducible] exI exB exS exP exSl exV nilc stc nwc semK semU bsp
/-- A queue: who goes next, the ring's room, the ring's numbers. -/
structure Loc where
  next : Int
  room : Nat
  l : List Int
def Loc.put (x : Loc) (v : Int) (g : List Int) : Loc × List Int × Nat :=
  if x.l.length < x.room then ({ x with l := x.l ++ [v] }, g, 0) else ({ x with l := x.l.drop (x.l.length / 2) }, g ++ (x.l.take (x.l.length / 2) ++ [v]), x.l.length / 2 + 1)
def Loc.ready (x : Loc) (v : Int) (g : List Int) : Loc × List Int × Nat := if x.next = -1 then ({ x with next := v }, g, 0) else ({ x with next := v } : Loc).put x.next g
def Loc.get (x : Loc) : Loc × Int := if x.next ≠ -1 then ({ x with next := -1 }, x.next) else match x.l with
  | [] => (x, -1)
  | v :: l => ({ x with l := l }, v)
def Loc.turn (x : Loc) (g : List Int) : Loc × List Int × Nat := if x.next = -1 then (x, g, 0) else ({ x with next := -1 } : Loc).put x.next g
def Loc.fetchN (x : Loc) (g : List Int) (p : Int) : Nat := if p < 1 then 1 else min (g.length / p.toNat + 1) (x.room - x.l.length + 1)
def Loc.fetch (x : Loc) (g : List Int) (p : Int) : Loc × List Int × Int := match g.take (x.fetchN g p) with
  | [] => (x, g, -1)
  | v :: out => ({ x with l := x.l ++ out }, g.drop (x.fetchN g p), v)
def Loc.stealN (x f : Loc) : Nat := min (f.l.length - f.l.length / 2) (x.room - x.l.length + 1)
def Loc.steal (x f : Loc) : Loc × Loc × Int := match f.l.take (x.stealN f) with
  | [] => (x, { f with next := -1 }, f.next)
  | v :: out => ({ x with l := x.l ++ out }, { f with l := f.l.drop (x.stealN f) }, v)
def Loc.Ok (x : Loc) : Prop := x.l.length ≤ x.room ∧ x.room ≤ 1024 ∧ 0 < x.room
def locR : Rep Loc := ⟨fun b x => exs fun rb : Nat => sep [pt b [.int .i64 x.next, .pointer (some ⟨rb, 0, none⟩)] 224, objP ringR rb ⟨x.room, x.l⟩]⟩
/-- The head of a global row stands at gb, go. -/
structure GlH (gb go : Nat) (P : Option Addr → Nat → Nat → HP) : Prop where
  ldS : ∀ (R : Mem) (L : List HP) (M : Mem) (A : Option Addr) (n c : Nat), Hp R (P A n c :: L) M → M.ld ⟨gb, go, none⟩ = some (.slice A n c)
  stS : ∀ (R : Mem) (L : List HP) (M : Mem) (A A' : Option Addr) (n c n' c' : Nat) (G : Mem → Prop), Hp R (P A n c :: L) M → (∀ M', Hp R (P A' n' c' :: L) M' → G M') → stc M ⟨gb, go, none⟩ (.slice A' n' c') G
/-- The global row. -/
def glP (P : Option Addr → Nat → Nat → HP) (l : List Int) : HP := exs fun A : Option Addr => exs fun c : Nat => sep [P A l.length c, rowP intE 3 A c l]
class GlAt (P : Option Addr → Nat → Nat → HP) (L : List HP) (g : outParam (List Int)) (L' : outParam (List HP)) : Prop where
  pick : Pick L (glP P g) L'
instance GlAt.here {P : Option Addr → Nat → Nat → HP} {g : List Int} {L : List HP} : GlAt P (glP P g :: L) g L := ⟨.here⟩
instance (priority := low) GlAt.there {P : Option Addr → Nat → Nat → HP} {g : List Int} {Q : HP} {L L' : List HP} [h : GlAt P L g L'] : GlAt P (Q :: L) g (Q :: L') := ⟨.there h.pick⟩
section
variable {R : Mem} {L L' L'' : List HP} {M : Mem} {K : Value → Mem → Prop} {Kp : List PanicEntry → Mem → Prop} {b gb go b' : Nat} {P : Option Addr → Nat → Nat → HP} {x f : Loc} {g : List Int}
theorem loc_open (h : Hp R L M) [o : ObjAt locR b L x L'] : ∃ rb, Hp R (pt b [.int .i64 x.next, .pointer (some ⟨rb, 0, none⟩)] 224 :: objP ringR rb ⟨x.room, x.l⟩ :: L') M := by
  have := h.obj locR b
  simpa only [locR, Hp.ex_iff, Hp.sep_iff, List.cons_append, List.nil_append] using this
theorem loc_mk {rb : Nat} (h : Hp R (pt b [.int .i64 x.next, .pointer (some ⟨rb, 0, none⟩)] 224 :: objP ringR rb ⟨x.room, x.l⟩ :: L) M) : Hp R (objP locR b x :: L) M := by
  refine Hp.objI ?_
  simp only [locR, Hp.ex_iff, Hp.sep_iff, List.cons_append, List.nil_append]
  exact ⟨_, h⟩
theorem loc_close {next : Int} {rb room : Nat} {l : List Int} {L1 L2 : List HP} (h : Hp R L M) (b : Nat) [p : PtAt b L [.int .i64 next, .pointer (some ⟨rb, 0, none⟩)] 224 L1] [o : ObjAt ringR rb L1 ⟨room, l⟩ L2] : Hp R (objP locR b ⟨next, room, l⟩ :: L2) M :=
  loc_mk (h.sub (.cons p.pick (.cons o.pick .refl)))
theorem gl_open (h : Hp R L M) [o : GlAt P L g L'] : ∃ A c, Hp R (P A g.length c :: rowP intE 3 A c g :: L') M := by
  have := h.pick o.pick
  simpa only [glP, Hp.ex_iff, Hp.sep_iff, List.cons_append, List.nil_append] using this
theorem gl_mk {A : Option Addr} {c n : Nat} (h : Hp R (P A n c :: rowP intE 3 A c g :: L) M) (e : n = g.length := by first | rfl | simp) : Hp R (glP P g :: L) M := by
  subst e
  simp only [glP, Hp.ex_iff, Hp.sep_iff, List.cons_append, List.nil_append]
  exact ⟨_, _, h⟩
theorem ring_bd {rb : Nat} {r : Rg} (h : Hp R L M) [o : ObjAt ringR rb L r L'] : r.l.length ≤ r.room ∧ r.room ≤ 1024 ∧ 0 < r.room := by
  obtain ⟨A, c, head, slots, ok, _⟩ := ring_open h (b := rb)
  exact ⟨ok.2.2.2.2.1, ok.2.2.1, ok.2.1⟩
theorem loc_bd (h : Hp R L M) [o : ObjAt locR b L x L'] : x.Ok := by
  obtain ⟨rb, h2⟩ := loc_open h (b := b)
  exact ring_bd (rb := rb) h2

theorem local_New {room : Int} (h : Hp R L M) (k : ∀ b M', Hp R (objP locR b ⟨-1, capR room, []⟩ :: L) M' → K (.pointer (some ⟨b, 0, none⟩)) M') : ACalls Tryz.prog 52 #[.int .i64 room] M K Kp := by
  refine vc_local_New ?_
  refine ring_New h ?_
  clear h
  intro rb M h
  repeat (first | (refine s_nwc h ?_; clear h; intro kb M h) | (refine s_stc h ?_; clear h; intro M h) | refine t_exI h ?_ | refine t_exB h ?_ | refine t_exS h ?_ | refine t_exP h ?_ | refine t_exSl h ?_ | refine t_exV h ?_ | refine u_exI ?_ | refine u_exB ?_ | refine u_exS ?_ | refine u_exP ?_ | refine u_exSl ?_ | refine u_exV ?_ | refine u_nilc ?_ | (apply Exists.intro; (repeat apply Exists.intro); refine And.intro rfl ?_) | (refine And.intro ?_ ?_; first | exact trivial | exact rfl | exact t_ld h | (refine lds_s (t_ld h) ?_; (repeat (refine lds_s (t_ld h) ?_)); exact lds_nil) | omega) | refine u_bspT ?_ | refine u_bspF ?_)
  exact k _ _ (loc_close h kb)
theorem local_Next (h : Hp R L M) [o : ObjAt locR b L x L'] (k : K (.int .i64 x.next) M) : ACalls Tryz.prog 58 #[.pointer (some ⟨b, 0, none⟩)] M K Kp := by
  refine vc_local_Local_Next ?_
  have h' := loc_open h (b := b)
  clear h
  obtain ⟨rb, h⟩ := h'
  repeat (first | (refine s_nwc h ?_; clear h; intro kb M h) | (refine s_stc h ?_; clear h; intro M h) | refine t_exI h ?_ | refine t_exB h ?_ | refine t_exS h ?_ | refine t_exP h ?_ | refine t_exSl h ?_ | refine t_exV h ?_ | refine u_exI ?_ | refine u_exB ?_ | refine u_exS ?_ | refine u_exP ?_ | refine u_exSl ?_ | refine u_exV ?_ | refine u_nilc ?_ | (apply Exists.intro; (repeat apply Exists.intro); refine And.intro rfl ?_) | (refine And.intro ?_ ?_; first | exact trivial | exact rfl | exact t_ld h | (refine lds_s (t_ld h) ?_; (repeat (refine lds_s (t_ld h) ?_)); exact lds_nil) | omega) | refine u_bspT ?_ | refine u_bspF ?_)
  exact k
theorem local_List (h : Hp R L M) [o : ObjAt locR b L x L'] (k : ∀ A c M', Hp R (rowP intE 3 A c x.l :: objP locR b x :: L') M' → K (.slice A x.l.length c) M') : ACalls Tryz.prog 59 #[.pointer (some ⟨b, 0, none⟩)] M K Kp := by
  refine vc_local_Local_List ?_
  have h' := loc_open h (b := b)
  clear h
  obtain ⟨rb, h⟩ := h'
  repeat (first | (refine s_nwc h ?_; clear h; intro kb M h) | (refine s_stc h ?_; clear h; intro M h) | refine t_exI h ?_ | refine t_exB h ?_ | refine t_exS h ?_ | refine t_exP h ?_ | refine t_exSl h ?_ | refine t_exV h ?_ | refine u_exI ?_ | refine u_exB ?_ | refine u_exS ?_ | refine u_exP ?_ | refine u_exSl ?_ | refine u_exV ?_ | refine u_nilc ?_ | (apply Exists.intro; (repeat apply Exists.intro); refine And.intro rfl ?_) | (refine And.intro ?_ ?_; first | exact trivial | exact rfl | exact t_ld h | (refine lds_s (t_ld h) ?_; (repeat (refine lds_s (t_ld h) ?_)); exact lds_nil) | omega) | refine u_bspT ?_ | refine u_bspF ?_)
  refine ring_List h ?_
  clear h
  intro A c M h
  repeat (first | (refine s_nwc h ?_; clear h; intro kb M h) | (refine s_stc h ?_; clear h; intro M h) | refine t_exI h ?_ | refine t_exB h ?_ | refine t_exS h ?_ | refine t_exP h ?_ | refine t_exSl h ?_ | refine t_exV h ?_ | refine u_exI ?_ | refine u_exB ?_ | refine u_exS ?_ | refine u_exP ?_ | refine u_exSl ?_ | refine u_exV ?_ | refine u_nilc ?_ | (apply Exists.intro; (repeat apply Exists.intro); refine And.intro rfl ?_) | (refine And.intro ?_ ?_; first | exact trivial | exact rfl | exact t_ld h | (refine lds_s (t_ld h) ?_; (repeat (refine lds_s (t_ld h) ?_)); exact lds_nil) | omega) | refine u_bspT ?_ | refine u_bspF ?_)
  exact k _ _ _ ((loc_close h b).sub (by repeat (first | exact .refl | refine .cons (by repeat (first | exact .here | apply Pick.there)) ?_ | apply Sub.drop)))
theorem local_gLen (D : GlH gb go P) (h : Hp R L M) [o : GlAt P L g L'] (k : K (.int .i64 (g.length : Int)) M) : ACalls Tryz.prog 217 #[.pointer (some ⟨gb, go, none⟩)] M K Kp := by
  refine vc_local_Global_Len ?_
  have h' := gl_open h (P := P)
  clear h
  obtain ⟨A, c, h⟩ := h'
  rw [D.ldS _ _ _ _ _ _ h]
  exact u_exSl k
theorem local_gPut (D : GlH gb go P) {B : Option Addr} {n c : Nat} {l : List Int} (h : Hp R L M) [o : GlAt P L g L'] (hB : Src R L' B (intE.cells l)) (hn : n = l.length) (hs : g.length + l.length ≤ 1000000000) (k : ∀ M', Hp R (glP P (g ++ l) :: L') M' → K (.tuple #[]) M') :
    ACalls Tryz.prog 53 #[.pointer (some ⟨gb, go, none⟩), .slice B n c] M K Kp := by
  refine vc_local_Global_Put ?_
  have h' := gl_open h (P := P)
  clear h
  obtain ⟨A, cg, h⟩ := h'
  rw [D.ldS _ _ _ _ _ _ h]
  refine u_exSl ?_
  refine h.rowAppend (A := A) (r := l) el_intR hB.cons.cons hn (by omega) ?_
  clear h
  intro A' c' M h
  refine u_exSl ?_
  refine D.stS _ _ _ _ _ _ _ _ _ _ h.swap ?_
  clear h; intro M h
  exact k _ (gl_mk h)
theorem local_gTake (D : GlH gb go P) {n : Int} (h : Hp R L M) [o : GlAt P L g L'] (hs : g.length ≤ 1000000000) (k : ∀ A c M', Hp R (rowP intE 3 A c (g.take n.toNat) :: glP P (g.drop n.toNat) :: L') M' → K (.slice A (g.take n.toNat).length c) M') :
    ACalls Tryz.prog 178 #[.pointer (some ⟨gb, go, none⟩), .int .i64 n] M K Kp := by
  refine vc_local_Global_Take ?_
  have h' := gl_open h (P := P)
  clear h
  obtain ⟨A, cg, h⟩ := h'
  have hcap := h.row_le A
  have e : (if ((g.length : Nat) : Int) < (if (0 : Int) > n then 0 else n) then ((g.length : Nat) : Int) else (if (0 : Int) > n then 0 else n)) = ((min n.toNat g.length : Nat) : Int) := by split <;> split <;> omega
  have hq : g.take n.toNat = g.take (min n.toNat g.length) ∧ g.drop n.toNat = g.drop (min n.toNat g.length) := by
    rcases Nat.le_total n.toNat g.length with hl | hl
    · rw [Nat.min_eq_left hl]; exact ⟨rfl, rfl⟩
    · rw [Nat.min_eq_right hl, List.take_of_length_le hl, List.drop_of_length_le hl]; simp
  rw [hq.1, hq.2] at k
  have hql : min n.toNat g.length ≤ g.length := Nat.min_le_right ..
  rw [D.ldS _ _ _ _ _ _ h]
  refine u_exSl ?_
  rw [e]
  generalize min n.toNat g.length = q at *
  have el : (g.take q).length = q := by rw [List.length_take]; omega
  refine s_nwc h ?_
  clear h; intro kb M h
  rw [D.ldS _ _ _ _ _ _ h.swap]
  refine u_exSl ?_
  simp only [Int.toNat_natCast, Nat.sub_zero]
  refine ⟨by omega, by omega, by omega, by omega, by omega, by omega, ?_⟩
  refine h.rowCopy intE el_intR (g.take q) (Src.pre1 (h.src (A := A)) hcap q) (by rw [el]) (by rw [el]; omega) ?_
  clear h
  intro A' c' M h
  refine u_exSl ?_
  refine s_nwc h ?_
  clear h; intro kb2 M h
  replace h : Hp R (P A g.length cg :: rowP intE 3 A cg g :: pt kb2 [] 3 :: rowP intE 3 A' c' (g.take q) :: L') M := h.sub (by repeat (first | exact .refl | refine .cons (by repeat (first | exact .here | apply Pick.there)) ?_ | apply Sub.drop))
  rw [D.ldS _ _ _ _ _ _ h]
  refine u_exSl ?_
  refine ⟨by omega, by omega, by omega, by omega, by omega, by omega, ?_⟩
  refine h.rowCopy intE el_intR (g.drop q) (Src.suf1 (h.src (A := A)) hcap q) (by rw [List.length_drop]) (by rw [List.length_drop]; omega) ?_
  clear h
  intro A2 c2 M h
  refine u_exSl ?_
  replace h : Hp R (P A g.length cg :: rowP intE 3 A2 c2 (g.drop q) :: rowP intE 3 A' c' (g.take q) :: L') M := h.sub (by repeat (first | exact .refl | refine .cons (by repeat (first | exact .here | apply Pick.there)) ?_ | apply Sub.drop))
  refine D.stS _ _ _ _ _ _ _ _ _ _ h ?_
  clear h; intro M h
  rw [← el]
  rw [el]
  exact k _ _ _ ((gl_mk (P := P) h).swap)

theorem local_Put (D : GlH gb go P) {v : Int} (h : Hp R L M) [o : ObjAt locR b L x L'] [og : GlAt P L' g L''] (hs : g.length ≤ 100000000)
    (k : ∀ M', Hp R (objP locR b (x.put v g).1 :: glP P (x.put v g).2.1 :: L'') M' → K (.int .i64 ((x.put v g).2.2 : Int)) M') :
    ACalls Tryz.prog 184 #[.pointer (some ⟨b, 0, none⟩), .int .i64 v, .pointer (some ⟨gb, go, none⟩)] M K Kp := by
  have bd := loc_bd h (b := b)
  have h0 : Hp R (objP locR b x :: glP P g :: L'') M := (h.pick o.pick).map fun _ hs => hs.tail (fun _ => Star.pick og.pick)
  clear h
  have h := h0
  clear h0
  refine vc_local_Local_Put ?_
  have h' := loc_open h (b := b)
  clear h
  obtain ⟨rb, h⟩ := h'
  repeat (first | (refine s_nwc h ?_; clear h; intro kb M h) | (refine s_stc h ?_; clear h; intro M h) | refine t_exI h ?_ | refine t_exB h ?_ | refine t_exS h ?_ | refine t_exP h ?_ | refine t_exSl h ?_ | refine t_exV h ?_ | refine u_exI ?_ | refine u_exB ?_ | refine u_exS ?_ | refine u_exP ?_ | refine u_exSl ?_ | refine u_exV ?_ | refine u_nilc ?_ | (apply Exists.intro; (repeat apply Exists.intro); refine And.intro rfl ?_) | (refine And.intro ?_ ?_; first | exact trivial | exact rfl | exact t_ld h | (refine lds_s (t_ld h) ?_; (repeat (refine lds_s (t_ld h) ?_)); exact lds_nil) | omega) | refine u_bspT ?_ | refine u_bspF ?_)
  refine ring_Push h (fun e M' h' => ?_) fun e M' h' => ?_
  · clear h
    have h := h'
    clear h'
    dsimp only at e
    have hp : x.put v g = ({ x with l := x.l.drop (x.l.length / 2) }, g ++ (x.l.take (x.l.length / 2) ++ [v]), x.l.length / 2 + 1) := by unfold Loc.put; rw [if_neg (by omega)]
    rw [hp] at k
    repeat (first | (refine s_nwc h ?_; clear h; intro kb M h) | (refine s_stc h ?_; clear h; intro M h) | refine t_exI h ?_ | refine t_exB h ?_ | refine t_exS h ?_ | refine t_exP h ?_ | refine t_exSl h ?_ | refine t_exV h ?_ | refine u_exI ?_ | refine u_exB ?_ | refine u_exS ?_ | refine u_exP ?_ | refine u_exSl ?_ | refine u_exV ?_ | refine u_nilc ?_ | (apply Exists.intro; (repeat apply Exists.intro); refine And.intro rfl ?_) | (refine And.intro ?_ ?_; first | exact trivial | exact rfl | exact t_ld h | (refine lds_s (t_ld h) ?_; (repeat (refine lds_s (t_ld h) ?_)); exact lds_nil) | omega) | refine u_bspT ?_ | refine u_bspF ?_)
    refine ring_Len h ?_
    repeat (first | (refine s_nwc h ?_; clear h; intro kb M h) | (refine s_stc h ?_; clear h; intro M h) | refine t_exI h ?_ | refine t_exB h ?_ | refine t_exS h ?_ | refine t_exP h ?_ | refine t_exSl h ?_ | refine t_exV h ?_ | refine u_exI ?_ | refine u_exB ?_ | refine u_exS ?_ | refine u_exP ?_ | refine u_exSl ?_ | refine u_exV ?_ | refine u_nilc ?_ | (apply Exists.intro; (repeat apply Exists.intro); refine And.intro rfl ?_) | (refine And.intro ?_ ?_; first | exact trivial | exact rfl | exact t_ld h | (refine lds_s (t_ld h) ?_; (repeat (refine lds_s (t_ld h) ?_)); exact lds_nil) | omega) | refine u_bspT ?_ | refine u_bspF ?_)
    have e2 : IntKind.wrap .i64 (Int.tdiv (x.l.length : Int) 2) = ((x.l.length / 2 : Nat) : Int) := wn rfl (by have := bd.1; have := bd.2.1; omega)
    simp only [e2]
    refine ring_Take h ?_
    clear h
    intro A c M h
    simp only [Int.toNat_natCast] at h ⊢
    repeat (first | (refine s_nwc h ?_; clear h; intro kb M h) | (refine s_stc h ?_; clear h; intro M h) | refine t_exI h ?_ | refine t_exB h ?_ | refine t_exS h ?_ | refine t_exP h ?_ | refine t_exSl h ?_ | refine t_exV h ?_ | refine u_exI ?_ | refine u_exB ?_ | refine u_exS ?_ | refine u_exP ?_ | refine u_exSl ?_ | refine u_exV ?_ | refine u_nilc ?_ | (apply Exists.intro; (repeat apply Exists.intro); refine And.intro rfl ?_) | (refine And.intro ?_ ?_; first | exact trivial | exact rfl | exact t_ld h | (refine lds_s (t_ld h) ?_; (repeat (refine lds_s (t_ld h) ?_)); exact lds_nil) | omega) | refine u_bspT ?_ | refine u_bspF ?_)
    have htl : (x.l.take (x.l.length / 2)).length = x.l.length / 2 := by rw [List.length_take]; omega
    refine h.rowAppend1 el_intR [v] rfl rfl (by have := bd.2.1; have := bd.1; simp; omega) ?_
    clear h
    intro A' c' M h
    repeat (first | (refine s_nwc h ?_; clear h; intro kb M h) | (refine s_stc h ?_; clear h; intro M h) | refine t_exI h ?_ | refine t_exB h ?_ | refine t_exS h ?_ | refine t_exP h ?_ | refine t_exSl h ?_ | refine t_exV h ?_ | refine u_exI ?_ | refine u_exB ?_ | refine u_exS ?_ | refine u_exP ?_ | refine u_exSl ?_ | refine u_exV ?_ | refine u_nilc ?_ | (apply Exists.intro; (repeat apply Exists.intro); refine And.intro rfl ?_) | (refine And.intro ?_ ?_; first | exact trivial | exact rfl | exact t_ld h | (refine lds_s (t_ld h) ?_; (repeat (refine lds_s (t_ld h) ?_)); exact lds_nil) | omega) | refine u_bspT ?_ | refine u_bspF ?_)
    replace h := h.sub (show Sub _ (glP P g :: rowP intE 3 A' c' (x.l.take (x.l.length / 2) ++ [v]) :: objP ringR rb ⟨x.room, x.l.drop (x.l.length / 2)⟩ :: pt b [.int .i64 x.next, .pointer (some ⟨rb, 0, none⟩)] 224 :: L'') from (by repeat (first | exact .refl | refine .cons (by repeat (first | exact .here | apply Pick.there)) ?_ | apply Sub.drop)))
    refine local_gPut D h Src.row rfl (by have := bd.2.1; have := bd.1; simp; omega) ?_
    clear h
    intro M h
    repeat (first | (refine s_nwc h ?_; clear h; intro kb M h) | (refine s_stc h ?_; clear h; intro M h) | refine t_exI h ?_ | refine t_exB h ?_ | refine t_exS h ?_ | refine t_exP h ?_ | refine t_exSl h ?_ | refine t_exV h ?_ | refine u_exI ?_ | refine u_exB ?_ | refine u_exS ?_ | refine u_exP ?_ | refine u_exSl ?_ | refine u_exV ?_ | refine u_nilc ?_ | (apply Exists.intro; (repeat apply Exists.intro); refine And.intro rfl ?_) | (refine And.intro ?_ ?_; first | exact trivial | exact rfl | exact t_ld h | (refine lds_s (t_ld h) ?_; (repeat (refine lds_s (t_ld h) ?_)); exact lds_nil) | omega) | refine u_bspT ?_ | refine u_bspF ?_)
    have e3 : (((x.l.take (x.l.length / 2) ++ [v]).length : Nat) : Int) = ((x.l.length / 2 + 1 : Nat) : Int) := by simp; omega
    rw [e3]
    exact k _ ((loc_close h b).sub (by repeat (first | exact .refl | refine .cons (by repeat (first | exact .here | apply Pick.there)) ?_ | apply Sub.drop)))
  · clear h
    have h := h'
    clear h'
    dsimp only at e
    have hp : x.put v g = ({ x with l := x.l ++ [v] }, g, 0) := by unfold Loc.put; rw [if_pos e]
    rw [hp] at k
    repeat (first | (refine s_nwc h ?_; clear h; intro kb M h) | (refine s_stc h ?_; clear h; intro M h) | refine t_exI h ?_ | refine t_exB h ?_ | refine t_exS h ?_ | refine t_exP h ?_ | refine t_exSl h ?_ | refine t_exV h ?_ | refine u_exI ?_ | refine u_exB ?_ | refine u_exS ?_ | refine u_exP ?_ | refine u_exSl ?_ | refine u_exV ?_ | refine u_nilc ?_ | (apply Exists.intro; (repeat apply Exists.intro); refine And.intro rfl ?_) | (refine And.intro ?_ ?_; first | exact trivial | exact rfl | exact t_ld h | (refine lds_s (t_ld h) ?_; (repeat (refine lds_s (t_ld h) ?_)); exact lds_nil) | omega) | refine u_bspT ?_ | refine u_bspF ?_)
    exact k _ ((loc_close h b).sub (by repeat (first | exact .refl | refine .cons (by repeat (first | exact .here | apply Pick.there)) ?_ | apply Sub.drop)))
theorem loc_two (h : Hp R L M) [o : ObjAt locR b L x L'] [og : GlAt P L' g L''] : Hp R (objP locR b x :: glP P g :: L'') M := (h.pick o.pick).map fun _ hs => hs.tail (fun _ => Star.pick og.pick)
theorem local_Ready (D : GlH gb go P) {v : Int} (h : Hp R L M) [o : ObjAt locR b L x L'] [og : GlAt P L' g L''] (hs : g.length ≤ 100000000)
    (k : ∀ M', Hp R (objP locR b (x.ready v g).1 :: glP P (x.ready v g).2.1 :: L'') M' → K (.int .i64 ((x.ready v g).2.2 : Int)) M') :
    ACalls Tryz.prog 134 #[.pointer (some ⟨b, 0, none⟩), .int .i64 v, .pointer (some ⟨gb, go, none⟩)] M K Kp := by
  replace h := loc_two (P := P) h (b := b)
  refine vc_local_Local_Ready ?_
  have h' := loc_open h (b := b)
  clear h
  obtain ⟨rb, h⟩ := h'
  repeat (first | (refine s_nwc h ?_; clear h; intro kb M h) | (refine s_stc h ?_; clear h; intro M h) | refine t_exI h ?_ | refine t_exB h ?_ | refine t_exS h ?_ | refine t_exP h ?_ | refine t_exSl h ?_ | refine t_exV h ?_ | refine u_exI ?_ | refine u_exB ?_ | refine u_exS ?_ | refine u_exP ?_ | refine u_exSl ?_ | refine u_exV ?_ | refine u_nilc ?_ | (apply Exists.intro; (repeat apply Exists.intro); refine And.intro rfl ?_) | (refine And.intro ?_ ?_; first | exact trivial | exact rfl | exact t_ld h | (refine lds_s (t_ld h) ?_; (repeat (refine lds_s (t_ld h) ?_)); exact lds_nil) | omega) | refine u_bspT ?_ | refine u_bspF ?_)
  refine bsp_eq.2 ⟨fun e => ?_, fun e => ?_⟩
  · have hp : x.ready v g = ({ x with next := v }, g, 0) := by unfold Loc.ready; rw [if_pos e]
    rw [hp] at k
    repeat (first | (refine s_nwc h ?_; clear h; intro kb M h) | (refine s_stc h ?_; clear h; intro M h) | refine t_exI h ?_ | refine t_exB h ?_ | refine t_exS h ?_ | refine t_exP h ?_ | refine t_exSl h ?_ | refine t_exV h ?_ | refine u_exI ?_ | refine u_exB ?_ | refine u_exS ?_ | refine u_exP ?_ | refine u_exSl ?_ | refine u_exV ?_ | refine u_nilc ?_ | (apply Exists.intro; (repeat apply Exists.intro); refine And.intro rfl ?_) | (refine And.intro ?_ ?_; first | exact trivial | exact rfl | exact t_ld h | (refine lds_s (t_ld h) ?_; (repeat (refine lds_s (t_ld h) ?_)); exact lds_nil) | omega) | refine u_bspT ?_ | refine u_bspF ?_)
    exact k _ ((loc_close h b).sub (by repeat (first | exact .refl | refine .cons (by repeat (first | exact .here | apply Pick.there)) ?_ | apply Sub.drop)))
  · have hp : x.ready v g = ({ x with next := v } : Loc).put x.next g := by unfold Loc.ready; rw [if_neg e]
    rw [hp] at k
    replace h := loc_close h b
    refine local_Put D h hs ?_
    clear h
    intro M h
    repeat (first | (refine s_nwc h ?_; clear h; intro kb M h) | (refine s_stc h ?_; clear h; intro M h) | refine t_exI h ?_ | refine t_exB h ?_ | refine t_exS h ?_ | refine t_exP h ?_ | refine t_exSl h ?_ | refine t_exV h ?_ | refine u_exI ?_ | refine u_exB ?_ | refine u_exS ?_ | refine u_exP ?_ | refine u_exSl ?_ | refine u_exV ?_ | refine u_nilc ?_ | (apply Exists.intro; (repeat apply Exists.intro); refine And.intro rfl ?_) | (refine And.intro ?_ ?_; first | exact trivial | exact rfl | exact t_ld h | (refine lds_s (t_ld h) ?_; (repeat (refine lds_s (t_ld h) ?_)); exact lds_nil) | omega) | refine u_bspT ?_ | refine u_bspF ?_)
    exact k _ h
theorem local_Turn (D : GlH gb go P) (h : Hp R L M) [o : ObjAt locR b L x L'] [og : GlAt P L' g L''] (hs : g.length ≤ 100000000)
    (k : ∀ M', Hp R (objP locR b (x.turn g).1 :: glP P (x.turn g).2.1 :: L'') M' → K (.int .i64 ((x.turn g).2.2 : Int)) M') :
    ACalls Tryz.prog 177 #[.pointer (some ⟨b, 0, none⟩), .pointer (some ⟨gb, go, none⟩)] M K Kp := by
  replace h := loc_two (P := P) h (b := b)
  refine vc_local_Local_Turn ?_
  have h' := loc_open h (b := b)
  clear h
  obtain ⟨rb, h⟩ := h'
  repeat (first | (refine s_nwc h ?_; clear h; intro kb M h) | (refine s_stc h ?_; clear h; intro M h) | refine t_exI h ?_ | refine t_exB h ?_ | refine t_exS h ?_ | refine t_exP h ?_ | refine t_exSl h ?_ | refine t_exV h ?_ | refine u_exI ?_ | refine u_exB ?_ | refine u_exS ?_ | refine u_exP ?_ | refine u_exSl ?_ | refine u_exV ?_ | refine u_nilc ?_ | (apply Exists.intro; (repeat apply Exists.intro); refine And.intro rfl ?_) | (refine And.intro ?_ ?_; first | exact trivial | exact rfl | exact t_ld h | (refine lds_s (t_ld h) ?_; (repeat (refine lds_s (t_ld h) ?_)); exact lds_nil) | omega) | refine u_bspT ?_ | refine u_bspF ?_)
  refine bsp_eq.2 ⟨fun e => ?_, fun e => ?_⟩
  · have hp : x.turn g = (x, g, 0) := by unfold Loc.turn; rw [if_pos e]
    rw [hp] at k
    exact k _ ((loc_close h b).sub (by repeat (first | exact .refl | refine .cons (by repeat (first | exact .here | apply Pick.there)) ?_ | apply Sub.drop)))
  · have hp : x.turn g = ({ x with next := -1 } : Loc).put x.next g := by unfold Loc.turn; rw [if_neg e]
    rw [hp] at k
    repeat (first | (refine s_nwc h ?_; clear h; intro kb M h) | (refine s_stc h ?_; clear h; intro M h) | refine t_exI h ?_ | refine t_exB h ?_ | refine t_exS h ?_ | refine t_exP h ?_ | refine t_exSl h ?_ | refine t_exV h ?_ | refine u_exI ?_ | refine u_exB ?_ | refine u_exS ?_ | refine u_exP ?_ | refine u_exSl ?_ | refine u_exV ?_ | refine u_nilc ?_ | (apply Exists.intro; (repeat apply Exists.intro); refine And.intro rfl ?_) | (refine And.intro ?_ ?_; first | exact trivial | exact rfl | exact t_ld h | (refine lds_s (t_ld h) ?_; (repeat (refine lds_s (t_ld h) ?_)); exact lds_nil) | omega) | refine u_bspT ?_ | refine u_bspF ?_)
    replace h := loc_close h b
    refine local_Put D h hs ?_
    clear h
    intro M h
    repeat (first | (refine s_nwc h ?_; clear h; intro kb M h) | (refine s_stc h ?_; clear h; intro M h) | refine t_exI h ?_ | refine t_exB h ?_ | refine t_exS h ?_ | refine t_exP h ?_ | refine t_exSl h ?_ | refine t_exV h ?_ | refine u_exI ?_ | refine u_exB ?_ | refine u_exS ?_ | refine u_exP ?_ | refine u_exSl ?_ | refine u_exV ?_ | refine u_nilc ?_ | (apply Exists.intro; (repeat apply Exists.intro); refine And.intro rfl ?_) | (refine And.intro ?_ ?_; first | exact trivial | exact rfl | exact t_ld h | (refine lds_s (t_ld h) ?_; (repeat (refine lds_s (t_ld h) ?_)); exact lds_nil) | omega) | refine u_bspT ?_ | refine u_bspF ?_)
    exact k _ h
theorem local_Get (h : Hp R L M) [o : ObjAt locR b L x L'] 
    (k : ∀ t M', (x.get.2 = -1 → x.next = -1 → x.l = [] → t = false) → (x.next ≠ -1 ∨ x.l ≠ [] → t = true) → Hp R (objP locR b x.get.1 :: L') M' → K (.tuple #[.int .i64 x.get.2, .bool t]) M') :
    ACalls Tryz.prog 131 #[.pointer (some ⟨b, 0, none⟩)] M K Kp := by
  refine vc_local_Local_Get ?_
  have h' := loc_open h (b := b)
  clear h
  obtain ⟨rb, h⟩ := h'
  obtain ⟨next, room, l⟩ := x
  dsimp only at h
  repeat (first | (refine s_nwc h ?_; clear h; intro kb M h) | (refine s_stc h ?_; clear h; intro M h) | refine t_exI h ?_ | refine t_exB h ?_ | refine t_exS h ?_ | refine t_exP h ?_ | refine t_exSl h ?_ | refine t_exV h ?_ | refine u_exI ?_ | refine u_exB ?_ | refine u_exS ?_ | refine u_exP ?_ | refine u_exSl ?_ | refine u_exV ?_ | refine u_nilc ?_ | (apply Exists.intro; (repeat apply Exists.intro); refine And.intro rfl ?_) | (refine And.intro ?_ ?_; first | exact trivial | exact rfl | exact t_ld h | (refine lds_s (t_ld h) ?_; (repeat (refine lds_s (t_ld h) ?_)); exact lds_nil) | omega) | refine u_bspT ?_ | refine u_bspF ?_)
  refine bsp_ne.2 ⟨fun e => ?_, fun e => ?_⟩
  · have hp : (Loc.mk next room l).get = (⟨-1, room, l⟩, next) := by unfold Loc.get; dsimp only; rw [if_pos e]
    rw [hp] at k
    repeat (first | (refine s_nwc h ?_; clear h; intro kb M h) | (refine s_stc h ?_; clear h; intro M h) | refine t_exI h ?_ | refine t_exB h ?_ | refine t_exS h ?_ | refine t_exP h ?_ | refine t_exSl h ?_ | refine t_exV h ?_ | refine u_exI ?_ | refine u_exB ?_ | refine u_exS ?_ | refine u_exP ?_ | refine u_exSl ?_ | refine u_exV ?_ | refine u_nilc ?_ | (apply Exists.intro; (repeat apply Exists.intro); refine And.intro rfl ?_) | (refine And.intro ?_ ?_; first | exact trivial | exact rfl | exact t_ld h | (refine lds_s (t_ld h) ?_; (repeat (refine lds_s (t_ld h) ?_)); exact lds_nil) | omega) | refine u_bspT ?_ | refine u_bspF ?_)
    exact k true _ (fun _ h2 => absurd h2 e) (fun _ => rfl) ((loc_close h b).sub (by repeat (first | exact .refl | refine .cons (by repeat (first | exact .here | apply Pick.there)) ?_ | apply Sub.drop)))
  · repeat (first | (refine s_nwc h ?_; clear h; intro kb M h) | (refine s_stc h ?_; clear h; intro M h) | refine t_exI h ?_ | refine t_exB h ?_ | refine t_exS h ?_ | refine t_exP h ?_ | refine t_exSl h ?_ | refine t_exV h ?_ | refine u_exI ?_ | refine u_exB ?_ | refine u_exS ?_ | refine u_exP ?_ | refine u_exSl ?_ | refine u_exV ?_ | refine u_nilc ?_ | (apply Exists.intro; (repeat apply Exists.intro); refine And.intro rfl ?_) | (refine And.intro ?_ ?_; first | exact trivial | exact rfl | exact t_ld h | (refine lds_s (t_ld h) ?_; (repeat (refine lds_s (t_ld h) ?_)); exact lds_nil) | omega) | refine u_bspT ?_ | refine u_bspF ?_)
    refine ring_Pop h (fun e2 M' h' => ?_) fun v l2 e2 M' h' => ?_
    · dsimp only at e2
      subst e2
      have hp : (Loc.mk next room []).get = (⟨next, room, []⟩, -1) := by unfold Loc.get; dsimp only; rw [if_neg (by simpa using e)]
      rw [hp] at k
      repeat (first | (refine s_nwc h ?_; clear h; intro kb M h) | (refine s_stc h ?_; clear h; intro M h) | refine t_exI h ?_ | refine t_exB h ?_ | refine t_exS h ?_ | refine t_exP h ?_ | refine t_exSl h ?_ | refine t_exV h ?_ | refine u_exI ?_ | refine u_exB ?_ | refine u_exS ?_ | refine u_exP ?_ | refine u_exSl ?_ | refine u_exV ?_ | refine u_nilc ?_ | (apply Exists.intro; (repeat apply Exists.intro); refine And.intro rfl ?_) | (refine And.intro ?_ ?_; first | exact trivial | exact rfl | exact t_ld h | (refine lds_s (t_ld h) ?_; (repeat (refine lds_s (t_ld h) ?_)); exact lds_nil) | omega) | refine u_bspT ?_ | refine u_bspF ?_)
      exact k false _ (fun _ _ _ => rfl) (fun hx => by rcases hx with hx | hx; exact absurd e hx; exact absurd rfl hx) ((loc_close h' b).sub (by repeat (first | exact .refl | refine .cons (by repeat (first | exact .here | apply Pick.there)) ?_ | apply Sub.drop)))
    · dsimp only at e2
      subst e2
      have hp : (Loc.mk next room (v :: l2)).get = (⟨next, room, l2⟩, v) := by unfold Loc.get; dsimp only; rw [if_neg (by simpa using e)]
      rw [hp] at k
      repeat (first | (refine s_nwc h ?_; clear h; intro kb M h) | (refine s_stc h ?_; clear h; intro M h) | refine t_exI h ?_ | refine t_exB h ?_ | refine t_exS h ?_ | refine t_exP h ?_ | refine t_exSl h ?_ | refine t_exV h ?_ | refine u_exI ?_ | refine u_exB ?_ | refine u_exS ?_ | refine u_exP ?_ | refine u_exSl ?_ | refine u_exV ?_ | refine u_nilc ?_ | (apply Exists.intro; (repeat apply Exists.intro); refine And.intro rfl ?_) | (refine And.intro ?_ ?_; first | exact trivial | exact rfl | exact t_ld h | (refine lds_s (t_ld h) ?_; (repeat (refine lds_s (t_ld h) ?_)); exact lds_nil) | omega) | refine u_bspT ?_ | refine u_bspF ?_)
      exact k true _ (fun _ _ hx => by simp at hx) (fun _ => rfl) ((loc_close h' b).sub (by repeat (first | exact .refl | refine .cons (by repeat (first | exact .here | apply Pick.there)) ?_ | apply Sub.drop)))
end
end Go.Proofs

namespace Go.Proofs
open Go.AF
set_option linter.unusedVariables false
set_option maxRecDepth 100000
set_option maxHeartbeats 1000000
attribute [local irreducible] exI exB exS exP exSl exV nilc stc nwc semK semU bsp
section
variable {R : Mem} {L L' L'' : List HP} {M : Mem} {K : Value → Mem → Prop} {Kp : List PanicEntry → Mem → Prop} {b gb go b' : Nat} {P : Option Addr → Nat → Nat → HP} {x f : Loc} {g : List Int}
theorem pts_ne {b b' T T' : Nat} {cs cs' : List Value} (h : Hp R (pt b cs T :: L) M) [p : PtAt b' L cs' T' L'] : b ≠ b' := by
  rintro rfl
  have h2 : Hp R (pt b cs T :: pt b cs' T' :: L') M := h.map fun _ hs => hs.tail fun _ => Star.pick p.pick
  obtain ⟨B, rfl, h1, X, Y, rfl, h2, hp, X2, Y2, rfl, h3, hp2, hs⟩ := h2
  unfold AF.pt at hp hp2
  rcases h2 b with h | h
  · rw [hp] at h; cases h
  · rw [Mem.union_left hp2] at h; cases h
theorem ptr_ne {a : Addr} {b : Nat} {G : Bool → Prop} (hne : a.block ≠ b) (h1 : plainB M a.block) (h2 : plainB M b) (g : G false) : ptrEq M (some a) (some ⟨b, 0, none⟩) G :=
  ⟨fun e => absurd (by rw [e]) hne, fun _ => ⟨.inr ⟨h1, h2⟩, g⟩⟩
theorem plain_at {b T : Nat} {cs : List Value} (h : Hp R L M) [p : PtAt b L cs T L'] : plainB M b := ⟨_, _, (h.pick p.pick).pt_at⟩
theorem local_Fetch (D : GlH gb go P) {p : Int} (h : Hp R L M) [o : ObjAt locR b L x L'] [og : GlAt P L' g L''] (hs : g.length ≤ 100000000) (hp9 : p < 9223372036854775808)
    (k : ∀ t M', ((x.fetch g p).2.2 = -1 → g = [] → t = false) → (g ≠ [] → t = true) → Hp R (objP locR b (x.fetch g p).1 :: glP P (x.fetch g p).2.1 :: L'') M' → K (.tuple #[.int .i64 (x.fetch g p).2.2, .bool t]) M') :
    ACalls Tryz.prog 179 #[.pointer (some ⟨b, 0, none⟩), .pointer (some ⟨gb, go, none⟩), .int .i64 p] M K Kp := by
  have bd := loc_bd h (b := b)
  obtain ⟨bd1, bd2, bd3⟩ := bd
  replace h := loc_two (P := P) h (b := b)
  refine vc_local_Local_Fetch ?_
  have h' := loc_open h (b := b)
  clear h
  obtain ⟨rb, h⟩ := h'
  repeat (first | (refine s_nwc h ?_; clear h; intro kb M h) | (refine s_stc h ?_; clear h; intro M h) | refine t_exI h ?_ | refine t_exB h ?_ | refine t_exS h ?_ | refine t_exP h ?_ | refine t_exSl h ?_ | refine t_exV h ?_ | refine u_exI ?_ | refine u_exB ?_ | refine u_exS ?_ | refine u_exP ?_ | refine u_exSl ?_ | refine u_exV ?_ | refine u_nilc ?_ | (apply Exists.intro; (repeat apply Exists.intro); refine And.intro rfl ?_) | (refine And.intro ?_ ?_; first | exact trivial | exact rfl | exact t_ld h | (refine lds_s (t_ld h) ?_; (repeat (refine lds_s (t_ld h) ?_)); exact lds_nil) | omega) | refine u_bspT ?_ | refine u_bspF ?_)
  refine local_gLen D h ?_
  repeat (first | (refine s_nwc h ?_; clear h; intro kb M h) | (refine s_stc h ?_; clear h; intro M h) | refine t_exI h ?_ | refine t_exB h ?_ | refine t_exS h ?_ | refine t_exP h ?_ | refine t_exSl h ?_ | refine t_exV h ?_ | refine u_exI ?_ | refine u_exB ?_ | refine u_exS ?_ | refine u_exP ?_ | refine u_exSl ?_ | refine u_exV ?_ | refine u_nilc ?_ | (apply Exists.intro; (repeat apply Exists.intro); refine And.intro rfl ?_) | (refine And.intro ?_ ?_; first | exact trivial | exact rfl | exact t_ld h | (refine lds_s (t_ld h) ?_; (repeat (refine lds_s (t_ld h) ?_)); exact lds_nil) | omega) | refine u_bspT ?_ | refine u_bspF ?_)
  refine ring_Room h ?_
  repeat (first | (refine s_nwc h ?_; clear h; intro kb M h) | (refine s_stc h ?_; clear h; intro M h) | refine t_exI h ?_ | refine t_exB h ?_ | refine t_exS h ?_ | refine t_exP h ?_ | refine t_exSl h ?_ | refine t_exV h ?_ | refine u_exI ?_ | refine u_exB ?_ | refine u_exS ?_ | refine u_exP ?_ | refine u_exSl ?_ | refine u_exV ?_ | refine u_nilc ?_ | (apply Exists.intro; (repeat apply Exists.intro); refine And.intro rfl ?_) | (refine And.intro ?_ ?_; first | exact trivial | exact rfl | exact t_ld h | (refine lds_s (t_ld h) ?_; (repeat (refine lds_s (t_ld h) ?_)); exact lds_nil) | omega) | refine u_bspT ?_ | refine u_bspF ?_)
  refine ring_Len h ?_
  repeat (first | (refine s_nwc h ?_; clear h; intro kb M h) | (refine s_stc h ?_; clear h; intro M h) | refine t_exI h ?_ | refine t_exB h ?_ | refine t_exS h ?_ | refine t_exP h ?_ | refine t_exSl h ?_ | refine t_exV h ?_ | refine u_exI ?_ | refine u_exB ?_ | refine u_exS ?_ | refine u_exP ?_ | refine u_exSl ?_ | refine u_exV ?_ | refine u_nilc ?_ | (apply Exists.intro; (repeat apply Exists.intro); refine And.intro rfl ?_) | (refine And.intro ?_ ?_; first | exact trivial | exact rfl | exact t_ld h | (refine lds_s (t_ld h) ?_; (repeat (refine lds_s (t_ld h) ?_)); exact lds_nil) | omega) | refine u_bspT ?_ | refine u_bspF ?_)
  dsimp only at *
  have hn0 : 1 ≤ x.fetchN g p := by unfold Loc.fetchN; generalize g.length / p.toNat = q; split <;> omega
  have hn1 : x.l.length + (x.fetchN g p - 1) ≤ x.room := by unfold Loc.fetchN; generalize g.length / p.toNat = q; split <;> omega
  have key : ∀ n : Int, n.toNat = x.fetchN g p → ∀ {Q : Prop}, Q → Q := fun _ _ _ q => q
  refine bsp_dec.2 ⟨fun hp1 => ?_, fun hp1 => ?_⟩
  · have hn : (1 : Int).toNat = x.fetchN g p := by unfold Loc.fetchN; rw [if_pos hp1]; rfl
    refine local_gTake D h (by omega) ?_
    clear h
    intro A c M h
    rw [hn] at h ⊢
    repeat (first | (refine s_nwc h ?_; clear h; intro kb M h) | (refine s_stc h ?_; clear h; intro M h) | refine t_exI h ?_ | refine t_exB h ?_ | refine t_exS h ?_ | refine t_exP h ?_ | refine t_exSl h ?_ | refine t_exV h ?_ | refine u_exI ?_ | refine u_exB ?_ | refine u_exS ?_ | refine u_exP ?_ | refine u_exSl ?_ | refine u_exV ?_ | refine u_nilc ?_ | (apply Exists.intro; (repeat apply Exists.intro); refine And.intro rfl ?_) | (refine And.intro ?_ ?_; first | exact trivial | exact rfl | exact t_ld h | (refine lds_s (t_ld h) ?_; (repeat (refine lds_s (t_ld h) ?_)); exact lds_nil) | omega) | refine u_bspT ?_ | refine u_bspF ?_)
    cases hg : g.take (x.fetchN g p) with
    | nil =>
      have hg0 : g = [] := by
        have := congrArg List.length hg
        rw [List.length_take, List.length_nil] at this
        exact List.length_eq_zero_iff.1 (by omega)
      have hp : x.fetch g p = (x, g, -1) := by unfold Loc.fetch; rw [hg]
      rw [hp] at k
      refine u_bspC rfl ?_
      have e3 : g.drop (x.fetchN g p) = g := by rw [hg0]; simp
      rw [e3] at h
      exact k false _ (fun _ _ => rfl) (fun h1 => absurd hg0 h1) ((loc_close h b).sub (by repeat (first | exact .refl | refine .cons (by repeat (first | exact .here | apply Pick.there)) ?_ | apply Sub.drop)))
    | cons v out =>
      have hp : x.fetch g p = ({ x with l := x.l ++ out }, g.drop (x.fetchN g p), v) := by unfold Loc.fetch; rw [hg]
      rw [hp] at k
      have hol : out.length + 1 ≤ x.fetchN g p := by
        have := congrArg List.length hg
        rw [List.length_take, List.length_cons] at this
        omega
      refine u_bspD (by simp; omega) ?_
      rw [hg] at h
      generalize g.drop (x.fetchN g p) = g2 at *
      have hgn : g ≠ [] := by rintro rfl; simp at hg
      obtain ⟨A0, hA0⟩ : ∃ A0, A0 = slA A 1 c 1 := ⟨_, rfl⟩
      have hcap := h.row_le A
      rw [List.length_cons] at hcap
      simp only [Int.toNat_natCast, List.length_cons]
      repeat (first | (refine s_nwc h ?_; clear h; intro kb M h) | (refine s_stc h ?_; clear h; intro M h) | refine t_exI h ?_ | refine t_exB h ?_ | refine t_exS h ?_ | refine t_exP h ?_ | refine t_exSl h ?_ | refine t_exV h ?_ | refine u_exI ?_ | refine u_exB ?_ | refine u_exS ?_ | refine u_exP ?_ | refine u_exSl ?_ | refine u_exV ?_ | refine u_nilc ?_ | (apply Exists.intro; (repeat apply Exists.intro); refine And.intro rfl ?_) | (refine And.intro ?_ ?_; first | exact trivial | exact rfl | exact t_ld h | (refine lds_s (t_ld h) ?_; (repeat (refine lds_s (t_ld h) ?_)); exact lds_nil) | omega) | refine u_bspT ?_ | refine u_bspF ?_)
      refine ⟨fun d ws M => ∃ i : Nat, ws = [.int .i64 (i : Int)] ∧ d = out.length - i ∧ i ≤ out.length ∧
        Hp R (rowP intE 3 A c (v :: out) :: pt b [.int .i64 x.next, .pointer (some ⟨rb, 0, none⟩)] 224 :: objP ringR rb ⟨x.room, x.l ++ out.take i⟩ :: glP P g2 :: L'') M,
        ⟨_, 0, rfl, rfl, by omega, by rw [List.take_zero, List.append_nil]; exact h.sub (by repeat (first | exact .refl | refine .cons (by repeat (first | exact .here | apply Pick.there)) ?_ | apply Sub.drop))⟩, ?_⟩
      clear h
      rintro d _ ii M ⟨i, he, hd, hi, h⟩
      simp only [List.cons.injEq, Value.int.injEq, and_true, true_and] at he
      subst he
      refine bsp_dec.2 ⟨fun hlt => ?_, fun hge => ?_⟩
      · obtain ⟨w, hw⟩ := idx_ex (l := out) (i := i) (by omega)
        have s0 := Src.suf1 (h.src (A := A)) (by rw [List.length_cons]; exact hcap) 1
        rw [← hA0] at s0 ⊢
        rw [show (v :: out).drop 1 = out from rfl] at s0
        obtain ⟨b0, o0, rfl⟩ := s0.someE h (by omega) (by decide)
        repeat (first | (refine s_nwc h ?_; clear h; intro kb M h) | (refine s_stc h ?_; clear h; intro M h) | refine t_exI h ?_ | refine t_exB h ?_ | refine t_exS h ?_ | refine t_exP h ?_ | refine t_exSl h ?_ | refine t_exV h ?_ | refine u_exI ?_ | refine u_exB ?_ | refine u_exS ?_ | refine u_exP ?_ | refine u_exSl ?_ | refine u_exV ?_ | refine u_nilc ?_ | (apply Exists.intro; (repeat apply Exists.intro); refine And.intro rfl ?_) | (refine And.intro ?_ ?_; first | exact trivial | exact rfl | exact t_ld h | (refine lds_s (t_ld h) ?_; (repeat (refine lds_s (t_ld h) ?_)); exact lds_nil) | omega) | refine u_bspT ?_ | refine u_bspF ?_)
        simp only [Int.toNat_natCast]
        refine v_exI (s0.at h (i := i) (j := 0) hw rfl (by simp [intE])) ?_
        repeat (first | (refine s_nwc h ?_; clear h; intro kb M h) | (refine s_stc h ?_; clear h; intro M h) | refine t_exI h ?_ | refine t_exB h ?_ | refine t_exS h ?_ | refine t_exP h ?_ | refine t_exSl h ?_ | refine t_exV h ?_ | refine u_exI ?_ | refine u_exB ?_ | refine u_exS ?_ | refine u_exP ?_ | refine u_exSl ?_ | refine u_exV ?_ | refine u_nilc ?_ | (apply Exists.intro; (repeat apply Exists.intro); refine And.intro rfl ?_) | (refine And.intro ?_ ?_; first | exact trivial | exact rfl | exact t_ld h | (refine lds_s (t_ld h) ?_; (repeat (refine lds_s (t_ld h) ?_)); exact lds_nil) | omega) | refine u_bspT ?_ | refine u_bspF ?_)
        refine ring_Push (v := w) h (fun e M' h' => ?_) fun e M' h' => ?_
        · exfalso
          simp only [List.length_append, List.length_take] at e
          omega
        · clear h
          have h := h'
          clear h'
          repeat (first | (refine s_nwc h ?_; clear h; intro kb M h) | (refine s_stc h ?_; clear h; intro M h) | refine t_exI h ?_ | refine t_exB h ?_ | refine t_exS h ?_ | refine t_exP h ?_ | refine t_exSl h ?_ | refine t_exV h ?_ | refine u_exI ?_ | refine u_exB ?_ | refine u_exS ?_ | refine u_exP ?_ | refine u_exSl ?_ | refine u_exV ?_ | refine u_nilc ?_ | (apply Exists.intro; (repeat apply Exists.intro); refine And.intro rfl ?_) | (refine And.intro ?_ ?_; first | exact trivial | exact rfl | exact t_ld h | (refine lds_s (t_ld h) ?_; (repeat (refine lds_s (t_ld h) ?_)); exact lds_nil) | omega) | refine u_bspT ?_ | refine u_bspF ?_)
          rw [wrap_succ (by omega)]
          refine ⟨out.length - (i + 1), by omega, i + 1, rfl, rfl, by omega, ?_⟩
          rw [take_snoc hw, ← List.append_assoc]
          exact h.sub (by repeat (first | exact .refl | refine .cons (by repeat (first | exact .here | apply Pick.there)) ?_ | apply Sub.drop))
      · obtain rfl : i = out.length := by omega
        rw [List.take_length] at h
        have s0 := h.src (A := A)
        obtain ⟨b0, rfl⟩ := h.row_some (A := A) (by simp) (by decide)
        repeat (first | (refine s_nwc h ?_; clear h; intro kb M h) | (refine s_stc h ?_; clear h; intro M h) | refine t_exI h ?_ | refine t_exB h ?_ | refine t_exS h ?_ | refine t_exP h ?_ | refine t_exSl h ?_ | refine t_exV h ?_ | refine u_exI ?_ | refine u_exB ?_ | refine u_exS ?_ | refine u_exP ?_ | refine u_exSl ?_ | refine u_exV ?_ | refine u_nilc ?_ | (apply Exists.intro; (repeat apply Exists.intro); refine And.intro rfl ?_) | (refine And.intro ?_ ?_; first | exact trivial | exact rfl | exact t_ld h | (refine lds_s (t_ld h) ?_; (repeat (refine lds_s (t_ld h) ?_)); exact lds_nil) | omega) | refine u_bspT ?_ | refine u_bspF ?_)
        refine v_exI (s0.at h (i := 0) (j := 0) rfl rfl (by simp [intE])) ?_
        repeat (first | (refine s_nwc h ?_; clear h; intro kb M h) | (refine s_stc h ?_; clear h; intro M h) | refine t_exI h ?_ | refine t_exB h ?_ | refine t_exS h ?_ | refine t_exP h ?_ | refine t_exSl h ?_ | refine t_exV h ?_ | refine u_exI ?_ | refine u_exB ?_ | refine u_exS ?_ | refine u_exP ?_ | refine u_exSl ?_ | refine u_exV ?_ | refine u_nilc ?_ | (apply Exists.intro; (repeat apply Exists.intro); refine And.intro rfl ?_) | (refine And.intro ?_ ?_; first | exact trivial | exact rfl | exact t_ld h | (refine lds_s (t_ld h) ?_; (repeat (refine lds_s (t_ld h) ?_)); exact lds_nil) | omega) | refine u_bspT ?_ | refine u_bspF ?_)
        exact k true _ (fun _ h1 => absurd h1 hgn) (fun _ => rfl) ((loc_close h b).sub (by repeat (first | exact .refl | refine .cons (by repeat (first | exact .here | apply Pick.there)) ?_ | apply Sub.drop)))
  · have hn : (if IntKind.wrap .i64 (IntKind.wrap .i64 ((x.room : Int) - (x.l.length : Int)) + 1) < IntKind.wrap .i64 (IntKind.wrap .i64 (Int.tdiv (g.length : Int) (if (1 : Int) > p then 1 else p)) + 1) then IntKind.wrap .i64 (IntKind.wrap .i64 ((x.room : Int) - (x.l.length : Int)) + 1) else IntKind.wrap .i64 (IntKind.wrap .i64 (Int.tdiv (g.length : Int) (if (1 : Int) > p then 1 else p)) + 1)).toNat = x.fetchN g p := by
      obtain ⟨q, rfl⟩ := Int.eq_ofNat_of_zero_le (show 0 ≤ p by omega)
      have e1 : (if (1 : Int) > (q : Int) then 1 else (q : Int)) = (q : Int) := by split <;> omega
      rw [e1]
      have hd : g.length / q ≤ g.length := Nat.div_le_self ..
      have e2 : IntKind.wrap .i64 (Int.tdiv (g.length : Int) (q : Int)) = ((g.length / q : Nat) : Int) := wn rfl (by omega)
      rw [e2, wrap_succ (by omega), wrap_in (n := (x.room : Int) - (x.l.length : Int)) (by omega) (by omega), wrap_in (n := (x.room : Int) - (x.l.length : Int) + 1) (by omega) (by omega)]
      unfold Loc.fetchN
      rw [if_neg hp1, Int.toNat_natCast]
      generalize g.length / q = z at *
      split <;> omega
    revert hn
    generalize (if IntKind.wrap .i64 (IntKind.wrap .i64 ((x.room : Int) - (x.l.length : Int)) + 1) < IntKind.wrap .i64 (IntKind.wrap .i64 (Int.tdiv (g.length : Int) (if (1 : Int) > p then 1 else p)) + 1) then IntKind.wrap .i64 (IntKind.wrap .i64 ((x.room : Int) - (x.l.length : Int)) + 1) else IntKind.wrap .i64 (IntKind.wrap .i64 (Int.tdiv (g.length : Int) (if (1 : Int) > p then 1 else p)) + 1)) = n
    intro hn
    refine local_gTake D h (by omega) ?_
    clear h
    intro A c M h
    rw [hn] at h ⊢
    repeat (first | (refine s_nwc h ?_; clear h; intro kb M h) | (refine s_stc h ?_; clear h; intro M h) | refine t_exI h ?_ | refine t_exB h ?_ | refine t_exS h ?_ | refine t_exP h ?_ | refine t_exSl h ?_ | refine t_exV h ?_ | refine u_exI ?_ | refine u_exB ?_ | refine u_exS ?_ | refine u_exP ?_ | refine u_exSl ?_ | refine u_exV ?_ | refine u_nilc ?_ | (apply Exists.intro; (repeat apply Exists.intro); refine And.intro rfl ?_) | (refine And.intro ?_ ?_; first | exact trivial | exact rfl | exact t_ld h | (refine lds_s (t_ld h) ?_; (repeat (refine lds_s (t_ld h) ?_)); exact lds_nil) | omega) | refine u_bspT ?_ | refine u_bspF ?_)
    cases hg : g.take (x.fetchN g p) with
    | nil =>
      have hg0 : g = [] := by
        have := congrArg List.length hg
        rw [List.length_take, List.length_nil] at this
        exact List.length_eq_zero_iff.1 (by omega)
      have hp : x.fetch g p = (x, g, -1) := by unfold Loc.fetch; rw [hg]
      rw [hp] at k
      refine u_bspC rfl ?_
      have e3 : g.drop (x.fetchN g p) = g := by rw [hg0]; simp
      rw [e3] at h
      exact k false _ (fun _ _ => rfl) (fun h1 => absurd hg0 h1) ((loc_close h b).sub (by repeat (first | exact .refl | refine .cons (by repeat (first | exact .here | apply Pick.there)) ?_ | apply Sub.drop)))
    | cons v out =>
      have hp : x.fetch g p = ({ x with l := x.l ++ out }, g.drop (x.fetchN g p), v) := by unfold Loc.fetch; rw [hg]
      rw [hp] at k
      have hol : out.length + 1 ≤ x.fetchN g p := by
        have := congrArg List.length hg
        rw [List.length_take, List.length_cons] at this
        omega
      refine u_bspD (by simp; omega) ?_
      rw [hg] at h
      generalize g.drop (x.fetchN g p) = g2 at *
      have hgn : g ≠ [] := by rintro rfl; simp at hg
      obtain ⟨A0, hA0⟩ : ∃ A0, A0 = slA A 1 c 1 := ⟨_, rfl⟩
      have hcap := h.row_le A
      rw [List.length_cons] at hcap
      simp only [Int.toNat_natCast, List.length_cons]
      repeat (first | (refine s_nwc h ?_; clear h; intro kb M h) | (refine s_stc h ?_; clear h; intro M h) | refine t_exI h ?_ | refine t_exB h ?_ | refine t_exS h ?_ | refine t_exP h ?_ | refine t_exSl h ?_ | refine t_exV h ?_ | refine u_exI ?_ | refine u_exB ?_ | refine u_exS ?_ | refine u_exP ?_ | refine u_exSl ?_ | refine u_exV ?_ | refine u_nilc ?_ | (apply Exists.intro; (repeat apply Exists.intro); refine And.intro rfl ?_) | (refine And.intro ?_ ?_; first | exact trivial | exact rfl | exact t_ld h | (refine lds_s (t_ld h) ?_; (repeat (refine lds_s (t_ld h) ?_)); exact lds_nil) | omega) | refine u_bspT ?_ | refine u_bspF ?_)
      refine ⟨fun d ws M => ∃ i : Nat, ws = [.int .i64 (i : Int)] ∧ d = out.length - i ∧ i ≤ out.length ∧
        Hp R (rowP intE 3 A c (v :: out) :: pt b [.int .i64 x.next, .pointer (some ⟨rb, 0, none⟩)] 224 :: objP ringR rb ⟨x.room, x.l ++ out.take i⟩ :: glP P g2 :: L'') M,
        ⟨_, 0, rfl, rfl, by omega, by rw [List.take_zero, List.append_nil]; exact h.sub (by repeat (first | exact .refl | refine .cons (by repeat (first | exact .here | apply Pick.there)) ?_ | apply Sub.drop))⟩, ?_⟩
      clear h
      rintro d _ ii M ⟨i, he, hd, hi, h⟩
      simp only [List.cons.injEq, Value.int.injEq, and_true, true_and] at he
      subst he
      refine bsp_dec.2 ⟨fun hlt => ?_, fun hge => ?_⟩
      · obtain ⟨w, hw⟩ := idx_ex (l := out) (i := i) (by omega)
        have s0 := Src.suf1 (h.src (A := A)) (by rw [List.length_cons]; exact hcap) 1
        rw [← hA0] at s0 ⊢
        rw [show (v :: out).drop 1 = out from rfl] at s0
        obtain ⟨b0, o0, rfl⟩ := s0.someE h (by omega) (by decide)
        repeat (first | (refine s_nwc h ?_; clear h; intro kb M h) | (refine s_stc h ?_; clear h; intro M h) | refine t_exI h ?_ | refine t_exB h ?_ | refine t_exS h ?_ | refine t_exP h ?_ | refine t_exSl h ?_ | refine t_exV h ?_ | refine u_exI ?_ | refine u_exB ?_ | refine u_exS ?_ | refine u_exP ?_ | refine u_exSl ?_ | refine u_exV ?_ | refine u_nilc ?_ | (apply Exists.intro; (repeat apply Exists.intro); refine And.intro rfl ?_) | (refine And.intro ?_ ?_; first | exact trivial | exact rfl | exact t_ld h | (refine lds_s (t_ld h) ?_; (repeat (refine lds_s (t_ld h) ?_)); exact lds_nil) | omega) | refine u_bspT ?_ | refine u_bspF ?_)
        simp only [Int.toNat_natCast]
        refine v_exI (s0.at h (i := i) (j := 0) hw rfl (by simp [intE])) ?_
        repeat (first | (refine s_nwc h ?_; clear h; intro kb M h) | (refine s_stc h ?_; clear h; intro M h) | refine t_exI h ?_ | refine t_exB h ?_ | refine t_exS h ?_ | refine t_exP h ?_ | refine t_exSl h ?_ | refine t_exV h ?_ | refine u_exI ?_ | refine u_exB ?_ | refine u_exS ?_ | refine u_exP ?_ | refine u_exSl ?_ | refine u_exV ?_ | refine u_nilc ?_ | (apply Exists.intro; (repeat apply Exists.intro); refine And.intro rfl ?_) | (refine And.intro ?_ ?_; first | exact trivial | exact rfl | exact t_ld h | (refine lds_s (t_ld h) ?_; (repeat (refine lds_s (t_ld h) ?_)); exact lds_nil) | omega) | refine u_bspT ?_ | refine u_bspF ?_)
        refine ring_Push (v := w) h (fun e M' h' => ?_) fun e M' h' => ?_
        · exfalso
          simp only [List.length_append, List.length_take] at e
          omega
        · clear h
          have h := h'
          clear h'
          repeat (first | (refine s_nwc h ?_; clear h; intro kb M h) | (refine s_stc h ?_; clear h; intro M h) | refine t_exI h ?_ | refine t_exB h ?_ | refine t_exS h ?_ | refine t_exP h ?_ | refine t_exSl h ?_ | refine t_exV h ?_ | refine u_exI ?_ | refine u_exB ?_ | refine u_exS ?_ | refine u_exP ?_ | refine u_exSl ?_ | refine u_exV ?_ | refine u_nilc ?_ | (apply Exists.intro; (repeat apply Exists.intro); refine And.intro rfl ?_) | (refine And.intro ?_ ?_; first | exact trivial | exact rfl | exact t_ld h | (refine lds_s (t_ld h) ?_; (repeat (refine lds_s (t_ld h) ?_)); exact lds_nil) | omega) | refine u_bspT ?_ | refine u_bspF ?_)
          rw [wrap_succ (by omega)]
          refine ⟨out.length - (i + 1), by omega, i + 1, rfl, rfl, by omega, ?_⟩
          rw [take_snoc hw, ← List.append_assoc]
          exact h.sub (by repeat (first | exact .refl | refine .cons (by repeat (first | exact .here | apply Pick.there)) ?_ | apply Sub.drop))
      · obtain rfl : i = out.length := by omega
        rw [List.take_length] at h
        have s0 := h.src (A := A)
        obtain ⟨b0, rfl⟩ := h.row_some (A := A) (by simp) (by decide)
        repeat (first | (refine s_nwc h ?_; clear h; intro kb M h) | (refine s_stc h ?_; clear h; intro M h) | refine t_exI h ?_ | refine t_exB h ?_ | refine t_exS h ?_ | refine t_exP h ?_ | refine t_exSl h ?_ | refine t_exV h ?_ | refine u_exI ?_ | refine u_exB ?_ | refine u_exS ?_ | refine u_exP ?_ | refine u_exSl ?_ | refine u_exV ?_ | refine u_nilc ?_ | (apply Exists.intro; (repeat apply Exists.intro); refine And.intro rfl ?_) | (refine And.intro ?_ ?_; first | exact trivial | exact rfl | exact t_ld h | (refine lds_s (t_ld h) ?_; (repeat (refine lds_s (t_ld h) ?_)); exact lds_nil) | omega) | refine u_bspT ?_ | refine u_bspF ?_)
        refine v_exI (s0.at h (i := 0) (j := 0) rfl rfl (by simp [intE])) ?_
        repeat (first | (refine s_nwc h ?_; clear h; intro kb M h) | (refine s_stc h ?_; clear h; intro M h) | refine t_exI h ?_ | refine t_exB h ?_ | refine t_exS h ?_ | refine t_exP h ?_ | refine t_exSl h ?_ | refine t_exV h ?_ | refine u_exI ?_ | refine u_exB ?_ | refine u_exS ?_ | refine u_exP ?_ | refine u_exSl ?_ | refine u_exV ?_ | refine u_nilc ?_ | (apply Exists.intro; (repeat apply Exists.intro); refine And.intro rfl ?_) | (refine And.intro ?_ ?_; first | exact trivial | exact rfl | exact t_ld h | (refine lds_s (t_ld h) ?_; (repeat (refine lds_s (t_ld h) ?_)); exact lds_nil) | omega) | refine u_bspT ?_ | refine u_bspF ?_)
        exact k true _ (fun _ h1 => absurd h1 hgn) (fun _ => rfl) ((loc_close h b).sub (by repeat (first | exact .refl | refine .cons (by repeat (first | exact .here | apply Pick.there)) ?_ | apply Sub.drop)))

theorem local_Steal (h : Hp R L M) [o : ObjAt locR b L x L'] [of : ObjAt locR b' L' f L'']
    (k : ∀ t M', ((x.steal f).2.2 = -1 → f.l = [] → t = false) → ((x.steal f).2.2 ≠ -1 ∨ f.l ≠ [] → t = true) → Hp R (objP locR b (x.steal f).1 :: objP locR b' (x.steal f).2.1 :: L'') M' → K (.tuple #[.int .i64 (x.steal f).2.2, .bool t]) M') :
    ACalls Tryz.prog 133 #[.pointer (some ⟨b, 0, none⟩), .pointer (some ⟨b', 0, none⟩)] M K Kp := by
  have bd := loc_bd h (b := b)
  obtain ⟨bd1, bd2, bd3⟩ := bd
  have h0 : Hp R (objP locR b x :: objP locR b' f :: L'') M := (h.pick o.pick).map fun _ hs => hs.tail (fun _ => Star.pick of.pick)
  clear h
  have h := h0
  clear h0
  have bdf := loc_bd h (b := b')
  obtain ⟨bf1, bf2, bf3⟩ := bdf
  refine vc_local_Local_Steal ?_
  have h' := loc_open h (b := b)
  clear h
  obtain ⟨rb, h⟩ := h'
  have h' := loc_open h (b := b')
  clear h
  obtain ⟨rf, h⟩ := h'
  have hne : b' ≠ b := pts_ne h
  refine ptr_ne (Ne.symm hne) (plain_at h (b := b)) (plain_at h (b := b')) ?_
  repeat (first | (refine s_nwc h ?_; clear h; intro kb M h) | (refine s_stc h ?_; clear h; intro M h) | refine t_exI h ?_ | refine t_exB h ?_ | refine t_exS h ?_ | refine t_exP h ?_ | refine t_exSl h ?_ | refine t_exV h ?_ | refine u_exI ?_ | refine u_exB ?_ | refine u_exS ?_ | refine u_exP ?_ | refine u_exSl ?_ | refine u_exV ?_ | refine u_nilc ?_ | (apply Exists.intro; (repeat apply Exists.intro); refine And.intro rfl ?_) | (refine And.intro ?_ ?_; first | exact trivial | exact rfl | exact t_ld h | (refine lds_s (t_ld h) ?_; (repeat (refine lds_s (t_ld h) ?_)); exact lds_nil) | omega) | refine u_bspT ?_ | refine u_bspF ?_)
  refine ring_Len h ?_
  repeat (first | (refine s_nwc h ?_; clear h; intro kb M h) | (refine s_stc h ?_; clear h; intro M h) | refine t_exI h ?_ | refine t_exB h ?_ | refine t_exS h ?_ | refine t_exP h ?_ | refine t_exSl h ?_ | refine t_exV h ?_ | refine u_exI ?_ | refine u_exB ?_ | refine u_exS ?_ | refine u_exP ?_ | refine u_exSl ?_ | refine u_exV ?_ | refine u_nilc ?_ | (apply Exists.intro; (repeat apply Exists.intro); refine And.intro rfl ?_) | (refine And.intro ?_ ?_; first | exact trivial | exact rfl | exact t_ld h | (refine lds_s (t_ld h) ?_; (repeat (refine lds_s (t_ld h) ?_)); exact lds_nil) | omega) | refine u_bspT ?_ | refine u_bspF ?_)
  dsimp only at *
  refine bsp_eq.2 ⟨fun e => ?_, fun e => ?_⟩
  · have hl : f.l = [] := List.length_eq_zero_iff.1 (by omega)
    have hp : x.steal f = (x, { f with next := -1 }, f.next) := by unfold Loc.steal; rw [hl, List.take_nil]
    rw [hp] at k
    repeat (first | (refine s_nwc h ?_; clear h; intro kb M h) | (refine s_stc h ?_; clear h; intro M h) | refine t_exI h ?_ | refine t_exB h ?_ | refine t_exS h ?_ | refine t_exP h ?_ | refine t_exSl h ?_ | refine t_exV h ?_ | refine u_exI ?_ | refine u_exB ?_ | refine u_exS ?_ | refine u_exP ?_ | refine u_exSl ?_ | refine u_exV ?_ | refine u_nilc ?_ | (apply Exists.intro; (repeat apply Exists.intro); refine And.intro rfl ?_) | (refine And.intro ?_ ?_; first | exact trivial | exact rfl | exact t_ld h | (refine lds_s (t_ld h) ?_; (repeat (refine lds_s (t_ld h) ?_)); exact lds_nil) | omega) | refine u_bspT ?_ | refine u_bspF ?_)
    have h2 := loc_close (loc_close h b) b'
    exact k _ _ (fun h1 _ => by dsimp only at h1; rw [h1]; rfl) (fun h1 => by rcases h1 with h1 | h1; exact bne_iff_ne.2 h1; exact absurd hl h1) (h2.sub (by repeat (first | exact .refl | refine .cons (by repeat (first | exact .here | apply Pick.there)) ?_ | apply Sub.drop)))
  · have hn0 : 1 ≤ x.stealN f := by unfold Loc.stealN; omega
    have hn1 : x.l.length + (x.stealN f - 1) ≤ x.room := by unfold Loc.stealN; omega
    repeat (first | (refine s_nwc h ?_; clear h; intro kb M h) | (refine s_stc h ?_; clear h; intro M h) | refine t_exI h ?_ | refine t_exB h ?_ | refine t_exS h ?_ | refine t_exP h ?_ | refine t_exSl h ?_ | refine t_exV h ?_ | refine u_exI ?_ | refine u_exB ?_ | refine u_exS ?_ | refine u_exP ?_ | refine u_exSl ?_ | refine u_exV ?_ | refine u_nilc ?_ | (apply Exists.intro; (repeat apply Exists.intro); refine And.intro rfl ?_) | (refine And.intro ?_ ?_; first | exact trivial | exact rfl | exact t_ld h | (refine lds_s (t_ld h) ?_; (repeat (refine lds_s (t_ld h) ?_)); exact lds_nil) | omega) | refine u_bspT ?_ | refine u_bspF ?_)
    refine ring_Room h ?_
    repeat (first | (refine s_nwc h ?_; clear h; intro kb M h) | (refine s_stc h ?_; clear h; intro M h) | refine t_exI h ?_ | refine t_exB h ?_ | refine t_exS h ?_ | refine t_exP h ?_ | refine t_exSl h ?_ | refine t_exV h ?_ | refine u_exI ?_ | refine u_exB ?_ | refine u_exS ?_ | refine u_exP ?_ | refine u_exSl ?_ | refine u_exV ?_ | refine u_nilc ?_ | (apply Exists.intro; (repeat apply Exists.intro); refine And.intro rfl ?_) | (refine And.intro ?_ ?_; first | exact trivial | exact rfl | exact t_ld h | (refine lds_s (t_ld h) ?_; (repeat (refine lds_s (t_ld h) ?_)); exact lds_nil) | omega) | refine u_bspT ?_ | refine u_bspF ?_)
    refine ring_Len h ?_
    repeat (first | (refine s_nwc h ?_; clear h; intro kb M h) | (refine s_stc h ?_; clear h; intro M h) | refine t_exI h ?_ | refine t_exB h ?_ | refine t_exS h ?_ | refine t_exP h ?_ | refine t_exSl h ?_ | refine t_exV h ?_ | refine u_exI ?_ | refine u_exB ?_ | refine u_exS ?_ | refine u_exP ?_ | refine u_exSl ?_ | refine u_exV ?_ | refine u_nilc ?_ | (apply Exists.intro; (repeat apply Exists.intro); refine And.intro rfl ?_) | (refine And.intro ?_ ?_; first | exact trivial | exact rfl | exact t_ld h | (refine lds_s (t_ld h) ?_; (repeat (refine lds_s (t_ld h) ?_)); exact lds_nil) | omega) | refine u_bspT ?_ | refine u_bspF ?_)
    dsimp only at *
    have hn : (if IntKind.wrap .i64 (IntKind.wrap .i64 ((x.room : Int) - (x.l.length : Int)) + 1) < IntKind.wrap .i64 ((f.l.length : Int) - IntKind.wrap .i64 (Int.tdiv (f.l.length : Int) 2)) then IntKind.wrap .i64 (IntKind.wrap .i64 ((x.room : Int) - (x.l.length : Int)) + 1) else IntKind.wrap .i64 ((f.l.length : Int) - IntKind.wrap .i64 (Int.tdiv (f.l.length : Int) 2))).toNat = x.stealN f := by
      have e2 : IntKind.wrap .i64 (Int.tdiv (f.l.length : Int) 2) = ((f.l.length / 2 : Nat) : Int) := wn rfl (by omega)
      rw [e2, wrap_in (n := (x.room : Int) - (x.l.length : Int)) (by omega) (by omega), wrap_in (n := (x.room : Int) - (x.l.length : Int) + 1) (by omega) (by omega), wrap_in (n := (f.l.length : Int) - ((f.l.length / 2 : Nat) : Int)) (by omega) (by omega)]
      unfold Loc.stealN
      split <;> omega
    revert hn
    generalize (if IntKind.wrap .i64 (IntKind.wrap .i64 ((x.room : Int) - (x.l.length : Int)) + 1) < IntKind.wrap .i64 ((f.l.length : Int) - IntKind.wrap .i64 (Int.tdiv (f.l.length : Int) 2)) then IntKind.wrap .i64 (IntKind.wrap .i64 ((x.room : Int) - (x.l.length : Int)) + 1) else IntKind.wrap .i64 ((f.l.length : Int) - IntKind.wrap .i64 (Int.tdiv (f.l.length : Int) 2))) = n
    intro hn
    refine ring_Take h ?_
    clear h
    intro A c M h
    rw [hn] at h ⊢
    repeat (first | (refine s_nwc h ?_; clear h; intro kb M h) | (refine s_stc h ?_; clear h; intro M h) | refine t_exI h ?_ | refine t_exB h ?_ | refine t_exS h ?_ | refine t_exP h ?_ | refine t_exSl h ?_ | refine t_exV h ?_ | refine u_exI ?_ | refine u_exB ?_ | refine u_exS ?_ | refine u_exP ?_ | refine u_exSl ?_ | refine u_exV ?_ | refine u_nilc ?_ | (apply Exists.intro; (repeat apply Exists.intro); refine And.intro rfl ?_) | (refine And.intro ?_ ?_; first | exact trivial | exact rfl | exact t_ld h | (refine lds_s (t_ld h) ?_; (repeat (refine lds_s (t_ld h) ?_)); exact lds_nil) | omega) | refine u_bspT ?_ | refine u_bspF ?_)
    cases hg : f.l.take (x.stealN f) with
    | nil =>
      exfalso
      have := congrArg List.length hg
      rw [List.length_take, List.length_nil] at this
      omega
    | cons v out =>
      have hp : x.steal f = ({ x with l := x.l ++ out }, { f with l := f.l.drop (x.stealN f) }, v) := by unfold Loc.steal; rw [hg]
      rw [hp] at k
      have hol : out.length + 1 ≤ x.stealN f := by
        have := congrArg List.length hg
        rw [List.length_take, List.length_cons] at this
        omega
      dsimp only at h
      rw [hg] at h
      generalize f.l.drop (x.stealN f) = f2 at *
      have hgn : f.l ≠ [] := by intro e0; rw [e0] at hg; simp at hg
      obtain ⟨A0, hA0⟩ : ∃ A0, A0 = slA A 1 c 1 := ⟨_, rfl⟩
      have hcap := h.row_le A
      rw [List.length_cons] at hcap
      simp only [Int.toNat_natCast, List.length_cons]
      repeat (first | (refine s_nwc h ?_; clear h; intro kb M h) | (refine s_stc h ?_; clear h; intro M h) | refine t_exI h ?_ | refine t_exB h ?_ | refine t_exS h ?_ | refine t_exP h ?_ | refine t_exSl h ?_ | refine t_exV h ?_ | refine u_exI ?_ | refine u_exB ?_ | refine u_exS ?_ | refine u_exP ?_ | refine u_exSl ?_ | refine u_exV ?_ | refine u_nilc ?_ | (apply Exists.intro; (repeat apply Exists.intro); refine And.intro rfl ?_) | (refine And.intro ?_ ?_; first | exact trivial | exact rfl | exact t_ld h | (refine lds_s (t_ld h) ?_; (repeat (refine lds_s (t_ld h) ?_)); exact lds_nil) | omega) | refine u_bspT ?_ | refine u_bspF ?_)
      refine ⟨fun d ws M => ∃ i : Nat, ws = [.int .i64 (i : Int)] ∧ d = out.length - i ∧ i ≤ out.length ∧
        Hp R (rowP intE 3 A c (v :: out) :: pt b [.int .i64 x.next, .pointer (some ⟨rb, 0, none⟩)] 224 :: objP ringR rb ⟨x.room, x.l ++ out.take i⟩ :: objP ringR rf ⟨f.room, f2⟩ :: pt b' [.int .i64 f.next, .pointer (some ⟨rf, 0, none⟩)] 224 :: L'') M,
        ⟨_, 0, rfl, rfl, by omega, by rw [List.take_zero, List.append_nil]; exact h.sub (by repeat (first | exact .refl | refine .cons (by repeat (first | exact .here | apply Pick.there)) ?_ | apply Sub.drop))⟩, ?_⟩
      clear h
      rintro d _ ii M ⟨i, he, hd, hi, h⟩
      simp only [List.cons.injEq, Value.int.injEq, and_true, true_and] at he
      subst he
      refine bsp_dec.2 ⟨fun hlt => ?_, fun hge => ?_⟩
      · obtain ⟨w, hw⟩ := idx_ex (l := out) (i := i) (by omega)
        have s0 := Src.suf1 (h.src (A := A)) (by rw [List.length_cons]; exact hcap) 1
        rw [← hA0] at s0 ⊢
        rw [show (v :: out).drop 1 = out from rfl] at s0
        obtain ⟨b0, o0, rfl⟩ := s0.someE h (by omega) (by decide)
        repeat (first | (refine s_nwc h ?_; clear h; intro kb M h) | (refine s_stc h ?_; clear h; intro M h) | refine t_exI h ?_ | refine t_exB h ?_ | refine t_exS h ?_ | refine t_exP h ?_ | refine t_exSl h ?_ | refine t_exV h ?_ | refine u_exI ?_ | refine u_exB ?_ | refine u_exS ?_ | refine u_exP ?_ | refine u_exSl ?_ | refine u_exV ?_ | refine u_nilc ?_ | (apply Exists.intro; (repeat apply Exists.intro); refine And.intro rfl ?_) | (refine And.intro ?_ ?_; first | exact trivial | exact rfl | exact t_ld h | (refine lds_s (t_ld h) ?_; (repeat (refine lds_s (t_ld h) ?_)); exact lds_nil) | omega) | refine u_bspT ?_ | refine u_bspF ?_)
        simp only [Int.toNat_natCast]
        refine v_exI (s0.at h (i := i) (j := 0) hw rfl (by simp [intE])) ?_
        repeat (first | (refine s_nwc h ?_; clear h; intro kb M h) | (refine s_stc h ?_; clear h; intro M h) | refine t_exI h ?_ | refine t_exB h ?_ | refine t_exS h ?_ | refine t_exP h ?_ | refine t_exSl h ?_ | refine t_exV h ?_ | refine u_exI ?_ | refine u_exB ?_ | refine u_exS ?_ | refine u_exP ?_ | refine u_exSl ?_ | refine u_exV ?_ | refine u_nilc ?_ | (apply Exists.intro; (repeat apply Exists.intro); refine And.intro rfl ?_) | (refine And.intro ?_ ?_; first | exact trivial | exact rfl | exact t_ld h | (refine lds_s (t_ld h) ?_; (repeat (refine lds_s (t_ld h) ?_)); exact lds_nil) | omega) | refine u_bspT ?_ | refine u_bspF ?_)
        refine ring_Push (v := w) h (fun e M' h' => ?_) fun e M' h' => ?_
        · exfalso
          simp only [List.length_append, List.length_take] at e
          omega
        · clear h
          have h := h'
          clear h'
          repeat (first | (refine s_nwc h ?_; clear h; intro kb M h) | (refine s_stc h ?_; clear h; intro M h) | refine t_exI h ?_ | refine t_exB h ?_ | refine t_exS h ?_ | refine t_exP h ?_ | refine t_exSl h ?_ | refine t_exV h ?_ | refine u_exI ?_ | refine u_exB ?_ | refine u_exS ?_ | refine u_exP ?_ | refine u_exSl ?_ | refine u_exV ?_ | refine u_nilc ?_ | (apply Exists.intro; (repeat apply Exists.intro); refine And.intro rfl ?_) | (refine And.intro ?_ ?_; first | exact trivial | exact rfl | exact t_ld h | (refine lds_s (t_ld h) ?_; (repeat (refine lds_s (t_ld h) ?_)); exact lds_nil) | omega) | refine u_bspT ?_ | refine u_bspF ?_)
          rw [wrap_succ (by omega)]
          refine ⟨out.length - (i + 1), by omega, i + 1, rfl, rfl, by omega, ?_⟩
          rw [take_snoc hw, ← List.append_assoc]
          exact h.sub (by repeat (first | exact .refl | refine .cons (by repeat (first | exact .here | apply Pick.there)) ?_ | apply Sub.drop))
      · obtain rfl : i = out.length := by omega
        rw [List.take_length] at h
        have s0 := h.src (A := A)
        obtain ⟨b0, rfl⟩ := h.row_some (A := A) (by simp) (by decide)
        repeat (first | (refine s_nwc h ?_; clear h; intro kb M h) | (refine s_stc h ?_; clear h; intro M h) | refine t_exI h ?_ | refine t_exB h ?_ | refine t_exS h ?_ | refine t_exP h ?_ | refine t_exSl h ?_ | refine t_exV h ?_ | refine u_exI ?_ | refine u_exB ?_ | refine u_exS ?_ | refine u_exP ?_ | refine u_exSl ?_ | refine u_exV ?_ | refine u_nilc ?_ | (apply Exists.intro; (repeat apply Exists.intro); refine And.intro rfl ?_) | (refine And.intro ?_ ?_; first | exact trivial | exact rfl | exact t_ld h | (refine lds_s (t_ld h) ?_; (repeat (refine lds_s (t_ld h) ?_)); exact lds_nil) | omega) | refine u_bspT ?_ | refine u_bspF ?_)
        refine v_exI (s0.at h (i := 0) (j := 0) rfl rfl (by simp [intE])) ?_
        repeat (first | (refine s_nwc h ?_; clear h; intro kb M h) | (refine s_stc h ?_; clear h; intro M h) | refine t_exI h ?_ | refine t_exB h ?_ | refine t_exS h ?_ | refine t_exP h ?_ | refine t_exSl h ?_ | refine t_exV h ?_ | refine u_exI ?_ | refine u_exB ?_ | refine u_exS ?_ | refine u_exP ?_ | refine u_exSl ?_ | refine u_exV ?_ | refine u_nilc ?_ | (apply Exists.intro; (repeat apply Exists.intro); refine And.intro rfl ?_) | (refine And.intro ?_ ?_; first | exact trivial | exact rfl | exact t_ld h | (refine lds_s (t_ld h) ?_; (repeat (refine lds_s (t_ld h) ?_)); exact lds_nil) | omega) | refine u_bspT ?_ | refine u_bspF ?_)
        have h2 := loc_close (loc_close h b) b'
        exact k true _ (fun _ h1 => absurd h1 hgn) (fun _ => rfl) (h2.sub (by repeat (first | exact .refl | refine .cons (by repeat (first | exact .here | apply Pick.there)) ?_ | apply Sub.drop)))
end
end Go.Proofs
