/- A part of proofs about functions of one program: a condition over a partial memory that is enough for a call, and what calls answer by it. No condition of its own. -/
import Derived.Test.YtfjgcljdnhkmaaaAux
set_option linter.unusedVariables false
/- Maps with whole numbers as keys, of which nothing is deleted. -/
namespace Go.AF
abbrev AL := List (Int × Value)
def entsFrom : Nat → AL → List MapEntry
  | _, [] => []
  | i, (k, v) :: l => ⟨.int .i64 k, v, i⟩ :: entsFrom (i + 1) l
/-- A map as it was filled. -/
def mapO (l : AL) : Obj := .map (entsFrom 0 l).toArray l.length
def aidx (k : Int) : AL → Nat → Option (Nat × Value)
  | [], _ => none
  | (k', v) :: l, i => if k = k' then some (i, v) else aidx k l (i + 1)
def aget (l : AL) (k : Int) : Option Value := (aidx k l 0).map (·.2)
def aset (l : AL) (k : Int) (v : Value) : AL := match aidx k l 0 with
  | some (i, _) => l.set i (k, v)
  | none => l ++ [(k, v)]
theorem ents_len : ∀ (l : AL) (i : Nat), (entsFrom i l).length = l.length
  | [], _ => rfl
  | (k, v) :: l, i => by simp [entsFrom, ents_len l]
theorem findNow_ents {kd : IntKind} (k : Int) : ∀ (l : AL) (i b : Nat), Instr.findNow (.int kd) (.int .i64 k) (entsFrom b l) i = some (aidx k l i)
  | [], _, _ => rfl
  | (k', v) :: l, i, b => by
    simp only [entsFrom, Instr.findNow, Instr.sameNow, if_true, aidx]
    by_cases h : k = k'
    · simp [h]
    · have : (k == k') = false := by simp [h]
      rw [this, if_neg h]
      exact findNow_ents k l (i + 1) (b + 1)
theorem aidx_at {k : Int} : ∀ {l : AL} {i j : Nat} {v : Value}, aidx k l i = some (j, v) → i ≤ j ∧ l[j - i]? = some (k, v)
  | [], _, _, _, h => by simp [aidx] at h
  | (k', v') :: l, i, j, v, h => by
    simp only [aidx] at h
    split at h
    · rename_i e; cases h; subst e; exact ⟨Nat.le_refl _, by simp⟩
    · obtain ⟨h1, h2⟩ := aidx_at h
      refine ⟨by omega, ?_⟩
      rw [show j - i = (j - (i + 1)) + 1 from by omega, List.getElem?_cons_succ]; exact h2
theorem ents_at : ∀ {l : AL} {i b : Nat} {k : Int} {v : Value}, l[i]? = some (k, v) → (entsFrom b l)[i]? = some ⟨.int .i64 k, v, b + i⟩
  | [], _, _, _, _, h => by simp at h
  | (k', v') :: l, 0, b, k, v, h => by simp at h; obtain ⟨rfl, rfl⟩ := h; rfl
  | (k', v') :: l, i + 1, b, k, v, h => by
    have := ents_at (b := b + 1) (show l[i]? = some (k, v) from by simpa using h)
    simp only [entsFrom, List.getElem?_cons_succ, this]
    congr 2; omega
theorem ents_set : ∀ {l : AL} {i b : Nat} {k : Int} {v w : Value}, l[i]? = some (k, w) → (entsFrom b l).modify i (fun e => { e with key := .int .i64 k, val := v }) = entsFrom b (l.set i (k, v))
  | [], _, _, _, _, _, h => by simp at h
  | (k', v') :: l, 0, b, k, v, w, h => by simp at h; obtain ⟨rfl, rfl⟩ := h; rfl
  | (k', v') :: l, i + 1, b, k, v, w, h => by
    have := ents_set (b := b + 1) (v := v) (show l[i]? = some (k, w) from by simpa using h)
    simp only [entsFrom, List.modify_succ_cons, List.set_cons_succ, this]
theorem ents_app : ∀ (l m : AL) (b : Nat), entsFrom b (l ++ m) = entsFrom b l ++ entsFrom (b + l.length) m
  | [], m, b => by simp [entsFrom]
  | (k, v) :: l, m, b => by simp only [List.cons_append, entsFrom, ents_app l m (b + 1), List.length_cons]; congr 3; omega
/-! what stands in it -/
def agetR : AL → Int → Option Value
  | [], _ => none
  | (k', v) :: l, k => if k = k' then some v else agetR l k
def asetR : AL → Int → Value → AL
  | [], k, v => [(k, v)]
  | (k', w) :: l, k, v => if k = k' then (k, v) :: l else (k', w) :: asetR l k v
theorem aidx_map (k : Int) : ∀ (l : AL) (i : Nat), (aidx k l i).map (·.2) = agetR l k
  | [], _ => rfl
  | (k', v) :: l, i => by
    simp only [aidx, agetR]
    split
    · rfl
    · exact aidx_map k l (i + 1)
theorem aget_eq (l : AL) (k : Int) : aget l k = agetR l k := aidx_map k l 0
theorem aidx_shift (k : Int) : ∀ (l : AL) (i j : Nat), aidx k l (i + j) = (aidx k l i).map fun x => (x.1 + j, x.2)
  | [], _, _ => rfl
  | (k', v) :: l, i, j => by
    simp only [aidx]
    split
    · rfl
    · rw [show i + j + 1 = (i + 1) + j from by omega]; exact aidx_shift k l (i + 1) j
theorem aset_eq (k : Int) (v : Value) : ∀ (l : AL), aset l k v = asetR l k v
  | [] => rfl
  | (k', w) :: l => by
    have ih := aset_eq k v l
    unfold aset at ih ⊢
    simp only [aidx, asetR]
    by_cases h : k = k'
    · rw [if_pos h, if_pos h]; rfl
    · rw [if_neg h, if_neg h]
      have := aidx_shift k l 0 1
      rw [this]
      cases ha : aidx k l 0 with
      | none => rw [ha] at ih; simp only [Option.map_none]; rw [← ih]; rfl
      | some x => obtain ⟨i, u⟩ := x; rw [ha] at ih; simp only [Option.map_some, List.set_cons_succ]; rw [← ih]
theorem aget_aset (k k' : Int) (v : Value) : ∀ (l : AL), agetR (asetR l k v) k' = if k' = k then some v else agetR l k'
  | [] => by simp only [asetR, agetR]
  | (q, w) :: l => by
    have ih := aget_aset k k' v l
    simp only [asetR]
    by_cases h : k = q
    · subst h
      rw [if_pos rfl]
      simp only [agetR]
      by_cases h2 : k' = k
      · rw [if_pos h2, if_pos h2]
      · rw [if_neg h2, if_neg h2, if_neg h2]
    · rw [if_neg h]
      simp only [agetR, ih]
      by_cases h2 : k' = q
      · rw [if_pos h2]
        rw [if_neg (by rw [h2]; exact Ne.symm h)]
        rw [if_pos h2]
      · rw [if_neg h2]
        by_cases h3 : k' = k
        · rw [if_pos h3, if_pos h3]
        · rw [if_neg h3, if_neg h3, if_neg h2]
theorem aget_none {k : Int} : ∀ {l : AL}, agetR l k = none ↔ k ∉ l.map (·.1)
  | [] => by simp [agetR]
  | (q, w) :: l => by
    have ih := aget_none (k := k) (l := l)
    simp only [agetR, List.map_cons, List.mem_cons, not_or]
    by_cases h : k = q
    · rw [if_pos h]; simp [h]
    · rw [if_neg h]; simp [h, ih]
theorem aset_keys (k : Int) (v : Value) : ∀ (l : AL), (asetR l k v).map (·.1) = if k ∈ l.map (·.1) then l.map (·.1) else l.map (·.1) ++ [k]
  | [] => by simp [asetR]
  | (q, w) :: l => by
    have ih := aset_keys k v l
    simp only [asetR]
    by_cases h : k = q
    · subst h; rw [if_pos rfl, if_pos (by simp)]; simp
    · rw [if_neg h, List.map_cons, ih]
      by_cases h2 : k ∈ l.map (·.1)
      · rw [if_pos h2, if_pos (by simp only [List.map_cons, List.mem_cons]; exact .inr h2)]; rfl
      · rw [if_neg h2, if_neg (by simp only [List.map_cons, List.mem_cons, not_or]; exact ⟨h, h2⟩)]; simp
theorem aset_nodup {k : Int} {v : Value} {l : AL} (h : (l.map (·.1)).Nodup) : ((asetR l k v).map (·.1)).Nodup := by
  rw [aset_keys]
  split
  · exact h
  · rename_i hn
    rw [List.nodup_append]
    refine ⟨h, by simp, fun a ha b hb => ?_⟩
    simp only [List.mem_singleton] at hb
    subst hb
    rintro rfl
    exact hn ha
/-- How often each number was seen. -/
def Cnt (l : AL) (seen : List Int) : Prop := (l.map (·.1)).Nodup ∧ ∀ v, agetR l v = if seen.count v = 0 then none else some (.int .i64 (seen.count v : Int))
theorem Cnt.nil : Cnt [] [] := ⟨by simp, fun v => by simp [agetR]⟩
theorem Cnt.get {l : AL} {seen : List Int} (h : Cnt l seen) (v : Int) : (aget l v).getD (.int .i64 0) = .int .i64 (seen.count v : Int) := by
  rw [aget_eq, h.2 v]; split
  · rename_i e; rw [e]; rfl
  · rfl
theorem Cnt.step {l : AL} {seen : List Int} (h : Cnt l seen) (v : Int) : Cnt (aset l v (.int .i64 ((seen.count v + 1 : Nat) : Int))) (seen ++ [v]) := by
  rw [aset_eq]
  refine ⟨aset_nodup h.1, fun w => ?_⟩
  rw [aget_aset, h.2 w, List.count_append]
  by_cases hw : w = v
  · subst hw; simp
  · rw [if_neg hw]
    have : [v].count w = 0 := by rw [List.count_eq_zero]; simp [hw]
    rw [this, Nat.add_zero]
section
variable {R : Mem} {L L' : List HP} {M : Mem} {P : Program} {t kt et : TypeId} {r : Nat} {l : AL} {k : Int} {kd : IntKind}
class ObAt (b : Nat) (L : List HP) (o : outParam Obj) (L' : outParam (List HP)) : Prop where
  pick : Pick L (ob b o) L'
instance ObAt.here {b : Nat} {o : Obj} {L : List HP} : ObAt b (ob b o :: L) o L := ⟨.here⟩
instance (priority := low) ObAt.there {b : Nat} {o : Obj} {Q : HP} {L L' : List HP} [h : ObAt b L o L'] : ObAt b (Q :: L) o (Q :: L') := ⟨.there h.pick⟩
theorem rd_checkKey {P : Program} {M : Mem} {b : Bool} (hk : P.underlying kt = some (.int kd)) : rdS P (Instr.checkKey b 10000 kt (.int .i64 k)) M = some () := by
  unfold Instr.checkKey
  rw [rd_bind, rd_underlying hk]; rfl
theorem rd_findKey {P : Program} {M : Mem} (hk : P.underlying kt = some (.int kd)) : rdS P (Instr.findKey kt (.int .i64 k) (entsFrom 0 l)) M = some (aidx k l 0) := by
  unfold Instr.findKey
  rw [rd_bind, rd_underlying hk, Option.bind_some, findNow_ents]; rfl
theorem awp_getObj {P : Program} {α : Type} {M : Mem} {r : Nat} {l : AL} {f : Obj → Sem α} {K : α → Mem → Prop} {Kp : Value → Mem → Prop} (hb : M r = some (mapO l)) (h : awp P (f (mapO l)) M K Kp) : awp P (getObj r >>= f) M K Kp := by
  refine awp_bind P _ _ ?_
  unfold getObj
  simp only [awp, hb, mapO]
  exact h
theorem s_lookup {z : Value} {i : TypeInfo} {K : Value → Mem → Prop} {Kp : List PanicEntry → Mem → Prop} (h : Hp R L M) [p : ObAt r L (mapO l) L'] (hu : P.underlying t = some (.map kt et)) (hk : P.underlying kt = some (.int kd)) (hi : P.info? et = some i) (hz : i.zero = some z)
    (g : K ((aget l k).getD z) M) : semK P (Instr.lookup t (.map (some r)) (.int .i64 k) false) M K Kp := by
  have hb : M r = some (mapO l) := (h.pick p.pick).ob_at
  unfold semK Instr.lookup
  refine awp_run (rd_underlying hu M) ?_
  simp only
  refine awp_bind P _ _ ?_
  refine awp_getObj hb ?_
  simp only [mapO]
  refine awp_run (x := ()) (rd_checkKey hk) ?_
  refine awp_run (rd_findKey hk) ?_
  unfold aget at g
  cases ha : aidx k l 0 with
  | none =>
    rw [ha] at g
    simp only
    have hz0 : rdS P (zeroValue et) M = some z := by rw [zeroInfo]; simp [zeroOf, hi, hz]
    refine awp_run hz0 ?_
    refine awp_run (x := (z, false)) rfl ?_
    exact g
  | some x =>
    rw [ha] at g
    exact g
theorem s_mapUpdate {v : Value} {K : Mem → Prop} {Kp : List PanicEntry → Mem → Prop} (h : Hp R L M) [p : ObAt r L (mapO l) L'] (hu : P.underlying t = some (.map kt et)) (hk : P.underlying kt = some (.int kd))
    (g : ∀ M', Hp R (ob r (mapO (aset l k v)) :: L') M' → K M') : semU P (Instr.mapUpdate t (.map (some r)) (.int .i64 k) v) M K Kp := by
  have h1 := h.pick p.pick
  have hb : M r = some (mapO l) := h1.ob_at
  have fin : ∀ o, o = mapO (aset l k v) → K (M.set r o) := fun o e => by
    subst e
    exact g _ (h1.set (x := mapO l) (fun A ha => by unfold ob at ha; exact ha) fun A ha => by unfold ob; exact set_same)
  unfold semU Instr.mapUpdate
  refine awp_run (rd_underlying hu M) ?_
  simp only
  refine awp_getObj hb ?_
  simp only [mapO]
  refine awp_run (x := ()) (rd_checkKey hk) ?_
  refine awp_run (rd_findKey hk) ?_
  have hset : ∀ o : Obj, K (M.set r o) → awp P (setObj r o) M (fun _ => K) (fun v M' => Kp [{ v, recovered := false }] M') := fun o hK => by
    unfold setObj
    simp only [awp, hb, mapO]
    exact hK
  cases ha : aidx k l 0 with
  | none =>
    simp only
    refine hset _ (fin _ ?_)
    unfold aset mapO
    rw [ha]
    simp only [List.push_toArray, List.length_append, List.length_singleton]
    rw [ents_app]; simp [entsFrom]
  | some x =>
    obtain ⟨i, w⟩ := x
    obtain ⟨_, hw⟩ := aidx_at ha
    rw [Nat.sub_zero] at hw
    simp only
    have he := ents_at (b := 0) hw
    refine awp_run (x := Value.int .i64 k) ?_ ?_
    · have : (((entsFrom 0 l).toArray[i]?).map (·.key)).getD (.int .i64 k) = .int .i64 k := by simp [he]
      rw [this]
      unfold Instr.keyThatStays
      simp [Instr.sameBits]; rfl
    · refine hset _ (fin _ ?_)
      unfold aset mapO
      rw [ha]
      simp only [List.length_set]
      rw [← ents_set (v := v) hw]
      simp [List.modify_toArray]
theorem s_mapLen {K : Value → Mem → Prop} {Kp : List PanicEntry → Mem → Prop} {ty : TypeId} (h : Hp R L M) [p : ObAt r L (mapO l) L'] (hu : P.underlying t = some (.map kt et))
    (g : K (.int .i64 (l.length : Int)) M) : semK P (Builtin.len_ #[t] ty #[.map (some r)]) M K Kp := by
  have hb : M r = some (mapO l) := (h.pick p.pick).ob_at
  unfold semK Builtin.len_
  simp only [List.getElem?_toArray, List.getElem?_cons_zero]
  refine awp_run (rd_underlying hu M) ?_
  simp only
  refine awp_getObj hb ?_
  simp only [mapO, List.size_toArray, ents_len]
  exact g
/-- All numbers of a row are counted. -/
theorem count_loop {seen xs : List Int} {A : Option Addr} {m : Nat} {i : TypeInfo} {REST : Mem → Prop} {Kp : List PanicEntry → Mem → Prop} (h : Hp R (ob r (mapO l) :: L) M) (hA : Src R L A (intE.cells xs)) (hm : m = xs.length) (hc : Cnt l seen) (hs : seen.length + xs.length ≤ 1000000000)
    (hu : P.underlying t = some (.map kt et)) (hk : P.underlying kt = some (.int kd)) (hi : P.info? et = some i) (hz : i.zero = some (.int .i64 0))
    (k : ∀ l' M', Cnt l' (seen ++ xs) → Hp R (ob r (mapO l') :: L) M' → REST M') :
    ∃ I : Nat → List Value → Mem → Prop, (∃ k2 : Nat, I k2 [.int .i64 0] M) ∧ ∀ k3 : Nat, ∀ junk : Nat → Value, ∀ n : Int, ∀ M8 : Mem, (I k3 [.int .i64 n] M8) → bsp (decide ((n : Int) < ((m : Nat) : Int)))
      (((0 : Int) ≤ n) ∧ ((n : Int) < ((m : Nat) : Int)) ∧ nilc A fun kb ko => exI (Mem.ld M8 ⟨kb, (ko + (Int.toNat n)), none⟩) .i64 fun n43 =>
        semK P (Go.Instr.lookup t (.map (some r)) (.int .i64 n43) false) M8 (fun v44 M45 => exI (some v44) .i64 fun n46 =>
        semU P (Go.Instr.mapUpdate t (.map (some r)) (.int .i64 n43) (.int .i64 (IntKind.wrap .i64 (n46 + 1)))) M45 (fun M47 => ∃ k48 : Nat, (k48 < k3) ∧ I k48 [.int .i64 (IntKind.wrap .i64 (n + 1))] M47) Kp) Kp)
      (REST M8) := by
  subst hm
  refine ⟨fun d ws M => ∃ (i : Nat) (l' : AL), ws = [.int .i64 (i : Int)] ∧ d = xs.length - i ∧ i ≤ xs.length ∧ Cnt l' (seen ++ xs.take i) ∧ Hp R (ob r (mapO l') :: L) M, ⟨_, 0, l, rfl, rfl, by omega, by simpa using hc, h⟩, ?_⟩
  clear h hc
  rintro d _ ii M ⟨i, l', he, hd, hi2, hc, h⟩
  simp only [List.cons.injEq, Value.int.injEq, and_true, true_and] at he
  subst he
  refine bsp_dec.2 ⟨fun hlt => ?_, fun hge => ?_⟩
  · obtain ⟨w, hw⟩ := idx_ex (l := xs) (i := i) (by omega)
    obtain ⟨b, o, rfl⟩ := hA.cons.someE h (by omega) (by decide)
    refine ⟨by omega, hlt, u_nilc ?_⟩
    simp only [Int.toNat_natCast]
    refine v_exI (Src.at hA.cons h (i := i) (j := 0) hw rfl (by simp [intE])) ?_
    refine s_lookup h hu hk hi hz ?_
    rw [hc.get]
    refine u_exI ?_
    have hcl : (seen ++ xs.take i).count w ≤ seen.length + i := by
      refine Nat.le_trans List.count_le_length ?_
      rw [List.length_append, List.length_take]; omega
    rw [wrap_succ (by omega), wrap_succ (by omega)]
    refine s_mapUpdate h hu hk fun M' h' => ?_
    refine ⟨xs.length - (i + 1), by omega, i + 1, _, rfl, rfl, by omega, ?_, h'⟩
    rw [take_snoc hw, ← List.append_assoc]
    exact hc.step w
  · obtain rfl : i = xs.length := by omega
    rw [List.take_length] at hc
    exact k _ _ hc h
end
end Go.AF
