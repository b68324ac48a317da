/- A part of proofs about one program. -/
import Derived.Test.YtnnlgknlialpmaaGreatZTaperSumsAgg
import Derived.Test.YtnnlgknlialpmaaGreatZTaperSums1
set_option linter.unusedVariables false
namespace Go.AF
theorem K4 {p q : Prop} [Decidable p] [Decidable q] {X Y : Prop} (hy : Y) (hx : p → q → X) : aQ (decide p) (aQ (decide q) X Y) Y := by
 by_cases hp : p
 ·by_cases hq : q
  ·simp only [hp, hq, decide_true]; exact ae (ae (hx hp hq))
  ·simp only [hp, hq, decide_true, decide_false]; exact ae (ai hy)
 ·simp only [hp, decide_false]; exact ai hy
theorem Ym {α : Type} {f : Nat → α} {q m : Nat} {v : α} : ((List.range m).map f).set q v = (List.range m).map (fun j => if j = q then v else f j) := by
 apply List.ext_getElem
 ·simp
 ·intro j h1 h2
  simp only [List.getElem_set, List.getElem_map, List.getElem_range]
  by_cases hj : q = j
  ·rw [if_pos hj, if_pos hj.symm]
  ·rw [if_neg hj, if_neg (Ne.symm hj)]
theorem Vm {α : Type} {f : Nat → α} {q m : Nat} (h : q < m) : ((List.range m).map f)[q]? = some (f q) := by simp [h]
theorem GD {α : Type} {f g : Nat → α} {m : Nat} (h : ∀ j, j < m → f j = g j) : (List.range m).map f = (List.range m).map g := List.map_congr_left fun j hj => h j (List.mem_range.1 hj)
theorem wn {z : Int} {n : Nat} (e : z = (n : Int)) (h : n < 9223372036854775808) : IntKind.wrap .i64 z = (n : Int) := by rw [e]; exact m8 h
theorem Src.row {α : Type} {E : fP α} {R : Mem} {L L' : List HP} {A : Option Addr} {T c : Nat} {l : List α} [hp : cG A L α E T c l L'] : Src R L A (E.cells l) := fun M h => h.src (A := A) M h
theorem Src.pre1 {R : Mem} {L : List HP} {A : Option Addr} {c : Nat} {l : List Int} (hs : Src R L A (br.cells l)) (hc : l.length ≤ c) (q : Nat) : Src R L (kx A 0 c 1) (br.cells (l.take q)) := by
 have := (hs.drop (m := 0) (c := c) hc).U4 q
 rw [List.drop_zero] at this
 exact this
theorem Src.TI {R : Mem} {L : List HP} {A : Option Addr} {c : Nat} {l : List Int} (hs : Src R L A (br.cells l)) (hc : l.length ≤ c) (q : Nat) : Src R L (kx A q c 1) (br.cells (l.drop q)) := hs.drop hc
end Go.AF
namespace Go.AF
abbrev AL := List (Int × Value)
def dO : Nat → AL → List MapEntry
 | _, [] => []
 | i, (k, v) :: l => ⟨.int .i64 k, v, i⟩ :: dO (i + 1) l
def mj (l : AL) : Obj := .map (dO 0 l).toArray l.length
def wm (k : Int) : AL → Nat → Option (Nat × Value)
 | [], _ => none
 | (k', v) :: l, i => if k = k' then some (i, v) else wm k l (i + 1)
def CB (l : AL) (k : Int) : Option Value := (wm k l 0).map (·.2)
def TJ (l : AL) (k : Int) (v : Value) : AL := match wm k l 0 with
 | some (i, _) => l.set i (k, v)
 | none => l ++ [(k, v)]
theorem wq {kd : IntKind} (k : Int) : ∀ (l : AL) (i b : Nat), Instr.findNow (.int kd) (.int .i64 k) (dO b l) i = some (wm k l i)
 | [], _, _ => rfl
 | (k', v) :: l, i, b => by
  simp only [dO, Instr.findNow, Instr.sameNow, if_true, wm]
  by_cases h : k = k'
  ·simp [h]
  ·have : (k == k') = false := by simp [h]
   rw [this, if_neg h]
   exact wq k l (i + 1) (b + 1)
theorem K5 {k : Int} : ∀ {l : AL} {i j : Nat} {v : Value}, wm k l i = some (j, v) → i ≤ j ∧ l[j - i]? = some (k, v)
 | [], _, _, _, h => by simp [wm] at h
 | (k', v') :: l, i, j, v, h => by
  simp only [wm] at h
  split at h
  ·rename_i e; cases h; subst e; exact ⟨Nat.le_refl _, by simp⟩
  ·obtain ⟨h1, h2⟩ := K5 h
   refine ⟨by omega, ?_⟩
   rw [show j - i = (j - (i + 1)) + 1 from by omega, List.getElem?_cons_succ]; exact h2
theorem K6 : ∀ {l : AL} {i b : Nat} {k : Int} {v : Value}, l[i]? = some (k, v) → (dO b l)[i]? = some ⟨.int .i64 k, v, b + i⟩
 | [], _, _, _, _, h => by simp at h
 | (k', v') :: l, 0, b, k, v, h => by simp at h; obtain ⟨rfl, rfl⟩ := h; rfl
 | (k', v') :: l, i + 1, b, k, v, h => by
  have := K6 (b := b + 1) (show l[i]? = some (k, v) from by simpa using h)
  simp only [dO, List.getElem?_cons_succ, this]
  congr 2; omega
theorem GF : ∀ {l : AL} {i b : Nat} {k : Int} {v w : Value}, l[i]? = some (k, w) → (dO b l).modify i (fun e => { e with key := .int .i64 k, val := v }) = dO b (l.set i (k, v))
 | [], _, _, _, _, _, h => by simp at h
 | (k', v') :: l, 0, b, k, v, w, h => by simp at h; obtain ⟨rfl, rfl⟩ := h; rfl
 | (k', v') :: l, i + 1, b, k, v, w, h => by
  have := GF (b := b + 1) (v := v) (show l[i]? = some (k, w) from by simpa using h)
  simp only [dO, List.modify_succ_cons, List.set_cons_succ, this]
theorem GH : ∀ (l m : AL) (b : Nat), dO b (l ++ m) = dO b l ++ dO (b + l.length) m
 | [], m, b => by simp [dO]
 | (k, v) :: l, m, b => by simp only [List.cons_append, dO, GH l m (b + 1), List.length_cons]; congr 3; omega
def AZ : AL → Int → Option Value
 | [], _ => none
 | (k', v) :: l, k => if k = k' then some v else AZ l k
theorem GI (k : Int) : ∀ (l : AL) (i : Nat), (wm k l i).map (·.2) = AZ l k
 | [], _ => rfl
 | (k', v) :: l, i => by
  simp only [wm, AZ]
  split
  ·rfl
  ·exact GI k l (i + 1)
theorem TK (l : AL) (k : Int) : CB l k = AZ l k := GI k l 0
theorem Dj {k : Int} : ∀ {l : AL}, AZ l k = none ↔ k ∉ l.map (·.1)
 | [] => by simp [AZ]
 | (q, w) :: l => by
  have ih := Dj (k := k) (l := l)
  simp only [AZ, List.map_cons, List.mem_cons, not_or]
  by_cases h : k = q
  ·rw [if_pos h]; simp [h]
  ·rw [if_neg h]; simp [h, ih]
section
variable {R : Mem} {L L' : List HP} {M : Mem} {P : Program} {t kt et : TypeId} {r : Nat} {l : AL} {k : Int} {kd : IntKind}
class GJ (b : Nat) (L : List HP) (o : outParam Obj) (L' : outParam (List HP)) : Prop where
 pick : cW L (ob b o) L'
instance GJ.here {b : Nat} {o : Obj} {L : List HP} : GJ b (ob b o :: L) o L := ⟨.here⟩
instance (priority := low) GJ.there {b : Nat} {o : Obj} {Q : HP} {L L' : List HP} [h : GJ b L o L'] : GJ b (Q :: L) o (Q :: L') := ⟨.there h.pick⟩
theorem qJ {P : Program} {M : Mem} {b : Bool} (hk : P.underlying kt = some (.int kd)) : bO P (Instr.checkKey b 10000 kt (.int .i64 k)) M = some () := by
 unfold Instr.checkKey
 rw [aS, aH hk]; rfl
theorem uQ {P : Program} {M : Mem} (hk : P.underlying kt = some (.int kd)) : bO P (Instr.findKey kt (.int .i64 k) (dO 0 l)) M = some (wm k l 0) := by
 unfold Instr.findKey
 rw [aS, aH hk, Option.bind_some, wq]; rfl
theorem uR {P : Program} {α : Type} {M : Mem} {r : Nat} {l : AL} {f : Obj → Sem α} {K : α → Mem → Prop} {Kp : Value → Mem → Prop} (hb : M r = some (mj l)) (h : dV P (f (mj l)) M K Kp) : dV P (getObj r >>= f) M K Kp := by
 refine eE P _ _ ?_
 unfold getObj
 simp only [dV, hb, mj]
 exact h
theorem QA {z : Value} {i : TypeInfo} {K : Value → Mem → Prop} {Kp : List PanicEntry → Mem → Prop} (h : Hp R L M) [p : GJ r L (mj l) L'] (hu : P.underlying t = some (.map kt et)) (hk : P.underlying kt = some (.int kd)) (hi : P.info? et = some i) (hz : i.zero = some z)
  (g : K ((CB l k).getD z) M) : aX P (Instr.lookup t (.map (some r)) (.int .i64 k) false) M K Kp := by
 have hb : M r = some (mj l) := (h.pick p.pick).OR
 unfold aX Instr.lookup
 refine aU (aH hu M) ?_
 simp only
 refine eE P _ _ ?_
 refine uR hb ?_
 simp only [mj]
 refine aU (x := ()) (qJ hk) ?_
 refine aU (uQ hk) ?_
 unfold CB at g
 cases ha : wm k l 0 with
 | none =>
  rw [ha] at g
  simp only
  have hz0 : bO P (zeroValue et) M = some z := by rw [jJ]; simp [zeroOf, hi, hz]
  refine aU hz0 ?_
  refine aU (x := (z, false)) rfl ?_
  exact g
 | some x =>
  rw [ha] at g
  exact g
theorem yL {v : Value} {K : Mem → Prop} {Kp : List PanicEntry → Mem → Prop} (h : Hp R L M) [p : GJ r L (mj l) L'] (hu : P.underlying t = some (.map kt et)) (hk : P.underlying kt = some (.int kd))
  (g : ∀ M', Hp R (ob r (mj (TJ l k v)) :: L') M' → K M') : bL P (Instr.mapUpdate t (.map (some r)) (.int .i64 k) v) M K Kp := by
 have h1 := h.pick p.pick
 have hb : M r = some (mj l) := h1.OR
 have fin : ∀ o, o = mj (TJ l k v) → K (M.set r o) := fun o e => by
  subst e
  exact g _ (h1.set (x := mj l) (fun A ha => by unfold ob at ha; exact ha) fun A ha => by unfold ob; exact dM)
 unfold bL Instr.mapUpdate
 refine aU (aH hu M) ?_
 simp only
 refine uR hb ?_
 simp only [mj]
 refine aU (x := ()) (qJ hk) ?_
 refine aU (uQ hk) ?_
 have Ba : ∀ o : Obj, K (M.set r o) → dV P (setObj r o) M (fun _ => K) (fun v M' => Kp [{ v, recovered := false }] M') := fun o hK => by
  unfold setObj
  simp only [dV, hb, mj]
  exact hK
 cases ha : wm k l 0 with
 | none =>
  simp only
  refine Ba _ (fin _ ?_)
  unfold TJ mj
  rw [ha]
  simp only [List.push_toArray, List.length_append, List.length_singleton]
  rw [GH]; simp [dO]
 | some x =>
  obtain ⟨i, w⟩ := x
  obtain ⟨_, hw⟩ := K5 ha
  rw [Nat.sub_zero] at hw
  simp only
  have he := K6 (b := 0) hw
  refine aU (x := Value.int .i64 k) ?_ ?_
  ·have : (((dO 0 l).toArray[i]?).map (·.key)).getD (.int .i64 k) = .int .i64 k := by simp [he]
   rw [this]
   unfold Instr.keyThatStays
   simp [Instr.sameBits]; rfl
  ·refine Ba _ (fin _ ?_)
   unfold TJ mj
   rw [ha]
   simp only [List.length_set]
   rw [← GF (v := v) hw]
   simp [List.modify_toArray]
end
end Go.AF
namespace Go.AF
theorem EC {P : Program} {t t' e ty : TypeId} {i : TypeInfo} {zv : Value} {A B : Option Addr} {n c m d : Nat} {l r : List Value} {M : Mem} {K : Value → Mem → Prop} {Kp : List PanicEntry → Mem → Prop}
  (hu : P.underlying t = some (.slice e)) (RL : P.underlying t' = some (.slice e)) (hi : P.info? e = some i) (hz : i.zero = some zv) (hs : zv.cells.size = i.size)
  (U1 : Sl M A l) (hl : l.length = n * i.size) (hr : Sl M B r) (jn : r.length = m * i.size) (hc : c < n + m) (hb : (n + m) * i.bytes ≤ 140737488355328) (hby : 0 < i.bytes)
  (h : ∀ k c' M', M k = none → sj M' i.size e (some ⟨k, 0, none⟩) (n + m) c' (l ++ r) → mN [] M M' → K (.slice (some ⟨k, 0, none⟩) (n + m) c') M') :
  aX P (Builtin.append_ #[t, t'] ty #[.slice A n c, .slice B m d]) M K Kp := by
 unfold aX Builtin.append_
 simp only [List.getElem?_toArray, List.getElem?_cons_zero, List.getElem?_cons_succ]
 refine aU (aH hu M) ?_
 simp only
 refine aU (fq hi M) ?_
 refine aU (aH RL M) ?_
 refine aU (x := false) rfl ?_
 refine aU (x := m) rfl ?_
 simp only [Bool.not_false, if_true]
 rw [if_neg (by omega)]
 refine aU (b6 hi M) ?_
 rw [if_neg (by simp; omega)]
 refine aU (b6 hi M) ?_
 rw [if_neg (by have := growslice_fits (need := n + m) (old := c) (bytes := i.bytes) (by omega) hb; omega)]
 show ∀ q, _
 intro q
 have hcap : n + m ≤ Question.cut (.appendCap (n + m) c e) q := by simp only [Question.cut]; omega
 generalize Question.cut (.appendCap (n + m) c e) q = nc at hcap
 refine aU (x := nc) rfl ?_
 refine aU (b6 hi M) ?_
 refine eE P _ _ ?_
 have room : ∀ (X : Prop) , X → dV P (askRoom (nc * i.bytes)) M (fun _ M' => M' = M) (fun _ _ => False) := by
  intro X _
  unfold askRoom
  split
  ·exact rfl
  ·exact rfl
 refine hU P _ (room True trivial) (fun _ M' ZY => ?_) (fun _ _ hf => hf.elim)
 subst ZY
 refine aU (fx U1 hl) ?_
 refine aU (fx hr jn) ?_
 refine aU (x := zv) (by rw [jJ]; simp [zeroOf, hi, hz]) ?_
 intro k hk
 refine h k nc _ hk ⟨by rw [List.length_append, hl, jn, Nat.add_mul], .inr ⟨k, _, rfl, dM, ?_, hcap, fun j hj => ?_⟩⟩ ((mN.refl _ _).set (.inr hk))
 ·simp only [Array.size_append, List.size_toArray, hl, jn]
  have : (Builtin.zeroCells zv.cells (nc - (n + m))).size = (nc - (n + m)) * i.size := by simp [Builtin.zeroCells, hs]
  rw [this, ← Nat.add_mul, ← Nat.add_mul]; congr 1; omega
 ·rw [Nat.add_mul] at hj
  rw [Array.getElem?_append_left (by simp [hl, jn]; omega)]
  simp
theorem Hp.TL {α : Type} {E : fP α} {R : Mem} {L L' : List HP} {M : Mem} {T : Nat} {P : Program} {t bytes ty d m k n c : Nat} {zero rc : List Value} {A : Option Addr} {l r : List α} {K : Value → Mem → Prop} {Kp : List PanicEntry → Mem → Prop}
  (h : Hp R L M) [hk : kL k L rc T L'] (hA : Src R L A (E.cells l)) (hn : n = l.length) (El : bg P t T E.z bytes zero) (he : rc = E.cells r) (hm : m = r.length) (hc : c < n + m) (hb : (l.length + r.length) * bytes ≤ 140737488355328)
  (g : ∀ b c' M', Hp R (bE E T (some ⟨b, 0, none⟩) c' (l ++ r) :: L') M' → K (.slice (some ⟨b, 0, none⟩) (l ++ r).length c') M') :
  aX P (Builtin.append_ #[t, t] ty #[.slice A n c, .slice (some ⟨k, 0, none⟩) m d]) M K Kp := by
 subst hm; subst he; subst hn
 have hB : Sl M (some ⟨k, 0, none⟩) (E.cells r) := h.OW hk.pick
 obtain ⟨hu, i, zv, hi, hs, hby, hz, rfl, hl, hpos⟩ := El
 refine EC hu hu hi hz (by rw [hs, ← hl]; simp) (hA M h) (by rw [hs]; exact E.b9) hB (by rw [hs]; exact E.b9) hc (by rw [hby]; exact hb) (by omega) fun b c' M' hbn ho yM => ?_
 have h2 : Hp R (bE E T (some ⟨b, 0, none⟩) c' (l ++ r) :: L) M' := by
  have h3 : Hp R (fact True :: L) M := Hp.gi.2 ⟨trivial, h⟩
  refine h3.change (D := []) (D' := [b]) (fun A hA x hx => by cases hx) yM (fun x hx => by simp only [List.mem_singleton] at hx; subst hx; exact .inr hbn) ?_
  unfold bE own
  rw [List.length_append, E.nh]
  rw [hs] at ho
  have := ho.HN
  simpa [yC] using this
 have := g b c' M' (h2.map fun _ hs => hs.tail fun _ hx => (ck.pick hk.pick hx).drop)
 rwa [List.length_append] at this
section
variable {R : Mem} {L L' : List HP} {M : Mem} {P : Program} {t kt et : TypeId} {r : Nat} {l : AL} {k : Int} {kd : IntKind}
theorem Ng {z : Value} {i : TypeInfo} {K : Value → Mem → Prop} {Kp : List PanicEntry → Mem → Prop} (h : Hp R L M) [p : GJ r L (mj l) L'] (hu : P.underlying t = some (.map kt et)) (hk : P.underlying kt = some (.int kd)) (hi : P.info? et = some i) (hz : i.zero = some z)
  (g : K (.tuple #[(CB l k).getD z, .bool (CB l k).isSome]) M) : aX P (Instr.lookup t (.map (some r)) (.int .i64 k) true) M K Kp := by
 have hb : M r = some (mj l) := (h.pick p.pick).OR
 unfold aX Instr.lookup
 refine aU (aH hu M) ?_
 simp only
 refine eE P _ _ ?_
 refine uR hb ?_
 simp only [mj]
 refine aU (x := ()) (qJ hk) ?_
 refine aU (uQ hk) ?_
 unfold CB at g
 cases ha : wm k l 0 with
 | none =>
  rw [ha] at g
  simp only
  have hz0 : bO P (zeroValue et) M = some z := by rw [jJ]; simp [zeroOf, hi, hz]
  refine aU hz0 ?_
  refine aU (x := (z, false)) rfl ?_
  exact g
 | some x =>
  rw [ha] at g
  exact g
end
theorem GK {C : Ctx} {g : Nat} {args : List Value} {M : Mem} {K : Value → Mem → Prop} {Kp : List PanicEntry → Mem → Prop} (hg : 1 < g ∧ g < C.ok) (h : aa C.P g args.toArray M K Kp) : gf C (.func (.func g) #[] #[]) args M K Kp := by
 unfold gf
 simp only
 rw [if_pos hg]
 simpa using h
theorem jA {z : Int} (h0 : 0 ≤ z) (h : z < 9223372036854775807) : IntKind.wrap .i64 (z + 1) = z + 1 := by
 obtain ⟨n, rfl⟩ := Int.eq_ofNat_of_zero_le h0
 have := m8 (n := n + 1) (by omega)
 exact_mod_cast this
theorem Hp.uS {α : Type} {E : fP α} {R : Mem} {L : List HP} {M : Mem} {T c : Nat} {A : Option Addr} {l r : List α} {P : Program} {t bytes ty d m : Nat} {zero : List Value} {B : Option Addr} {K : Value → Mem → Prop} {Kp : List PanicEntry → Mem → Prop}
  (h : Hp R (bE E T A c l :: L) M) (El : bg P t T E.z bytes zero) (hr : Sl M B (E.cells r)) (hm : m = r.length) (hb : (l.length + r.length) * bytes ≤ 140737488355328)
  (g : ∀ A' c' M', Hp R (bE E T A' c' (l ++ r) :: L) M' → K (.slice A' (l ++ r).length c') M') :
  aX P (Builtin.append_ #[t, t] ty #[.slice A l.length c, .slice B m d]) M K Kp := by
 subst hm
 have h2 : Hp R (own E.z T A l.length c (E.cells l) :: L) M := by
  have := h; unfold bE at this; exact this
 refine h2.append El hr E.b9 E.iD hb fun A' c' M' h => ?_
 have := g A' c' M' (by unfold bE; rw [List.length_append, E.nh]; exact h)
 rwa [List.length_append] at this
theorem Hp.gn {α : Type} {E : fP α} {R : Mem} {L L' om : List HP} {M : Mem} {T c n : Nat} {A : Option Addr} {l : List α} {P : Program} {t bytes ty k d m : Nat} {zero rc : List Value} {K : Value → Mem → Prop} {Kp : List PanicEntry → Mem → Prop}
  (h : Hp R L M) [ha : cG A L α E T c l L'] [hk : kL k L' rc T om] (El : bg P t T E.z bytes zero) (r : List α) (he : rc = E.cells r) (hn : n = l.length) (hm : m = r.length) (hb : (l.length + r.length) * bytes ≤ 140737488355328)
  (g : ∀ A' c' M', Hp R (bE E T A' c' (l ++ r) :: om) M' → K (.slice A' (n + m) c') M') :
  aX P (Builtin.append_ #[t, t] ty #[.slice A n c, .slice (some ⟨k, 0, none⟩) m d]) M K Kp := by
 subst hn
 refine h.bJ (A := A) El r he hm hb fun A' c' M' h => ?_
 have := g A' c' M' h
 rwa [hm, ← List.length_append] at this
theorem rR {C : Ctx} {g : Nat} {caps : Array Value} {args : List Value} {M : Mem} {K : Value → Mem → Prop} {Kp : List PanicEntry → Mem → Prop} (hg : 1 < g ∧ g < C.ok) (h : aa C.P g (args ++ caps.toList).toArray M K Kp) : gf C (.func (.func g) #[] caps) args M K Kp := by
 unfold gf
 simp only
 rw [if_pos hg]
 simpa using h
end Go.AF
namespace Go.Proofs
open Go.AF
set_option maxRecDepth 100000
set_option maxHeartbeats 1000000
attribute [local irreducible] aK dH fz cv az fC aE aN aW aX bL aQ
abbrev tH (A : Option Addr) (c : Nat) (l : List gV) : HP := bE fQ 275 A c l
theorem Js : bg Tryz.prog 226 275 11 88 (fQ.f ⟨0, 0, [], 0⟩) := bg.mk' (zv := .agg #[.int .i64 0, .int .i64 0, .int .i64 0, .int .i64 0, .int .i64 0, .int .i64 0, .int .i64 0, .int .i64 0, .int .i64 0, .int .i64 0, .int .i64 0]) (by kernel_rfl) (by kernel_rfl) rfl (by omega)
theorem gV.set_set {f : gV} {q u v : Int} : (f.set q u).set q v = f.set q v := by
 unfold gV.set
 congr 1
 apply List.map_congr_left
 intro i hi
 by_cases h : i = q.toNat
 ·rw [if_pos h, if_pos h]
 ·rw [if_neg h, if_neg h]
  simp [List.mem_range.1 hi, h]
section
variable {R : Mem} {L L' : List HP} {M : Mem} {K : Value → Mem → Prop} {Kp : List PanicEntry → Mem → Prop} {b i c : Nat} {l : List gV} {f : gV} {x : cN}
theorem wu {q : Int} {o : Nat} {G : Int → Prop} (h : Hp R L M) [p : cG (some ⟨b, 0, none⟩) L gV fQ 275 c l L'] (hi : l[i]? = some f) (hq : be q) (e : o = i * 11 + 2 + q.toNat) (g : G (f.bQ q)) : aK (M.ld ⟨b, o, none⟩) .i64 G := by
 refine aR (Src.at (h.src (A := some ⟨b, 0, none⟩)) h (i := i) (j := 2 + q.toNat) hi (Wl hq.1 hq.2) ?_) g
 show _ = 0 + (i * 11 + (2 + q.toNat)); omega
theorem xT {q v : Int} {o : Nat} {G : Mem → Prop} (h : Hp R L M) [p : cG (some ⟨b, 0, none⟩) L gV fQ 275 c l L'] (hi : l[i]? = some f) (hq : be q) (e : o = i * 11 + 2 + q.toNat)
  (k : ∀ M', Hp R (tH (some ⟨b, 0, none⟩) c (l.set i (f.set q v)) :: L') M' → G M') : aN M ⟨b, o, none⟩ (.int .i64 v) G := by
 obtain ⟨q0, q8⟩ := hq
 refine iE i (2 + q.toNat) h hi ?_ (SP q0 q8) ?_ k
 ·show _ < 11; omega
 ·show _ = i * 11 + (2 + q.toNat); omega
theorem Bb {o : Nat} {G : Int → Prop} (h : Hp R L M) [p : cG (some ⟨b, 0, none⟩) L gV fQ 275 c l L'] (hi : l[i]? = some f) (e : o = i * 11 + 1) (g : G f.pc) : aK (M.ld ⟨b, o, none⟩) .i64 G := by
 refine aR (Src.at (h.src (A := some ⟨b, 0, none⟩)) h (i := i) (j := 1) hi rfl ?_) g
 show _ = 0 + (i * 11 + 1); omega
theorem Bc {v : Int} {o : Nat} {G : Mem → Prop} (h : Hp R L M) [p : cG (some ⟨b, 0, none⟩) L gV fQ 275 c l L'] (hi : l[i]? = some f) (e : o = i * 11 + 1)
  (k : ∀ M', Hp R (tH (some ⟨b, 0, none⟩) c (l.set i { f with pc := v }) :: L') M' → G M') : aN M ⟨b, o, none⟩ (.int .i64 v) G := by
 refine iE i 1 h hi (by show 1 < 11; omega) Wm ?_ k
 show _ = i * 11 + 1; omega
theorem iY {α : Type} {l : List α} {i : Nat} {u v : α} : (l.set i u).set i v = l.set i v := by simp
def fOp : List Nat := [225, 226, 227, 228, 229, 230, 231, 232, 233]
theorem QB (h : Hp R L M) [p : cG (some ⟨b, 0, none⟩) L gV fQ 275 c l L'] (hi : l[i]? = some f) (hx : x.cC) (n : Nat) (hn : x.op = (n : Int)) (h8 : n ≤ 8)
  (k : ∀ M', Hp R (tH (some ⟨b, 0, none⟩) c (l.set i (f.pure x)) :: L') M' → K (.tuple #[]) M') :
  aa Tryz.prog (fOp.getD n 0) #[.pointer (some ⟨b, i * 11, none⟩), .agg #[.int .i64 x.op, .int .i64 x.a, .int .i64 x.b, .int .i64 x.c]] M K Kp := by
 obtain ⟨op, xa, xb, xc⟩ := x
 obtain ⟨o1, o2, o3⟩ := hx
 dsimp only at hn o1 o2 o3 k ⊢
 have hsame : l.set i f = l := by obtain ⟨hl, rfl⟩ := List.getElem?_eq_some_iff.1 hi; simp
 subst hn
 have hlt := (List.getElem?_eq_some_iff.1 hi).1
 obtain rfl | rfl | rfl | rfl | rfl | rfl | rfl | rfl | rfl : n = 0 ∨ n = 1 ∨ n = 2 ∨ n = 3 ∨ n = 4 ∨ n = 5 ∨ n = 6 ∨ n = 7 ∨ n = 8 := by omega
 ·refine uC ?_
  have e : f.pure ⟨((0 : Nat) : Int), xa, xb, xc⟩ = f := rfl
  rw [e, hsame] at k
  repeat (first|(refine aj h ?_;clear h;intro kb M h)|(refine au h ?_;clear h;intro M h)|refine St.to h ?_|(apply Exists.intro;(repeat apply Exists.intro);refine And.intro rfl ?_)|refine av ?_|refine ae ?_|refine ai ?_)
  exact k _ ((h.row (some ⟨b, 0, none⟩)).cj)
 ·have ra : be xa := o1 (by simp)
  refine nu ?_
  repeat (first|(refine aj h ?_;clear h;intro kb M h)|(refine au h ?_;clear h;intro M h)|refine St.to h ?_|(apply Exists.intro;(repeat apply Exists.intro);refine And.intro rfl ?_)|refine av ?_|refine ae ?_|refine ai ?_)
  refine ⟨ra.1, ra.2, xT h hi ra rfl fun M h => ?_⟩
  exact k _ h.cj
 ·obtain ⟨ra, rb⟩ := o2 rfl
  refine sQ ?_
  repeat (first|(refine aj h ?_;clear h;intro kb M h)|(refine au h ?_;clear h;intro M h)|refine St.to h ?_|(apply Exists.intro;(repeat apply Exists.intro);refine And.intro rfl ?_)|refine av ?_|refine ae ?_|refine ai ?_)
  refine ⟨rb.1, rb.2, wu h hi rb rfl ?_⟩
  refine ⟨ra.1, ra.2, xT h hi ra rfl fun M h => ?_⟩
  exact k _ h.cj
 ·obtain ⟨ra, rb, rc⟩ := o3 (by simp)
  refine uD ?_
  repeat (first|(refine aj h ?_;clear h;intro kb M h)|(refine au h ?_;clear h;intro M h)|refine St.to h ?_|(apply Exists.intro;(repeat apply Exists.intro);refine And.intro rfl ?_)|refine av ?_|refine ae ?_|refine ai ?_)
  refine ⟨rb.1, rb.2, wu h hi rb rfl ?_⟩
  repeat (first|(refine aj h ?_;clear h;intro kb M h)|(refine au h ?_;clear h;intro M h)|refine St.to h ?_|(apply Exists.intro;(repeat apply Exists.intro);refine And.intro rfl ?_)|refine av ?_|refine ae ?_|refine ai ?_)
  refine ⟨rc.1, rc.2, wu h hi rc rfl ?_⟩
  refine ⟨ra.1, ra.2, xT h hi ra rfl fun M h => ?_⟩
  exact k _ h.cj
 ·obtain ⟨ra, rb, rc⟩ := o3 (by simp)
  refine uE ?_
  repeat (first|(refine aj h ?_;clear h;intro kb M h)|(refine au h ?_;clear h;intro M h)|refine St.to h ?_|(apply Exists.intro;(repeat apply Exists.intro);refine And.intro rfl ?_)|refine av ?_|refine ae ?_|refine ai ?_)
  refine ⟨rb.1, rb.2, wu h hi rb rfl ?_⟩
  repeat (first|(refine aj h ?_;clear h;intro kb M h)|(refine au h ?_;clear h;intro M h)|refine St.to h ?_|(apply Exists.intro;(repeat apply Exists.intro);refine And.intro rfl ?_)|refine av ?_|refine ae ?_|refine ai ?_)
  refine ⟨rc.1, rc.2, wu h hi rc rfl ?_⟩
  refine ⟨ra.1, ra.2, xT h hi ra rfl fun M h => ?_⟩
  exact k _ h.cj
 ·obtain ⟨ra, rb, rc⟩ := o3 (by simp)
  refine uF ?_
  repeat (first|(refine aj h ?_;clear h;intro kb M h)|(refine au h ?_;clear h;intro M h)|refine St.to h ?_|(apply Exists.intro;(repeat apply Exists.intro);refine And.intro rfl ?_)|refine av ?_|refine ae ?_|refine ai ?_)
  refine ⟨rb.1, rb.2, wu h hi rb rfl ?_⟩
  repeat (first|(refine aj h ?_;clear h;intro kb M h)|(refine au h ?_;clear h;intro M h)|refine St.to h ?_|(apply Exists.intro;(repeat apply Exists.intro);refine And.intro rfl ?_)|refine av ?_|refine ae ?_|refine ai ?_)
  refine ⟨rc.1, rc.2, wu h hi rc rfl ?_⟩
  refine ⟨ra.1, ra.2, xT h hi ra rfl fun M h => ?_⟩
  exact k _ h.cj
 ·obtain ⟨ra, rb, rc⟩ := o3 (by simp)
  refine sR ?_
  repeat (first|(refine aj h ?_;clear h;intro kb M h)|(refine au h ?_;clear h;intro M h)|refine St.to h ?_|(apply Exists.intro;(repeat apply Exists.intro);refine And.intro rfl ?_)|refine av ?_|refine ae ?_|refine ai ?_)
  refine ⟨rb.1, rb.2, wu h hi rb rfl ?_⟩
  repeat (first|(refine aj h ?_;clear h;intro kb M h)|(refine au h ?_;clear h;intro M h)|refine St.to h ?_|(apply Exists.intro;(repeat apply Exists.intro);refine And.intro rfl ?_)|refine av ?_|refine ae ?_|refine ai ?_)
  refine ⟨rc.1, rc.2, wu h hi rc rfl ?_⟩
  repeat (first|(refine aj h ?_;clear h;intro kb M h)|(refine au h ?_;clear h;intro M h)|refine St.to h ?_|(apply Exists.intro;(repeat apply Exists.intro);refine And.intro rfl ?_)|refine av ?_|refine ae ?_|refine ai ?_)
  refine ⟨ra.1, ra.2, xT h hi ra rfl fun M h => ?_⟩
  have e : f.pure ⟨((6 : Nat) : Int), xa, xb, xc⟩ = f.set xa (if f.bQ xb < f.bQ xc then 1 else 0) := rfl
  rw [e] at k
  refine aJ.2 ⟨fun hl => ?_, fun hl => ?_⟩
  ·rw [if_pos hl] at k
   repeat (first|(refine aj h ?_;clear h;intro kb M h)|(refine au h ?_;clear h;intro M h)|refine St.to h ?_|(apply Exists.intro;(repeat apply Exists.intro);refine And.intro rfl ?_)|refine av ?_|refine ae ?_|refine ai ?_)
   have Qk : (l.set i (f.set xa 0))[i]? = some (f.set xa 0) := by simp [hlt]
   refine ⟨ra.1, ra.2, xT h Qk ra rfl fun M h => ?_⟩
   rw [iY, gV.set_set] at h
   exact k _ h.cj
  ·rw [if_neg hl] at k
   exact k _ h.cj
 ·refine sS ?_
  repeat (first|(refine aj h ?_;clear h;intro kb M h)|(refine au h ?_;clear h;intro M h)|refine St.to h ?_|(apply Exists.intro;(repeat apply Exists.intro);refine And.intro rfl ?_)|refine av ?_|refine ae ?_|refine ai ?_)
  refine Bc h hi rfl fun M h => ?_
  exact k _ h.cj
 ·have ra : be xa := o1 (by simp)
  refine pz ?_
  repeat (first|(refine aj h ?_;clear h;intro kb M h)|(refine au h ?_;clear h;intro M h)|refine St.to h ?_|(apply Exists.intro;(repeat apply Exists.intro);refine And.intro rfl ?_)|refine av ?_|refine ae ?_|refine ai ?_)
  have e : f.pure ⟨((8 : Nat) : Int), xa, xb, xc⟩ = if f.bQ xa ≠ 0 then { f with pc := xb } else f := rfl
  rw [e] at k
  refine ⟨ra.1, ra.2, wu h hi ra rfl ?_⟩
  refine fy.2 ⟨fun hl => ?_, fun hl => ?_⟩
  ·rw [if_pos hl] at k
   repeat (first|(refine aj h ?_;clear h;intro kb M h)|(refine au h ?_;clear h;intro M h)|refine St.to h ?_|(apply Exists.intro;(repeat apply Exists.intro);refine And.intro rfl ?_)|refine av ?_|refine ae ?_|refine ai ?_)
   refine Bc h hi rfl fun M h => ?_
   exact k _ h.cj
  ·rw [if_neg (by simpa using hl), hsame] at k
   exact k _ ((h.row (some ⟨b, 0, none⟩)).cj)
def TM : AL := (List.range 9).map fun n : Nat => ((n : Int), .func (.func (fOp.getD n 0)) #[] #[])
theorem GL (h : Hp R L M) (k : ∀ m M', Hp R (ob m (mj TM) :: L) M' → K (.map (some m)) M') : aa Tryz.prog 203 #[] M K Kp := by
 refine AM ?_
 refine U2 h ?_
 clear h
 intro m M h
 replace h : Hp R (ob m (mj []) :: L) M := h
 have hu : Tryz.prog.underlying 361 = some (.map 25 359) := by kernel_rfl
 have hk : Tryz.prog.underlying 25 = some (.int .i64) := by kernel_rfl
 iterate 9
  refine yL h hu hk ?_
  clear h
  intro M h
 exact k _ _ h
theorem Jt (h : Hp R L M) [p : cG (some ⟨b, 0, none⟩) L gV fQ 275 c l L'] (hi : l[i]? = some f) (hx : x.cC) (h0 : 0 ≤ x.op) (hs : 0 ≤ f.pc ∧ f.pc < 1000000000)
  (k1 : x.op ≤ 8 → ∀ M', Hp R (tH (some ⟨b, 0, none⟩) c (l.set i (f.next.pure x)) :: L') M' → K (.bool true) M')
  (k2 : 8 < x.op → ∀ M', Hp R (tH (some ⟨b, 0, none⟩) c l :: L') M' → K (.bool false) M') :
  aa Tryz.prog 190 #[.pointer (some ⟨b, i * 11, none⟩), .agg #[.int .i64 x.op, .int .i64 x.a, .int .i64 x.b, .int .i64 x.c]] M K Kp := by
 have hlt := (List.getElem?_eq_some_iff.1 hi).1
 obtain ⟨q, hq⟩ := Int.eq_ofNat_of_zero_le h0
 refine sE ?_
 repeat (first|(refine aj h ?_;clear h;intro kb M h)|(refine au h ?_;clear h;intro M h)|refine St.to h ?_|(apply Exists.intro;(repeat apply Exists.intro);refine And.intro rfl ?_)|refine av ?_|refine ae ?_|refine ai ?_)
 refine GL h ?_
 clear h
 intro m M h
 repeat (first|(refine aj h ?_;clear h;intro kb M h)|(refine au h ?_;clear h;intro M h)|refine St.to h ?_|(apply Exists.intro;(repeat apply Exists.intro);refine And.intro rfl ?_)|refine av ?_|refine ae ?_|refine ai ?_)
 have hu : Tryz.prog.underlying 361 = some (.map 25 359) := by kernel_rfl
 have hk : Tryz.prog.underlying 25 = some (.int .i64) := by kernel_rfl
 obtain ⟨ti, hti, htz⟩ : ∃ ti, Tryz.prog.info? 359 = some ti ∧ ti.zero = some .nilFunc := ⟨_, rfl, rfl⟩
 refine Ng h hu hk hti htz ?_
 refine ⟨_, _, rfl, bD h, ?_⟩
 by_cases h8 : x.op ≤ 8
 ·have hq8 : q ≤ 8 := by omega
  have hl : CB TM x.op = some (.func (.func (fOp.getD q 0)) #[] #[]) := by
   rw [hq]
   obtain rfl | rfl | rfl | rfl | rfl | rfl | rfl | rfl | rfl : q = 0 ∨ q = 1 ∨ q = 2 ∨ q = 3 ∨ q = 4 ∨ q = 5 ∨ q = 6 ∨ q = 7 ∨ q = 8 := by omega
   all_goals rfl
  rw [hl]
  refine ae ?_
  refine Bb h hi rfl ?_
  rw [jA (by omega) (by omega)]
  refine Bc h hi rfl ?_
  clear h
  intro M h
  have Qk : (l.set i { f with pc := f.pc + 1 })[i]? = some f.next := by simp [hlt, gV.next]
  repeat (first|(refine aj h ?_;clear h;intro kb M h)|(refine au h ?_;clear h;intro M h)|refine St.to h ?_|(apply Exists.intro;(repeat apply Exists.intro);refine And.intro rfl ?_)|refine av ?_|refine ae ?_|refine ai ?_)
  have hg : 1 < fOp.getD q 0 ∧ fOp.getD q 0 < Cx.ok := by
   obtain rfl | rfl | rfl | rfl | rfl | rfl | rfl | rfl | rfl : q = 0 ∨ q = 1 ∨ q = 2 ∨ q = 3 ∨ q = 4 ∨ q = 5 ∨ q = 6 ∨ q = 7 ∨ q = 8 := by omega
   all_goals exact ⟨by decide, by show _ < 255; decide⟩
  refine GK hg ?_
  refine QB (f := f.next) h Qk hx q hq hq8 ?_
  clear h
  intro M h
  rw [iY] at h
  exact ⟨rfl, k1 h8 _ h.cj⟩
 ·have hl : CB TM x.op = none := by
   rw [TK, Dj]
   have : TM.map (·.1) = [0, 1, 2, 3, 4, 5, 6, 7, 8] := by decide
   rw [this]; simp; omega
  rw [hl]
  refine ai ?_
  exact k2 (by omega) _ ((h.row (some ⟨b, 0, none⟩)).cj)
end
section
variable {R : Mem} {L L' : List HP} {M : Mem} {K : Value → Mem → Prop} {Kp : List PanicEntry → Mem → Prop} {b i c : Nat} {l : List gV} {f : gV} {x : cN}
theorem ny {m : Nat} (hm : 0 < m) (h2 : m ≤ 1000000000) (k : K (.pointer (some ⟨b, (m - 1) * 11, none⟩)) M) : aa Tryz.prog 189 #[.slice (some ⟨b, 0, none⟩) m c] M K Kp := by
 refine uv ?_
 have e : IntKind.wrap .i64 ((m : Int) - 1) = ((m - 1 : Nat) : Int) := wn (by omega) (by omega)
 refine aV.2 ⟨fun h0 => by omega, fun _ => ?_⟩
 rw [e]
 refine ⟨by omega, by omega, aY ?_⟩
 simp only [Int.toNat_natCast, Nat.zero_add]
 exact k
theorem qK {fn v : Int} (h : Hp R L M) (k : ∀ b M', Hp R (tH (some ⟨b, 0, none⟩) 1 [gV.begin fn v] :: L) M' → K (.slice (some ⟨b, 0, none⟩) 1 1) M') : aa Tryz.prog 112 #[.int .i64 fn, .int .i64 v] M K Kp := by
 refine AJ ?_
 refine aj h ?_
 clear h
 intro b M h
 exact k b M (h.gu (E := fQ) (l := [gV.begin fn v]) rfl)
theorem Ju {fn v pe : Int} {A : Option Addr} (h : Hp R L M) [p : cG A L gV fQ 275 c l L'] (hl : 0 < l.length)
  (k1 : 16 ≤ l.length → K (.tuple #[.slice A l.length c, .bool false]) M)
  (k2 : l.length < 16 → ∀ b c' M', Hp R (tH (some ⟨b, 0, none⟩) c' (l ++ [⟨fn, 0, [v, 0, 0, 0, 0, 0, 0, 0], pe⟩]) :: L) M' → K (.tuple #[.slice (some ⟨b, 0, none⟩) (l.length + 1) c', .bool true]) M') :
  aa Tryz.prog 241 #[.slice A l.length c, .int .i64 fn, .int .i64 v, .int .i64 pe] M K Kp := by
 refine sV ?_
 have hcap := h.j8 A
 refine aJ.2 ⟨fun wv => k1 (by omega), fun wv => ?_⟩
 refine ⟨by omega, by omega, by omega, by omega, by omega, by omega, ?_⟩
 refine aj h ?_
 clear h
 intro kb M h
 simp only [Int.toNat_natCast, Nat.sub_zero]
 have e : kx A 0 l.length 11 = A := by
  obtain ⟨bb, rfl⟩ := h.bF (A := A) hl (by decide)
  unfold kx
  rw [if_neg (by omega)]
  rfl
 rw [e]
 refine Hp.TL (E := fQ) (r := [⟨fn, 0, [v, 0, 0, 0, 0, 0, 0, 0], pe⟩]) h (h.src (A := A)) rfl Js rfl rfl (by omega) (by simp; omega) ?_
 clear h
 intro b c' M h
 refine aO ?_
 have := k2 (by omega) b c' M h
 rwa [List.length_append]
theorem ED {v : Int} {A : Option Addr} (h : Hp R L M) [p : cG A L gV fQ 275 c l L'] (hl : 0 < l.length) (hs : l.length ≤ 1000000)
  (GM : l[l.length - 1]? = some f) (hin : be f.pe)
  (k1 : l.length < 2 → K (.tuple #[.slice none 0 0, .bool false]) M)
  (k2 : 2 ≤ l.length → ∀ b c' M', ∀ g, l[l.length - 2]? = some g → Hp R (tH (some ⟨b, 0, none⟩) c' ((l.take (l.length - 1)).set (l.length - 2) (g.set f.pe v)) :: L) M' → K (.tuple #[.slice (some ⟨b, 0, none⟩) (l.length - 1) c', .bool true]) M') :
  aa Tryz.prog 242 #[.slice A l.length c, .int .i64 v] M K Kp := by
 refine pA ?_
 have hcap := h.j8 A
 refine aJ.2 ⟨fun wv => k1 (by omega), fun wv => ?_⟩
 have e : IntKind.wrap .i64 ((l.length : Int) - 1) = ((l.length - 1 : Nat) : Int) := wn (by omega) (by omega)
 obtain ⟨ba, rfl⟩ := h.bF (A := A) hl (by decide)
 refine aj h ?_
 clear h
 intro kb M h
 rw [e]
 refine ⟨by omega, by omega, by omega, by omega, by omega, by omega, ?_⟩
 simp only [Int.toNat_natCast, Nat.sub_zero]
 have e2 : kx (some ⟨ba, 0, none⟩) 0 c 11 = some ⟨ba, 0, none⟩ := by
  unfold kx
  rw [if_neg (by omega)]
  rfl
 rw [e2]
 refine h.fV fQ Js (l.take (l.length - 1)) ((h.src (A := some ⟨ba, 0, none⟩)).U4 _) (by simp) (by simp; omega) ?_
 clear h
 intro A' c' M h
 have hlen : (l.take (l.length - 1)).length = l.length - 1 := by simp
 obtain ⟨b', rfl⟩ := h.bF (A := A') (by omega) (by decide)
 refine aO ?_
 rw [hlen]
 refine ny (by omega) (by omega) ?_
 refine gY (aY ?_)
 refine ny (by omega) (by omega) ?_
 refine gY (aY ?_)
 refine aR (Src.at (h.src (A := some ⟨ba, 0, none⟩)) h (i := l.length - 1) (j := 10) GM rfl (by show _ = 0 + ((l.length - 1) * 11 + 10); omega)) ?_
 obtain ⟨g, hg⟩ := aM (l := l) (i := l.length - 2) (by omega)
 refine ⟨hin.1, hin.2, ?_⟩
 have K7 : (l.take (l.length - 1))[l.length - 2]? = some g := by rw [List.getElem?_take, if_pos (by omega)]; exact hg
 refine xT h K7 hin (by omega) ?_
 clear h
 intro M h
 exact k2 (by omega) b' c' M g hg h
abbrev iZ (A : Option Addr) (c : Nat) (l : List Int) : HP := bE br 3 A c l
def eK : ug Lk := ⟨fun b x => exs fun A : Option Addr => exs fun c : Nat => sep [pt b [.int .i64 x.owner, .slice A x.waits.length c] 307, iZ A c x.waits]⟩
def Lk.take (x : Lk) (g : Int) : Lk × Bool := if x.owner = -1 then (⟨g, x.waits⟩, true) else (⟨x.owner, x.waits ++ [g]⟩, false)
def Lk.tI (x : Lk) (g : Int) : Lk × Int × Int :=
 if x.owner = -1 ∨ x.owner ≠ g then (x, -1, 5) else (⟨x.waits.headD (-1), x.waits.tail⟩, x.waits.headD (-1), 0)
variable {y : Lk}
theorem rT (h : Hp R L M) [o : bZ eK b L y L'] : ∃ A c, Hp R (pt b [.int .i64 y.owner, .slice A y.waits.length c] 307 :: iZ A c y.waits :: L') M := by
 have := h.obj eK b
 simpa only [eK, Hp.dN, Hp.bk, List.cons_append, List.nil_append] using this
theorem gJ {A : Option Addr} {n c : Nat} {o : Int} {ws : List Int} {L1 L2 : List HP} (h : Hp R L M) (b : Nat) [p : kL b L [.int .i64 o, .slice A n c] 307 L1] [p1 : cG A L1 Int br 3 c ws L2] (e : n = ws.length := by first | rfl | simp) : Hp R (ax eK b ⟨o, ws⟩ :: L2) M := by
 subst e
 refine Hp.xj ?_
 simp only [eK, Hp.dN, Hp.bk, List.cons_append, List.nil_append]
 exact ⟨_, _, h.sub (.cons p.pick (.cons p1.pick .refl))⟩
theorem Dk (h : Hp R L M) (k : ∀ b M', Hp R (ax eK b ⟨-1, []⟩ :: L) M' → K (.pointer (some ⟨b, 0, none⟩)) M') : aa Tryz.prog 114 #[] M K Kp := by
 refine Ej ?_
 refine aj h ?_
 clear h
 intro b M h
 have h := h.bR br 3
 exact k b M (gJ h b)
theorem Jv {g : Int} (h : Hp R L M) [o : bZ eK b L y L'] (hs : y.waits.length ≤ 1000000000) (k : ∀ M', Hp R (ax eK b (y.take g).1 :: L') M' → K (.bool (y.take g).2) M') :
  aa Tryz.prog 245 #[.pointer (some ⟨b, 0, none⟩), .int .i64 g] M K Kp := by
 refine uG ?_
 have h' := rT h (b := b)
 clear h
 obtain ⟨A, c, h⟩ := h'
 repeat (first|(refine aj h ?_;clear h;intro kb M h)|(refine au h ?_;clear h;intro M h)|refine St.to h ?_|(apply Exists.intro;(repeat apply Exists.intro);refine And.intro rfl ?_)|refine av ?_|refine ae ?_|refine ai ?_)
 unfold Lk.take at k
 refine fy.2 ⟨fun hn => ?_, fun hn => ?_⟩
 ·rw [if_neg hn] at k
  repeat (first|(refine aj h ?_;clear h;intro kb M h)|(refine au h ?_;clear h;intro M h)|refine St.to h ?_|(apply Exists.intro;(repeat apply Exists.intro);refine And.intro rfl ?_)|refine av ?_|refine ae ?_|refine ai ?_)
  refine h.bJ qj [g] rfl rfl (by simp; omega) ?_
  clear h
  intro A' c' M h
  repeat (first|(refine aj h ?_;clear h;intro kb M h)|(refine au h ?_;clear h;intro M h)|refine St.to h ?_|(apply Exists.intro;(repeat apply Exists.intro);refine And.intro rfl ?_)|refine av ?_|refine ae ?_|refine ai ?_)
  exact k _ (gJ h b).cj
 ·rw [if_pos hn] at k
  repeat (first|(refine aj h ?_;clear h;intro kb M h)|(refine au h ?_;clear h;intro M h)|refine St.to h ?_|(apply Exists.intro;(repeat apply Exists.intro);refine And.intro rfl ?_)|refine av ?_|refine ae ?_|refine ai ?_)
  exact k _ (gJ h b).cj
theorem Jw {g : Int} (h : Hp R L M) [o : bZ eK b L y L'] (hs : y.waits.length ≤ 1000000000) (k : ∀ M', Hp R (ax eK b (y.tI g).1 :: L') M' → K (.tuple #[.int .i64 (y.tI g).2.1, .int .i64 (y.tI g).2.2]) M') :
  aa Tryz.prog 246 #[.pointer (some ⟨b, 0, none⟩), .int .i64 g] M K Kp := by
 refine uH ?_
 obtain ⟨ow, ws⟩ := y
 have h' := rT h (b := b)
 clear h
 obtain ⟨A, c, h⟩ := h'
 dsimp only at h hs
 repeat (first|(refine aj h ?_;clear h;intro kb M h)|(refine au h ?_;clear h;intro M h)|refine St.to h ?_|(apply Exists.intro;(repeat apply Exists.intro);refine And.intro rfl ?_)|refine av ?_|refine ae ?_|refine ai ?_)
 unfold Lk.tI at k
 refine aV.2 ⟨fun hn => ?_, fun hn => ?_⟩
 ·rw [if_pos (.inl hn)] at k
  exact k _ (gJ h b).cj
 repeat (first|(refine aj h ?_;clear h;intro kb M h)|(refine au h ?_;clear h;intro M h)|refine St.to h ?_|(apply Exists.intro;(repeat apply Exists.intro);refine And.intro rfl ?_)|refine av ?_|refine ae ?_|refine ai ?_)
 refine fy.2 ⟨fun BU => ?_, fun BU => ?_⟩
 ·rw [if_pos (.inr BU)] at k
  exact k _ (gJ h b).cj
 rw [if_neg (by rintro (h | h) <;> contradiction)] at k
 repeat (first|(refine aj h ?_;clear h;intro kb M h)|(refine au h ?_;clear h;intro M h)|refine St.to h ?_|(apply Exists.intro;(repeat apply Exists.intro);refine And.intro rfl ?_)|refine av ?_|refine ae ?_|refine ai ?_)
 refine aJ.2 ⟨fun hr => ?_, fun hr => ?_⟩
 ·cases ws with
  | nil => simp at hr
  | cons w r =>
   repeat (first|(refine aj h ?_;clear h;intro kb M h)|(refine au h ?_;clear h;intro M h)|refine St.to h ?_|(apply Exists.intro;(repeat apply Exists.intro);refine And.intro rfl ?_)|refine av ?_|refine ae ?_|refine ai ?_)
   obtain ⟨q, rfl⟩ := h.bF (A := A) (by simp) (by decide)
   repeat (first|(refine aj h ?_;clear h;intro kb M h)|(refine au h ?_;clear h;intro M h)|refine St.to h ?_|(apply Exists.intro;(repeat apply Exists.intro);refine And.intro rfl ?_)|refine av ?_|refine ae ?_|refine ai ?_)
   refine aR (Src.at (h.src (A := some ⟨q, 0, none⟩)) h (i := 0) (j := 0) rfl rfl (by simp [br])) ?_
   have hcap := h.j8 (some ⟨q, 0, none⟩)
   have hlen : r.length + 1 ≤ 1000000000 := by simpa using hs
   repeat (first|(refine aj h ?_;clear h;intro kb M h)|(refine au h ?_;clear h;intro M h)|refine St.to h ?_|(apply Exists.intro;(repeat apply Exists.intro);refine And.intro rfl ?_)|refine av ?_|refine ae ?_|refine ai ?_)
   simp only [Int.toNat_natCast]
   refine h.fV br qj r ((h.src (A := some ⟨q, 0, none⟩)).drop (m := 1) hcap) (by simp) (by omega) ?_
   clear h
   intro A' c' M h
   repeat (first|(refine aj h ?_;clear h;intro kb M h)|(refine au h ?_;clear h;intro M h)|refine St.to h ?_|(apply Exists.intro;(repeat apply Exists.intro);refine And.intro rfl ?_)|refine av ?_|refine ae ?_|refine ai ?_)
   exact k _ (gJ h b).cj
 ·cases ws with
  | cons v l => simp at hr
  | nil =>
   repeat (first|(refine aj h ?_;clear h;intro kb M h)|(refine au h ?_;clear h;intro M h)|refine St.to h ?_|(apply Exists.intro;(repeat apply Exists.intro);refine And.intro rfl ?_)|refine av ?_|refine ae ?_|refine ai ?_)
   exact k _ (gJ h b).cj
end
structure PA where
 f : Option Addr
 fc : Nat
 c : Option Addr
 cc : Nat
 k : Option Addr
 kc : Nat
abbrev GA := Option Addr × Nat
abbrev qL (y : js) (A : Option Addr) (c : Nat) : List Value := [.int .i64 y.st, .slice A y.fs.length c, .int .i64 y.wt.op, .int .i64 y.wt.a, .int .i64 y.wt.b, .int .i64 y.wt.c]
def fR : ug (js × GA) := ⟨fun b x => sep [pt b (qL x.1 x.2.1 x.2.2) 229, tH x.2.1 x.2.2 x.1.fs]⟩
structure WA where
 ag : Option Addr
 cg : Nat
 gb : List Nat
 ac : Option Addr
 cc : Nat
 cb : List Nat
 al : Option Addr
 cl : Nat
 lb : List Nat
 ah : Option Addr
 ch : Nat
 ao : Option Addr
 co : Nat
 ar : Option Addr
 cr : Nat
abbrev mT (pa : PA) (p : cu) (dr : Value) (a : WA) (x : Wd) : List Value :=
 [.slice pa.f p.funcs.length pa.fc, .slice pa.c p.dU.length pa.cc, .int .i64 p.aI, .slice pa.k p.cases.length pa.kc, .slice a.ag a.gb.length a.cg, .int .u64 x.clock,
  .slice a.ac a.cb.length a.cc, .slice a.al a.lb.length a.cl, .slice a.ah x.hl.length a.ch, .int .u64 x.mQ, .slice a.ao x.out.length a.co, .int .i64 x.end_, .int .i64 x.code, .slice a.ar x.ready.length a.cr, dr]
abbrev yN (A : Option Addr) (c : Nat) (l : List Nat) : HP := bE mO 224 A c l
abbrev yO (A : Option Addr) (c : Nat) (l : List Nat) : HP := bE mO 230 A c l
abbrev yP (A : Option Addr) (c : Nat) (l : List Nat) : HP := bE mO 232 A c l
abbrev ee (A : Option Addr) (c : Nat) (l : List bz) : HP := bE lH 203 A c l
abbrev tR (a : WA) (x : Wd) (L : List HP) : List HP :=
 yN a.ag a.cg a.gb :: yO a.ac a.cc a.cb :: bl bI a.cb x.aB :: yP a.al a.cl a.lb :: bl eK a.lb x.aI :: ee a.ah a.ch x.hl :: iO a.ao a.co x.out :: iZ a.ar a.cr x.ready :: L
def fB (gg : List GA) (a : WA) (x : Wd) : Prop := a.gb.length = x.gs.length ∧ gg.length = x.gs.length ∧ a.cb.length = x.aB.length ∧ a.lb.length = x.aI.length
def bB (pa : PA) (p : cu) (gg : List GA) (dr : Value) : ug Wd := ⟨fun b x => exs fun a : WA =>
 sep (pt b (mT pa p dr a x) 161 :: bl fR a.gb (x.gs.zip gg) :: fact (fB gg a x) :: tR a x [])⟩
class xU (b : Nat) (L : List HP) (pa : outParam PA) (p : outParam cu) (gg : outParam (List GA)) (dr : outParam Value) (x : outParam Wd) (L' : outParam (List HP)) : Prop where
 pick : cW L (ax (bB pa p gg dr) b x) L'
instance xU.here {pa : PA} {p : cu} {gg : List GA} {dr : Value} {b : Nat} {x : Wd} {L : List HP} : xU b (ax (bB pa p gg dr) b x :: L) pa p gg dr x L := ⟨.here⟩
instance (priority := low) xU.there {pa : PA} {p : cu} {gg : List GA} {dr : Value} {b : Nat} {x : Wd} {Q : HP} {L L' : List HP} [h : xU b L pa p gg dr x L'] : xU b (Q :: L) pa p gg dr x (Q :: L') := ⟨.there h.pick⟩
section
variable {R : Mem} {L L' : List HP} {M : Mem} {K : Value → Mem → Prop} {Kp : List PanicEntry → Mem → Prop} {pa : PA} {p : cu} {gg : List GA} {dr : Value} {b : Nat} {x : Wd}
theorem cy (h : Hp R L M) [o : xU b L pa p gg dr x L'] : ∃ a : WA, fB gg a x ∧ Hp R (pt b (mT pa p dr a x) 161 :: bl fR a.gb (x.gs.zip gg) :: tR a x L') M := by
 have := h.pick o.pick
 unfold ax at this
 simp only [bB, tR, Hp.dN, Hp.bk, List.cons_append, List.nil_append] at this
 obtain ⟨a, h⟩ := this
 have h2 := h.pick (P := fact (fB gg a x)) (.there (.there .here))
 exact ⟨a, (Hp.gi.1 h2).1, (Hp.gi.1 h2).2⟩
theorem jT {a : WA} (hl : fB gg a x) (h : Hp R (pt b (mT pa p dr a x) 161 :: bl fR a.gb (x.gs.zip gg) :: tR a x L) M) : Hp R (ax (bB pa p gg dr) b x :: L) M := by
 refine Hp.xj ?_
 simp only [bB, tR, Hp.dN, Hp.bk, List.cons_append, List.nil_append]
 refine ⟨a, ?_⟩
 have h2 : Hp R (fact (fB gg a x) :: pt b (mT pa p dr a x) 161 :: bl fR a.gb (x.gs.zip gg) :: tR a x L) M := Hp.gi.2 ⟨hl, h⟩
 exact h2.oh (.there (.there .here))
theorem bh {a : WA} {L0 L1 L2 L3 L4 L5 L6 L7 L8 L9 : List HP} (hl : fB gg a x) (h : Hp R L M) (b : Nat)
  [p0 : kL b L (mT pa p dr a x) 161 L0] [p1 : fX fR L0 a.gb (x.gs.zip gg) L1] [p2 : cG a.ag L1 Nat mO 224 a.cg a.gb L2] [p3 : cG a.ac L2 Nat mO 230 a.cc a.cb L3]
  [p4 : fX bI L3 a.cb x.aB L4] [p5 : cG a.al L4 Nat mO 232 a.cl a.lb L5] [p6 : fX eK L5 a.lb x.aI L6] [p7 : cG a.ah L6 bz lH 203 a.ch x.hl L7] [p8 : cG a.ao L7 Int br 2 a.co x.out L8]
  [p9 : cG a.ar L8 Int br 3 a.cr x.ready L9] : Hp R (ax (bB pa p gg dr) b x :: L9) M :=
 jT hl (h.sub (.cons p0.pick (.cons p1.pick (.cons p2.pick (.cons p3.pick (.cons p4.pick (.cons p5.pick (.cons p6.pick (.cons p7.pick (.cons p8.pick (.cons p9.pick .refl)))))))))))
theorem GN {α β : Type} : ∀ {l : List α} {m : List β} {i : Nat} {u : α} {v : β}, m[i]? = some v → (l.zip m).set i (u, v) = (l.set i u).zip m
 | [], _, _, _, _, _ => by simp
 | a :: l, [], i, u, v, h => by simp at h
 | a :: l, w :: m, 0, u, v, h => by simp at h; subst h; rfl
 | a :: l, w :: m, i + 1, u, v, h => by
  have := GN (l := l) (u := u) (show m[i]? = some v from by simpa using h)
  simp [this]
theorem mA {α β : Type} : ∀ {l : List α} {m : List β} {i : Nat} {u : α} {v : β}, l[i]? = some u → m[i]? = some v → (l.zip m)[i]? = some (u, v)
 | [], _, _, _, _, h, _ => by simp at h
 | a :: l, [], i, u, v, _, h => by simp at h
 | a :: l, w :: m, 0, u, v, h, g => by simp at h g; subst h; subst g; rfl
 | a :: l, w :: m, i + 1, u, v, h, g => by simpa using mA (show l[i]? = some u from by simpa using h) (show m[i]? = some v from by simpa using g)
theorem lP {c : Nat} {y : js} {A : Option Addr} (h : Hp R L M) [o : bZ fR b L (y, (A, c)) L'] : Hp R (pt b (qL y A c) 229 :: tH A c y.fs :: L') M := by
 have := h.obj fR b
 simpa only [fR, Hp.bk, List.cons_append, List.nil_append] using this
theorem nA {A : Option Addr} {n c : Nat} {st o1 o2 o3 o4 : Int} {fs : List gV} {L1 L2 : List HP} (h : Hp R L M) (b : Nat) [p : kL b L [.int .i64 st, .slice A n c, .int .i64 o1, .int .i64 o2, .int .i64 o3, .int .i64 o4] 229 L1] [p1 : cG A L1 gV fQ 275 c fs L2]
  (e : n = fs.length := by first | rfl | simp) : Hp R (ax fR b (⟨st, fs, ⟨o1, o2, o3, o4⟩⟩, (A, c)) :: L2) M := by
 subst e
 refine Hp.xj ?_
 simp only [fR, Hp.bk, List.cons_append, List.nil_append]
 exact h.sub (.cons p.pick (.cons p1.pick .refl))
theorem jU {g : Int} (h : Hp R L M) [o : xU b L pa p gg dr x L'] (h0 : 0 ≤ g) (hg : g < x.gs.length) :
  ∃ (a : WA) (gb : Nat) (A : Option Addr) (c : Nat), fB gg a x ∧ a.gb[g.toNat]? = some gb ∧ gg[g.toNat]? = some (A, c) ∧
   Hp R (pt gb (qL (aq x g) A c) 229 :: tH A c (aq x g).fs :: pt b (mT pa p dr a x) 161 :: mz fR a.gb (x.gs.zip gg) g.toNat :: tR a x L') M := by
 obtain ⟨a, hl, h1⟩ := cy h (b := b)
 obtain ⟨l1, l2, l3, l4⟩ := hl
 obtain ⟨gb, fS⟩ := aM (l := a.gb) (i := g.toNat) (by omega)
 obtain ⟨⟨A, c⟩, fj⟩ := aM (l := gg) (i := g.toNat) (by omega)
 obtain ⟨y, hy⟩ := aM (l := x.gs) (i := g.toNat) (by omega)
 have e : aq x g = y := by simp [aq, hy]
 rw [e]
 have h2 := h1.cH fR fS (mA hy fj)
 have h3 := lP (b := gb) h2
 exact ⟨a, gb, A, c, ⟨l1, l2, l3, l4⟩, fS, fj, h3.sub bp⟩
theorem c7 {a : WA} {A : Option Addr} {c n : Nat} {g : Int} {st o1 o2 o3 o4 : Int} {fs : List gV} {L1 L2 L3 : List HP} (h : Hp R L M) (gb : Nat) (hl : fB gg a x) (fS : a.gb[g.toNat]? = some gb) (fj : gg[g.toNat]? = some (A, c))
  [p1 : kL gb L [.int .i64 st, .slice A n c, .int .i64 o1, .int .i64 o2, .int .i64 o3, .int .i64 o4] 229 L1] [p2 : cG A L1 gV fQ 275 c fs L2]
  [p3 : yJ fR L2 a.gb (x.gs.zip gg) g.toNat L3] (e : n = fs.length := by first | rfl | simp) : Hp R (bl fR a.gb ((x.gs.set g.toNat ⟨st, fs, ⟨o1, o2, o3, o4⟩⟩).zip gg) :: L3) M := by
 have h1 := nA h gb e
 obtain ⟨l1, l2, l3, l4⟩ := hl
 have hi := (List.getElem?_eq_some_iff.1 fS).1
 have h2 := h1.eA fR gb fS (by rw [List.length_zip]; omega)
 rwa [GN fj] at h2
end
section
variable {R : Mem} {L L' : List HP} {M : Mem} {K : Value → Mem → Prop} {Kp : List PanicEntry → Mem → Prop} {pa : PA} {p : cu} {gg : List GA} {dr : Value} {b : Nat} {x : Wd}
theorem QC {A : Option Addr} {l : List Nat} {T c q i bb : Nat} (h : Hp R L M) [r : cG A L Nat mO T c l L'] (hq : A = some ⟨q, 0, none⟩) (hb : l[i]? = some bb) : M.ld ⟨q, 0 + i, none⟩ = some (.pointer (some ⟨bb, 0, none⟩)) := by
 subst hq
 exact Src.at (h.src (A := some ⟨q, 0, none⟩)) h (i := i) (j := 0) hb rfl (by simp [mO])
theorem uT {A : Option Addr} {l : List Nat} {T c bb i : Nat} {G : Nat → Nat → Option Addr → Prop} (h : Hp R L M) [r : cG A L Nat mO T c l L'] (hb : l[i]? = some bb) (k : ∀ q, A = some ⟨q, 0, none⟩ → G q 0 (some ⟨bb, 0, none⟩)) :
  aE A fun k4 k5 => cv (M.ld ⟨k4, k5 + i, none⟩) fun A6 => G k4 k5 A6 := by
 obtain ⟨q, hq⟩ := h.bF (A := A) (by have := (List.getElem?_eq_some_iff.1 hb).1; omega) (by decide)
 have h2 := QC h hq hb
 subst hq
 refine aY ?_
 rw [h2]
 exact gY (k q rfl)
theorem iw {g : Int} (h : Hp R L M) [o : xU b L pa p gg dr x L'] (h0 : 0 ≤ g) (hg : g < x.gs.length) (hr : x.ready.length ≤ 1000000000)
  (k : ∀ M', Hp R (ax (bB pa p gg dr) b (x.fF g) :: L') M' → K (.tuple #[]) M') : aa Tryz.prog 158 #[.pointer (some ⟨b, 0, none⟩), .int .i64 g] M K Kp := by
 refine sC ?_
 have h' := jU h (b := b) h0 hg
 clear h
 obtain ⟨a, gb, A, c, hl, fS, fj, h⟩ := h'
 have hl' := hl
 obtain ⟨l1, l2, l3, l4⟩ := hl'
 repeat (first|(refine aj h ?_;clear h;intro kb M h)|(refine au h ?_;clear h;intro M h)|refine St.to h ?_|(apply Exists.intro;(repeat apply Exists.intro);refine And.intro rfl ?_)|refine av ?_|refine ae ?_|refine ai ?_)
 refine uT h fS fun q hq => ?_
 repeat (first|(refine aj h ?_;clear h;intro kb M h)|(refine au h ?_;clear h;intro M h)|refine St.to h ?_|(apply Exists.intro;(repeat apply Exists.intro);refine And.intro rfl ?_)|refine av ?_|refine ae ?_|refine ai ?_)
 refine h.bJ qj [g] rfl rfl (by simp; omega) ?_
 clear h
 intro A' c' M h
 repeat (first|(refine aj h ?_;clear h;intro kb M h)|(refine au h ?_;clear h;intro M h)|refine St.to h ?_|(apply Exists.intro;(repeat apply Exists.intro);refine And.intro rfl ?_)|refine av ?_|refine ae ?_|refine ai ?_)
 replace h := c7 h gb hl fS fj
 exact k _ (jT (a := { a with ar := A', cr := c' }) ⟨by simpa [Wd.fF, Wd.bG] using l1, by simpa [Wd.fF, Wd.bG] using l2, l3, l4⟩ (h.sub bp))
theorem eM {y : js} (h : 0 < y.fs.length) : y.fs[y.fs.length - 1]? = some y.top := by
 unfold js.top
 rw [List.getD_eq_getElem?_getD, List.getElem?_eq_getElem (by omega)]; rfl
theorem dB {a : WA} {g : Int} {y : js} (hl : fB gg a x) : fB gg a (x.bG g y) := by
 obtain ⟨l1, l2, l3, l4⟩ := hl
 exact ⟨by simpa [Wd.bG] using l1, by simpa [Wd.bG] using l2, l3, l4⟩
theorem mB {g : Int} {i : cN} (h : Hp R L M) [o : xU b L pa p gg dr x L'] (h0 : 0 ≤ g) (hg : g < x.gs.length)
  (k : ∀ M', Hp R (ax (bB pa p gg dr) b (x.block g i) :: L') M' → K (.tuple #[]) M') : aa Tryz.prog 208 #[.pointer (some ⟨b, 0, none⟩), .int .i64 g, .agg #[.int .i64 i.op, .int .i64 i.a, .int .i64 i.b, .int .i64 i.c]] M K Kp := by
 refine qp ?_
 have h' := jU h (b := b) h0 hg
 clear h
 obtain ⟨a, gb, A, c, hl, fS, fj, h⟩ := h'
 have hl' := hl
 obtain ⟨l1, l2, l3, l4⟩ := hl'
 repeat (first|(refine aj h ?_;clear h;intro kb M h)|(refine au h ?_;clear h;intro M h)|refine St.to h ?_|(apply Exists.intro;(repeat apply Exists.intro);refine And.intro rfl ?_)|refine av ?_|refine ae ?_|refine ai ?_)
 refine uT h fS fun q hq => ?_
 repeat (first|(refine aj h ?_;clear h;intro kb M h)|(refine au h ?_;clear h;intro M h)|refine St.to h ?_|(apply Exists.intro;(repeat apply Exists.intro);refine And.intro rfl ?_)|refine av ?_|refine ae ?_|refine ai ?_)
 refine uT h fS fun q2 nV => ?_
 repeat (first|(refine aj h ?_;clear h;intro kb M h)|(refine au h ?_;clear h;intro M h)|refine St.to h ?_|(apply Exists.intro;(repeat apply Exists.intro);refine And.intro rfl ?_)|refine av ?_|refine ae ?_|refine ai ?_)
 replace h := c7 h gb hl fS fj
 exact k _ (jT (a := a) (dB hl) (h.sub bp))
theorem wz {g kk : Int} (h : Hp R L M) [o : xU b L pa p gg dr x L'] (hg : bn x g) (hc : be (aq x g).wt.c) (hs : x.Sm)
  (k : ∀ M', Hp R (ax (bB pa p gg dr) b (x.gI g kk) :: L') M' → K (.tuple #[]) M') : aa Tryz.prog 251 #[.pointer (some ⟨b, 0, none⟩), .int .i64 g, .int .i64 kk] M K Kp := by
 refine pB ?_
 obtain ⟨h0, h1, h2, h3⟩ := hg
 obtain ⟨s1, s2, s3, s4, s5, s6, s7, s8⟩ := hs
 have h' := jU h (b := b) h0 h1
 clear h
 obtain ⟨a, gb, A, c, hl, fS, fj, h⟩ := h'
 have hl' := hl
 obtain ⟨l1, l2, l3, l4⟩ := hl'
 repeat (first|(refine aj h ?_;clear h;intro kb M h)|(refine au h ?_;clear h;intro M h)|refine St.to h ?_|(apply Exists.intro;(repeat apply Exists.intro);refine And.intro rfl ?_)|refine av ?_|refine ae ?_|refine ai ?_)
 refine uT h fS fun q hq => ?_
 repeat (first|(refine aj h ?_;clear h;intro kb M h)|(refine au h ?_;clear h;intro M h)|refine St.to h ?_|(apply Exists.intro;(repeat apply Exists.intro);refine And.intro rfl ?_)|refine av ?_|refine ae ?_|refine ai ?_)
 refine uT h fS fun q2 nV => ?_
 repeat (first|(refine aj h ?_;clear h;intro kb M h)|(refine au h ?_;clear h;intro M h)|refine St.to h ?_|(apply Exists.intro;(repeat apply Exists.intro);refine And.intro rfl ?_)|refine av ?_|refine ae ?_|refine ai ?_)
 obtain ⟨bs, rfl⟩ := h.bF (A := A) h2 (by decide)
 refine ny h2 (by omega) ?_
 repeat (first|(refine aj h ?_;clear h;intro kb M h)|(refine au h ?_;clear h;intro M h)|refine St.to h ?_|(apply Exists.intro;(repeat apply Exists.intro);refine And.intro rfl ?_)|refine av ?_|refine ae ?_|refine ai ?_)
 refine ⟨hc.1, hc.2, xT h (eM h2) hc rfl ?_⟩
 clear h
 intro M h
 repeat (first|(refine aj h ?_;clear h;intro kb M h)|(refine au h ?_;clear h;intro M h)|refine St.to h ?_|(apply Exists.intro;(repeat apply Exists.intro);refine And.intro rfl ?_)|refine av ?_|refine ae ?_|refine ai ?_)
 refine Gd h (Src.row (A := a.ac)) rfl (by omega) l3 (fun c hc => (s1 c hc).mono (by omega)) ?_
 clear h
 intro M h
 refine ⟨rfl, ?_⟩
 replace h := c7 h gb hl fS fj
 exact k _ (jT (a := a) (x := x.gI g kk) ⟨by simpa [Wd.gI, Wd.leave, Wd.bA, Wd.bG] using l1, by simpa [Wd.gI, Wd.leave, Wd.bA, Wd.bG] using l2, by simpa [Wd.gI, Wd.leave, Wd.bA, Wd.bG] using l3, l4⟩ (h.sub bp))
end
theorem ja {x : Wd} {g q v : Int} (h : bn x g) : aq (x.bA g q v) g = (aq x g).cV ((aq x g).top.set q v) := gW h.1 h.2.1
theorem jb {x : Wd} {g q v : Int} (h : bn x g) : bn (x.bA g q v) g := by
 obtain ⟨h0, h1, h2, h3⟩ := h
 refine ⟨h0, by simpa [Wd.bA, Wd.bG] using h1, ?_, ?_⟩ <;> rw [ja ⟨h0, h1, h2, h3⟩] <;> simpa [js.cV]
theorem Nh {x : Wd} {g q v : Int} (h : bn x g) : (aq (x.bA g q v) g).wt = (aq x g).wt := by rw [ja h]; rfl
theorem wA {x : Wd} {g k : Int} (h : bn x g) : bn (x.gI g k) g := jb h
theorem K8 {x : Wd} {g : Int} {y : js} (h : x.Sm) : (x.bG g y).Sm := by
 obtain ⟨s1, s2, s3, s4⟩ := h
 exact ⟨s1, s2, by simpa [Wd.bG] using s3, s4⟩
theorem dc {z : Int} (h0 : 0 ≤ z) (h : z < 9223372036854775808) : IntKind.wrap .i64 z = z := by
 obtain ⟨n, rfl⟩ := Int.eq_ofNat_of_zero_le h0
 exact m8 (by omega)
section
variable {R : Mem} {L L' : List HP} {M : Mem} {K : Value → Mem → Prop} {Kp : List PanicEntry → Mem → Prop} {pa : PA} {p : cu} {gg : List GA} {dr : Value} {b : Nat} {x : Wd}
theorem Yn {A : Option Addr} {c : Nat} {l : List oV} {q : Int} {G : Nat → Nat → Int → Prop} (h : Hp R L M) (hp : RS iu R A c l) (h0 : 0 ≤ q) (hq : q < l.length) (k : ∀ b o, G b o (l.getD q.toNat ⟨0, 0, 0⟩).bQ) :
  aE A fun b o => aK (M.ld ⟨b, ((o + q.toNat * 3) + 2), none⟩) .i64 fun n => G b o n := by
 obtain ⟨bb, o, rfl⟩ := hp.some (by omega) (by decide)
 obtain ⟨y, hy⟩ := aM (l := l) (i := q.toNat) (by omega)
 have e : l.getD q.toNat ⟨0, 0, 0⟩ = y := by simp [hy]
 refine aY ?_
 refine aR (Src.at (hp.src (L := L)) h (i := q.toNat) (j := 2) hy rfl (by show _ = o + (q.toNat * 3 + 2); omega)) ?_
 have := k bb o
 rwa [e] at this
theorem qM {v : Wt} {some : Int} (h : Hp R L M) [o : xU b L pa p gg dr x L'] (hp : RS iu R pa.k pa.kc p.cases) (hv : ql p x v) (hs : x.Sm)
  (k : ∀ M', Hp R (ax (bB pa p gg dr) b (x.received p v some) :: L') M' → K (.tuple #[]) M') : aa Tryz.prog 238 #[.pointer (Option.some ⟨b, 0, none⟩), .agg #[.int .i64 v.g, .int .i64 v.cs, .int .i64 v.v], .int .i64 some] M K Kp := by
 refine nv ?_
 obtain ⟨hg, hv⟩ := hv
 have EE := hg
 obtain ⟨h0, h1, h2, h3⟩ := EE
 have hs' := hs
 obtain ⟨s1, s2, s3, s4, s5, s6, s7, s8⟩ := hs'
 have h' := jU h (b := b) h0 h1
 clear h
 obtain ⟨a, gb, A, c, hl, fS, fj, h⟩ := h'
 have hl' := hl
 obtain ⟨l1, l2, l3, l4⟩ := hl'
 repeat (first|(refine aj h ?_;clear h;intro kb M h)|(refine au h ?_;clear h;intro M h)|refine St.to h ?_|(apply Exists.intro;(repeat apply Exists.intro);refine And.intro rfl ?_)|refine av ?_|refine ae ?_|refine ai ?_)
 refine uT h fS fun q hq => ?_
 repeat (first|(refine aj h ?_;clear h;intro kb M h)|(refine au h ?_;clear h;intro M h)|refine St.to h ?_|(apply Exists.intro;(repeat apply Exists.intro);refine And.intro rfl ?_)|refine av ?_|refine ae ?_|refine ai ?_)
 refine uT h fS fun q2 nV => ?_
 repeat (first|(refine aj h ?_;clear h;intro kb M h)|(refine au h ?_;clear h;intro M h)|refine St.to h ?_|(apply Exists.intro;(repeat apply Exists.intro);refine And.intro rfl ?_)|refine av ?_|refine ae ?_|refine ai ?_)
 obtain ⟨bs, rfl⟩ := h.bF (A := A) h2 (by decide)
 refine ny h2 (by omega) ?_
 repeat (first|(refine aj h ?_;clear h;intro kb M h)|(refine au h ?_;clear h;intro M h)|refine St.to h ?_|(apply Exists.intro;(repeat apply Exists.intro);refine And.intro rfl ?_)|refine av ?_|refine ae ?_|refine ai ?_)
 refine ⟨QC h nV fS, ?_⟩
 repeat (first|(refine aj h ?_;clear h;intro kb M h)|(refine au h ?_;clear h;intro M h)|refine St.to h ?_|(apply Exists.intro;(repeat apply Exists.intro);refine And.intro rfl ?_)|refine av ?_|refine ae ?_|refine ai ?_)
 refine ⟨QC h nV fS, ?_⟩
 repeat (first|(refine aj h ?_;clear h;intro kb M h)|(refine au h ?_;clear h;intro M h)|refine St.to h ?_|(apply Exists.intro;(repeat apply Exists.intro);refine And.intro rfl ?_)|refine av ?_|refine ae ?_|refine ai ?_)
 unfold Wd.received at k
 refine aV.2 ⟨fun K9 => ?_, fun K9 => ?_⟩
 ·simp only [K9, if_true] at k hv
  obtain ⟨v1, v2, v3, v4, v5⟩ := hv
  repeat (first|(refine aj h ?_;clear h;intro kb M h)|(refine au h ?_;clear h;intro M h)|refine St.to h ?_|(apply Exists.intro;(repeat apply Exists.intro);refine And.intro rfl ?_)|refine av ?_|refine ae ?_|refine ai ?_)
  rw [dc v1 (by omega)]
  refine ⟨v1, by omega, Yn (q := (aq x v.g).wt.a + v.cs) h hp v1 v2 fun _ _ => ?_⟩
  repeat (first|(refine aj h ?_;clear h;intro kb M h)|(refine au h ?_;clear h;intro M h)|refine St.to h ?_|(apply Exists.intro;(repeat apply Exists.intro);refine And.intro rfl ?_)|refine av ?_|refine ae ?_|refine ai ?_)
  refine ⟨v4.1, v4.2, xT h (eM h2) v4 rfl ?_⟩
  clear h
  intro M h
  repeat (first|(refine aj h ?_;clear h;intro kb M h)|(refine au h ?_;clear h;intro M h)|refine St.to h ?_|(apply Exists.intro;(repeat apply Exists.intro);refine And.intro rfl ?_)|refine av ?_|refine ae ?_|refine ai ?_)
  replace h := c7 h gb hl fS fj
  replace h := bh (a := a) (p := p) (pa := pa) (dr := dr) (gg := gg) (x := x.bA v.g (qk p ((aq x v.g).wt.a + v.cs)).bQ v.v) (dB hl) h b
  have v5' := v5
  rw [← Nh (q := (qk p ((aq x v.g).wt.a + v.cs)).bQ) (v := v.v) hg] at v5'
  refine wz (b := b) h (jb hg) v5' (K8 hs) ?_
  clear h
  intro M h
  repeat (first|(refine aj h ?_;clear h;intro kb M h)|(refine au h ?_;clear h;intro M h)|refine St.to h ?_|(apply Exists.intro;(repeat apply Exists.intro);refine And.intro rfl ?_)|refine av ?_|refine ae ?_|refine ai ?_)
  have K7 := wA (k := v.cs) (jb (q := (qk p ((aq x v.g).wt.a + v.cs)).bQ) (v := v.v) hg)
  refine iw (b := b) h K7.1 K7.2.1 (by show x.ready.length ≤ _; omega) ?_
  clear h
  intro M h
  exact ⟨rfl, k _ h.cj⟩
 ·simp only [K9, if_false] at k hv
  obtain ⟨v1, v2⟩ := hv
  repeat (first|(refine aj h ?_;clear h;intro kb M h)|(refine au h ?_;clear h;intro M h)|refine St.to h ?_|(apply Exists.intro;(repeat apply Exists.intro);refine And.intro rfl ?_)|refine av ?_|refine ae ?_|refine ai ?_)
  refine ⟨v1.1, v1.2, ?_⟩
  repeat (first|(refine aj h ?_;clear h;intro kb M h)|(refine au h ?_;clear h;intro M h)|refine St.to h ?_|(apply Exists.intro;(repeat apply Exists.intro);refine And.intro rfl ?_)|refine av ?_|refine ae ?_|refine ai ?_)
  refine xT h (eM h2) v1 rfl ?_
  clear h
  intro M h
  repeat (first|(refine aj h ?_;clear h;intro kb M h)|(refine au h ?_;clear h;intro M h)|refine St.to h ?_|(apply Exists.intro;(repeat apply Exists.intro);refine And.intro rfl ?_)|refine av ?_|refine ae ?_|refine ai ?_)
  have Qk : ((aq x v.g).fs.set ((aq x v.g).fs.length - 1) ((aq x v.g).top.set (aq x v.g).wt.b v.v))[(aq x v.g).fs.length - 1]? = Option.some ((aq x v.g).top.set (aq x v.g).wt.b v.v) := by
   rw [List.getElem?_set_self]; omega
  refine ⟨v2.1, v2.2, xT h Qk v2 rfl ?_⟩
  clear h
  intro M h
  rw [iY] at h
  repeat (first|(refine aj h ?_;clear h;intro kb M h)|(refine au h ?_;clear h;intro M h)|refine St.to h ?_|(apply Exists.intro;(repeat apply Exists.intro);refine And.intro rfl ?_)|refine av ?_|refine ae ?_|refine ai ?_)
  replace h := c7 h gb hl fS fj (by simp)
  have ex : (x.bA v.g (aq x v.g).wt.b v.v).bA v.g (aq x v.g).wt.c some = x.bG v.g ((aq x v.g).cV (((aq x v.g).top.set (aq x v.g).wt.b v.v).set (aq x v.g).wt.c some)) := by
   have e1 := ja (q := (aq x v.g).wt.b) (v := v.v) hg
   have e2 : ∀ (z : Wd) (q u : Int), z.bA v.g q u = z.bG v.g ((aq z v.g).cV ((aq z v.g).top.set q u)) := fun _ _ _ => rfl
   rw [e2 (x.bA v.g (aq x v.g).wt.b v.v), e1]
   have e3 : ((aq x v.g).cV ((aq x v.g).top.set (aq x v.g).wt.b v.v)).top = (aq x v.g).top.set (aq x v.g).wt.b v.v := by
    unfold js.top js.cV
    dsimp only
    rw [List.length_set, List.getD_eq_getElem?_getD, List.getElem?_set_self (by omega)]; rfl
   rw [e3]
   simp [Wd.bA, Wd.bG, js.cV]
  rw [ex] at k
  replace h := bh (a := a) (p := p) (pa := pa) (dr := dr) (gg := gg) (x := x.bG v.g ((aq x v.g).cV (((aq x v.g).top.set (aq x v.g).wt.b v.v).set (aq x v.g).wt.c some))) (dB hl) h b
  refine iw (b := b) h h0 (by simpa [Wd.bG] using h1) (by show x.ready.length ≤ _; omega) ?_
  clear h
  intro M h
  exact ⟨rfl, k _ h.cj⟩
theorem Jx {v : Wt} (h : Hp R L M) [o : xU b L pa p gg dr x L'] (hv : yK x v) (hs : x.Sm)
  (k : ∀ M', Hp R (ax (bB pa p gg dr) b (x.sent v) :: L') M' → K (.tuple #[]) M') : aa Tryz.prog 240 #[.pointer (some ⟨b, 0, none⟩), .agg #[.int .i64 v.g, .int .i64 v.cs, .int .i64 v.v]] M K Kp := by
 refine sU ?_
 obtain ⟨hg, hv⟩ := hv
 have EE := hg
 obtain ⟨h0, h1, h2, h3⟩ := EE
 have hs' := hs
 obtain ⟨s1, s2, s3, s4, s5, s6, s7, s8⟩ := hs'
 have h' := jU h (b := b) h0 h1
 clear h
 obtain ⟨a, gb, A, c, hl, fS, fj, h⟩ := h'
 have hl' := hl
 obtain ⟨l1, l2, l3, l4⟩ := hl'
 repeat (first|(refine aj h ?_;clear h;intro kb M h)|(refine au h ?_;clear h;intro M h)|refine St.to h ?_|(apply Exists.intro;(repeat apply Exists.intro);refine And.intro rfl ?_)|refine av ?_|refine ae ?_|refine ai ?_)
 refine uT h fS fun q hq => ?_
 repeat (first|(refine aj h ?_;clear h;intro kb M h)|(refine au h ?_;clear h;intro M h)|refine St.to h ?_|(apply Exists.intro;(repeat apply Exists.intro);refine And.intro rfl ?_)|refine av ?_|refine ae ?_|refine ai ?_)
 unfold Wd.sent at k
 have ex : x.bG v.g (aq x v.g) = x := by
  obtain ⟨y, hy⟩ := aM (l := x.gs) (i := v.g.toNat) (by omega)
  have e : aq x v.g = y := by simp [aq, hy]
  rw [e]
  obtain ⟨hi, rfl⟩ := List.getElem?_eq_some_iff.1 hy
  simp [Wd.bG]
 refine aV.2 ⟨fun K9 => ?_, fun K9 => ?_⟩
 ·simp only [K9, if_true] at k hv
  repeat (first|(refine aj h ?_;clear h;intro kb M h)|(refine au h ?_;clear h;intro M h)|refine St.to h ?_|(apply Exists.intro;(repeat apply Exists.intro);refine And.intro rfl ?_)|refine av ?_|refine ae ?_|refine ai ?_)
  replace h := c7 h gb hl fS fj
  replace h := bh (a := a) (p := p) (pa := pa) (dr := dr) (gg := gg) (x := x.bG v.g (aq x v.g)) (dB hl) h b
  rw [ex] at h
  refine wz (b := b) (x := x) h hg (hv trivial) hs ?_
  clear h
  intro M h
  repeat (first|(refine aj h ?_;clear h;intro kb M h)|(refine au h ?_;clear h;intro M h)|refine St.to h ?_|(apply Exists.intro;(repeat apply Exists.intro);refine And.intro rfl ?_)|refine av ?_|refine ae ?_|refine ai ?_)
  have K7 := wA (k := v.cs) hg
  refine iw (b := b) h K7.1 K7.2.1 (by show x.ready.length ≤ _; omega) ?_
  clear h
  intro M h
  exact ⟨rfl, k _ h.cj⟩
 ·simp only [K9, if_false] at k
  repeat (first|(refine aj h ?_;clear h;intro kb M h)|(refine au h ?_;clear h;intro M h)|refine St.to h ?_|(apply Exists.intro;(repeat apply Exists.intro);refine And.intro rfl ?_)|refine av ?_|refine ae ?_|refine ai ?_)
  replace h := c7 h gb hl fS fj
  replace h := bh (a := a) (p := p) (pa := pa) (dr := dr) (gg := gg) (x := x.bG v.g (aq x v.g)) (dB hl) h b
  rw [ex] at h
  refine iw (b := b) (x := x) h h0 h1 (by omega) ?_
  clear h
  intro M h
  exact ⟨rfl, k _ h.cj⟩
end
def uU (x : Wd) (k : Int) : Prop := 0 ≤ k ∧ k < x.aB.length
instance (x : Wd) (k : Int) : Decidable (uU x k) := by unfold uU; infer_instance
def oW (p : cu) (x : Wd) (k v : Int) : Prop := uU x k ∧ (((cZ x.aB k).send v).2.2.1 = true → ql p x ((cZ x.aB k).send v).2.1) ∧ ((cZ x.aB k).send v).1.Small 1000000
instance (p : cu) (x : Wd) (k v : Int) : Decidable (oW p x k v) := by unfold oW; infer_instance
def wB (x : Wd) (k : Int) : Prop := uU x k ∧ ((cZ x.aB k).recv.2.2.2.2.1 = true → yK x (cZ x.aB k).recv.2.2.2.1) ∧ (cZ x.aB k).recv.1.Small 1000000
instance (x : Wd) (k : Int) : Decidable (wB x k) := by unfold wB; infer_instance
theorem GO {x : Wd} {k : Int} {c : aZ} (h : x.Sm) (hc : c.Small 1000000) : (x.cw k c).Sm := by
 obtain ⟨s1, s2, s3⟩ := h
 refine ⟨fun d hd => ?_, by simpa [Wd.cw] using s2, s3⟩
 rcases mem_set hd with h | rfl
 ·exact s1 d h
 ·exact hc
section
variable {R : Mem} {L L' : List HP} {M : Mem} {K : Value → Mem → Prop} {Kp : List PanicEntry → Mem → Prop} {pa : PA} {p : cu} {gg : List GA} {dr : Value} {b : Nat} {x : Wd}
theorem rV {a : WA} {k : Int} {c : aZ} (hl : fB gg a x) : fB gg a (x.cw k c) := by
 obtain ⟨l1, l2, l3, l4⟩ := hl
 exact ⟨l1, l2, by simpa [Wd.cw] using l3, l4⟩
theorem QD {a : WA} {k : Int} (h : Hp R L M) [q : fX bI L a.cb x.aB L'] (hl : fB gg a x) (hk : uU x k) : ∃ cb, a.cb[k.toNat]? = some cb ∧ x.aB[k.toNat]? = some (cZ x.aB k) ∧ Hp R (ax bI cb (cZ x.aB k) :: mz bI a.cb x.aB k.toNat :: L') M := by
 obtain ⟨l1, l2, l3, l4⟩ := hl
 obtain ⟨k0, k1⟩ := hk
 obtain ⟨cb, hcb⟩ := aM (l := a.cb) (i := k.toNat) (by omega)
 obtain ⟨y, hy⟩ := aM (l := x.aB) (i := k.toNat) (by omega)
 have e : cZ x.aB k = y := by simp [cZ, hy]
 rw [e]
 exact ⟨cb, hcb, hy, h.cH bI hcb hy⟩
theorem Dl {k v : Int} (h : Hp R L M) [o : xU b L pa p gg dr x L'] (hp : RS iu R pa.k pa.kc p.cases) (hk : oW p x k v) (hs : x.Sm)
  (k1 : ∀ y ok M', x.put p k v = .on (y, ok) → Hp R (ax (bB pa p gg dr) b y :: L') M' → K (.bool ok) M')
  (k2 : ∀ y n M', x.put p k v = .eV n y → Hp R (ax (bB pa p gg dr) b y :: L') M' → Kp [{ v := .iface 340 (.int .i64 n), recovered := false }] M') :
  aa Tryz.prog 209 #[.pointer (some ⟨b, 0, none⟩), .int .i64 k, .int .i64 v] M K Kp := by
 refine uA ?_
 obtain ⟨hc, hr, zi⟩ := hk
 have hs' := hs
 obtain ⟨s1, s2, s3, s4, s5, s6, s7, s8⟩ := hs'
 have h' := cy h (b := b)
 clear h
 obtain ⟨a, hl, h⟩ := h'
 have hl' := hl
 obtain ⟨l1, l2, l3, l4⟩ := hl'
 have HV := hc
 obtain ⟨c0, c1⟩ := HV
 have h' := QD h hl hc
 clear h
 obtain ⟨cb, hcb, yM, h⟩ := h'
 repeat (first|(refine aj h ?_;clear h;intro kb M h)|(refine au h ?_;clear h;intro M h)|refine St.to h ?_|(apply Exists.intro;(repeat apply Exists.intro);refine And.intro rfl ?_)|refine av ?_|refine ae ?_|refine ai ?_)
 refine uT h hcb fun q hq => ?_
 have hsc : (cZ x.aB k).Small 1000000 := s1 _ (vQ c0 c1)
 refine IM h (hsc.mono (by omega)) ?_
 clear h
 intro M h
 replace h := h.eA bI cb hcb (by omega)
 unfold Wd.put at k1 k2
 dsimp only at k1 k2
 generalize (cZ x.aB k).send v = s at h k1 k2 hr zi
 obtain ⟨c', w, ok, e⟩ := s
 dsimp only [Vc] at h k1 k2 hr zi ⊢
 refine ⟨w.g, w.cs, w.v, ok, e, rfl, ?_⟩
 repeat (first|(refine aj h ?_;clear h;intro kb M h)|(refine au h ?_;clear h;intro M h)|refine St.to h ?_|(apply Exists.intro;(repeat apply Exists.intro);refine And.intro rfl ?_)|refine av ?_|refine ae ?_|refine ai ?_)
 refine aV.2 ⟨fun e10 => ?_, fun e10 => ?_⟩
 ·rw [if_pos e10] at k2
  replace h := bh (a := a) (p := p) (pa := pa) (dr := dr) (gg := gg) (x := x.cw k c') (rV hl) h b
  exact k2 _ _ _ rfl h.cj
 ·rw [if_neg e10] at k1
  replace h := bh (a := a) (p := p) (pa := pa) (dr := dr) (gg := gg) (x := x.cw k c') (rV hl) h b
  refine gS.2 ⟨fun ht => ?_, fun ht => ?_⟩
  ·subst ht
   simp only [if_true] at k1
   repeat (first|(refine aj h ?_;clear h;intro kb M h)|(refine au h ?_;clear h;intro M h)|refine St.to h ?_|(apply Exists.intro;(repeat apply Exists.intro);refine And.intro rfl ?_)|refine av ?_|refine ae ?_|refine ai ?_)
   refine qM (b := b) (v := w) h hp (show ql p (x.cw k c') w from hr rfl) (GO hs zi) ?_
   clear h
   intro M h
   exact ⟨rfl, k1 _ _ _ rfl h.cj⟩
  ·subst ht
   simp only [Bool.false_eq_true, if_false] at k1
   exact k1 _ _ _ rfl h.cj
theorem Dm {k : Int} (h : Hp R L M) [o : xU b L pa p gg dr x L'] (hk : wB x k) (hs : x.Sm)
  (k1 : ∀ M', Hp R (ax (bB pa p gg dr) b (x.get k).1 :: L') M' → K (.tuple #[.int .i64 (x.get k).2.1, .int .i64 (x.get k).2.2.1, .bool (x.get k).2.2.2]) M') :
  aa Tryz.prog 210 #[.pointer (some ⟨b, 0, none⟩), .int .i64 k] M K Kp := by
 refine uB ?_
 obtain ⟨hc, hr, zi⟩ := hk
 have hs' := hs
 obtain ⟨s1, s2, s3, s4, s5, s6, s7, s8⟩ := hs'
 have h' := cy h (b := b)
 clear h
 obtain ⟨a, hl, h⟩ := h'
 have hl' := hl
 obtain ⟨l1, l2, l3, l4⟩ := hl'
 have HV := hc
 obtain ⟨c0, c1⟩ := HV
 have h' := QD h hl hc
 clear h
 obtain ⟨cb, hcb, yM, h⟩ := h'
 repeat (first|(refine aj h ?_;clear h;intro kb M h)|(refine au h ?_;clear h;intro M h)|refine St.to h ?_|(apply Exists.intro;(repeat apply Exists.intro);refine And.intro rfl ?_)|refine av ?_|refine ae ?_|refine ai ?_)
 refine uT h hcb fun q hq => ?_
 have hsc : (cZ x.aB k).Small 1000000 := s1 _ (vQ c0 c1)
 refine IN h (hsc.mono (by omega)) ?_
 clear h
 intro M h
 replace h := h.eA bI cb hcb (by omega)
 unfold Wd.get at k1
 dsimp only at k1
 generalize (cZ x.aB k).recv = s at h k1 hr zi
 obtain ⟨c', v, some, w, La, e⟩ := s
 dsimp only [Vd] at h k1 hr zi ⊢
 refine ⟨v, some, w.g, w.cs, w.v, La, e, rfl, ?_⟩
 repeat (first|(refine aj h ?_;clear h;intro kb M h)|(refine au h ?_;clear h;intro M h)|refine St.to h ?_|(apply Exists.intro;(repeat apply Exists.intro);refine And.intro rfl ?_)|refine av ?_|refine ae ?_|refine ai ?_)
 replace h := bh (a := a) (p := p) (pa := pa) (dr := dr) (gg := gg) (x := x.cw k c') (rV hl) h b
 refine gS.2 ⟨fun ht => ?_, fun ht => ?_⟩
 ·subst ht
  simp only [if_true] at k1
  repeat (first|(refine aj h ?_;clear h;intro kb M h)|(refine au h ?_;clear h;intro M h)|refine St.to h ?_|(apply Exists.intro;(repeat apply Exists.intro);refine And.intro rfl ?_)|refine av ?_|refine ae ?_|refine ai ?_)
  refine Jx (b := b) (v := w) h (show yK (x.cw k c') w from hr rfl) (GO hs zi) ?_
  clear h
  intro M h
  repeat (first|(refine aj h ?_;clear h;intro kb M h)|(refine au h ?_;clear h;intro M h)|refine St.to h ?_|(apply Exists.intro;(repeat apply Exists.intro);refine And.intro rfl ?_)|refine av ?_|refine ae ?_|refine ai ?_)
  refine gS.2 ⟨fun hb => ?_, fun hb => ?_⟩
  ·subst hb
   repeat (first|(refine aj h ?_;clear h;intro kb M h)|(refine au h ?_;clear h;intro M h)|refine St.to h ?_|(apply Exists.intro;(repeat apply Exists.intro);refine And.intro rfl ?_)|refine av ?_|refine ae ?_|refine ai ?_)
   exact k1 _ h.cj
  ·subst hb
   exact k1 _ h.cj
 ·subst ht
  simp only [Bool.false_eq_true, if_false] at k1
  repeat (first|(refine aj h ?_;clear h;intro kb M h)|(refine au h ?_;clear h;intro M h)|refine St.to h ?_|(apply Exists.intro;(repeat apply Exists.intro);refine And.intro rfl ?_)|refine av ?_|refine ae ?_|refine ai ?_)
  refine gS.2 ⟨fun hb => ?_, fun hb => ?_⟩
  ·subst hb
   repeat (first|(refine aj h ?_;clear h;intro kb M h)|(refine au h ?_;clear h;intro M h)|refine St.to h ?_|(apply Exists.intro;(repeat apply Exists.intro);refine And.intro rfl ?_)|refine av ?_|refine ae ?_|refine ai ?_)
   exact k1 _ h.cj
  ·subst hb
   exact k1 _ h.cj
end
end Go.Proofs
namespace Go.Proofs
open Go.AF
def bC (x : Wd) (g q : Int) : Int := (aq x g).top.bQ q
def Wd.Lb (x : Wd) (k g v : Int) : Wd := x.cw k { cZ x.aB k with snd := (cZ x.aB k).snd ++ [⟨g, 0, v⟩] }
def Wd.Lc (x : Wd) (k g : Int) : Wd := x.cw k { cZ x.aB k with dy := (cZ x.aB k).dy ++ [⟨g, 0, 0⟩] }
def Wd.send (p : cu) (x : Wd) (g : Int) (i : cN) : Out Wd := match x.put p i.a (bC x g i.b) with
 | .eV n y => .eV n y
 | .dF l y => .dF l y
 | .on (y, true) => .on y
 | .on (y, false) => .on ((y.Lb i.a g (bC y g i.b)).block g i)
def Wd.recv (x : Wd) (g : Int) (i : cN) : Wd :=
 if (x.get i.a).2.2.2 then ((x.get i.a).1.bA g i.b (x.get i.a).2.1).bA g i.c (x.get i.a).2.2.1
 else ((x.get i.a).1.Lc i.a g).block g i
def ei (p : cu) (x : Wd) (v : Wt) : Wd := if (aq x v.g).st = 2 then x.received p { v with v := 0 } 0 else x
def Wd.shut (p : cu) (x : Wd) (i : cN) : Out Wd :=
 let s := (cZ x.aB i.a).close
 let y := x.cw i.a s.1
 if s.2.2.2 ≠ 0 then .eV (-2) y else if 0 < s.2.2.1.length then .eV (-1) y else .on (s.2.1.foldl (ei p) y)
def xV (p : cu) (x : Wd) : List Wt → Prop
 | [] => True
 | v :: l => x.Sm ∧ 0 ≤ v.g ∧ v.g < x.gs.length ∧ ((aq x v.g).st = 2 → ql p x { v with v := 0 }) ∧ xV p (ei p x v) l
instance Jy (p : cu) : ∀ (l : List Wt) (x : Wd), Decidable (xV p x l)
 | [], _ => isTrue trivial
 | v :: l, x => by
  have := Jy p l (ei p x v)
  unfold xV; infer_instance
theorem Dp {p : cu} : ∀ {l : List Wt} {x : Wd} {i : Nat} {v : Wt}, xV p x l → l[i]? = some v →
  let y := (l.take i).foldl (ei p) x
  y.Sm ∧ 0 ≤ v.g ∧ v.g < y.gs.length ∧ ((aq y v.g).st = 2 → ql p y { v with v := 0 })
 | [], _, _, _, _, h => by simp at h
 | w :: l, x, 0, v, h, hv => by simp at hv; subst hv; exact ⟨h.1, h.2.1, h.2.2.1, h.2.2.2.1⟩
 | w :: l, x, i + 1, v, h, hv => Dp (l := l) h.2.2.2.2 (by simpa using hv)
def Wd.emit (x : Wd) (g : Int) (i : cN) : Out Wd := if x.out.length ≥ 1000 then .eV (-6) x else .on { x with out := x.out ++ [bC x g i.a] }
def Wd.spawn (x : Wd) (g : Int) (i : cN) : Out Wd := if x.gs.length ≥ 100 then .eV (-5) x else
 .on ((Wd.fF { x with gs := x.gs ++ [⟨0, [gV.begin i.a (bC x g i.b)], .zero⟩] } (x.gs.length : Int)).bA g i.c (x.gs.length : Int))
def Wd.call (x : Wd) (g : Int) (i : cN) : Out Wd := if (aq x g).fs.length ≥ 16 then .eV (-4) x else
 .on (x.bG g { aq x g with fs := (aq x g).fs ++ [⟨i.a, 0, [bC x g i.b, 0, 0, 0, 0, 0, 0, 0], i.c⟩] })
def js.back (y : js) (v : Int) : js := { y with fs := (y.fs.take (y.fs.length - 1)).set (y.fs.length - 2) ((y.fs.getD (y.fs.length - 2) ⟨0, 0, [], 0⟩).set y.top.pe v) }
def Wd.back (x : Wd) (g : Int) (i : cN) : Wd := if 2 ≤ (aq x g).fs.length then x.bG g ((aq x g).back (bC x g i.a))
 else if g = 0 then { x.bG g { aq x g with st := 4 } with end_ := 1 } else x.bG g { aq x g with st := 4 }
end Go.Proofs
namespace Go.Proofs
open Go.AF
set_option maxRecDepth 100000
set_option maxHeartbeats 1000000
attribute [local irreducible] aK dH fz cv az fC aE aN aW aX bL aQ
section
variable {R : Mem} {L L' : List HP} {M : Mem} {K : Value → Mem → Prop} {Kp : List PanicEntry → Mem → Prop} {pa : PA} {p : cu} {gg : List GA} {dr : Value} {b : Nat} {x : Wd}
theorem gX {g : Int} {A : Option Addr} {c : Nat} (h : Hp R L M) [o : xU b L pa p gg dr x L'] (h0 : 0 ≤ g) (hg : g < x.gs.length) (fj : gg[g.toNat]? = some (A, c)) :
  ∃ (a : WA) (gb : Nat), fB gg a x ∧ a.gb[g.toNat]? = some gb ∧
   Hp R (pt gb (qL (aq x g) A c) 229 :: tH A c (aq x g).fs :: pt b (mT pa p dr a x) 161 :: mz fR a.gb (x.gs.zip gg) g.toNat :: tR a x L') M := by
 obtain ⟨a, gb, A', c', hl, fS, hgg', h1⟩ := jU h (b := b) h0 hg
 rw [fj] at hgg'
 cases hgg'
 exact ⟨a, gb, hl, fS, h1⟩
theorem GP {g q : Int} {bs c oo : Nat} {G : Int → Prop} (h : Hp R L M) [o : xU b L pa p gg dr x L'] (hg : bn x g) (fj : gg[g.toNat]? = some (some ⟨bs, 0, none⟩, c)) (hq : be q) (e : oo = ((aq x g).fs.length - 1) * 11 + 2 + q.toNat)
  (k : G (bC x g q)) : aK (M.ld ⟨bs, oo, none⟩) .i64 G := by
 obtain ⟨h0, h1, h2, h3⟩ := hg
 obtain ⟨a, gb, hl, fS, h4⟩ := gX h (b := b) h0 h1 fj
 exact wu h4 (eM h2) hq e k
theorem mC {g q v : Int} {bs c oo : Nat} {G : Mem → Prop} (h : Hp R L M) [o : xU b L pa p gg dr x L'] (hg : bn x g) (fj : gg[g.toNat]? = some (some ⟨bs, 0, none⟩, c)) (hq : be q) (e : oo = ((aq x g).fs.length - 1) * 11 + 2 + q.toNat)
  (k : ∀ M', Hp R (ax (bB pa p gg dr) b (x.bA g q v) :: L') M' → G M') : aN M ⟨bs, oo, none⟩ (.int .i64 v) G := by
 obtain ⟨h0, h1, h2, h3⟩ := hg
 obtain ⟨a, gb, hl, fS, h4⟩ := gX h (b := b) h0 h1 fj
 refine xT h4 (eM h2) hq e fun M' h5 => ?_
 replace h5 := c7 h5 gb hl fS fj (by simp)
 exact k M' (bh (a := a) (p := p) (pa := pa) (dr := dr) (gg := gg) (x := x.bA g q v) (dB hl) h5 b)
theorem Vn {G : Option Addr → Nat → Nat → Prop} (h : Hp R L M) [o : xU b L pa p gg dr x L'] (k1 : ∀ a : WA, fB gg a x → Hp R (pt b (mT pa p dr a x) 161 :: bl fR a.gb (x.gs.zip gg) :: tR a x L') M → G a.ac a.cb.length a.cc) : az (M.ld ⟨b, 0 + 6, none⟩) G := by
 obtain ⟨a, hl, h1⟩ := cy h (b := b)
 exact aF h1 (k1 a hl h1)
def Out.Ok {α : Type} (r : Out α) (k1 : α → Prop) (k2 : Int → Wd → Prop) (k3 : List PanicEntry → Wd → Prop := fun _ _ => True) : Prop := match r with
 | .on y => k1 y
 | .eV n y => k2 n y
 | .dF l y => k3 l y
def Bd (x : Wd) (k : Int) : Prop := uU x k ∧ (cZ x.aB k).Small 999999
instance (x : Wd) (k : Int) : Decidable (Bd x k) := by unfold Bd; infer_instance
def Jz (p : cu) (x : Wd) (g : Int) (i : cN) : Prop := bn x g ∧ be i.b ∧ oW p x i.a (bC x g i.b) ∧
 match x.put p i.a (bC x g i.b) with
 | .on (y, false) => bn y g ∧ (aq y g).fs.length = (aq x g).fs.length ∧ Bd y i.a
 | _ => True
theorem JA {g : Int} {i : cN} {bs c : Nat} (h : Hp R L M) [o : xU b L pa p gg dr x L'] (hp : RS iu R pa.k pa.kc p.cases) (fj : gg[g.toNat]? = some (some ⟨bs, 0, none⟩, c)) (hk : Jz p x g i) (hs : x.Sm)
  (k : Out.Ok (x.send p g i) (fun y => ∀ M', Hp R (ax (bB pa p gg dr) b y :: L') M' → K (.tuple #[]) M')
   (fun n y => ∀ M', Hp R (ax (bB pa p gg dr) b y :: L') M' → Kp [{ v := .iface 340 (.int .i64 n), recovered := false }] M')) :
  aa Tryz.prog 215 #[.pointer (some ⟨b, 0, none⟩), .int .i64 g, .pointer (some ⟨bs, ((aq x g).fs.length - 1) * 11, none⟩), .agg #[.int .i64 i.op, .int .i64 i.a, .int .i64 i.b, .int .i64 i.c]] M K Kp := by
 refine sK ?_
 obtain ⟨hg, hb, hput, hw⟩ := hk
 repeat (first|(refine aj h ?_;clear h;intro kb M h)|(refine au h ?_;clear h;intro M h)|refine St.to h ?_|(apply Exists.intro;(repeat apply Exists.intro);refine And.intro rfl ?_)|refine av ?_|refine ae ?_|refine ai ?_)
 refine ⟨hb.1, hb.2, GP (b := b) h hg fj hb rfl ?_⟩
 unfold Wd.send at k
 refine Dl (b := b) h hp hput hs ?_ ?_
 ·intro y ok M' e h
  rw [e] at k hw
  cases ok with
  | true =>
   dsimp only at k
   refine oS (ai ?_)
   exact k _ h.cj
  | false =>
   dsimp only at k hw
   obtain ⟨GQ, hfl, yM, zi⟩ := hw
   refine oS (ae ?_)
   refine Vn h fun a hl h => ?_
   have hl' := hl
   obtain ⟨l1, l2, l3, l4⟩ := hl'
   have HV := yM
   obtain ⟨c0, c1⟩ := HV
   have h' := QD h hl yM
   clear h
   obtain ⟨cb, hcb, Yo, h⟩ := h'
   repeat (first|(refine aj h ?_;clear h;intro kb M h)|(refine au h ?_;clear h;intro M h)|refine St.to h ?_|(apply Exists.intro;(repeat apply Exists.intro);refine And.intro rfl ?_)|refine av ?_|refine ae ?_|refine ai ?_)
   refine uT h hcb fun q hq => ?_
   repeat (first|(refine aj h ?_;clear h;intro kb M h)|(refine au h ?_;clear h;intro M h)|refine St.to h ?_|(apply Exists.intro;(repeat apply Exists.intro);refine And.intro rfl ?_)|refine av ?_|refine ae ?_|refine ai ?_)
   refine ⟨hb.1, hb.2, ?_⟩
   have h2 := h.lg bI cb hcb Yo
   have h3 := bh (a := a) (p := p) (pa := pa) (dr := dr) (gg := gg) (x := y) hl h2 b
   refine GP (b := b) h3 GQ fj hb (by rw [hfl]) ?_
   clear h2 h3
   refine qg (w := ⟨g, 0, bC y g i.b⟩) h (zi.mono (by omega)) ?_
   clear h
   intro M h
   replace h := h.eA bI cb hcb (by omega)
   replace h := bh (a := a) (p := p) (pa := pa) (dr := dr) (gg := gg) (x := y.Lb i.a g (bC y g i.b)) (rV hl) h b
   repeat (first|(refine aj h ?_;clear h;intro kb M h)|(refine au h ?_;clear h;intro M h)|refine St.to h ?_|(apply Exists.intro;(repeat apply Exists.intro);refine And.intro rfl ?_)|refine av ?_|refine ae ?_|refine ai ?_)
   refine mB (b := b) (i := i) (x := y.Lb i.a g (bC y g i.b)) h GQ.1 GQ.2.1 ?_
   clear h
   intro M h
   exact ⟨rfl, k _ h.cj⟩
 ·intro y n M' e h
  rw [e] at k
  exact k _ h.cj
def xX (x : Wd) (g : Int) (i : cN) : Prop := bn x g ∧ be i.b ∧ be i.c ∧ wB x i.a ∧ bn (x.get i.a).1 g ∧ (aq (x.get i.a).1 g).fs.length = (aq x g).fs.length ∧ ((x.get i.a).2.2.2 = false → Bd (x.get i.a).1 i.a)
theorem JB {g : Int} {i : cN} {bs c : Nat} (h : Hp R L M) [o : xU b L pa p gg dr x L'] (fj : gg[g.toNat]? = some (some ⟨bs, 0, none⟩, c)) (hk : xX x g i) (hs : x.Sm)
  (k : ∀ M', Hp R (ax (bB pa p gg dr) b (x.recv g i) :: L') M' → K (.tuple #[]) M') :
  aa Tryz.prog 216 #[.pointer (some ⟨b, 0, none⟩), .int .i64 g, .pointer (some ⟨bs, ((aq x g).fs.length - 1) * 11, none⟩), .agg #[.int .i64 i.op, .int .i64 i.a, .int .i64 i.b, .int .i64 i.c]] M K Kp := by
 refine sL ?_
 obtain ⟨hg, hb, hc, Yp, GQ, hfl, hw⟩ := hk
 repeat (first|(refine aj h ?_;clear h;intro kb M h)|(refine au h ?_;clear h;intro M h)|refine St.to h ?_|(apply Exists.intro;(repeat apply Exists.intro);refine And.intro rfl ?_)|refine av ?_|refine ae ?_|refine ai ?_)
 refine Dm (b := b) h Yp hs ?_
 clear h
 intro M h
 unfold Wd.recv at k
 generalize x.get i.a = r at h k GQ hfl hw
 obtain ⟨y, v, sm, ok⟩ := r
 dsimp only at h k GQ hfl hw ⊢
 refine ⟨v, sm, ok, rfl, ?_⟩
 cases ok with
 | true =>
  simp only [if_true] at k
  refine ai ?_
  repeat (first|(refine aj h ?_;clear h;intro kb M h)|(refine au h ?_;clear h;intro M h)|refine St.to h ?_|(apply Exists.intro;(repeat apply Exists.intro);refine And.intro rfl ?_)|refine av ?_|refine ae ?_|refine ai ?_)
  refine ⟨hb.1, hb.2, ?_⟩
  repeat (first|(refine aj h ?_;clear h;intro kb M h)|(refine au h ?_;clear h;intro M h)|refine St.to h ?_|(apply Exists.intro;(repeat apply Exists.intro);refine And.intro rfl ?_)|refine av ?_|refine ae ?_|refine ai ?_)
  refine mC (b := b) h GQ fj hb (by rw [hfl]) ?_
  clear h
  intro M h
  repeat (first|(refine aj h ?_;clear h;intro kb M h)|(refine au h ?_;clear h;intro M h)|refine St.to h ?_|(apply Exists.intro;(repeat apply Exists.intro);refine And.intro rfl ?_)|refine av ?_|refine ae ?_|refine ai ?_)
  have K7 := jb (q := i.b) (v := v) GQ
  have FJ : (aq (y.bA g i.b v) g).fs.length = (aq x g).fs.length := by rw [ja GQ]; simpa [js.cV] using hfl
  refine ⟨hc.1, hc.2, mC (b := b) h K7 fj hc (by rw [FJ]) ?_⟩
  clear h
  intro M h
  repeat (first|(refine aj h ?_;clear h;intro kb M h)|(refine au h ?_;clear h;intro M h)|refine St.to h ?_|(apply Exists.intro;(repeat apply Exists.intro);refine And.intro rfl ?_)|refine av ?_|refine ae ?_|refine ai ?_)
  exact k _ h.cj
 | false =>
  simp only [Bool.false_eq_true, if_false] at k
  refine ae ?_
  obtain ⟨yM, zi⟩ := hw rfl
  refine Vn h fun a hl h => ?_
  have hl' := hl
  obtain ⟨l1, l2, l3, l4⟩ := hl'
  have HV := yM
  obtain ⟨c0, c1⟩ := HV
  have h' := QD h hl yM
  clear h
  obtain ⟨cb, hcb, Yo, h⟩ := h'
  repeat (first|(refine aj h ?_;clear h;intro kb M h)|(refine au h ?_;clear h;intro M h)|refine St.to h ?_|(apply Exists.intro;(repeat apply Exists.intro);refine And.intro rfl ?_)|refine av ?_|refine ae ?_|refine ai ?_)
  refine uT h hcb fun q hq => ?_
  refine qh (w := ⟨g, 0, 0⟩) h (zi.mono (by omega)) ?_
  clear h
  intro M h
  replace h := h.eA bI cb hcb (by omega)
  replace h := bh (a := a) (p := p) (pa := pa) (dr := dr) (gg := gg) (x := y.Lc i.a g) (rV hl) h b
  repeat (first|(refine aj h ?_;clear h;intro kb M h)|(refine au h ?_;clear h;intro M h)|refine St.to h ?_|(apply Exists.intro;(repeat apply Exists.intro);refine And.intro rfl ?_)|refine av ?_|refine ae ?_|refine ai ?_)
  refine mB (b := b) (i := i) (x := y.Lc i.a g) h GQ.1 GQ.2.1 ?_
  clear h
  intro M h
  exact ⟨rfl, k _ h.cj⟩
theorem JC {g : Int} {i : cN} {bs c : Nat} (h : Hp R L M) [o : xU b L pa p gg dr x L'] (fj : gg[g.toNat]? = some (some ⟨bs, 0, none⟩, c)) (hg : bn x g) (ha : be i.a) (hs : x.Sm)
  (k : Out.Ok (x.emit g i) (fun y => ∀ M', Hp R (ax (bB pa p gg dr) b y :: L') M' → K (.tuple #[]) M')
   (fun n y => ∀ M', Hp R (ax (bB pa p gg dr) b y :: L') M' → Kp [{ v := .iface 340 (.int .i64 n), recovered := false }] M')) :
  aa Tryz.prog 221 #[.pointer (some ⟨b, 0, none⟩), .int .i64 g, .pointer (some ⟨bs, ((aq x g).fs.length - 1) * 11, none⟩), .agg #[.int .i64 i.op, .int .i64 i.a, .int .i64 i.b, .int .i64 i.c]] M K Kp := by
 refine sO ?_
 obtain ⟨s1, s2, s3, s4, s5, s6, s7, s8⟩ := hs
 have EE := hg
 obtain ⟨h0, h1, h2, h3⟩ := EE
 unfold Wd.emit at k
 refine aj h ?_
 clear h
 intro kb M h
 have h' := gX h (b := b) h0 h1 fj
 clear h
 obtain ⟨a, gb, hl, fS, h⟩ := h'
 have hl' := hl
 obtain ⟨l1, l2, l3, l4⟩ := hl'
 have ex : x.bG g (aq x g) = x := by
  obtain ⟨y, hy⟩ := aM (l := x.gs) (i := g.toNat) (by omega)
  have e : aq x g = y := by simp [aq, hy]
  rw [e]
  obtain ⟨hi, rfl⟩ := List.getElem?_eq_some_iff.1 hy
  simp [Wd.bG]
 repeat (first|(refine aj h ?_;clear h;intro kb M h)|(refine au h ?_;clear h;intro M h)|refine St.to h ?_|(apply Exists.intro;(repeat apply Exists.intro);refine And.intro rfl ?_)|refine av ?_|refine ae ?_|refine ai ?_)
 refine aJ.2 ⟨fun hn => ?_, fun hn => ?_⟩
 ·rw [if_pos (by omega)] at k
  replace h := c7 h gb hl fS fj
  have kj := dB (y := aq x g) (g := g) hl
  replace h := bh (a := a) (p := p) (pa := pa) (dr := dr) (gg := gg) (x := x.bG g (aq x g)) kj h b
  rw [ex] at h
  exact k _ h.cj
 ·rw [if_neg (by omega)] at k
  repeat (first|(refine aj h ?_;clear h;intro kb M h)|(refine au h ?_;clear h;intro M h)|refine St.to h ?_|(apply Exists.intro;(repeat apply Exists.intro);refine And.intro rfl ?_)|refine av ?_|refine ae ?_|refine ai ?_)
  refine ⟨ha.1, ha.2, wu h (eM h2) ha rfl ?_⟩
  repeat (first|(refine aj h ?_;clear h;intro kb M h)|(refine au h ?_;clear h;intro M h)|refine St.to h ?_|(apply Exists.intro;(repeat apply Exists.intro);refine And.intro rfl ?_)|refine av ?_|refine ae ?_|refine ai ?_)
  refine h.bJ xz [bC x g i.a] rfl rfl (by simp; omega) ?_
  clear h
  intro A' c' M h
  repeat (first|(refine aj h ?_;clear h;intro kb M h)|(refine au h ?_;clear h;intro M h)|refine St.to h ?_|(apply Exists.intro;(repeat apply Exists.intro);refine And.intro rfl ?_)|refine av ?_|refine ae ?_|refine ai ?_)
  replace h := c7 h gb hl fS fj
  have kj := dB (y := aq x g) (g := g) hl
  have h5 := bh (a := { a with ao := A', co := c' }) (p := p) (pa := pa) (dr := dr) (gg := gg) (x := { x.bG g (aq x g) with out := x.out ++ [bC x g i.a] }) kj h b
  rw [ex] at h5
  exact k _ h5.cj
end
theorem Vo : bg Tryz.prog 155 224 1 8 [.pointer none] := bg.mk' (zv := .pointer none) (by kernel_rfl) (by kernel_rfl) rfl (by omega)
section
variable {R : Mem} {L L' : List HP} {M : Mem} {K : Value → Mem → Prop} {Kp : List PanicEntry → Mem → Prop} {pa : PA} {p : cu} {gg : List GA} {dr : Value} {b : Nat} {x : Wd}
def xY (x : Wd) (fn v : Int) : Wd := { x with gs := x.gs ++ [⟨0, [gV.begin fn v], .zero⟩] }
theorem QE {a : WA} {k bs : Nat} {A' : Option Addr} {c' : Nat} {fn v : Int} (hl : fB gg a x)
  (h : Hp R (pt b (mT pa p dr { a with ag := A', cg := c', gb := a.gb ++ [k] } x) 161 :: yN A' c' (a.gb ++ [k]) :: pt k [.int .i64 0, .slice (some ⟨bs, 0, none⟩) 1 1, .int .i64 0, .int .i64 0, .int .i64 0, .int .i64 0] 229 ::
   tH (some ⟨bs, 0, none⟩) 1 [gV.begin fn v] :: bl fR a.gb (x.gs.zip gg) :: yO a.ac a.cc a.cb :: bl bI a.cb x.aB :: yP a.al a.cl a.lb :: bl eK a.lb x.aI :: ee a.ah a.ch x.hl :: iO a.ao a.co x.out :: iZ a.ar a.cr x.ready :: L) M) :
  Hp R (ax (bB pa p (gg ++ [(some ⟨bs, 0, none⟩, 1)]) dr) b (xY x fn v) :: L) M := by
 obtain ⟨l1, l2, l3, l4⟩ := hl
 have h1 := nA h k
 have h2 := h1.lj fR k (by rw [List.length_zip]; omega)
 have e : x.gs.zip gg ++ [(⟨0, [gV.begin fn v], ⟨0, 0, 0, 0⟩⟩, (some ⟨bs, 0, none⟩, 1))] = (xY x fn v).gs.zip (gg ++ [(some ⟨bs, 0, none⟩, 1)]) := by
  unfold xY
  rw [List.zip_append (by omega)]; rfl
 rw [e] at h2
 exact bh (a := { a with ag := A', cg := c', gb := a.gb ++ [k] }) (p := p) (pa := pa) (dr := dr) (gg := gg ++ [(some ⟨bs, 0, none⟩, 1)]) (x := xY x fn v) ⟨by simp [xY, l1], by simp [xY, l2], l3, l4⟩ h2 b
theorem JD {g fn v : Int} (hg : bn x g) : aq (xY x fn v) g = aq x g := by
 obtain ⟨h0, h1, h2, h3⟩ := hg
 unfold aq xY
 dsimp only
 rw [List.getD_eq_getElem?_getD, List.getElem?_append_left (by omega), ← List.getD_eq_getElem?_getD]
theorem GR {g : Int} {i : cN} {bs c : Nat} (h : Hp R L M) [o : xU b L pa p gg dr x L'] (fj : gg[g.toNat]? = some (some ⟨bs, 0, none⟩, c)) (hg : bn x g) (hb : be i.b) (hc : be i.c) (hs : x.Sm)
  (k : Out.Ok (x.spawn g i) (fun y => ∀ mD M', Hp R (ax (bB pa p mD dr) b y :: L') M' → K (.tuple #[]) M')
   (fun n y => ∀ M', Hp R (ax (bB pa p gg dr) b y :: L') M' → Kp [{ v := .iface 340 (.int .i64 n), recovered := false }] M')) :
  aa Tryz.prog 213 #[.pointer (some ⟨b, 0, none⟩), .int .i64 g, .pointer (some ⟨bs, ((aq x g).fs.length - 1) * 11, none⟩), .agg #[.int .i64 i.op, .int .i64 i.a, .int .i64 i.b, .int .i64 i.c]] M K Kp := by
 refine qq ?_
 obtain ⟨s1, s2, s3, s4, s5, s6, s7, s8⟩ := hs
 unfold Wd.spawn at k
 refine aj h ?_
 clear h
 intro kb M h
 have hC := h
 have h' := cy h (b := b)
 clear h
 obtain ⟨a, hl, h⟩ := h'
 have hl' := hl
 obtain ⟨l1, l2, l3, l4⟩ := hl'
 refine aF h ?_
 refine aJ.2 ⟨fun hn => ?_, fun hn => ?_⟩
 ·rw [if_pos (by omega)] at k
  exact k _ (hC.drop.pick o.pick)
 rw [if_neg (by omega)] at k
 refine aF h ?_
 refine ⟨fun vs M => ∃ bs', Hp R (ax (bB pa p (gg ++ [(some ⟨bs', 0, none⟩, 1)]) dr) b (xY x i.a (bC x g i.b)) :: pt kb [.int .i64 i.op, .int .i64 i.a, .int .i64 i.b, .int .i64 i.c] 27 :: L') M, ?_, ?_⟩
 ·repeat (first|(refine aj h ?_;clear h;intro kb M h)|(refine au h ?_;clear h;intro M h)|refine St.to h ?_|(apply Exists.intro;(repeat apply Exists.intro);refine And.intro rfl ?_)|refine av ?_|refine ae ?_|refine ai ?_)
  refine ⟨hb.1, hb.2, GP (b := b) hC hg fj hb rfl ?_⟩
  clear hC
  refine ⟨?_, ?_, trivial⟩
  ·repeat (first|(refine aj h ?_;clear h;intro kb M h)|(refine au h ?_;clear h;intro M h)|refine St.to h ?_|(apply Exists.intro;(repeat apply Exists.intro);refine And.intro rfl ?_)|refine av ?_|refine ae ?_|refine ai ?_)
   refine qK h ?_
   clear h
   intro bs' M h
   repeat (first|(refine aj h ?_;clear h;intro kb M h)|(refine au h ?_;clear h;intro M h)|refine St.to h ?_|(apply Exists.intro;(repeat apply Exists.intro);refine And.intro rfl ?_)|refine av ?_|refine ae ?_|refine ai ?_)
   refine h.bJ Vo [_] rfl rfl (by simp; omega) ?_
   clear h
   intro A' c' M h
   repeat (first|(refine aj h ?_;clear h;intro kb M h)|(refine au h ?_;clear h;intro M h)|refine St.to h ?_|(apply Exists.intro;(repeat apply Exists.intro);refine And.intro rfl ?_)|refine av ?_|refine ae ?_|refine ai ?_)
   exact ⟨bs', QE hl (h.sub bp)⟩
  ·refine qK h ?_
   clear h
   intro bs' M h
   repeat (first|(refine aj h ?_;clear h;intro kb M h)|(refine au h ?_;clear h;intro M h)|refine St.to h ?_|(apply Exists.intro;(repeat apply Exists.intro);refine And.intro rfl ?_)|refine av ?_|refine ae ?_|refine ai ?_)
   refine h.bJ Vo [_] rfl rfl (by simp; omega) ?_
   clear h
   intro A' c' M h
   repeat (first|(refine aj h ?_;clear h;intro kb M h)|(refine au h ?_;clear h;intro M h)|refine St.to h ?_|(apply Exists.intro;(repeat apply Exists.intro);refine And.intro rfl ?_)|refine av ?_|refine ae ?_|refine ai ?_)
   exact ⟨bs', QE hl (h.sub bp)⟩
 ·clear h hC
  rintro _ M ⟨bs', h⟩
  have hlen : (xY x i.a (bC x g i.b)).gs.length = x.gs.length + 1 := by simp [xY]
  have BU : (x.gs.length : Int) = (a.gb.length : Int) := by omega
  rw [← BU]
  refine iw (b := b) h (by omega) (by omega) (by show x.ready.length ≤ _; omega) ?_
  clear h
  intro M h
  repeat (first|(refine aj h ?_;clear h;intro kb M h)|(refine au h ?_;clear h;intro M h)|refine St.to h ?_|(apply Exists.intro;(repeat apply Exists.intro);refine And.intro rfl ?_)|refine av ?_|refine ae ?_|refine ai ?_)
  have K7 : aq ((xY x i.a (bC x g i.b)).fF (x.gs.length : Int)) g = aq x g := by
   rw [← JD (fn := i.a) (v := bC x g i.b) hg]
   obtain ⟨h0, h1, _⟩ := hg
   have hne : x.gs.length ≠ g.toNat := by omega
   simp [aq, Wd.fF, Wd.bG, List.getElem?_set, hne]
  have hg3 : bn ((xY x i.a (bC x g i.b)).fF (x.gs.length : Int)) g := by
   refine ⟨hg.1, ?_, ?_, ?_⟩
   ·have h1 := hg.2.1
    simp only [Wd.fF, Wd.bG, List.length_set, hlen]; omega
   ·rw [K7]; exact hg.2.2.1
   ·rw [K7]; exact hg.2.2.2
  have hgg2 : (gg ++ [(some (⟨bs', 0, none⟩ : Addr), 1)])[g.toNat]? = some (some ⟨bs, 0, none⟩, c) := by
   rw [List.getElem?_append_left (by have := hg.2.1; have := hg.1; omega)]; exact fj
  refine ⟨hc.1, hc.2, mC (b := b) h hg3 hgg2 hc (by rw [K7]) ?_⟩
  clear h
  intro M h
  repeat (first|(refine aj h ?_;clear h;intro kb M h)|(refine au h ?_;clear h;intro M h)|refine St.to h ?_|(apply Exists.intro;(repeat apply Exists.intro);refine And.intro rfl ?_)|refine av ?_|refine ae ?_|refine ai ?_)
  exact k _ _ h.cj
end
section
variable {R : Mem} {L L' : List HP} {M : Mem} {K : Value → Mem → Prop} {Kp : List PanicEntry → Mem → Prop} {pa : PA} {p : cu} {gg : List GA} {dr : Value} {b : Nat} {x : Wd}
def oI (p : cu) (x : Wd) (i : cN) : Prop := uU x i.a ∧ (cZ x.aB i.a).dy.length ≤ 1000000 ∧
 ((cZ x.aB i.a).close.2.2.2 = 0 → (cZ x.aB i.a).close.2.2.1 = [] → xV p (x.cw i.a (cZ x.aB i.a).close.1) (cZ x.aB i.a).close.2.1)
theorem JE {g : Int} {i : cN} {f : Value} {bf of' : Nat} (h : Hp R L M) [o : xU b L pa p gg dr x L'] (hp : RS iu R pa.k pa.kc p.cases) (hk : oI p x i) (hs : x.Sm)
  (k : Out.Ok (x.shut p i) (fun y => ∀ M', Hp R (ax (bB pa p gg dr) b y :: L') M' → K (.tuple #[]) M')
   (fun n y => ∀ M', Hp R (ax (bB pa p gg dr) b y :: L') M' → Kp [{ v := .iface 340 (.int .i64 n), recovered := false }] M')) :
  aa Tryz.prog 217 #[.pointer (some ⟨b, 0, none⟩), .int .i64 g, .pointer (some ⟨bf, of', none⟩), .agg #[.int .i64 i.op, .int .i64 i.a, .int .i64 i.b, .int .i64 i.c]] M K Kp := by
 refine sM ?_
 obtain ⟨yM, hlen, hsh⟩ := hk
 obtain ⟨s1, s2, s3, s4, s5, s6, s7, s8⟩ := hs
 unfold Wd.shut at k
 dsimp only at k
 refine aj h ?_
 clear h
 intro kb M h
 have h' := cy h (b := b)
 clear h
 obtain ⟨a, hl, h⟩ := h'
 have hl' := hl
 obtain ⟨l1, l2, l3, l4⟩ := hl'
 have HV := yM
 obtain ⟨c0, c1⟩ := HV
 have h' := QD h hl yM
 clear h
 obtain ⟨cb, hcb, Yo, h⟩ := h'
 repeat (first|(refine aj h ?_;clear h;intro kb M h)|(refine au h ?_;clear h;intro M h)|refine St.to h ?_|(apply Exists.intro;(repeat apply Exists.intro);refine And.intro rfl ?_)|refine av ?_|refine ae ?_|refine ai ?_)
 refine uT h hcb fun q hq => ?_
 have jn : (cZ x.aB i.a).close.2.1.length ≤ 1000000 := by
  unfold aZ.close; split <;> simp [hlen]
 refine F9 h ?_
 clear h
 intro A ca B cb' M h
 replace h := h.eA bI cb hcb (by omega)
 generalize (cZ x.aB i.a).close = s at h k hsh jn
 obtain ⟨c', r, sn, e⟩ := s
 dsimp only at h k hsh jn ⊢
 refine ⟨A, _, ca, B, _, cb', e, rfl, ?_⟩
 replace h := bh (a := a) (p := p) (pa := pa) (dr := dr) (gg := gg) (x := x.cw i.a c') (rV hl) h b
 refine fy.2 ⟨fun he => ?_, fun he => ?_⟩
 ·rw [if_pos he] at k
  exact k _ h.cj
 rw [if_neg (by simpa using he)] at k
 refine aJ.2 ⟨fun hn => ?_, fun hn => ?_⟩
 ·rw [if_pos (by omega)] at k
  exact k _ h.cj
 rw [if_neg (by omega)] at k
 have hsn : sn = [] := by cases sn with
  | nil => rfl
  | cons _ _ => simp at hn
 have hok := hsh he hsn
 refine ⟨fun d vs M => ∃ (j : Nat), vs = [.int .i64 (j : Int)] ∧ d = r.length - j ∧ j ≤ r.length ∧ Hp R (ax (bB pa p gg dr) b ((r.take j).foldl (ei p) (x.cw i.a c')) :: nm A ca r :: L') M, ⟨_, 0, rfl, rfl, by omega, h.sub bp⟩, ?_⟩
 clear h
 rintro d _ nn M ⟨j, yQ, hd, hj, h⟩
 simp only [List.cons.injEq, Value.int.injEq, and_true, true_and] at yQ
 subst yQ
 refine aJ.2 ⟨fun hlt => ?_, fun hge => ?_⟩
 ·obtain ⟨w, hw⟩ := aM (l := r) (i := j) (by omega)
  obtain ⟨t1, t2, t3, t4⟩ := Dp hok hw
  have hstep : (r.take (j + 1)).foldl (ei p) (x.cw i.a c') = ei p ((r.take j).foldl (ei p) (x.cw i.a c')) w := by
   rw [bu hw, List.foldl_append]; rfl
  generalize (r.take j).foldl (ei p) (x.cw i.a c') = y at h t1 t3 t4 hstep
  obtain ⟨qa, rfl⟩ := h.bF (A := A) (by omega) (by decide)
  refine ⟨by omega, hlt, aY ?_⟩
  simp only [Int.toNat_natCast]
  refine aR (Src.at (h.src (A := some ⟨qa, 0, none⟩)) h (i := j) (j := 0) hw rfl (by simp [fA])) ?_
  refine aR (Src.at (h.src (A := some ⟨qa, 0, none⟩)) h (i := j) (j := 1) hw rfl (by simp [fA])) ?_
  refine aR (Src.at (h.src (A := some ⟨qa, 0, none⟩)) h (i := j) (j := 2) hw rfl (by simp [fA])) ?_
  refine aj h ?_
  clear h
  intro kw M h
  refine au h ?_
  clear h; intro M h
  refine au h ?_
  clear h; intro M h
  refine au h ?_
  clear h; intro M h
  have hC := h
  have h' := jU h (b := b) t2 t3
  clear h
  obtain ⟨a2, gb, A2, c2, kj, fS, hgg2, h⟩ := h'
  have Yq := kj
  obtain ⟨m1, m2, m3, m4⟩ := Yq
  repeat (first|(refine aj h ?_;clear h;intro kb M h)|(refine au h ?_;clear h;intro M h)|refine St.to h ?_|(apply Exists.intro;(repeat apply Exists.intro);refine And.intro rfl ?_)|refine av ?_|refine ae ?_|refine ai ?_)
  refine uT h fS fun q2 nV => ?_
  repeat (first|(refine aj h ?_;clear h;intro kb M h)|(refine au h ?_;clear h;intro M h)|refine St.to h ?_|(apply Exists.intro;(repeat apply Exists.intro);refine And.intro rfl ?_)|refine av ?_|refine ae ?_|refine ai ?_)
  clear h
  have h := hC
  clear hC
  rw [aP (by omega)]
  have hst : ei p y w = if (aq y w.g).st = 2 then y.received p { w with v := 0 } 0 else y := rfl
  rw [hst] at hstep
  refine aV.2 ⟨fun e2 => ?_, fun e2 => ?_⟩
  ·rw [if_pos e2] at hstep
   refine au h ?_
   clear h; intro M h
   repeat (first|(refine aj h ?_;clear h;intro kb M h)|(refine au h ?_;clear h;intro M h)|refine St.to h ?_|(apply Exists.intro;(repeat apply Exists.intro);refine And.intro rfl ?_)|refine av ?_|refine ae ?_|refine ai ?_)
   refine qM (b := b) (v := { w with v := 0 }) h hp (t4 e2) t1 ?_
   clear h; intro M h
   refine ⟨rfl, r.length - (j + 1), by omega, j + 1, rfl, rfl, by omega, ?_⟩
   rw [hstep]
   exact h.cj
  ·rw [if_neg e2] at hstep
   refine ⟨r.length - (j + 1), by omega, j + 1, rfl, rfl, by omega, ?_⟩
   rw [hstep]
   exact h.sub bp
 ·obtain rfl : j = r.length := by omega
  rw [List.take_length] at h
  exact k _ h.cj
end
theorem mE : bg Tryz.prog 36 3 1 8 [.int .i64 0] := bg.mk' (zv := .int .i64 0) (by kernel_rfl) (by kernel_rfl) rfl (by omega)
structure Rg where
 room : Nat
 l : List Int
def Rg.Ok (x : Rg) (head : Nat) (slots : List Int) : Prop := slots.length = x.room ∧ 0 < x.room ∧ x.room ≤ 1024 ∧ head < x.room ∧ x.l.length ≤ x.room ∧ ∀ i v, x.l[i]? = some v → slots[(head + i) % x.room]? = some v
def eP : ug Rg := ⟨fun b x => exs fun A : Option Addr => exs fun c : Nat => exs fun head : Nat => exs fun slots : List Int =>
 sep [fact (x.Ok head slots), pt b [.slice A x.room c, .int .i64 (head : Int), .int .i64 (x.l.length : Int)] 309, bE br 3 A c slots]⟩
section
variable {R : Mem} {L L' : List HP} {M : Mem} {K : Value → Mem → Prop} {Kp : List PanicEntry → Mem → Prop} {b : Nat} {x : Rg}
theorem jB (h : Hp R L M) [o : bZ eP b L x L'] : ∃ A c head slots, x.Ok head slots ∧ Hp R (pt b [.slice A x.room c, .int .i64 (head : Int), .int .i64 (x.l.length : Int)] 309 :: bE br 3 A c slots :: L') M := by
 have := h.obj eP b
 simpa only [eP, Hp.dN, Hp.bk, List.cons_append, List.nil_append, Hp.gi] using this
theorem rX {A : Option Addr} {c head : Nat} {slots : List Int} (ok : x.Ok head slots) (h : Hp R (pt b [.slice A x.room c, .int .i64 (head : Int), .int .i64 (x.l.length : Int)] 309 :: bE br 3 A c slots :: L) M) : Hp R (ax eP b x :: L) M := by
 refine Hp.xj ?_
 simp only [eP, Hp.dN, Hp.bk, List.cons_append, List.nil_append, Hp.gi]
 exact ⟨_, _, _, _, ok, h⟩
def gK (n : Int) : Nat := (min (max n 1) 1024).toNat
theorem Ld (n : Int) : 0 < gK n ∧ gK n ≤ 1024 := by unfold gK; omega
theorem QF {n : Int} (h : Hp R L M) (k : ∀ b M', Hp R (ax eP b ⟨gK n, []⟩ :: L) M' → K (.pointer (some ⟨b, 0, none⟩)) M') : aa Tryz.prog 115 #[.int .i64 n] M K Kp := by
 refine Gl ?_
 have e : (if (1024 : Int) < (if (1 : Int) > n then 1 else n) then 1024 else (if (1 : Int) > n then 1 else n)) = ((gK n : Nat) : Int) := by unfold gK; split <;> split <;> omega
 have bd := Ld n
 rw [e]
 refine h.D8 (E := br) (a := 0) mE (by omega) ?_
 clear h
 intro kb M h
 repeat (first|(refine aj h ?_;clear h;intro kb M h)|(refine au h ?_;clear h;intro M h)|refine St.to h ?_|(apply Exists.intro;(repeat apply Exists.intro);refine And.intro rfl ?_)|refine av ?_|refine ae ?_|refine ai ?_)
 refine k _ _ (rX (head := 0) (slots := List.replicate (gK n) 0) ⟨by simp, bd.1, bd.2, bd.1, by simp, fun i v hv => by simp at hv⟩ (h.sub bp))
theorem Dq (h : Hp R L M) [o : bZ eP b L x L'] (k : K (.int .i64 (x.room : Int)) M) : aa Tryz.prog 183 #[.pointer (some ⟨b, 0, none⟩)] M K Kp := by
 refine wc ?_
 have h' := jB h (b := b)
 clear h
 obtain ⟨A, c, head, slots, ok, h⟩ := h'
 repeat (first|(refine aj h ?_;clear h;intro kb M h)|(refine au h ?_;clear h;intro M h)|refine St.to h ?_|(apply Exists.intro;(repeat apply Exists.intro);refine And.intro rfl ?_)|refine av ?_|refine ae ?_|refine ai ?_)
 exact k
theorem wC (h : Hp R L M) [o : bZ eP b L x L'] (k : K (.int .i64 (x.l.length : Int)) M) : aa Tryz.prog 181 #[.pointer (some ⟨b, 0, none⟩)] M K Kp := by
 refine xG ?_
 have h' := jB h (b := b)
 clear h
 obtain ⟨A, c, head, slots, ok, h⟩ := h'
 repeat (first|(refine aj h ?_;clear h;intro kb M h)|(refine au h ?_;clear h;intro M h)|refine St.to h ?_|(apply Exists.intro;(repeat apply Exists.intro);refine And.intro rfl ?_)|refine av ?_|refine ae ?_|refine ai ?_)
 exact k
theorem qc {a b : Nat} : Int.tmod (a : Int) (b : Int) = ((a % b : Nat) : Int) := rfl
theorem rY {v : Int} (h : Hp R L M) [o : bZ eP b L x L'] (k1 : x.l.length = x.room → ∀ M', Hp R (ax eP b x :: L') M' → K (.bool false) M') (k2 : x.l.length < x.room → ∀ M', Hp R (ax eP b ⟨x.room, x.l ++ [v]⟩ :: L') M' → K (.bool true) M') :
  aa Tryz.prog 184 #[.pointer (some ⟨b, 0, none⟩), .int .i64 v] M K Kp := by
 refine we ?_
 have h' := jB h (b := b)
 clear h
 obtain ⟨A, c, head, slots, ok, h⟩ := h'
 have ok0 := ok
 obtain ⟨h1, h2, h3, h4, h5, h6⟩ := ok0
 repeat (first|(refine aj h ?_;clear h;intro kb M h)|(refine au h ?_;clear h;intro M h)|refine St.to h ?_|(apply Exists.intro;(repeat apply Exists.intro);refine And.intro rfl ?_)|refine av ?_|refine ae ?_|refine ai ?_)
 refine aV.2 ⟨fun e => ?_, fun e => ?_⟩
 ·exact k1 (by omega) _ (rX ok h)
 ·have hlt : x.l.length < x.room := by omega
  repeat (first|(refine aj h ?_;clear h;intro kb M h)|(refine au h ?_;clear h;intro M h)|refine St.to h ?_|(apply Exists.intro;(repeat apply Exists.intro);refine And.intro rfl ?_)|refine av ?_|refine ae ?_|refine ai ?_)
  have e1 : IntKind.wrap .i64 ((head : Int) + (x.l.length : Int)) = ((head + x.l.length : Nat) : Int) := wn (by simp) (by omega)
  rw [e1, qc]
  have hm := Nat.mod_lt (head + x.l.length) h2
  obtain ⟨b2, rfl⟩ := h.bF (A := A) (by omega) (by decide)
  obtain ⟨w, hw⟩ := aM (l := slots) (i := (head + x.l.length) % x.room) (by omega)
  repeat (first|(refine aj h ?_;clear h;intro kb M h)|(refine au h ?_;clear h;intro M h)|refine St.to h ?_|(apply Exists.intro;(repeat apply Exists.intro);refine And.intro rfl ?_)|refine av ?_|refine ae ?_|refine ai ?_)
  simp only [Int.toNat_natCast]
  refine iE (a' := v) ((head + x.l.length) % x.room) 0 h hw (by decide) rfl (by simp [br]) ?_
  clear h; intro M h
  repeat (first|(refine aj h ?_;clear h;intro kb M h)|(refine au h ?_;clear h;intro M h)|refine St.to h ?_|(apply Exists.intro;(repeat apply Exists.intro);refine And.intro rfl ?_)|refine av ?_|refine ae ?_|refine ai ?_)
  have e2 : IntKind.wrap .i64 ((x.l.length : Int) + 1) = ((x.l.length + 1 : Nat) : Int) := aP (by omega)
  rw [e2] at h
  refine k2 hlt _ (rX (x := ⟨x.room, x.l ++ [v]⟩) (head := head) (slots := slots.set ((head + x.l.length) % x.room) v) ⟨by simpa using h1, h2, h3, h4, by simp; omega, fun i u hu => ?_⟩ (by simpa using h.sub bp))
  dsimp only at hu ⊢
  rcases Nat.lt_or_ge i x.l.length with hi | hi
  ·rw [List.getElem?_append_left hi] at hu
   have hne : (head + i) % x.room ≠ (head + x.l.length) % x.room := by
    intro he
    have a1 : (head + i) % x.room = if head + i < x.room then head + i else head + i - x.room := by
     split
     ·exact Nat.mod_eq_of_lt (by omega)
     ·rw [Nat.mod_eq_sub_mod (by omega)]; exact Nat.mod_eq_of_lt (by omega)
    have a2 : (head + x.l.length) % x.room = if head + x.l.length < x.room then head + x.l.length else head + x.l.length - x.room := by
     split
     ·exact Nat.mod_eq_of_lt (by omega)
     ·rw [Nat.mod_eq_sub_mod (by omega)]; exact Nat.mod_eq_of_lt (by omega)
    rw [a1, a2] at he
    split at he <;> split at he <;> omega
   rw [List.getElem?_set_ne (Ne.symm hne)]
   exact h6 i u hu
  ·rw [List.getElem?_append_right hi] at hu
   have : i = x.l.length := by
    have := (List.getElem?_eq_some_iff.1 hu).1
    simp at this; omega
   subst this
   simp at hu; subst hu
   rw [List.getElem?_set_self (by omega)]
theorem GS (h : Hp R L M) [o : bZ eP b L x L'] (k1 : x.l = [] → ∀ M', Hp R (ax eP b x :: L') M' → K (.tuple #[.int .i64 0, .bool false]) M')
  (k2 : ∀ v l, x.l = v :: l → ∀ M', Hp R (ax eP b ⟨x.room, l⟩ :: L') M' → K (.tuple #[.int .i64 v, .bool true]) M') :
  aa Tryz.prog 177 #[.pointer (some ⟨b, 0, none⟩)] M K Kp := by
 refine xF ?_
 have h' := jB h (b := b)
 clear h
 obtain ⟨A, c, head, slots, ok, h⟩ := h'
 have ok0 := ok
 obtain ⟨h1, h2, h3, h4, h5, h6⟩ := ok0
 obtain ⟨room, l⟩ := x
 dsimp only at *
 repeat (first|(refine aj h ?_;clear h;intro kb M h)|(refine au h ?_;clear h;intro M h)|refine St.to h ?_|(apply Exists.intro;(repeat apply Exists.intro);refine And.intro rfl ?_)|refine av ?_|refine ae ?_|refine ai ?_)
 refine aV.2 ⟨fun e => ?_, fun e => ?_⟩
 ·exact k1 (List.length_eq_zero_iff.1 (by omega)) _ (rX ok h)
 ·cases l with
  | nil => simp at e
  | cons v l =>
  have hv := h6 0 v rfl
  rw [Nat.add_zero, Nat.mod_eq_of_lt h4] at hv
  obtain ⟨b2, rfl⟩ := h.bF (A := A) (by omega) (by decide)
  have s0 := h.src (A := some ⟨b2, 0, none⟩)
  repeat (first|(refine aj h ?_;clear h;intro kb M h)|(refine au h ?_;clear h;intro M h)|refine St.to h ?_|(apply Exists.intro;(repeat apply Exists.intro);refine And.intro rfl ?_)|refine av ?_|refine ae ?_|refine ai ?_)
  simp only [Int.toNat_natCast]
  refine aR (s0.at h (i := head) (j := 0) hv rfl (by simp [br])) ?_
  repeat (first|(refine aj h ?_;clear h;intro kb M h)|(refine au h ?_;clear h;intro M h)|refine St.to h ?_|(apply Exists.intro;(repeat apply Exists.intro);refine And.intro rfl ?_)|refine av ?_|refine ae ?_|refine ai ?_)
  have e1 : IntKind.wrap .i64 ((head : Int) + 1) = ((head + 1 : Nat) : Int) := aP (by omega)
  rw [e1, qc] at h
  have e2 : IntKind.wrap .i64 ((((v :: l).length : Nat) : Int) - 1) = ((l.length : Nat) : Int) := by rw [mw (by simp only [List.length_cons]; omega) (by simp only [List.length_cons] at h5 ⊢; omega)]; simp
  rw [e2] at h
  have h5' : l.length + 1 ≤ room := by simpa using h5
  refine k2 v l rfl _ (rX (x := ⟨room, l⟩) (head := (head + 1) % room) (slots := slots) ⟨h1, h2, h3, Nat.mod_lt _ h2, by dsimp only; omega, fun i u hu => ?_⟩ (h.sub bp))
  dsimp only at hu ⊢
  have := h6 (i + 1) u (by simpa using hu)
  rw [Nat.mod_add_mod, ← this]
  congr 2; omega
theorem Dr {n : Int} (h : Hp R L M) [o : bZ eP b L x L'] (k : ∀ A c M', Hp R (bE br 3 A c (x.l.take n.toNat) :: ax eP b ⟨x.room, x.l.drop n.toNat⟩ :: L') M' → K (.slice A (x.l.take n.toNat).length c) M') :
  aa Tryz.prog 182 #[.pointer (some ⟨b, 0, none⟩), .int .i64 n] M K Kp := by
 replace h := h.front eP b
 have hx : x.l.length ≤ 1024 := by
  obtain ⟨A, c, head, slots, ok, _⟩ := jB h (b := b)
  have := ok.2.2.1; have := ok.2.2.2.2.1; omega
 refine vZ ⟨fun d ws M => ∃ (i : Nat) (A : Option Addr) (c : Nat), ws = [.slice A (x.l.take i).length c] ∧ d = n.toNat - i ∧ i ≤ n.toNat ∧ i ≤ x.l.length ∧
  Hp R (bE br 3 A c (x.l.take i) :: ax eP b ⟨x.room, x.l.drop i⟩ :: L') M, ⟨_, 0, none, 0, rfl, rfl, by omega, by omega, h.bR _ _⟩, ?_⟩
 clear h
 rintro d _ A n1 c M ⟨i, _, _, he, hd, hi, hil, h⟩
 simp only [List.cons.injEq, Value.slice.injEq, and_true, true_and] at he
 obtain ⟨rfl, rfl, rfl⟩ := he
 have hlen : (x.l.take i).length = i := by rw [List.length_take]; omega
 refine aJ.2 ⟨fun hlt => ?_, fun hge => ?_⟩
 ·refine GS h (fun e M' h' => ?_) fun v l e M' h' => ?_
  ·repeat (first|(refine aj h ?_;clear h;intro kb M h)|(refine au h ?_;clear h;intro M h)|refine St.to h ?_|(apply Exists.intro;(repeat apply Exists.intro);refine And.intro rfl ?_)|refine av ?_|refine ae ?_|refine ai ?_)
   have : x.l.length ≤ i := by
    have := congrArg List.length e; simp at this; omega
   rw [List.take_of_length_le this] at h' ⊢
   rw [List.drop_of_length_le this] at h'
   have h1 : x.l.take n.toNat = x.l := List.take_of_length_le (by omega)
   have h2 : x.l.drop n.toNat = [] := List.drop_of_length_le (by omega)
   rw [h1, h2] at k
   exact k _ _ _ h'.swap
  ·clear h
   have h := h'.swap
   clear h'
   dsimp only at e
   have hv : x.l[i]? = some v := by
    have := congrArg (fun l => l[0]?) e
    simpa using this
   have e3 : x.l.drop (i + 1) = l := by
    have := congrArg (List.drop 1) e
    simpa using this
   repeat (first|(refine aj h ?_;clear h;intro kb M h)|(refine au h ?_;clear h;intro M h)|refine St.to h ?_|(apply Exists.intro;(repeat apply Exists.intro);refine And.intro rfl ?_)|refine av ?_|refine ae ?_|refine ai ?_)
   refine h.bJ mE [v] rfl rfl (by simp; omega) ?_
   clear h
   intro A' c' M h
   repeat (first|(refine aj h ?_;clear h;intro kb M h)|(refine au h ?_;clear h;intro M h)|refine St.to h ?_|(apply Exists.intro;(repeat apply Exists.intro);refine And.intro rfl ?_)|refine av ?_|refine ae ?_|refine ai ?_)
   rw [← bu hv] at h ⊢
   have kj := (List.getElem?_eq_some_iff.1 hv).1
   refine ⟨n.toNat - (i + 1), by omega, i + 1, A', c', rfl, rfl, by omega, by omega, ?_⟩
   rw [e3]; exact h.sub bp
 ·obtain rfl : i = n.toNat := by omega
  exact k _ _ _ h
theorem Ni (h : Hp R L M) [o : bZ eP b L x L'] (k : ∀ A c M', Hp R (bE br 3 A c x.l :: ax eP b x :: L') M' → K (.slice A x.l.length c) M') :
  aa Tryz.prog 194 #[.pointer (some ⟨b, 0, none⟩)] M K Kp := by
 refine vY ?_
 have h' := jB h (b := b)
 clear h
 obtain ⟨A0, c0, head, slots, ok, h⟩ := h'
 have ok0 := ok
 obtain ⟨h1, h2, h3, h4, h5, h6⟩ := ok0
 repeat (first|(refine aj h ?_;clear h;intro kb M h)|(refine au h ?_;clear h;intro M h)|refine St.to h ?_|(apply Exists.intro;(repeat apply Exists.intro);refine And.intro rfl ?_)|refine av ?_|refine ae ?_|refine ai ?_)
 refine ⟨fun d ws M => ∃ (i : Nat) (A : Option Addr) (c : Nat), ws = [.slice A (x.l.take i).length c, .int .i64 (i : Int)] ∧ d = x.l.length - i ∧ i ≤ x.l.length ∧
  Hp R (bE br 3 A c (x.l.take i) :: pt b [.slice A0 x.room c0, .int .i64 (head : Int), .int .i64 (x.l.length : Int)] 309 :: bE br 3 A0 c0 slots :: L') M, ⟨_, 0, none, 0, rfl, rfl, by omega, h.bR _ _⟩, ?_⟩
 clear h
 rintro d _ A n1 c ii M ⟨i, _, _, he, hd, hi, h⟩
 simp only [List.cons.injEq, Value.slice.injEq, Value.int.injEq, and_true, true_and] at he
 obtain ⟨⟨rfl, rfl, rfl⟩, rfl⟩ := he
 refine aJ.2 ⟨fun hlt => ?_, fun hge => ?_⟩
 ·obtain ⟨v, hv⟩ := aM (l := x.l) (i := i) (by omega)
  have hs := h6 i v hv
  have GU := Nat.mod_lt (head + i) h2
  obtain ⟨b2, rfl⟩ := h.drop.bF (A := A0) (by omega) (by decide)
  have s0 : Src R _ (some ⟨b2, 0, none⟩) (br.cells slots) := h.src (A := some ⟨b2, 0, none⟩)
  repeat (first|(refine aj h ?_;clear h;intro kb M h)|(refine au h ?_;clear h;intro M h)|refine St.to h ?_|(apply Exists.intro;(repeat apply Exists.intro);refine And.intro rfl ?_)|refine av ?_|refine ae ?_|refine ai ?_)
  have e1 : IntKind.wrap .i64 ((head : Int) + (i : Int)) = ((head + i : Nat) : Int) := wn (by simp) (by omega)
  rw [e1, qc]
  repeat (first|(refine aj h ?_;clear h;intro kb M h)|(refine au h ?_;clear h;intro M h)|refine St.to h ?_|(apply Exists.intro;(repeat apply Exists.intro);refine And.intro rfl ?_)|refine av ?_|refine ae ?_|refine ai ?_)
  simp only [Int.toNat_natCast]
  refine aR (s0.at h (i := (head + i) % x.room) (j := 0) hs rfl (by simp [br])) ?_
  repeat (first|(refine aj h ?_;clear h;intro kb M h)|(refine au h ?_;clear h;intro M h)|refine St.to h ?_|(apply Exists.intro;(repeat apply Exists.intro);refine And.intro rfl ?_)|refine av ?_|refine ae ?_|refine ai ?_)
  refine h.bJ mE [v] rfl rfl (by simp; omega) ?_
  clear h
  intro A' c' M h
  repeat (first|(refine aj h ?_;clear h;intro kb M h)|(refine au h ?_;clear h;intro M h)|refine St.to h ?_|(apply Exists.intro;(repeat apply Exists.intro);refine And.intro rfl ?_)|refine av ?_|refine ae ?_|refine ai ?_)
  rw [aP (by omega), ← bu hv] at *
  exact ⟨x.l.length - (i + 1), by omega, i + 1, A', c', rfl, rfl, by omega, h⟩
 ·obtain rfl : i = x.l.length := by omega
  rw [List.take_length] at h ⊢
  refine k _ _ _ ?_
  have h7 := h.swap
  refine (rX (x := x) ok (h7.sub bp)).swap.sub bp
end
structure Loc where
 next : Int
 room : Nat
 l : List Int
def Loc.put (x : Loc) (v : Int) (g : List Int) : Loc × List Int × Nat :=
 if x.l.length < x.room then ({ x with l := x.l ++ [v] }, g, 0) else ({ x with l := x.l.drop (x.l.length / 2) }, g ++ (x.l.take (x.l.length / 2) ++ [v]), x.l.length / 2 + 1)
def Loc.ready (x : Loc) (v : Int) (g : List Int) : Loc × List Int × Nat := if x.next = -1 then ({ x with next := v }, g, 0) else ({ x with next := v } : Loc).put x.next g
def Loc.get (x : Loc) : Loc × Int := if x.next ≠ -1 then ({ x with next := -1 }, x.next) else match x.l with
 | [] => (x, -1)
 | v :: l => ({ x with l := l }, v)
def Loc.fk (x : Loc) (g : List Int) : Loc × List Int × Nat := if x.next = -1 then (x, g, 0) else ({ x with next := -1 } : Loc).put x.next g
def Loc.dn (x : Loc) (g : List Int) (p : Int) : Nat := if p < 1 then 1 else min (g.length / p.toNat + 1) (x.room - x.l.length + 1)
def Loc.eR (x : Loc) (g : List Int) (p : Int) : Loc × List Int × Int := match g.take (x.dn g p) with
 | [] => (x, g, -1)
 | v :: out => ({ x with l := x.l ++ out }, g.drop (x.dn g p), v)
def Loc.hH (x f : Loc) : Nat := min (f.l.length - f.l.length / 2) (x.room - x.l.length + 1)
def Loc.ej (x f : Loc) : Loc × Loc × Int := match f.l.take (x.hH f) with
 | [] => (x, { f with next := -1 }, f.next)
 | v :: out => ({ x with l := x.l ++ out }, { f with l := f.l.drop (x.hH f) }, v)
def Loc.Ok (x : Loc) : Prop := x.l.length ≤ x.room ∧ x.room ≤ 1024 ∧ 0 < x.room
def bM : ug Loc := ⟨fun b x => exs fun rb : Nat => sep [pt b [.int .i64 x.next, .pointer (some ⟨rb, 0, none⟩)] 237, ax eP rb ⟨x.room, x.l⟩]⟩
structure TN (gb go : Nat) (P : Option Addr → Nat → Nat → HP) : Prop where
 GV : ∀ (R : Mem) (L : List HP) (M : Mem) (A : Option Addr) (n c : Nat), Hp R (P A n c :: L) M → M.ld ⟨gb, go, none⟩ = some (.slice A n c)
 stS : ∀ (R : Mem) (L : List HP) (M : Mem) (A A' : Option Addr) (n c n' c' : Nat) (G : Mem → Prop), Hp R (P A n c :: L) M → (∀ M', Hp R (P A' n' c' :: L) M' → G M') → aN M ⟨gb, go, none⟩ (.slice A' n' c') G
def gz (P : Option Addr → Nat → Nat → HP) (l : List Int) : HP := exs fun A : Option Addr => exs fun c : Nat => sep [P A l.length c, bE br 3 A c l]
class tJ (P : Option Addr → Nat → Nat → HP) (L : List HP) (g : outParam (List Int)) (L' : outParam (List HP)) : Prop where
 pick : cW L (gz P g) L'
instance tJ.here {P : Option Addr → Nat → Nat → HP} {g : List Int} {L : List HP} : tJ P (gz P g :: L) g L := ⟨.here⟩
instance (priority := low) tJ.there {P : Option Addr → Nat → Nat → HP} {g : List Int} {Q : HP} {L L' : List HP} [h : tJ P L g L'] : tJ P (Q :: L) g (Q :: L') := ⟨.there h.pick⟩
section
variable {R : Mem} {L L' om : List HP} {M : Mem} {K : Value → Mem → Prop} {Kp : List PanicEntry → Mem → Prop} {b gb go b' : Nat} {P : Option Addr → Nat → Nat → HP} {x f : Loc} {g : List Int}
theorem ij (h : Hp R L M) [o : bZ bM b L x L'] : ∃ rb, Hp R (pt b [.int .i64 x.next, .pointer (some ⟨rb, 0, none⟩)] 237 :: ax eP rb ⟨x.room, x.l⟩ :: L') M := by
 have := h.obj bM b
 simpa only [bM, Hp.dN, Hp.bk, List.cons_append, List.nil_append] using this
theorem Yr {rb : Nat} (h : Hp R (pt b [.int .i64 x.next, .pointer (some ⟨rb, 0, none⟩)] 237 :: ax eP rb ⟨x.room, x.l⟩ :: L) M) : Hp R (ax bM b x :: L) M := by
 refine Hp.xj ?_
 simp only [bM, Hp.dN, Hp.bk, List.cons_append, List.nil_append]
 exact ⟨_, h⟩
theorem cD {next : Int} {rb room : Nat} {l : List Int} {L1 L2 : List HP} (h : Hp R L M) (b : Nat) [p : kL b L [.int .i64 next, .pointer (some ⟨rb, 0, none⟩)] 237 L1] [o : bZ eP rb L1 ⟨room, l⟩ L2] : Hp R (ax bM b ⟨next, room, l⟩ :: L2) M :=
 Yr (h.sub (.cons p.pick (.cons o.pick .refl)))
theorem jc (h : Hp R L M) [o : tJ P L g L'] : ∃ A c, Hp R (P A g.length c :: bE br 3 A c g :: L') M := by
 have := h.pick o.pick
 simpa only [gz, Hp.dN, Hp.bk, List.cons_append, List.nil_append] using this
theorem GW {A : Option Addr} {c n : Nat} (h : Hp R (P A n c :: bE br 3 A c g :: L) M) (e : n = g.length := by first | rfl | simp) : Hp R (gz P g :: L) M := by
 subst e
 simp only [gz, Hp.dN, Hp.bk, List.cons_append, List.nil_append]
 exact ⟨_, _, h⟩
theorem TO {rb : Nat} {r : Rg} (h : Hp R L M) [o : bZ eP rb L r L'] : r.l.length ≤ r.room ∧ r.room ≤ 1024 ∧ 0 < r.room := by
 obtain ⟨A, c, head, slots, ok, _⟩ := jB h (b := rb)
 exact ⟨ok.2.2.2.2.1, ok.2.2.1, ok.2.1⟩
theorem xZ (h : Hp R L M) [o : bZ bM b L x L'] : x.Ok := by
 obtain ⟨rb, h2⟩ := ij h (b := b)
 exact TO (rb := rb) h2
theorem Ds {room : Int} (h : Hp R L M) (k : ∀ b M', Hp R (ax bM b ⟨-1, gK room, []⟩ :: L) M' → K (.pointer (some ⟨b, 0, none⟩)) M') : aa Tryz.prog 57 #[.int .i64 room] M K Kp := by
 refine Eo ?_
 refine QF h ?_
 clear h
 intro rb M h
 repeat (first|(refine aj h ?_;clear h;intro kb M h)|(refine au h ?_;clear h;intro M h)|refine St.to h ?_|(apply Exists.intro;(repeat apply Exists.intro);refine And.intro rfl ?_)|refine av ?_|refine ae ?_|refine ai ?_)
 exact k _ _ (cD h kb)
theorem Be (h : Hp R L M) [o : bZ bM b L x L'] (k : K (.int .i64 x.next) M) : aa Tryz.prog 148 #[.pointer (some ⟨b, 0, none⟩)] M K Kp := by
 refine td ?_
 have h' := ij h (b := b)
 clear h
 obtain ⟨rb, h⟩ := h'
 repeat (first|(refine aj h ?_;clear h;intro kb M h)|(refine au h ?_;clear h;intro M h)|refine St.to h ?_|(apply Exists.intro;(repeat apply Exists.intro);refine And.intro rfl ?_)|refine av ?_|refine ae ?_|refine ai ?_)
 exact k
theorem JF (h : Hp R L M) [o : bZ bM b L x L'] (k : ∀ A c M', Hp R (bE br 3 A c x.l :: ax bM b x :: L') M' → K (.slice A x.l.length c) M') : aa Tryz.prog 162 #[.pointer (some ⟨b, 0, none⟩)] M K Kp := by
 refine tf ?_
 have h' := ij h (b := b)
 clear h
 obtain ⟨rb, h⟩ := h'
 repeat (first|(refine aj h ?_;clear h;intro kb M h)|(refine au h ?_;clear h;intro M h)|refine St.to h ?_|(apply Exists.intro;(repeat apply Exists.intro);refine And.intro rfl ?_)|refine av ?_|refine ae ?_|refine ai ?_)
 refine Ni h ?_
 clear h
 intro A c M h
 repeat (first|(refine aj h ?_;clear h;intro kb M h)|(refine au h ?_;clear h;intro M h)|refine St.to h ?_|(apply Exists.intro;(repeat apply Exists.intro);refine And.intro rfl ?_)|refine av ?_|refine ae ?_|refine ai ?_)
 exact k _ _ _ ((cD h b).sub bp)
theorem JG (D : TN gb go P) (h : Hp R L M) [o : tJ P L g L'] (k : K (.int .i64 (g.length : Int)) M) : aa Tryz.prog 202 #[.pointer (some ⟨gb, go, none⟩)] M K Kp := by
 refine th ?_
 have h' := jc h (P := P)
 clear h
 obtain ⟨A, c, h⟩ := h'
 rw [D.GV _ _ _ _ _ _ h]
 exact aO k
theorem GX (D : TN gb go P) (h : Hp R L M) [o : tJ P L g L'] (hs : g.length ≤ 1000000000) (k : ∀ A c M', Hp R (bE br 3 A c g :: gz P g :: L') M' → K (.slice A g.length c) M') : aa Tryz.prog 64 #[.pointer (some ⟨gb, go, none⟩)] M K Kp := by
 refine qx ?_
 have h' := jc h (P := P)
 clear h
 obtain ⟨A, c, h⟩ := h'
 refine aj h ?_
 clear h; intro kb M h
 rw [D.GV _ _ _ _ _ _ h.swap]
 refine aO ?_
 refine h.fV br mE g (h.src (A := A)) rfl (by omega) ?_
 clear h
 intro A' c' M h
 refine aO ?_
 exact k _ _ _ (((h.pick (.there .here)).pick (.there (.there .here)) |> fun h => GW (P := P) (h.sub (show Sub _ (P A g.length c :: bE br 3 A c g :: bE br 3 A' c' g :: L') from bp))).swap)
theorem oJ (D : TN gb go P) {B : Option Addr} {n c : Nat} {l : List Int} (h : Hp R L M) [o : tJ P L g L'] (hB : Src R L' B (br.cells l)) (hn : n = l.length) (hs : g.length + l.length ≤ 1000000000) (k : ∀ M', Hp R (gz P (g ++ l) :: L') M' → K (.tuple #[]) M') :
  aa Tryz.prog 58 #[.pointer (some ⟨gb, go, none⟩), .slice B n c] M K Kp := by
 refine ta ?_
 have h' := jc h (P := P)
 clear h
 obtain ⟨A, cg, h⟩ := h'
 rw [D.GV _ _ _ _ _ _ h]
 refine aO ?_
 refine h.C6 (A := A) (r := l) mE hB.cons.cons hn (by omega) ?_
 clear h
 intro A' c' M h
 refine aO ?_
 refine D.stS _ _ _ _ _ _ _ _ _ _ h.swap ?_
 clear h; intro M h
 exact k _ (GW h)
theorem qN (D : TN gb go P) {n : Int} (h : Hp R L M) [o : tJ P L g L'] (hs : g.length ≤ 1000000000) (k : ∀ A c M', Hp R (bE br 3 A c (g.take n.toNat) :: gz P (g.drop n.toNat) :: L') M' → K (.slice A (g.take n.toNat).length c) M') :
  aa Tryz.prog 179 #[.pointer (some ⟨gb, go, none⟩), .int .i64 n] M K Kp := by
 refine qz ?_
 have h' := jc h (P := P)
 clear h
 obtain ⟨A, cg, h⟩ := h'
 have hcap := h.j8 A
 have e : (if ((g.length : Nat) : Int) < (if (0 : Int) > n then 0 else n) then ((g.length : Nat) : Int) else (if (0 : Int) > n then 0 else n)) = ((min n.toNat g.length : Nat) : Int) := by split <;> split <;> omega
 have hq : g.take n.toNat = g.take (min n.toNat g.length) ∧ g.drop n.toNat = g.drop (min n.toNat g.length) := by
  rcases Nat.le_total n.toNat g.length with hl | hl
  ·rw [Nat.min_eq_left hl]; exact ⟨rfl, rfl⟩
  ·rw [Nat.min_eq_right hl, List.take_of_length_le hl, List.drop_of_length_le hl]; simp
 rw [hq.1, hq.2] at k
 have hql : min n.toNat g.length ≤ g.length := Nat.min_le_right ..
 rw [D.GV _ _ _ _ _ _ h]
 refine aO ?_
 rw [e]
 generalize min n.toNat g.length = q at *
 have el : (g.take q).length = q := by rw [List.length_take]; omega
 refine aj h ?_
 clear h; intro kb M h
 rw [D.GV _ _ _ _ _ _ h.swap]
 refine aO ?_
 simp only [Int.toNat_natCast, Nat.sub_zero]
 refine ⟨by omega, by omega, by omega, by omega, by omega, by omega, ?_⟩
 refine h.fV br mE (g.take q) (Src.pre1 (h.src (A := A)) hcap q) (by rw [el]) (by rw [el]; omega) ?_
 clear h
 intro A' c' M h
 refine aO ?_
 refine aj h ?_
 clear h; intro kb2 M h
 replace h : Hp R (P A g.length cg :: bE br 3 A cg g :: pt kb2 [] 3 :: bE br 3 A' c' (g.take q) :: L') M := h.sub bp
 rw [D.GV _ _ _ _ _ _ h]
 refine aO ?_
 refine ⟨by omega, by omega, by omega, by omega, by omega, by omega, ?_⟩
 refine h.fV br mE (g.drop q) (Src.TI (h.src (A := A)) hcap q) (by rw [List.length_drop]) (by rw [List.length_drop]; omega) ?_
 clear h
 intro A2 c2 M h
 refine aO ?_
 replace h : Hp R (P A g.length cg :: bE br 3 A2 c2 (g.drop q) :: bE br 3 A' c' (g.take q) :: L') M := h.sub bp
 refine D.stS _ _ _ _ _ _ _ _ _ _ h ?_
 clear h; intro M h
 rw [← el]
 rw [el]
 exact k _ _ _ ((GW (P := P) h).swap)
theorem Dt (D : TN gb go P) {v : Int} (h : Hp R L M) [o : bZ bM b L x L'] [og : tJ P L' g om] (hs : g.length ≤ 100000000)
  (k : ∀ M', Hp R (ax bM b (x.put v g).1 :: gz P (x.put v g).2.1 :: om) M' → K (.int .i64 ((x.put v g).2.2 : Int)) M') :
  aa Tryz.prog 185 #[.pointer (some ⟨b, 0, none⟩), .int .i64 v, .pointer (some ⟨gb, go, none⟩)] M K Kp := by
 have bd := xZ h (b := b)
 have h0 : Hp R (ax bM b x :: gz P g :: om) M := (h.pick o.pick).map fun _ hs => hs.tail (fun _ => ck.pick og.pick)
 clear h
 have h := h0
 clear h0
 refine uK ?_
 have h' := ij h (b := b)
 clear h
 obtain ⟨rb, h⟩ := h'
 repeat (first|(refine aj h ?_;clear h;intro kb M h)|(refine au h ?_;clear h;intro M h)|refine St.to h ?_|(apply Exists.intro;(repeat apply Exists.intro);refine And.intro rfl ?_)|refine av ?_|refine ae ?_|refine ai ?_)
 refine rY h (fun e M' h' => ?_) fun e M' h' => ?_
 ·clear h
  have h := h'
  clear h'
  dsimp only at e
  have hp : x.put v g = ({ x with l := x.l.drop (x.l.length / 2) }, g ++ (x.l.take (x.l.length / 2) ++ [v]), x.l.length / 2 + 1) := by unfold Loc.put; rw [if_neg (by omega)]
  rw [hp] at k
  repeat (first|(refine aj h ?_;clear h;intro kb M h)|(refine au h ?_;clear h;intro M h)|refine St.to h ?_|(apply Exists.intro;(repeat apply Exists.intro);refine And.intro rfl ?_)|refine av ?_|refine ae ?_|refine ai ?_)
  refine wC h ?_
  repeat (first|(refine aj h ?_;clear h;intro kb M h)|(refine au h ?_;clear h;intro M h)|refine St.to h ?_|(apply Exists.intro;(repeat apply Exists.intro);refine And.intro rfl ?_)|refine av ?_|refine ae ?_|refine ai ?_)
  have e2 : IntKind.wrap .i64 (Int.tdiv (x.l.length : Int) 2) = ((x.l.length / 2 : Nat) : Int) := wn rfl (by have := bd.1; have := bd.2.1; omega)
  simp only [e2]
  refine Dr h ?_
  clear h
  intro A c M h
  simp only [Int.toNat_natCast] at h ⊢
  repeat (first|(refine aj h ?_;clear h;intro kb M h)|(refine au h ?_;clear h;intro M h)|refine St.to h ?_|(apply Exists.intro;(repeat apply Exists.intro);refine And.intro rfl ?_)|refine av ?_|refine ae ?_|refine ai ?_)
  have htl : (x.l.take (x.l.length / 2)).length = x.l.length / 2 := by rw [List.length_take]; omega
  refine h.bJ mE [v] rfl rfl (by have := bd.2.1; have := bd.1; simp; omega) ?_
  clear h
  intro A' c' M h
  repeat (first|(refine aj h ?_;clear h;intro kb M h)|(refine au h ?_;clear h;intro M h)|refine St.to h ?_|(apply Exists.intro;(repeat apply Exists.intro);refine And.intro rfl ?_)|refine av ?_|refine ae ?_|refine ai ?_)
  replace h := h.sub (show Sub _ (gz P g :: bE br 3 A' c' (x.l.take (x.l.length / 2) ++ [v]) :: ax eP rb ⟨x.room, x.l.drop (x.l.length / 2)⟩ :: pt b [.int .i64 x.next, .pointer (some ⟨rb, 0, none⟩)] 237 :: om) from bp)
  refine oJ D h Src.row rfl (by have := bd.2.1; have := bd.1; simp; omega) ?_
  clear h
  intro M h
  repeat (first|(refine aj h ?_;clear h;intro kb M h)|(refine au h ?_;clear h;intro M h)|refine St.to h ?_|(apply Exists.intro;(repeat apply Exists.intro);refine And.intro rfl ?_)|refine av ?_|refine ae ?_|refine ai ?_)
  have e3 : (((x.l.take (x.l.length / 2) ++ [v]).length : Nat) : Int) = ((x.l.length / 2 + 1 : Nat) : Int) := by simp; omega
  rw [e3]
  exact k _ ((cD h b).sub bp)
 ·clear h
  have h := h'
  clear h'
  dsimp only at e
  have hp : x.put v g = ({ x with l := x.l ++ [v] }, g, 0) := by unfold Loc.put; rw [if_pos e]
  rw [hp] at k
  repeat (first|(refine aj h ?_;clear h;intro kb M h)|(refine au h ?_;clear h;intro M h)|refine St.to h ?_|(apply Exists.intro;(repeat apply Exists.intro);refine And.intro rfl ?_)|refine av ?_|refine ae ?_|refine ai ?_)
  exact k _ ((cD h b).sub bp)
theorem EF (h : Hp R L M) [o : bZ bM b L x L'] [og : tJ P L' g om] : Hp R (ax bM b x :: gz P g :: om) M := (h.pick o.pick).map fun _ hs => hs.tail (fun _ => ck.pick og.pick)
theorem GY (D : TN gb go P) {v : Int} (h : Hp R L M) [o : bZ bM b L x L'] [og : tJ P L' g om] (hs : g.length ≤ 100000000)
  (k : ∀ M', Hp R (ax bM b (x.ready v g).1 :: gz P (x.ready v g).2.1 :: om) M' → K (.int .i64 ((x.ready v g).2.2 : Int)) M') :
  aa Tryz.prog 152 #[.pointer (some ⟨b, 0, none⟩), .int .i64 v, .pointer (some ⟨gb, go, none⟩)] M K Kp := by
 replace h := EF (P := P) h (b := b)
 refine qy ?_
 have h' := ij h (b := b)
 clear h
 obtain ⟨rb, h⟩ := h'
 repeat (first|(refine aj h ?_;clear h;intro kb M h)|(refine au h ?_;clear h;intro M h)|refine St.to h ?_|(apply Exists.intro;(repeat apply Exists.intro);refine And.intro rfl ?_)|refine av ?_|refine ae ?_|refine ai ?_)
 refine aV.2 ⟨fun e => ?_, fun e => ?_⟩
 ·have hp : x.ready v g = ({ x with next := v }, g, 0) := by unfold Loc.ready; rw [if_pos e]
  rw [hp] at k
  repeat (first|(refine aj h ?_;clear h;intro kb M h)|(refine au h ?_;clear h;intro M h)|refine St.to h ?_|(apply Exists.intro;(repeat apply Exists.intro);refine And.intro rfl ?_)|refine av ?_|refine ae ?_|refine ai ?_)
  exact k _ ((cD h b).sub bp)
 ·have hp : x.ready v g = ({ x with next := v } : Loc).put x.next g := by unfold Loc.ready; rw [if_neg e]
  rw [hp] at k
  replace h := cD h b
  refine Dt D h hs ?_
  clear h
  intro M h
  repeat (first|(refine aj h ?_;clear h;intro kb M h)|(refine au h ?_;clear h;intro M h)|refine St.to h ?_|(apply Exists.intro;(repeat apply Exists.intro);refine And.intro rfl ?_)|refine av ?_|refine ae ?_|refine ai ?_)
  exact k _ h
theorem JH (D : TN gb go P) (h : Hp R L M) [o : bZ bM b L x L'] [og : tJ P L' g om] (hs : g.length ≤ 100000000)
  (k : ∀ M', Hp R (ax bM b (x.fk g).1 :: gz P (x.fk g).2.1 :: om) M' → K (.int .i64 ((x.fk g).2.2 : Int)) M') :
  aa Tryz.prog 178 #[.pointer (some ⟨b, 0, none⟩), .pointer (some ⟨gb, go, none⟩)] M K Kp := by
 replace h := EF (P := P) h (b := b)
 refine tg ?_
 have h' := ij h (b := b)
 clear h
 obtain ⟨rb, h⟩ := h'
 repeat (first|(refine aj h ?_;clear h;intro kb M h)|(refine au h ?_;clear h;intro M h)|refine St.to h ?_|(apply Exists.intro;(repeat apply Exists.intro);refine And.intro rfl ?_)|refine av ?_|refine ae ?_|refine ai ?_)
 refine aV.2 ⟨fun e => ?_, fun e => ?_⟩
 ·have hp : x.fk g = (x, g, 0) := by unfold Loc.fk; rw [if_pos e]
  rw [hp] at k
  exact k _ ((cD h b).sub bp)
 ·have hp : x.fk g = ({ x with next := -1 } : Loc).put x.next g := by unfold Loc.fk; rw [if_neg e]
  rw [hp] at k
  repeat (first|(refine aj h ?_;clear h;intro kb M h)|(refine au h ?_;clear h;intro M h)|refine St.to h ?_|(apply Exists.intro;(repeat apply Exists.intro);refine And.intro rfl ?_)|refine av ?_|refine ae ?_|refine ai ?_)
  replace h := cD h b
  refine Dt D h hs ?_
  clear h
  intro M h
  repeat (first|(refine aj h ?_;clear h;intro kb M h)|(refine au h ?_;clear h;intro M h)|refine St.to h ?_|(apply Exists.intro;(repeat apply Exists.intro);refine And.intro rfl ?_)|refine av ?_|refine ae ?_|refine ai ?_)
  exact k _ h
theorem Du (h : Hp R L M) [o : bZ bM b L x L']
  (k : ∀ t M', (x.get.2 = -1 → x.next = -1 → x.l = [] → t = false) → (x.next ≠ -1 ∨ x.l ≠ [] → t = true) → Hp R (ax bM b x.get.1 :: L') M' → K (.tuple #[.int .i64 x.get.2, .bool t]) M') :
  aa Tryz.prog 149 #[.pointer (some ⟨b, 0, none⟩)] M K Kp := by
 refine uJ ?_
 have h' := ij h (b := b)
 clear h
 obtain ⟨rb, h⟩ := h'
 obtain ⟨next, room, l⟩ := x
 dsimp only at h
 repeat (first|(refine aj h ?_;clear h;intro kb M h)|(refine au h ?_;clear h;intro M h)|refine St.to h ?_|(apply Exists.intro;(repeat apply Exists.intro);refine And.intro rfl ?_)|refine av ?_|refine ae ?_|refine ai ?_)
 refine fy.2 ⟨fun e => ?_, fun e => ?_⟩
 ·have hp : (Loc.mk next room l).get = (⟨-1, room, l⟩, next) := by unfold Loc.get; dsimp only; rw [if_pos e]
  rw [hp] at k
  repeat (first|(refine aj h ?_;clear h;intro kb M h)|(refine au h ?_;clear h;intro M h)|refine St.to h ?_|(apply Exists.intro;(repeat apply Exists.intro);refine And.intro rfl ?_)|refine av ?_|refine ae ?_|refine ai ?_)
  exact k true _ (fun _ h2 => absurd h2 e) (fun _ => rfl) ((cD h b).sub bp)
 ·repeat (first|(refine aj h ?_;clear h;intro kb M h)|(refine au h ?_;clear h;intro M h)|refine St.to h ?_|(apply Exists.intro;(repeat apply Exists.intro);refine And.intro rfl ?_)|refine av ?_|refine ae ?_|refine ai ?_)
  refine GS h (fun e2 M' h' => ?_) fun v l2 e2 M' h' => ?_
  ·dsimp only at e2
   subst e2
   have hp : (Loc.mk next room []).get = (⟨next, room, []⟩, -1) := by unfold Loc.get; dsimp only; rw [if_neg (by simpa using e)]
   rw [hp] at k
   repeat (first|(refine aj h ?_;clear h;intro kb M h)|(refine au h ?_;clear h;intro M h)|refine St.to h ?_|(apply Exists.intro;(repeat apply Exists.intro);refine And.intro rfl ?_)|refine av ?_|refine ae ?_|refine ai ?_)
   exact k false _ (fun _ _ _ => rfl) (fun hx => by rcases hx with hx | hx; exact absurd e hx; exact absurd rfl hx) ((cD h' b).sub bp)
  ·dsimp only at e2
   subst e2
   have hp : (Loc.mk next room (v :: l2)).get = (⟨next, room, l2⟩, v) := by unfold Loc.get; dsimp only; rw [if_neg (by simpa using e)]
   rw [hp] at k
   repeat (first|(refine aj h ?_;clear h;intro kb M h)|(refine au h ?_;clear h;intro M h)|refine St.to h ?_|(apply Exists.intro;(repeat apply Exists.intro);refine And.intro rfl ?_)|refine av ?_|refine ae ?_|refine ai ?_)
   exact k true _ (fun _ _ hx => by simp at hx) (fun _ => rfl) ((cD h' b).sub bp)
end
section
variable {R : Mem} {L L' om : List HP} {M : Mem} {K : Value → Mem → Prop} {Kp : List PanicEntry → Mem → Prop} {b gb go b' : Nat} {P : Option Addr → Nat → Nat → HP} {x f : Loc} {g : List Int}
theorem Ys {b b' T T' : Nat} {cs cs' : List Value} (h : Hp R (pt b cs T :: L) M) [p : kL b' L cs' T' L'] : b ≠ b' := by
 rintro rfl
 have h2 : Hp R (pt b cs T :: pt b cs' T' :: L') M := h.map fun _ hs => hs.tail fun _ => ck.pick p.pick
 obtain ⟨B, rfl, h1, X, Y, rfl, h2, hp, X2, Y2, rfl, h3, hp2, hs⟩ := h2
 unfold AF.pt at hp hp2
 rcases h2 b with h | h
 ·rw [hp] at h; cases h
 ·rw [Mem.union_left hp2] at h; cases h
theorem Yt {a : Addr} {b : Nat} {G : Bool → Prop} (hne : a.block ≠ b) (h1 : lz M a.block) (h2 : lz M b) (g : G false) : ptrEq M (some a) (some ⟨b, 0, none⟩) G :=
 ⟨fun e => absurd (by rw [e]) hne, fun _ => ⟨.inr ⟨h1, h2⟩, g⟩⟩
theorem GZ {b T : Nat} {cs : List Value} (h : Hp R L M) [p : kL b L cs T L'] : lz M b := ⟨_, _, (h.pick p.pick).Ax⟩
theorem G0 (D : TN gb go P) {p : Int} (h : Hp R L M) [o : bZ bM b L x L'] [og : tJ P L' g om] (hs : g.length ≤ 100000000) (hp9 : p < 9223372036854775808)
  (k : ∀ t M', ((x.eR g p).2.2 = -1 → g = [] → t = false) → (g ≠ [] → t = true) → Hp R (ax bM b (x.eR g p).1 :: gz P (x.eR g p).2.1 :: om) M' → K (.tuple #[.int .i64 (x.eR g p).2.2, .bool t]) M') :
  aa Tryz.prog 180 #[.pointer (some ⟨b, 0, none⟩), .pointer (some ⟨gb, go, none⟩), .int .i64 p] M K Kp := by
 have bd := xZ h (b := b)
 obtain ⟨bd1, bd2, bd3⟩ := bd
 replace h := EF (P := P) h (b := b)
 refine qA ?_
 have h' := ij h (b := b)
 clear h
 obtain ⟨rb, h⟩ := h'
 repeat (first|(refine aj h ?_;clear h;intro kb M h)|(refine au h ?_;clear h;intro M h)|refine St.to h ?_|(apply Exists.intro;(repeat apply Exists.intro);refine And.intro rfl ?_)|refine av ?_|refine ae ?_|refine ai ?_)
 refine JG D h ?_
 repeat (first|(refine aj h ?_;clear h;intro kb M h)|(refine au h ?_;clear h;intro M h)|refine St.to h ?_|(apply Exists.intro;(repeat apply Exists.intro);refine And.intro rfl ?_)|refine av ?_|refine ae ?_|refine ai ?_)
 refine Dq h ?_
 repeat (first|(refine aj h ?_;clear h;intro kb M h)|(refine au h ?_;clear h;intro M h)|refine St.to h ?_|(apply Exists.intro;(repeat apply Exists.intro);refine And.intro rfl ?_)|refine av ?_|refine ae ?_|refine ai ?_)
 refine wC h ?_
 repeat (first|(refine aj h ?_;clear h;intro kb M h)|(refine au h ?_;clear h;intro M h)|refine St.to h ?_|(apply Exists.intro;(repeat apply Exists.intro);refine And.intro rfl ?_)|refine av ?_|refine ae ?_|refine ai ?_)
 dsimp only at *
 have hn0 : 1 ≤ x.dn g p := by unfold Loc.dn; generalize g.length / p.toNat = q; split <;> omega
 have TP : x.l.length + (x.dn g p - 1) ≤ x.room := by unfold Loc.dn; generalize g.length / p.toNat = q; split <;> omega
 have key : ∀ n : Int, n.toNat = x.dn g p → ∀ {Q : Prop}, Q → Q := fun _ _ _ q => q
 refine aJ.2 ⟨fun Of => ?_, fun Of => ?_⟩
 ·have hn : (1 : Int).toNat = x.dn g p := by unfold Loc.dn; rw [if_pos Of]; rfl
  refine qN D h (by omega) ?_
  clear h
  intro A c M h
  rw [hn] at h ⊢
  repeat (first|(refine aj h ?_;clear h;intro kb M h)|(refine au h ?_;clear h;intro M h)|refine St.to h ?_|(apply Exists.intro;(repeat apply Exists.intro);refine And.intro rfl ?_)|refine av ?_|refine ae ?_|refine ai ?_)
  cases hg : g.take (x.dn g p) with
  | nil =>
   have TQ : g = [] := by
    have := congrArg List.length hg
    rw [List.length_take, List.length_nil] at this
    exact List.length_eq_zero_iff.1 (by omega)
   have hp : x.eR g p = (x, g, -1) := by unfold Loc.eR; rw [hg]
   rw [hp] at k
   refine xh rfl ?_
   have e3 : g.drop (x.dn g p) = g := by rw [TQ]; simp
   rw [e3] at h
   exact k false _ (fun _ _ => rfl) (fun h1 => absurd TQ h1) ((cD h b).sub bp)
  | cons v out =>
   have hp : x.eR g p = ({ x with l := x.l ++ out }, g.drop (x.dn g p), v) := by unfold Loc.eR; rw [hg]
   rw [hp] at k
   have U1 : out.length + 1 ≤ x.dn g p := by
    have := congrArg List.length hg
    rw [List.length_take, List.length_cons] at this
    omega
   refine uf (by simp; omega) ?_
   rw [hg] at h
   generalize g.drop (x.dn g p) = g2 at *
   have hgn : g ≠ [] := by rintro rfl; simp at hg
   obtain ⟨A0, Vp⟩ : ∃ A0, A0 = kx A 1 c 1 := ⟨_, rfl⟩
   have hcap := h.j8 A
   rw [List.length_cons] at hcap
   simp only [Int.toNat_natCast, List.length_cons]
   repeat (first|(refine aj h ?_;clear h;intro kb M h)|(refine au h ?_;clear h;intro M h)|refine St.to h ?_|(apply Exists.intro;(repeat apply Exists.intro);refine And.intro rfl ?_)|refine av ?_|refine ae ?_|refine ai ?_)
   refine ⟨fun d ws M => ∃ i : Nat, ws = [.int .i64 (i : Int)] ∧ d = out.length - i ∧ i ≤ out.length ∧
    Hp R (bE br 3 A c (v :: out) :: pt b [.int .i64 x.next, .pointer (some ⟨rb, 0, none⟩)] 237 :: ax eP rb ⟨x.room, x.l ++ out.take i⟩ :: gz P g2 :: om) M,
    ⟨_, 0, rfl, rfl, by omega, by rw [List.take_zero, List.append_nil]; exact h.sub bp⟩, ?_⟩
   clear h
   rintro d _ ii M ⟨i, he, hd, hi, h⟩
   simp only [List.cons.injEq, Value.int.injEq, and_true, true_and] at he
   subst he
   refine aJ.2 ⟨fun hlt => ?_, fun hge => ?_⟩
   ·obtain ⟨w, hw⟩ := aM (l := out) (i := i) (by omega)
    have s0 := Src.TI (h.src (A := A)) (by rw [List.length_cons]; exact hcap) 1
    rw [← Vp] at s0 ⊢
    rw [show (v :: out).drop 1 = out from rfl] at s0
    obtain ⟨b0, o0, rfl⟩ := s0.ie h (by omega) (by decide)
    repeat (first|(refine aj h ?_;clear h;intro kb M h)|(refine au h ?_;clear h;intro M h)|refine St.to h ?_|(apply Exists.intro;(repeat apply Exists.intro);refine And.intro rfl ?_)|refine av ?_|refine ae ?_|refine ai ?_)
    simp only [Int.toNat_natCast]
    refine aR (s0.at h (i := i) (j := 0) hw rfl (by simp [br])) ?_
    repeat (first|(refine aj h ?_;clear h;intro kb M h)|(refine au h ?_;clear h;intro M h)|refine St.to h ?_|(apply Exists.intro;(repeat apply Exists.intro);refine And.intro rfl ?_)|refine av ?_|refine ae ?_|refine ai ?_)
    refine rY (v := w) h (fun e M' h' => ?_) fun e M' h' => ?_
    ·exfalso
     simp only [List.length_append, List.length_take] at e
     omega
    ·clear h
     have h := h'
     clear h'
     repeat (first|(refine aj h ?_;clear h;intro kb M h)|(refine au h ?_;clear h;intro M h)|refine St.to h ?_|(apply Exists.intro;(repeat apply Exists.intro);refine And.intro rfl ?_)|refine av ?_|refine ae ?_|refine ai ?_)
     rw [aP (by omega)]
     refine ⟨out.length - (i + 1), by omega, i + 1, rfl, rfl, by omega, ?_⟩
     rw [bu hw, ← List.append_assoc]
     exact h.sub bp
   ·obtain rfl : i = out.length := by omega
    rw [List.take_length] at h
    have s0 := h.src (A := A)
    obtain ⟨b0, rfl⟩ := h.bF (A := A) (by simp) (by decide)
    repeat (first|(refine aj h ?_;clear h;intro kb M h)|(refine au h ?_;clear h;intro M h)|refine St.to h ?_|(apply Exists.intro;(repeat apply Exists.intro);refine And.intro rfl ?_)|refine av ?_|refine ae ?_|refine ai ?_)
    refine aR (s0.at h (i := 0) (j := 0) rfl rfl (by simp [br])) ?_
    repeat (first|(refine aj h ?_;clear h;intro kb M h)|(refine au h ?_;clear h;intro M h)|refine St.to h ?_|(apply Exists.intro;(repeat apply Exists.intro);refine And.intro rfl ?_)|refine av ?_|refine ae ?_|refine ai ?_)
    exact k true _ (fun _ h1 => absurd h1 hgn) (fun _ => rfl) ((cD h b).sub bp)
 ·have hn : (if IntKind.wrap .i64 (IntKind.wrap .i64 ((x.room : Int) - (x.l.length : Int)) + 1) < IntKind.wrap .i64 (IntKind.wrap .i64 (Int.tdiv (g.length : Int) (if (1 : Int) > p then 1 else p)) + 1) then IntKind.wrap .i64 (IntKind.wrap .i64 ((x.room : Int) - (x.l.length : Int)) + 1) else IntKind.wrap .i64 (IntKind.wrap .i64 (Int.tdiv (g.length : Int) (if (1 : Int) > p then 1 else p)) + 1)).toNat = x.dn g p := by
   obtain ⟨q, rfl⟩ := Int.eq_ofNat_of_zero_le (show 0 ≤ p by omega)
   have e1 : (if (1 : Int) > (q : Int) then 1 else (q : Int)) = (q : Int) := by split <;> omega
   rw [e1]
   have hd : g.length / q ≤ g.length := Nat.div_le_self ..
   have e2 : IntKind.wrap .i64 (Int.tdiv (g.length : Int) (q : Int)) = ((g.length / q : Nat) : Int) := wn rfl (by omega)
   rw [e2, aP (by omega), mw (n := (x.room : Int) - (x.l.length : Int)) (by omega) (by omega), mw (n := (x.room : Int) - (x.l.length : Int) + 1) (by omega) (by omega)]
   unfold Loc.dn
   rw [if_neg Of, Int.toNat_natCast]
   generalize g.length / q = z at *
   split <;> omega
  revert hn
  generalize (if IntKind.wrap .i64 (IntKind.wrap .i64 ((x.room : Int) - (x.l.length : Int)) + 1) < IntKind.wrap .i64 (IntKind.wrap .i64 (Int.tdiv (g.length : Int) (if (1 : Int) > p then 1 else p)) + 1) then IntKind.wrap .i64 (IntKind.wrap .i64 ((x.room : Int) - (x.l.length : Int)) + 1) else IntKind.wrap .i64 (IntKind.wrap .i64 (Int.tdiv (g.length : Int) (if (1 : Int) > p then 1 else p)) + 1)) = n
  intro hn
  refine qN D h (by omega) ?_
  clear h
  intro A c M h
  rw [hn] at h ⊢
  repeat (first|(refine aj h ?_;clear h;intro kb M h)|(refine au h ?_;clear h;intro M h)|refine St.to h ?_|(apply Exists.intro;(repeat apply Exists.intro);refine And.intro rfl ?_)|refine av ?_|refine ae ?_|refine ai ?_)
  cases hg : g.take (x.dn g p) with
  | nil =>
   have TQ : g = [] := by
    have := congrArg List.length hg
    rw [List.length_take, List.length_nil] at this
    exact List.length_eq_zero_iff.1 (by omega)
   have hp : x.eR g p = (x, g, -1) := by unfold Loc.eR; rw [hg]
   rw [hp] at k
   refine xh rfl ?_
   have e3 : g.drop (x.dn g p) = g := by rw [TQ]; simp
   rw [e3] at h
   exact k false _ (fun _ _ => rfl) (fun h1 => absurd TQ h1) ((cD h b).sub bp)
  | cons v out =>
   have hp : x.eR g p = ({ x with l := x.l ++ out }, g.drop (x.dn g p), v) := by unfold Loc.eR; rw [hg]
   rw [hp] at k
   have U1 : out.length + 1 ≤ x.dn g p := by
    have := congrArg List.length hg
    rw [List.length_take, List.length_cons] at this
    omega
   refine uf (by simp; omega) ?_
   rw [hg] at h
   generalize g.drop (x.dn g p) = g2 at *
   have hgn : g ≠ [] := by rintro rfl; simp at hg
   obtain ⟨A0, Vp⟩ : ∃ A0, A0 = kx A 1 c 1 := ⟨_, rfl⟩
   have hcap := h.j8 A
   rw [List.length_cons] at hcap
   simp only [Int.toNat_natCast, List.length_cons]
   repeat (first|(refine aj h ?_;clear h;intro kb M h)|(refine au h ?_;clear h;intro M h)|refine St.to h ?_|(apply Exists.intro;(repeat apply Exists.intro);refine And.intro rfl ?_)|refine av ?_|refine ae ?_|refine ai ?_)
   refine ⟨fun d ws M => ∃ i : Nat, ws = [.int .i64 (i : Int)] ∧ d = out.length - i ∧ i ≤ out.length ∧
    Hp R (bE br 3 A c (v :: out) :: pt b [.int .i64 x.next, .pointer (some ⟨rb, 0, none⟩)] 237 :: ax eP rb ⟨x.room, x.l ++ out.take i⟩ :: gz P g2 :: om) M,
    ⟨_, 0, rfl, rfl, by omega, by rw [List.take_zero, List.append_nil]; exact h.sub bp⟩, ?_⟩
   clear h
   rintro d _ ii M ⟨i, he, hd, hi, h⟩
   simp only [List.cons.injEq, Value.int.injEq, and_true, true_and] at he
   subst he
   refine aJ.2 ⟨fun hlt => ?_, fun hge => ?_⟩
   ·obtain ⟨w, hw⟩ := aM (l := out) (i := i) (by omega)
    have s0 := Src.TI (h.src (A := A)) (by rw [List.length_cons]; exact hcap) 1
    rw [← Vp] at s0 ⊢
    rw [show (v :: out).drop 1 = out from rfl] at s0
    obtain ⟨b0, o0, rfl⟩ := s0.ie h (by omega) (by decide)
    repeat (first|(refine aj h ?_;clear h;intro kb M h)|(refine au h ?_;clear h;intro M h)|refine St.to h ?_|(apply Exists.intro;(repeat apply Exists.intro);refine And.intro rfl ?_)|refine av ?_|refine ae ?_|refine ai ?_)
    simp only [Int.toNat_natCast]
    refine aR (s0.at h (i := i) (j := 0) hw rfl (by simp [br])) ?_
    repeat (first|(refine aj h ?_;clear h;intro kb M h)|(refine au h ?_;clear h;intro M h)|refine St.to h ?_|(apply Exists.intro;(repeat apply Exists.intro);refine And.intro rfl ?_)|refine av ?_|refine ae ?_|refine ai ?_)
    refine rY (v := w) h (fun e M' h' => ?_) fun e M' h' => ?_
    ·exfalso
     simp only [List.length_append, List.length_take] at e
     omega
    ·clear h
     have h := h'
     clear h'
     repeat (first|(refine aj h ?_;clear h;intro kb M h)|(refine au h ?_;clear h;intro M h)|refine St.to h ?_|(apply Exists.intro;(repeat apply Exists.intro);refine And.intro rfl ?_)|refine av ?_|refine ae ?_|refine ai ?_)
     rw [aP (by omega)]
     refine ⟨out.length - (i + 1), by omega, i + 1, rfl, rfl, by omega, ?_⟩
     rw [bu hw, ← List.append_assoc]
     exact h.sub bp
   ·obtain rfl : i = out.length := by omega
    rw [List.take_length] at h
    have s0 := h.src (A := A)
    obtain ⟨b0, rfl⟩ := h.bF (A := A) (by simp) (by decide)
    repeat (first|(refine aj h ?_;clear h;intro kb M h)|(refine au h ?_;clear h;intro M h)|refine St.to h ?_|(apply Exists.intro;(repeat apply Exists.intro);refine And.intro rfl ?_)|refine av ?_|refine ae ?_|refine ai ?_)
    refine aR (s0.at h (i := 0) (j := 0) rfl rfl (by simp [br])) ?_
    repeat (first|(refine aj h ?_;clear h;intro kb M h)|(refine au h ?_;clear h;intro M h)|refine St.to h ?_|(apply Exists.intro;(repeat apply Exists.intro);refine And.intro rfl ?_)|refine av ?_|refine ae ?_|refine ai ?_)
    exact k true _ (fun _ h1 => absurd h1 hgn) (fun _ => rfl) ((cD h b).sub bp)
theorem G1 (h : Hp R L M) [o : bZ bM b L x L'] [of : bZ bM b' L' f om]
  (k : ∀ t M', ((x.ej f).2.2 = -1 → f.l = [] → t = false) → ((x.ej f).2.2 ≠ -1 ∨ f.l ≠ [] → t = true) → Hp R (ax bM b (x.ej f).1 :: ax bM b' (x.ej f).2.1 :: om) M' → K (.tuple #[.int .i64 (x.ej f).2.2, .bool t]) M') :
  aa Tryz.prog 151 #[.pointer (some ⟨b, 0, none⟩), .pointer (some ⟨b', 0, none⟩)] M K Kp := by
 have bd := xZ h (b := b)
 obtain ⟨bd1, bd2, bd3⟩ := bd
 have h0 : Hp R (ax bM b x :: ax bM b' f :: om) M := (h.pick o.pick).map fun _ hs => hs.tail (fun _ => ck.pick of.pick)
 clear h
 have h := h0
 clear h0
 have bdf := xZ h (b := b')
 obtain ⟨bf1, bf2, bf3⟩ := bdf
 refine jR ?_
 have h' := ij h (b := b)
 clear h
 obtain ⟨rb, h⟩ := h'
 have h' := ij h (b := b')
 clear h
 obtain ⟨rf, h⟩ := h'
 have hne : b' ≠ b := Ys h
 refine Yt (Ne.symm hne) (GZ h (b := b)) (GZ h (b := b')) ?_
 repeat (first|(refine aj h ?_;clear h;intro kb M h)|(refine au h ?_;clear h;intro M h)|refine St.to h ?_|(apply Exists.intro;(repeat apply Exists.intro);refine And.intro rfl ?_)|refine av ?_|refine ae ?_|refine ai ?_)
 refine wC h ?_
 repeat (first|(refine aj h ?_;clear h;intro kb M h)|(refine au h ?_;clear h;intro M h)|refine St.to h ?_|(apply Exists.intro;(repeat apply Exists.intro);refine And.intro rfl ?_)|refine av ?_|refine ae ?_|refine ai ?_)
 dsimp only at *
 refine aV.2 ⟨fun e => ?_, fun e => ?_⟩
 ·have hl : f.l = [] := List.length_eq_zero_iff.1 (by omega)
  have hp : x.ej f = (x, { f with next := -1 }, f.next) := by unfold Loc.ej; rw [hl, List.take_nil]
  rw [hp] at k
  repeat (first|(refine aj h ?_;clear h;intro kb M h)|(refine au h ?_;clear h;intro M h)|refine St.to h ?_|(apply Exists.intro;(repeat apply Exists.intro);refine And.intro rfl ?_)|refine av ?_|refine ae ?_|refine ai ?_)
  have h2 := cD (cD h b) b'
  exact k _ _ (fun h1 _ => by dsimp only at h1; rw [h1]; rfl) (fun h1 => by rcases h1 with h1 | h1; exact bne_iff_ne.2 h1; exact absurd hl h1) (h2.sub bp)
 ·have hn0 : 1 ≤ x.hH f := by unfold Loc.hH; omega
  have TP : x.l.length + (x.hH f - 1) ≤ x.room := by unfold Loc.hH; omega
  repeat (first|(refine aj h ?_;clear h;intro kb M h)|(refine au h ?_;clear h;intro M h)|refine St.to h ?_|(apply Exists.intro;(repeat apply Exists.intro);refine And.intro rfl ?_)|refine av ?_|refine ae ?_|refine ai ?_)
  refine Dq h ?_
  repeat (first|(refine aj h ?_;clear h;intro kb M h)|(refine au h ?_;clear h;intro M h)|refine St.to h ?_|(apply Exists.intro;(repeat apply Exists.intro);refine And.intro rfl ?_)|refine av ?_|refine ae ?_|refine ai ?_)
  refine wC h ?_
  repeat (first|(refine aj h ?_;clear h;intro kb M h)|(refine au h ?_;clear h;intro M h)|refine St.to h ?_|(apply Exists.intro;(repeat apply Exists.intro);refine And.intro rfl ?_)|refine av ?_|refine ae ?_|refine ai ?_)
  dsimp only at *
  have hn : (if IntKind.wrap .i64 (IntKind.wrap .i64 ((x.room : Int) - (x.l.length : Int)) + 1) < IntKind.wrap .i64 ((f.l.length : Int) - IntKind.wrap .i64 (Int.tdiv (f.l.length : Int) 2)) then IntKind.wrap .i64 (IntKind.wrap .i64 ((x.room : Int) - (x.l.length : Int)) + 1) else IntKind.wrap .i64 ((f.l.length : Int) - IntKind.wrap .i64 (Int.tdiv (f.l.length : Int) 2))).toNat = x.hH f := by
   have e2 : IntKind.wrap .i64 (Int.tdiv (f.l.length : Int) 2) = ((f.l.length / 2 : Nat) : Int) := wn rfl (by omega)
   rw [e2, mw (n := (x.room : Int) - (x.l.length : Int)) (by omega) (by omega), mw (n := (x.room : Int) - (x.l.length : Int) + 1) (by omega) (by omega), mw (n := (f.l.length : Int) - ((f.l.length / 2 : Nat) : Int)) (by omega) (by omega)]
   unfold Loc.hH
   split <;> omega
  revert hn
  generalize (if IntKind.wrap .i64 (IntKind.wrap .i64 ((x.room : Int) - (x.l.length : Int)) + 1) < IntKind.wrap .i64 ((f.l.length : Int) - IntKind.wrap .i64 (Int.tdiv (f.l.length : Int) 2)) then IntKind.wrap .i64 (IntKind.wrap .i64 ((x.room : Int) - (x.l.length : Int)) + 1) else IntKind.wrap .i64 ((f.l.length : Int) - IntKind.wrap .i64 (Int.tdiv (f.l.length : Int) 2))) = n
  intro hn
  refine Dr h ?_
  clear h
  intro A c M h
  rw [hn] at h ⊢
  repeat (first|(refine aj h ?_;clear h;intro kb M h)|(refine au h ?_;clear h;intro M h)|refine St.to h ?_|(apply Exists.intro;(repeat apply Exists.intro);refine And.intro rfl ?_)|refine av ?_|refine ae ?_|refine ai ?_)
  cases hg : f.l.take (x.hH f) with
  | nil =>
   exfalso
   have := congrArg List.length hg
   rw [List.length_take, List.length_nil] at this
   omega
  | cons v out =>
   have hp : x.ej f = ({ x with l := x.l ++ out }, { f with l := f.l.drop (x.hH f) }, v) := by unfold Loc.ej; rw [hg]
   rw [hp] at k
   have U1 : out.length + 1 ≤ x.hH f := by
    have := congrArg List.length hg
    rw [List.length_take, List.length_cons] at this
    omega
   dsimp only at h
   rw [hg] at h
   generalize f.l.drop (x.hH f) = f2 at *
   have hgn : f.l ≠ [] := by intro e0; rw [e0] at hg; simp at hg
   obtain ⟨A0, Vp⟩ : ∃ A0, A0 = kx A 1 c 1 := ⟨_, rfl⟩
   have hcap := h.j8 A
   rw [List.length_cons] at hcap
   simp only [Int.toNat_natCast, List.length_cons]
   repeat (first|(refine aj h ?_;clear h;intro kb M h)|(refine au h ?_;clear h;intro M h)|refine St.to h ?_|(apply Exists.intro;(repeat apply Exists.intro);refine And.intro rfl ?_)|refine av ?_|refine ae ?_|refine ai ?_)
   refine ⟨fun d ws M => ∃ i : Nat, ws = [.int .i64 (i : Int)] ∧ d = out.length - i ∧ i ≤ out.length ∧
    Hp R (bE br 3 A c (v :: out) :: pt b [.int .i64 x.next, .pointer (some ⟨rb, 0, none⟩)] 237 :: ax eP rb ⟨x.room, x.l ++ out.take i⟩ :: ax eP rf ⟨f.room, f2⟩ :: pt b' [.int .i64 f.next, .pointer (some ⟨rf, 0, none⟩)] 237 :: om) M,
    ⟨_, 0, rfl, rfl, by omega, by rw [List.take_zero, List.append_nil]; exact h.sub bp⟩, ?_⟩
   clear h
   rintro d _ ii M ⟨i, he, hd, hi, h⟩
   simp only [List.cons.injEq, Value.int.injEq, and_true, true_and] at he
   subst he
   refine aJ.2 ⟨fun hlt => ?_, fun hge => ?_⟩
   ·obtain ⟨w, hw⟩ := aM (l := out) (i := i) (by omega)
    have s0 := Src.TI (h.src (A := A)) (by rw [List.length_cons]; exact hcap) 1
    rw [← Vp] at s0 ⊢
    rw [show (v :: out).drop 1 = out from rfl] at s0
    obtain ⟨b0, o0, rfl⟩ := s0.ie h (by omega) (by decide)
    repeat (first|(refine aj h ?_;clear h;intro kb M h)|(refine au h ?_;clear h;intro M h)|refine St.to h ?_|(apply Exists.intro;(repeat apply Exists.intro);refine And.intro rfl ?_)|refine av ?_|refine ae ?_|refine ai ?_)
    simp only [Int.toNat_natCast]
    refine aR (s0.at h (i := i) (j := 0) hw rfl (by simp [br])) ?_
    repeat (first|(refine aj h ?_;clear h;intro kb M h)|(refine au h ?_;clear h;intro M h)|refine St.to h ?_|(apply Exists.intro;(repeat apply Exists.intro);refine And.intro rfl ?_)|refine av ?_|refine ae ?_|refine ai ?_)
    refine rY (v := w) h (fun e M' h' => ?_) fun e M' h' => ?_
    ·exfalso
     simp only [List.length_append, List.length_take] at e
     omega
    ·clear h
     have h := h'
     clear h'
     repeat (first|(refine aj h ?_;clear h;intro kb M h)|(refine au h ?_;clear h;intro M h)|refine St.to h ?_|(apply Exists.intro;(repeat apply Exists.intro);refine And.intro rfl ?_)|refine av ?_|refine ae ?_|refine ai ?_)
     rw [aP (by omega)]
     refine ⟨out.length - (i + 1), by omega, i + 1, rfl, rfl, by omega, ?_⟩
     rw [bu hw, ← List.append_assoc]
     exact h.sub bp
   ·obtain rfl : i = out.length := by omega
    rw [List.take_length] at h
    have s0 := h.src (A := A)
    obtain ⟨b0, rfl⟩ := h.bF (A := A) (by simp) (by decide)
    repeat (first|(refine aj h ?_;clear h;intro kb M h)|(refine au h ?_;clear h;intro M h)|refine St.to h ?_|(apply Exists.intro;(repeat apply Exists.intro);refine And.intro rfl ?_)|refine av ?_|refine ae ?_|refine ai ?_)
    refine aR (s0.at h (i := 0) (j := 0) rfl rfl (by simp [br])) ?_
    repeat (first|(refine aj h ?_;clear h;intro kb M h)|(refine au h ?_;clear h;intro M h)|refine St.to h ?_|(apply Exists.intro;(repeat apply Exists.intro);refine And.intro rfl ?_)|refine av ?_|refine ae ?_|refine ai ?_)
    have h2 := cD (cD h b) b'
    exact k true _ (fun _ h1 => absurd h1 hgn) (fun _ => rfl) (h2.sub bp)
end
end Go.Proofs
namespace Go.Proofs
def Loc.all (x : Loc) : List Int := (if x.next = -1 then [] else [x.next]) ++ x.l
def kq (v : Int) : List Int := if 0 ≤ v then [v] else []
theorem TS {xs : List Loc} {i : Nat} {x y : Loc} (a : Int) (h : xs[i]? = some x) : ((xs.set i y).flatMap Loc.all).count a + x.all.count a = (xs.flatMap Loc.all).count a + y.all.count a := by
 induction xs generalizing i with
 | nil => simp at h
 | cons z xs ih =>
  cases i with
  | zero => simp only [List.getElem?_cons_zero, Option.some.injEq] at h; subst h; simp only [List.set_cons_zero, List.flatMap_cons, List.count_append]; omega
  | succ i => have := ih (i := i) (by simpa using h); simp only [List.set_cons_succ, List.flatMap_cons, List.count_append]; omega
theorem JI (a : Int) (l : List Int) (n : Nat) : (l.take n).count a + (l.drop n).count a = l.count a := by rw [← List.count_append, List.take_append_drop]
theorem Le (x : Loc) (v : Int) (g : List Int) (a : Int) : (x.put v g).1.all.count a + (x.put v g).2.1.count a = x.all.count a + g.count a + [v].count a := by
 unfold Loc.put Loc.all
 have := JI a x.l (x.l.length / 2)
 split <;> simp only [List.count_append] <;> omega
theorem QG (x : Loc) (v : Int) (hv : v ≠ -1) (a : Int) : (({ x with next := v } : Loc).all).count a + (if x.next = -1 then ([] : List Int) else [x.next]).count a = x.all.count a + [v].count a := by
 unfold Loc.all
 simp only [List.count_append, if_neg hv]; omega
theorem EG (x : Loc) (a : Int) : (({ x with next := -1 } : Loc).all).count a + (if x.next = -1 then ([] : List Int) else [x.next]).count a = x.all.count a := by
 unfold Loc.all
 simp only [List.count_append, if_true, List.count_nil]; omega
theorem Nj (x : Loc) (v : Int) (hv : v ≠ -1) (g : List Int) (a : Int) : (x.ready v g).1.all.count a + (x.ready v g).2.1.count a = x.all.count a + g.count a + [v].count a := by
 have h1 := QG x v hv a
 unfold Loc.ready
 split
 ·rename_i h; rw [if_pos h] at h1; simp only [List.count_nil] at h1; dsimp only; omega
 ·rename_i h; rw [if_neg h] at h1; rw [Le]; omega
theorem QH (x : Loc) (g : List Int) (a : Int) : (x.fk g).1.all.count a + (x.fk g).2.1.count a = x.all.count a + g.count a := by
 have h1 := EG x a
 unfold Loc.fk
 split
 ·rfl
 ·rename_i h; rw [if_neg h] at h1; rw [Le]; omega
def Loc.Pos (x : Loc) : Prop := -1 ≤ x.next ∧ ∀ v ∈ x.l, 0 ≤ v
theorem jd {v : Int} (h : 0 ≤ v) : kq v = [v] := if_pos h
theorem Lf (x : Loc) (hx : x.Pos) (a : Int) : x.get.1.all.count a + (kq x.get.2).count a = x.all.count a := by
 obtain ⟨h1, h2⟩ := hx
 have h3 := EG x a
 unfold Loc.get
 split
 ·rename_i h; rw [if_neg h] at h3; rw [jd (show 0 ≤ x.next by omega)]; omega
 ·rename_i h
  split
  ·rfl
  ·rename_i v l e
   rw [jd (h2 v (by rw [e]; simp))]
   unfold Loc.all
   rw [e]
   simp only [List.count_append, List.count_cons, List.count_nil]; omega
theorem Nk (x : Loc) (g : List Int) (hg : ∀ v ∈ g, 0 ≤ v) (p : Int) (a : Int) : (x.eR g p).1.all.count a + (x.eR g p).2.1.count a + (kq (x.eR g p).2.2).count a = x.all.count a + g.count a := by
 have h1 := JI a g (x.dn g p)
 unfold Loc.eR
 split
 ·rfl
 ·rename_i v out e
  rw [e] at h1
  rw [jd (hg v (List.mem_of_mem_take (by rw [e]; simp)))]
  unfold Loc.all
  simp only [List.count_append, List.count_cons, List.count_nil] at h1 ⊢; omega
theorem Nl (x f : Loc) (hf : f.Pos) (hx : x.l.length ≤ x.room) (a : Int) : (x.ej f).1.all.count a + (x.ej f).2.1.all.count a + (kq (x.ej f).2.2).count a = x.all.count a + f.all.count a := by
 obtain ⟨h1, h2⟩ := hf
 have h3 := JI a f.l (x.hH f)
 have h4 := EG f a
 unfold Loc.ej
 split
 ·rename_i e
  by_cases hn : f.next = -1
  ·have : kq f.next = [] := by unfold kq; rw [if_neg (by omega)]
   dsimp only
   rw [this]; rw [if_pos hn] at h4; simp only [List.count_nil] at h4 ⊢; omega
  ·dsimp only; rw [jd (by omega)]; rw [if_neg hn] at h4; omega
 ·rename_i v out e
  rw [e] at h3
  rw [jd (h2 v (List.mem_of_mem_take (by rw [e]; simp)))]
  unfold Loc.all
  simp only [List.count_append, List.count_cons, List.count_nil] at h3 ⊢; omega
theorem Lg {x : Loc} (hx : x.Pos) : (x.next = -1 ∧ x.l = [] ∧ x.get.2 = -1) ∨ ((x.next ≠ -1 ∨ x.l ≠ []) ∧ 0 ≤ x.get.2) := by
 obtain ⟨h1, h2⟩ := hx
 unfold Loc.get
 split
 ·rename_i h; exact .inr ⟨.inl h, by dsimp only; omega⟩
 ·rename_i h
  split
  ·rename_i e; exact .inl ⟨by omega, e, rfl⟩
  ·rename_i v l e; exact .inr ⟨.inr (by rw [e]; simp), h2 v (by rw [e]; simp)⟩
theorem JJ (x : Loc) (g : List Int) (p : Int) : 1 ≤ x.dn g p := by unfold Loc.dn; generalize g.length / p.toNat = q; split <;> omega
theorem Dv {x : Loc} {g : List Int} (hg : ∀ v ∈ g, 0 ≤ v) (p : Int) : (g = [] ∧ (x.eR g p).2.2 = -1) ∨ (g ≠ [] ∧ 0 ≤ (x.eR g p).2.2) := by
 have hn := JJ x g p
 unfold Loc.eR
 split
 ·rename_i e
  have := congrArg List.length e
  rw [List.length_take, List.length_nil] at this
  exact .inl ⟨List.length_eq_zero_iff.1 (by omega), rfl⟩
 ·rename_i v out e
  exact .inr ⟨by rintro rfl; simp at e, hg v (List.mem_of_mem_take (by rw [e]; simp))⟩
theorem Nm {x f : Loc} (hf : f.Pos) (hx : x.l.length ≤ x.room) : (f.l = [] ∧ (x.ej f).2.2 = f.next) ∨ (f.l ≠ [] ∧ 0 ≤ (x.ej f).2.2) := by
 obtain ⟨h1, h2⟩ := hf
 unfold Loc.ej
 split
 ·rename_i e
  have := congrArg List.length e
  rw [List.length_take, List.length_nil] at this
  unfold Loc.hH at this
  exact .inl ⟨List.length_eq_zero_iff.1 (by omega), rfl⟩
 ·rename_i v out e
  exact .inr ⟨by intro h; rw [h] at e; simp at e, h2 v (List.mem_of_mem_take (by rw [e]; simp))⟩
def JK (n : Nat) : List Int := (List.range n).map Int.ofNat
theorem QI {x : Loc} (h : x.l.length ≤ x.room ∧ x.room ≤ 1024 ∧ 0 < x.room) (v : Int) (g : List Int) : (x.put v g).1.l.length ≤ (x.put v g).1.room ∧ (x.put v g).1.room ≤ 1024 ∧ 0 < (x.put v g).1.room := by
 unfold Loc.put; split
 ·dsimp only; simp only [List.length_append, List.length_singleton]; omega
 ·dsimp only; simp only [List.length_drop]; omega
theorem QJ {x : Loc} (h : x.l.length ≤ x.room ∧ x.room ≤ 1024 ∧ 0 < x.room) (v : Int) (g : List Int) : (x.ready v g).1.l.length ≤ (x.ready v g).1.room ∧ (x.ready v g).1.room ≤ 1024 ∧ 0 < (x.ready v g).1.room := by
 unfold Loc.ready; split
 ·exact h
 ·exact QI (x := { x with next := v }) h _ _
theorem TT {x : Loc} (h : x.l.length ≤ x.room ∧ x.room ≤ 1024 ∧ 0 < x.room) (g : List Int) : (x.fk g).1.l.length ≤ (x.fk g).1.room ∧ (x.fk g).1.room ≤ 1024 ∧ 0 < (x.fk g).1.room := by
 unfold Loc.fk; split
 ·exact h
 ·exact QI (x := { x with next := -1 }) h _ _
theorem QK {x : Loc} (h : x.l.length ≤ x.room ∧ x.room ≤ 1024 ∧ 0 < x.room) : x.get.1.l.length ≤ x.get.1.room ∧ x.get.1.room ≤ 1024 ∧ 0 < x.get.1.room := by
 unfold Loc.get; split
 ·exact h
 ·split
  ·exact h
  ·rename_i e; dsimp only; rw [e, List.length_cons] at h; omega
theorem QL {x : Loc} (h : x.l.length ≤ x.room ∧ x.room ≤ 1024 ∧ 0 < x.room) (g : List Int) (p : Int) : (x.eR g p).1.l.length ≤ (x.eR g p).1.room ∧ (x.eR g p).1.room ≤ 1024 ∧ 0 < (x.eR g p).1.room := by
 have TP : x.l.length + (x.dn g p - 1) ≤ x.room := by unfold Loc.dn; generalize g.length / p.toNat = q; split <;> omega
 unfold Loc.eR; split
 ·exact h
 ·rename_i v out e
  have := congrArg List.length e
  rw [List.length_take, List.length_cons] at this
  dsimp only; simp only [List.length_append]; omega
theorem QM {x f : Loc} (h : x.l.length ≤ x.room ∧ x.room ≤ 1024 ∧ 0 < x.room) (hf : f.l.length ≤ f.room ∧ f.room ≤ 1024 ∧ 0 < f.room) :
  ((x.ej f).1.l.length ≤ (x.ej f).1.room ∧ (x.ej f).1.room ≤ 1024 ∧ 0 < (x.ej f).1.room) ∧ ((x.ej f).2.1.l.length ≤ (x.ej f).2.1.room ∧ (x.ej f).2.1.room ≤ 1024 ∧ 0 < (x.ej f).2.1.room) := by
 have TP : x.l.length + (x.hH f - 1) ≤ x.room := by unfold Loc.hH; omega
 unfold Loc.ej; split
 ·exact ⟨h, hf⟩
 ·rename_i v out e
  have := congrArg List.length e
  rw [List.length_take, List.length_cons] at this
  dsimp only; simp only [List.length_append, List.length_drop]; omega
end Go.Proofs
namespace Go.AF
def bytesOf (s : ByteArray) : List Int := s.data.toList.map fun b => (b.toNat : Int)
def fL (s : ByteArray) : List Value := s.data.toList.map fun b => .int .u8 b.toNat
theorem yR (s : ByteArray) : fL s = Fc.cells (bytesOf s) := by
 unfold fL bytesOf fP.cells
 rw [List.flatMap_map]
 show _ = s.data.toList.flatMap fun b => [Value.int .u8 (b.toNat : Int)]
 induction s.data.toList with
 | nil => rfl
 | cons a l ih => simp only [List.map_cons, List.flatMap_cons, ih]; rfl
theorem wD (s : ByteArray) : (fL s).length = s.size := by simp [fL]
theorem Bf (s : ByteArray) : ∀ v ∈ fL s, Value.plainCell v = true := fun v hv => by
 obtain ⟨b, _, rfl⟩ := List.mem_map.1 hv; rfl
theorem mF (s : ByteArray) : (bytesOf s).length = s.size := by simp [bytesOf]
def strOf (l : List Int) : ByteArray := ⟨(l.map fun n => UInt8.ofNat n.toNat).toArray⟩
theorem JL (l : List Int) : (strOf l).size = l.length := by simp [strOf, ByteArray.size]
theorem tS {l : List Int} (h : ∀ n ∈ l, 0 ≤ n ∧ n < 256) : bytesOf (strOf l) = l := by
 unfold bytesOf strOf
 simp only [List.map_map]
 conv => rhs; rw [← List.map_id l]
 refine List.map_congr_left fun n hn => ?_
 obtain ⟨h1, h2⟩ := h n hn
 obtain ⟨k, rfl⟩ := Int.eq_ofNat_of_zero_le h1
 simp only [Function.comp, Int.toNat_natCast, id]
 rw [UInt8.toNat_ofNat']
 have : k % 256 = k := Nat.mod_eq_of_lt (by omega)
 exact congrArg _ this
theorem Bg {P : Program} {t t' e ty : TypeId} {i : TypeInfo} {zv : Value} {A : Option Addr} {n c : Nat} {l : List Value} {s : ByteArray} {M : Mem} {K : Value → Mem → Prop} {Kp : List PanicEntry → Mem → Prop}
  (hu : P.underlying t = some (.slice e)) (RL : P.underlying t' = some .string) (hi : P.info? e = some i) (hz : i.zero = some zv) (hs : zv.cells.size = i.size)
  (ho : sj M i.size e A n c l) (hsz : i.size = 1) (hb : (n + s.size) * i.bytes ≤ 140737488355328) (hby : 0 < i.bytes)
  (h : ∀ A' c' M', sj M' i.size e A' (n + s.size) c' (l ++ fL s) → mN (yC A) M M' → KB M A A' → K (.slice A' (n + s.size) c') M') :
  aX P (Builtin.append_ #[t, t'] ty #[.slice A n c, .string s]) M K Kp := by
 have hr : ∀ M : Mem, bO P (Builtin.firstCells i.size s.size (.string s)) M = some (fL s).toArray := fun M => by
  unfold Builtin.firstCells fL
  have e : s.extract 0 s.size = s := ByteArray.extract_zero_size
  simp only [e, bK, Option.some.injEq]
  apply Array.ext'; simp
 have jn : (fL s).length = s.size * i.size := by rw [hsz, Nat.mul_one, wD]
 have hp : ∀ v ∈ fL s, Value.plainCell v = true := Bf s
 generalize hm : s.size = m at *
 generalize fL s = r at *
 unfold aX Builtin.append_
 simp only [List.getElem?_toArray, List.getElem?_cons_zero, List.getElem?_cons_succ]
 refine aU (aH hu M) ?_
 simp only
 refine aU (fq hi M) ?_
 refine aU (aH RL M) ?_
 refine aU (x := false) rfl ?_
 refine aU (x := m) (by rw [← hm]; rfl) ?_
 simp only [Bool.not_false, if_true]
 obtain ⟨hl, hA⟩ := ho
 split
 ·rename_i hle
  refine aU (hr _) ?_
  rcases hA with ⟨rfl, rfl, rfl⟩ | ⟨b, cs, rfl, hM, hcs, hnc, hc⟩
  ·have hm : m = 0 := by omega
   subst hm
   have : r = [] := by simpa using jn
   subst this
   refine h none 0 M ⟨by simpa using hl, .inl ⟨rfl, rfl, rfl⟩⟩ (mN.refl _ _) (.inl rfl)
  ·have hroom : n * i.size + 0 + r.length ≤ cs.size := by
    rw [hcs, jn, Nat.add_zero, ← Nat.add_mul]; exact Nat.mul_le_mul_right _ hle
   refine eE P _ _ ?_
   rw [add_eq, Nat.zero_add]
   refine qb r (n * i.size) 0 M cs _ hM hroom hp fun cs' h1 h2 => ?_
   refine h (some ⟨b, 0, none⟩) c _ ⟨?_, .inr ⟨b, cs', rfl, dM, by rw [h1, hcs], hle, fun j hj => ?_⟩⟩ ((mN.refl _ _).set (.inl (by simp [yC]))) (.inl rfl)
   ·rw [List.length_append, hl, jn, Nat.add_mul]
   ·rw [h2 j]
    rw [Nat.add_mul] at hj
    by_cases KA : j < n * i.size
    ·rw [if_neg (by omega), hc j KA, List.getElem?_append_left (by omega)]
    ·rw [if_pos (by omega), List.getElem?_append_right (by omega), hl]; rfl
 ·rename_i hle
  refine aU (b6 hi M) ?_
  rw [if_neg (by simp; omega)]
  refine aU (b6 hi M) ?_
  rw [if_neg (by have := growslice_fits (need := n + m) (old := c) (bytes := i.bytes) (by omega) hb; omega)]
  show ∀ q, _
  intro q
  have hcap : n + m ≤ Question.cut (.appendCap (n + m) c e) q := by simp only [Question.cut]; omega
  generalize Question.cut (.appendCap (n + m) c e) q = nc at hcap
  refine aU (x := nc) rfl ?_
  refine aU (b6 hi M) ?_
  refine eE P _ _ ?_
  have room : ∀ (X : Prop) , X → dV P (askRoom (nc * i.bytes)) M (fun _ M' => M' = M) (fun _ _ => False) := by
   intro X _
   unfold askRoom
   split
   ·exact rfl
   ·exact rfl
  refine hU P _ (room True trivial) (fun _ M' ZY => ?_) (fun _ _ hf => hf.elim)
  subst ZY
  have U1 : Sl M' A l := sj.sl ⟨hl, hA⟩
  refine aU (fx U1 hl) ?_
  refine aU (hr _) ?_
  refine aU (x := zv) (by rw [jJ]; simp [zeroOf, hi, hz]) ?_
  intro k hk
  refine h (some ⟨k, 0, none⟩) nc _ ⟨by rw [List.length_append, hl, jn, Nat.add_mul], .inr ⟨k, _, rfl, dM, ?_, hcap, fun j hj => ?_⟩⟩ ((mN.refl _ _).set (.inr hk)) (.inr ⟨k, rfl, hk⟩)
  ·simp only [Array.size_append, List.size_toArray, hl, jn]
   have : (Builtin.zeroCells zv.cells (nc - (n + m))).size = (nc - (n + m)) * i.size := by simp [Builtin.zeroCells, hs]
   rw [this, ← Nat.add_mul, ← Nat.add_mul]; congr 1; omega
  ·rw [Nat.add_mul] at hj
   rw [Array.getElem?_append_left (by simp [hl, jn]; omega)]
   simp
theorem Dw {P : Program} {M : Mem} : ∀ (l : List Int) (s0 : ByteArray), bO P (forIn (Fc.cells l) s0 fun c r => match c with
  | .int .u8 n => (pure (ForInStep.yield (r.push (UInt8.ofNat n.toNat))) : Sem (ForInStep ByteArray))
  | _ => (do stuck "bytesToString: byte expected"; pure (ForInStep.yield r))) M = some (s0 ++ strOf l)
 | [], s0 => by
  have e : s0 ++ strOf [] = s0 := by apply ByteArray.ext; simp [strOf]
  rw [e]; rfl
 | n :: l, s0 => by
  have e : s0 ++ strOf (n :: l) = s0.push (UInt8.ofNat n.toNat) ++ strOf l := by apply ByteArray.ext; simp [strOf]
  rw [e, fP.bY]
  show bO P (forIn (Value.int .u8 n :: Fc.cells l) s0 _) M = _
  rw [List.forIn_cons]
  exact Dw l (s0.push (UInt8.ofNat n.toNat))
theorem tT {P : Program} {st bt e : TypeId} {A : Option Addr} {n c : Nat} {l : List Int} {M : Mem} {K : Value → Mem → Prop} {Kp : List PanicEntry → Mem → Prop}
  (h1 : P.underlying bt = some (.slice e)) (h2 : P.underlying st = some .string) (h3 : P.underlying e = some (.int .u8)) (hs : Sl M A (Fc.cells l)) (hn : n = l.length) (k : K (.string (strOf l)) M) :
  aX P (convert bt st (.slice A n c)) M K Kp := by
 subst hn
 unfold aX
 refine gA P _ (x := Value.string (strOf l)) ?_ k
 unfold convert
 simp only [aS, aH h1 M, aH h2 M, aH h3 M, Option.bind_some]
 unfold Conv.bytesToString
 match A, hs with
 | none, hs =>
  have : l = [] := by
   have := congrArg List.length (show Fc.cells l = [] from hs)
   rw [fP.b9] at this
   cases l with
   | nil => rfl
   | cons a l => simp [Fc] at this
  subst this; rfl
 | some ⟨b, o, none⟩, hs =>
  have hl : (Fc.cells l).length = l.length * 1 := fP.b9
  have hr := fx (P := P) (M := M) (A := some ⟨b, o, none⟩) (n := l.length) (c := c) (z := 1) (m := l.length) hs hl
  unfold Builtin.firstCells at hr
  rw [Nat.mul_one] at hr
  simp only [aS, hr, Option.bind_some]
  have hp := Dw (P := P) (M := M) l ByteArray.empty
  have e : ByteArray.empty ++ strOf l = strOf l := ByteArray.ext (by rw [ByteArray.data_append]; exact Array.empty_append)
  rw [e] at hp
  simp only [List.forIn_toArray]
  erw [hp]; rfl
theorem Hp.TU {R : Mem} {L : List HP} {M : Mem} {P : Program} {st bt e : TypeId} {s : ByteArray} {K : Value → Mem → Prop} {Kp : List PanicEntry → Mem → Prop} (h : Hp R L M)
  (h1 : P.underlying bt = some (.slice e)) (h2 : P.underlying st = some .string) (h3 : P.underlying e = some (.int .u8))
  (k : ∀ R' A c M', R.le R' → RS Fc R' A c (bytesOf s) → Hp R' L M' → K (.slice A (bytesOf s).length c) M') :
  aX P (convert st bt (.string s)) M K Kp := by
 unfold aX convert
 refine aU (aH h2 M) ?_
 refine aU (aH h1 M) ?_
 simp only
 refine aU (aH h3 M) ?_
 simp only
 unfold Conv.stringToBytes
 show ∀ q, _
 intro q
 have hcap : s.size ≤ Question.cut (.appendCap s.size 0 e) q := by simp only [Question.cut]; omega
 generalize Question.cut (.appendCap s.size 0 e) q = nc at hcap
 intro b hb
 have hcs : ∀ j, j < (Fc.cells (bytesOf s)).length → (s.data.map (fun b => Value.int .u8 (b.toNat : Int)) ++ Array.replicate (nc - s.size) (Value.int .u8 0))[j]? = (Fc.cells (bytesOf s))[j]? := fun j hj => by
  rw [← yR] at hj ⊢
  rw [wD] at hj
  rw [Array.getElem?_append_left (by simpa using hj)]
  simp [fL]
 generalize hc0 : (s.data.map (fun b => Value.int .u8 (b.toNat : Int)) ++ Array.replicate (nc - s.size) (Value.int .u8 0)) = cs at hcs
 show dV P (markStringish ⟨b, 0, none⟩ >>= fun _ => pure (Value.slice (some ⟨b, 0, none⟩) s.size nc)) (M.set b (.cells cs e (0, 0))) K _
 unfold markStringish
 refine eE P _ _ ?_
 refine eE P _ _ ?_
 unfold shape
 simp only [dV, dM, freeze, pure]
 refine ⟨by decide, rfl, ?_⟩
 have hf : (M.set b (.cells cs e (0, 0))).freeze ⟨b, cs.size, none⟩ 1 = M.set b (.cells cs e (cs.size, cs.size + 1)) := by
  funext i
  simp only [Mem.freeze, Mem.set]
  by_cases hi : i = b
  ·simp [hi]
  ·simp [hi]
 show K _ ((M.set b (.cells cs e (0, 0))).freeze ⟨b, cs.size, none⟩ 1)
 rw [hf]
 have h4 : Hp R (ob b (.cells cs e (cs.size, cs.size + 1)) :: L) (M.set b (.cells cs e (cs.size, cs.size + 1))) := h.new hb (by unfold ob; show (single b _) b = _; simp [single])
 obtain ⟨R', X, hX, g1, g2, g3⟩ := h4.aad
 have := k R' (some ⟨b, 0, none⟩) nc _ g1 ⟨fun j hj => ?_, by rw [mF]; exact hcap⟩ g3
 ·rwa [mF] at this
 ·have N5 : R' b = some (.cells cs e (cs.size, cs.size + 1)) := g2 b _ (by unfold ob at hX; exact hX)
  rw [Nat.zero_add, ← hcs j hj]
  unfold Mem.ld
  simp only [N5]; simp
section
variable {R : Mem} {L L' om : List HP} {M : Mem} {T : Nat} {A : Option Addr} {c : Nat} {l : List Int}
theorem Hp.EH {P : Program} {t t' ty : Nat} {s : ByteArray} {K : Value → Mem → Prop} {Kp : List PanicEntry → Mem → Prop}
  (h : Hp R L M) [ha : cG A L Int Fc T c l L'] (El : bg P t T 1 1 [.int .u8 0]) (hu : P.underlying t' = some .string) (hb : l.length + s.size ≤ 140737488355328)
  (g : ∀ A' c' M', Hp R (bE Fc T A' c' (l ++ bytesOf s) :: L') M' → K (.slice A' (l ++ bytesOf s).length c') M') :
  aX P (Builtin.append_ #[t, t'] ty #[.slice A l.length c, .string s]) M K Kp := by
 have h2 : Hp R (own 1 T A l.length c (Fc.cells l) :: L') M := by
  have := h.pick ha.pick; unfold bE at this; exact this
 obtain ⟨hu2, i, zv, hi, hs, hby, hz, hzz, hl, hpos⟩ := El
 have ho := h2.ue
 refine Bg hu2 hu hi hz (by rw [hs, ← hl, ← hzz]; simp) (by rw [hs]; exact ho) hs (by rw [hby]; simpa using hb) (by omega) fun A' c' M' h1 hc h3 => ?_
 have := g A' c' M' (by
  unfold bE
  rw [List.length_append, mF, fP.nh, ← yR]
  rw [hs] at h1
  refine h2.change (Q := own 1 T A' (l.length + s.size) c' (Fc.cells l ++ fL s)) (D := yC A) (D' := yC A') Hp.KD hc (fun x hx => ?_) (by unfold own; exact h1.HN)
  rcases h3 with rfl | ⟨b, rfl, hb⟩
  ·exact .inl hx
  ·simp only [yC, List.mem_singleton] at hx; subst hx; exact .inr hb)
 rwa [List.length_append, mF] at this
end
end Go.AF
namespace Go.AF
set_option maxRecDepth 100000
def qO (n : Nat) : List Int := if h : n < 128 then [(n : Int)] else ((n % 128 + 128 : Nat) : Int) :: qO (n / 128)
termination_by n
decreasing_by omega
theorem zR {n : Nat} (h : n < 128) : qO n = [(n : Int)] := by rw [qO, dif_pos h]
theorem EI {n : Nat} (h : ¬ n < 128) : qO n = ((n % 128 + 128 : Nat) : Int) :: qO (n / 128) := by rw [qO, dif_neg h]
theorem Lh : ∀ (n : Nat), ∀ x ∈ qO n, 0 ≤ x ∧ x < 256 := by
 intro n
 induction n using Nat.strongRecOn with
 | ind n ih =>
  intro x hx
  by_cases h : n < 128
  ·rw [zR h] at hx; simp only [List.mem_singleton] at hx; subst hx; omega
  ·rw [EI h] at hx
   rcases List.mem_cons.1 hx with rfl | hx
   ·omega
   ·exact ih (n / 128) (by omega) x hx
theorem wE : ∀ (k n : Nat), n < 128 ^ (k + 1) → (qO n).length ≤ k + 1
 | 0, n, h => by rw [zR (by simpa using h)]; simp
 | k + 1, n, h => by
  by_cases hn : n < 128
  ·rw [zR hn]; simp
  ·rw [EI hn, List.length_cons]
   have := wE k (n / 128) (by rw [Nat.pow_succ] at h; exact Nat.div_lt_of_lt_mul (by rw [Nat.mul_comm]; exact h))
   omega
theorem or128 {n : Nat} : (n % 256) ||| 128 = n % 128 + 128 := by
 have : ∀ k : Fin 256, k.val ||| 128 = k.val % 128 + 128 := by decide
 have h := this ⟨n % 256, Nat.mod_lt _ (by omega)⟩
 simp only at h
 rw [h]; omega
def TV : Nat := 3988292384
def Bh (x : Nat) : Nat := if x % 2 = 1 then (x / 2) ^^^ TV else x / 2
def je : Nat → Nat → Nat
 | 0, x => x
 | k + 1, x => Bh (je k x)
def Nn (x b : Nat) : Nat := je 8 (x ^^^ b)
theorem QN (a b : Nat) : (a ^^^ b) / 2 = (a / 2) ^^^ (b / 2) := by
 have := Nat.xor_div_two_pow (a := a) (b := b) (n := 1)
 simpa using this
theorem TW (a b : Nat) : (a ^^^ b) % 2 = (a + b) % 2 := by
 have := Nat.xor_mod_two_pow (a := a) (b := b) (n := 1)
 rw [Nat.pow_one] at this
 rw [this]
 have ha := Nat.mod_lt a (show 2 > 0 by omega)
 have hb := Nat.mod_lt b (show 2 > 0 by omega)
 rw [Nat.add_mod]
 generalize a % 2 = x at *
 generalize b % 2 = y at *
 obtain rfl | rfl : x = 0 ∨ x = 1 := by omega
 ·obtain rfl | rfl : y = 0 ∨ y = 1 := by omega
  ·rfl
  ·rfl
 ·obtain rfl | rfl : y = 0 ∨ y = 1 := by omega
  ·rfl
  ·rfl
theorem QO (a b : Nat) : Bh (a ^^^ b) = Bh a ^^^ Bh b := by
 unfold Bh
 rw [QN]
 have := TW a b
 by_cases ha : a % 2 = 1
 ·by_cases hb : b % 2 = 1
  ·rw [if_neg (by omega), if_pos ha, if_pos hb]
   rw [Nat.xor_comm (b / 2) TV, Nat.xor_assoc, ← Nat.xor_assoc TV TV, Nat.xor_self, Nat.zero_xor]
  ·rw [if_pos (by omega), if_pos ha, if_neg hb]
   rw [Nat.xor_assoc, Nat.xor_comm (b / 2), ← Nat.xor_assoc]
 ·by_cases hb : b % 2 = 1
  ·rw [if_pos (by omega), if_neg ha, if_pos hb, Nat.xor_assoc]
  ·rw [if_neg (by omega), if_neg ha, if_neg hb]
theorem G2 (a b : Nat) : ∀ k, je k (a ^^^ b) = je k a ^^^ je k b
 | 0 => rfl
 | k + 1 => by rw [je, G2 a b k, QO]; rfl
theorem Dx {w : Nat} : ∀ k, w % 2 ^ k = 0 → je k w = w / 2 ^ k
 | 0, _ => by simp [je]
 | k + 1, h => by
  have h1 : w % 2 ^ k = 0 := by
   have : 2 ^ k ∣ w := Nat.dvd_trans ⟨2, by rw [Nat.pow_succ]⟩ (Nat.dvd_of_mod_eq_zero h)
   exact Nat.mod_eq_zero_of_dvd this
  rw [je, Dx k h1, Bh]
  have h2 : w / 2 ^ k % 2 = 0 := by
   obtain ⟨q, rfl⟩ := Nat.dvd_of_mod_eq_zero h
   rw [Nat.pow_succ, Nat.mul_assoc, Nat.mul_div_cancel_left _ (Nat.two_pow_pos k)]
   exact Nat.mul_mod_right ..
  rw [if_neg (by omega), Nat.div_div_eq_div_mul, ← Nat.pow_succ]
theorem JM {x b : Nat} (hb : b < 256) : (x / 256) ^^^ je 8 ((x ^^^ b) % 256) = Nn x b := by
 unfold Nn
 generalize hz : x ^^^ b = z
 have h1 : z / 256 = x / 256 := by
  have := Nat.xor_div_two_pow (a := x) (b := b) (n := 8)
  rw [hz, show (2 : Nat) ^ 8 = 256 from rfl, show b / 256 = 0 from by omega, Nat.xor_zero] at this
  exact this
 have h2 : (z ^^^ (z % 256)) % 2 ^ 8 = 0 := by
  rw [Nat.xor_mod_two_pow, show (2 : Nat) ^ 8 = 256 from rfl, Nat.mod_mod, Nat.xor_self]
 have h3 : (z ^^^ (z % 256)) / 2 ^ 8 = z / 256 := by
  rw [Nat.xor_div_two_pow, show (2 : Nat) ^ 8 = 256 from rfl, show z % 256 / 256 = 0 from by omega, Nat.xor_zero]
 have h4 : z = (z ^^^ (z % 256)) ^^^ (z % 256) := by rw [Nat.xor_assoc, Nat.xor_self, Nat.xor_zero]
 have h5 : je 8 z = je 8 (z ^^^ (z % 256)) ^^^ je 8 (z % 256) := by
  conv => lhs; rw [h4]
  exact G2 _ _ 8
 rw [h5, Dx 8 h2, h3, h1]
theorem TX {x : Nat} (h : x < 4294967296) : Bh x < 4294967296 := by
 unfold Bh
 split
 ·exact Nat.xor_lt_two_pow (n := 32) (by omega) (by decide)
 ·omega
theorem zS {x : Nat} (h : x < 4294967296) : ∀ k, je k x < 4294967296
 | 0 => h
 | k + 1 => TX (zS h k)
theorem TY {x b : Nat} (h : x < 4294967296) (hb : b < 256) : Nn x b < 4294967296 := zS (Nat.xor_lt_two_pow (n := 32) h (by omega)) 8
def Bi (x : Nat) (l : List Int) : Nat := l.foldl (fun x b => Nn x b.toNat) x
def Li (l : List Int) : Nat := 4294967295 - Bi 4294967295 l
theorem Lj : ∀ {l : List Int} {x : Nat}, (∀ n ∈ l, 0 ≤ n ∧ n < 256) → x < 4294967296 → Bi x l < 4294967296
 | [], x, _, h => h
 | b :: l, x, hl, h => Lj (l := l) (fun n hn => hl n (List.mem_cons_of_mem _ hn)) (TY h (by have := hl b (List.mem_cons_self ..); omega))
theorem No (x : Nat) (l : List Int) (b : Int) : Bi x (l ++ [b]) = Nn (Bi x l) b.toNat := by simp [Bi]
theorem w32 {n : Nat} (h : n < 4294967296) : IntKind.wrap .u32 (n : Int) = n := by rw [IntKind.wrap_u32]; omega
theorem ofInt32 {n : Nat} (h : n < 4294967296) : (BitVec.ofInt IntKind.u32.bits (n : Int)).toNat = n := by
 have : IntKind.u32.bits = 32 := rfl
 rw [this]; simp only [BitVec.ofInt_natCast, BitVec.toNat_ofNat]; exact Nat.mod_eq_of_lt (by omega)
theorem Vq {a b : Nat} (ha : a < 4294967296) (hb : b < 4294967296) : IntKind.wrap .u32 (((Nat.bitwise bne (BitVec.ofInt IntKind.u32.bits (a : Int)).toNat (BitVec.ofInt IntKind.u32.bits (b : Int)).toNat) : Nat) : Int) = ((a ^^^ b : Nat) : Int) := by
 rw [ofInt32 ha, ofInt32 hb]
 exact w32 (Nat.xor_lt_two_pow (n := 32) ha hb)
theorem not32 {a : Nat} (ha : a < 4294967296) : (4294967295 ^^^ a : Nat) = 4294967295 - a := by
 have h1 : BitVec.allOnes 32 ^^^ BitVec.ofNat 32 a = ~~~ (BitVec.ofNat 32 a) := BitVec.allOnes_xor
 have h2 := congrArg BitVec.toNat h1
 rw [BitVec.toNat_xor, BitVec.toNat_not, BitVec.toNat_allOnes, BitVec.toNat_ofNat, Nat.mod_eq_of_lt (by omega)] at h2
 exact h2
end Go.AF
namespace Go.Proofs
open Go.AF
set_option maxRecDepth 100000
set_option maxHeartbeats 1000000
attribute [local irreducible] aK dH fz cv az fC aE aN aW aX bL aQ
theorem QS : bg Tryz.prog 212 5 1 1 [.int .u8 0] := bg.mk' (zv := .int .u8 0) (by kernel_rfl) (by kernel_rfl) rfl (by omega)
theorem Bj : Tryz.prog.underlying 212 = some (.slice 5) := by kernel_rfl
theorem EJ : Tryz.prog.underlying 5 = some (.int .u8) := by kernel_rfl
theorem rZ : Tryz.prog.underlying 9 = some .string := by kernel_rfl
section
variable {R : Mem} {L L' : List HP} {M : Mem} {K : Value → Mem → Prop} {Kp : List PanicEntry → Mem → Prop}
theorem w8 {n : Nat} : IntKind.wrap .u8 (n : Int) = ((n % 256 : Nat) : Int) := by
 unfold IntKind.wrap
 simp only [IntKind.signed, Bool.false_and, Bool.false_eq_true, if_false, IntKind.bits]
 omega
theorem ofInt8 {n : Nat} (h : n < 256) : (BitVec.ofInt IntKind.u8.bits (n : Int)).toNat = n := by
 have : IntKind.u8.bits = 8 := rfl
 rw [this]; simp only [BitVec.ofInt_natCast, BitVec.toNat_ofNat]; exact Nat.mod_eq_of_lt (by omega)
theorem TZ {n : Nat} (h : Hp R L M) (hn : n < 18446744073709551616) (k : ∀ M', Hp R L M' → K (.string (strOf (qO n))) M') : aa Tryz.prog 100 #[.int .u64 (n : Int)] M K Kp := by
 refine Jo ⟨fun d ws M => ∃ (m : Nat) (A : Option Addr) (c : Nat) (l : List Int), ws = [.int .u64 (m : Int), .slice A l.length c] ∧ d = m ∧ m < 18446744073709551616 ∧ l ++ qO m = qO n ∧ l.length ≤ 100 ∧
  Hp R (bE Fc 5 A c l :: L) M, ⟨_, n, none, 0, [], rfl, rfl, hn, rfl, by simp, h.bR _ _⟩, ?_⟩
 clear h
 rintro d _ _ A _ c M ⟨m, _, _, l, he, hd, hm, hl, Zx, h⟩
 simp only [List.cons.injEq, Value.int.injEq, Value.slice.injEq, and_true, true_and] at he
 obtain ⟨rfl, rfl, rfl, rfl⟩ := he
 have hlen : (qO n).length ≤ 10 := wE 9 n (by have : (128 : Nat) ^ (9 + 1) = 1180591620717411303424 := rfl; omega)
 refine aJ.2 ⟨fun hge => ?_, fun hlt => ?_⟩
 ·have e := EI (n := m) (by omega)
  have e1 : IntKind.wrap .u8 (((Nat.bitwise or (BitVec.ofInt IntKind.u8.bits (IntKind.u8.wrap (m : Int))).toNat (BitVec.ofInt IntKind.u8.bits 128).toNat) : Nat) : Int) = ((m % 128 + 128 : Nat) : Int) := by
   rw [show IntKind.u8.wrap (m : Int) = ((m % 256 : Nat) : Int) from w8, ofInt8 (Nat.mod_lt _ (by omega))]
   have : (BitVec.ofInt IntKind.u8.bits 128).toNat = 128 := rfl
   rw [this]
   have h2 : Nat.bitwise or (m % 256) 128 = m % 128 + 128 := or128
   rw [h2, w8]
   exact congrArg _ (by omega)
  rw [e1]
  have kj : l.length < 10 := by
   have := congrArg List.length hl
   rw [List.length_append] at this
   have hp : 0 < (qO m).length := by rw [e]; simp
   omega
  have e2 : Int.fdiv (m : Int) 128 = ((m / 128 : Nat) : Int) := by rw [Int.fdiv_eq_ediv_of_nonneg _ (by omega)]; omega
  rw [e2]
  repeat (first|(refine aj h ?_;clear h;intro kb M h)|(refine au h ?_;clear h;intro M h)|refine St.to h ?_|(apply Exists.intro;(repeat apply Exists.intro);refine And.intro rfl ?_)|refine av ?_|refine ae ?_|refine ai ?_)
  refine h.bJ QS [((m % 128 + 128 : Nat) : Int)] rfl rfl (by simp; omega) ?_
  clear h
  intro A' c' M h
  repeat (first|(refine aj h ?_;clear h;intro kb M h)|(refine au h ?_;clear h;intro M h)|refine St.to h ?_|(apply Exists.intro;(repeat apply Exists.intro);refine And.intro rfl ?_)|refine av ?_|refine ae ?_|refine ai ?_)
  refine ⟨m / 128, by omega, m / 128, A', c', _, rfl, rfl, by omega, ?_, by simp; omega, h.cj⟩
  rw [← hl, e]; simp
 ·have e := zR (n := m) (by omega)
  have e1 : IntKind.wrap .u8 (m : Int) = (m : Int) := by rw [w8]; exact congrArg _ (by omega)
  rw [e1]
  repeat (first|(refine aj h ?_;clear h;intro kb M h)|(refine au h ?_;clear h;intro M h)|refine St.to h ?_|(apply Exists.intro;(repeat apply Exists.intro);refine And.intro rfl ?_)|refine av ?_|refine ae ?_|refine ai ?_)
  refine h.bJ QS [(m : Int)] rfl rfl (by simp; omega) ?_
  clear h
  intro A' c' M h
  repeat (first|(refine aj h ?_;clear h;intro kb M h)|(refine au h ?_;clear h;intro M h)|refine St.to h ?_|(apply Exists.intro;(repeat apply Exists.intro);refine And.intro rfl ?_)|refine av ?_|refine ae ?_|refine ai ?_)
  rw [e] at hl
  rw [hl] at h ⊢
  refine tT Bj rZ EJ (h.src (A := A') M h) rfl ?_
  exact KE (k _ h.sk)
theorem Ll {α : Type} {E : fP α} {T c : Nat} {b : Nat} {l : List α} {G : List Value → Prop} (h : Hp R L M) [hp : cG (some ⟨b, 0, none⟩) L α E T c l L'] {n : Nat} (hn : l.length * E.z = n) (g : G (E.cells l)) : Sh (M.gd ⟨b, 0, none⟩ 0 n) G := by
 subst hn
 have hs := h.src (A := some ⟨b, 0, none⟩) M h
 have := rG (M := M) (b := b) (o := 0) (E.cells l) 0 (fun j hj => by rw [Nat.zero_add]; exact hs j hj)
 rw [fP.b9] at this
 rw [this]; exact g
theorem Lm : ∀ (vs cs : List Value) (o : Nat), o + vs.length ≤ cs.length → B7 cs o vs = cs.take o ++ vs ++ cs.drop (o + vs.length)
 | [], cs, o, _ => by simp [B7]
 | v :: vs, cs, o, h => by
  rw [List.length_cons] at h
  rw [B7, Lm vs (cs.set o v) (o + 1) (by rw [List.length_set]; omega)]
  rw [List.length_cons, show o + 1 + vs.length = o + (vs.length + 1) from by omega, List.drop_set_of_lt (by omega)]
  have : (cs.set o v).take (o + 1) = cs.take o ++ [v] := by
   rw [List.take_add_one, List.getElem?_set_self (by omega), List.take_set_of_le (Nat.le_refl o)]; rfl
  rw [this, List.append_assoc, List.append_assoc, List.append_assoc]; rfl
theorem QT {cs vs : List Value} (h : vs.length = cs.length) : B7 cs 0 vs = vs := by
 rw [Lm vs cs 0 (by omega)]; simp [h]
theorem Vr {b T n : Nat} {cs vs : List Value} {G : Mem → Prop} (h : Hp R L M) [hp : kL b L cs T L'] (hc : cs.length = n) (hv : vs.length = n) (hpl : ∀ v ∈ vs, Value.plainCell v = true) (k : ∀ M', Hp R (pt b vs T :: L') M' → G M') : VQ M b 0 vs n G := by
 have h2 := h.pick hp.pick
 have hb := h2.Ax
 refine ⟨hv, hpl, ⟨cs.toArray, T, hb, by simp [hc]⟩, k _ ?_⟩
 have : M.DV b 0 vs = M.set b (.cells vs.toArray T (0, 0)) := by
  funext i
  unfold Mem.DV Mem.set
  by_cases hi : i = b
  ·subst hi
   rw [if_pos rfl, if_pos rfl, hb]
   have e : B7 cs 0 vs = vs := QT (by omega)
   show some (Obj.cells (B7 cs.toArray.toList 0 vs).toArray T (0, 0)) = _
   rw [show cs.toArray.toList = cs from rfl, e]
  ·rw [if_neg hi, if_neg hi]
 rw [this]
 exact h2.set (x := .cells cs.toArray T (0, 0)) (fun A ha => by unfold pt at ha; exact ha) fun A ha => by unfold pt; exact dM
theorem Np (h : Hp R L M) (k : ∀ M', Hp R L M' → K (.agg ⟨lY.cells ((List.range 256).map fun i => ((je 8 i : Nat) : Int))⟩) M') : aa Tryz.prog 168 #[] M K Kp := by
 refine EA ?_
 refine aj h ?_
 clear h; intro k1 M h
 refine aj h ?_
 clear h; intro k3 M h
 replace h := (h.pt k3).gu (E := lY) (l := (List.range 256).map fun _ => 0) rfl
 refine ⟨fun d ws M => ∃ i : Nat, ws = [.int .i64 (i : Int)] ∧ d = 256 - i ∧ i ≤ 256 ∧
  Hp R (bE lY 325 (some ⟨k3, 0, none⟩) 256 ((List.range 256).map fun j => if j < i then ((je 8 j : Nat) : Int) else 0) :: pt k1 (lY.cells ((List.range 256).map fun _ => 0)) 325 :: L) M, ⟨_, 0, rfl, rfl, by omega, h⟩, ?_⟩
 clear h
 rintro d _ ii M ⟨i, he, hd, hi, h⟩
 simp only [List.cons.injEq, Value.int.injEq, and_true, true_and] at he
 subst he
 refine aJ.2 ⟨fun hlt => ?_, fun hge => ?_⟩
 ·rw [w32 (n := i) (by omega)]
  have hI : ∀ j, je j i < 4294967296 := fun j => zS (by omega) j
  refine ⟨fun d2 ws M' => ∃ j : Nat, ws = [.int .u32 (je j i : Nat), .int .i64 (j : Int)] ∧ d2 = 8 - j ∧ j ≤ 8 ∧ M' = M, ⟨_, 0, rfl, rfl, by omega, rfl⟩, ?_⟩
  rintro d2 _ _ jj M2 ⟨j, he, Sb, hj, rfl⟩
  simp only [List.cons.injEq, Value.int.injEq, and_true, true_and] at he
  obtain ⟨rfl, rfl⟩ := he
  refine aJ.2 ⟨fun hj8 => ?_, fun hj8 => ?_⟩
  ·have hT : je (j + 1) i = Bh (je j i) := rfl
   have hIj := hI j
   rw [aP (by omega)]
   generalize je j i = x at *
   have e1 : IntKind.wrap .u32 (((Nat.bitwise and (BitVec.ofInt IntKind.u32.bits (x : Int)).toNat (BitVec.ofInt IntKind.u32.bits 1).toNat) : Nat) : Int) = ((x % 2 : Nat) : Int) := by
    rw [ofInt32 hIj, show (BitVec.ofInt IntKind.u32.bits 1).toNat = 1 from rfl]
    have : Nat.bitwise and x 1 = x % 2 := Nat.and_one_is_mod x
    rw [this, w32 (by omega)]
   have p1 : (2 : Int) ^ min (Int.toNat 1) IntKind.u32.bits = 2 := rfl
   have e2 : Int.fdiv (x : Int) 2 = ((x / 2 : Nat) : Int) := by rw [Int.fdiv_eq_ediv_of_nonneg _ (by omega)]; omega
   rw [e1, p1, e2]
   refine aV.2 ⟨fun ho => ?_, fun ho => ?_⟩
   ·refine ⟨8 - (j + 1), by omega, j + 1, ?_, rfl, by omega, rfl⟩
    have e5 := Vq (a := x / 2) (b := 3988292384) (by omega) (by omega)
    rw [hT]
    refine congrArg (fun v => [Value.int .u32 v, Value.int .i64 ((j + 1 : Nat) : Int)]) (Eq.trans e5 (congrArg _ ?_))
    unfold Bh
    rw [if_pos (by omega)]; rfl
   ·refine ⟨8 - (j + 1), by omega, j + 1, ?_, rfl, by omega, rfl⟩
    rw [hT]
    unfold Bh
    rw [if_neg (by omega)]
  ·obtain rfl : j = 8 := by omega
   refine ⟨by omega, by omega, ?_⟩
   simp only [Int.toNat_natCast]
   refine iE (a' := ((je 8 i : Nat) : Int)) i 0 h (Vm (by omega)) (by decide) rfl (by simp [lY]) ?_
   clear h; intro M h
   rw [aP (by omega)]
   refine ⟨256 - (i + 1), by omega, i + 1, rfl, rfl, by omega, ?_⟩
   rw [Ym, GD (g := fun j => if j < i + 1 then ((je 8 j : Nat) : Int) else 0)] at h
   ·exact h
   ·intro j _
    by_cases h1 : j = i
    ·subst h1; simp
    ·simp only [h1, if_false]
     by_cases h2 : j < i
     ·rw [if_pos h2, if_pos (by omega)]
     ·rw [if_neg h2, if_neg (by omega)]
 ·obtain rfl : i = 256 := by omega
  rw [GD (g := fun j => ((je 8 j : Nat) : Int)) (fun j hj => by simp [hj])] at h
  generalize hl : (List.range 256).map (fun i => ((je 8 i : Nat) : Int)) = l at *
  have Zx : l.length = 256 := by rw [← hl]; simp
  refine Ll h (by rw [Zx]; rfl) ?_
  refine Vr h (by rw [fP.b9]; simp; rfl) (by show (lY.cells l).length = 256; rw [fP.b9, Zx]; rfl) (fun v hv => fP.iD v hv) ?_
  clear h; intro M h
  have h2 := (h.pt k1).gu (E := lY) (l := l) rfl
  refine Ll h2 (by rw [Zx]; rfl) ?_
  exact k _ h2.sk
end
section
variable {R : Mem} {L L' : List HP} {M : Mem} {K : Value → Mem → Prop} {Kp : List PanicEntry → Mem → Prop}
theorem Yu : (BitVec.ofInt IntKind.u32.bits (if IntKind.u32.signed = true then -1 else IntKind.u32.max)).toNat = 4294967295 := by decide
theorem Vs {x : Nat} (h : x < 4294967296) : IntKind.wrap .u32 (((Nat.bitwise bne (BitVec.ofInt IntKind.u32.bits (if IntKind.u32.signed = true then -1 else IntKind.u32.max)).toNat (BitVec.ofInt IntKind.u32.bits (x : Int)).toNat) : Nat) : Int) = ((4294967295 - x : Nat) : Int) := by
 rw [Yu, ofInt32 h]
 have : Nat.bitwise bne 4294967295 x = 4294967295 - x := not32 h
 rw [this, w32 (by omega)]
theorem T0 {x : Nat} {l : List Int} (hx : x < 4294967296) (hl : ∀ n ∈ l, 0 ≤ n ∧ n < 256) (hs : l.length ≤ 100000000000000) (h : Hp R L M)
  (k : ∀ R' M', R.le R' → Hp R' L M' → K (.agg #[.int .u32 (4294967295 - Bi (4294967295 - x) l : Nat)]) M') : aa Tryz.prog 142 #[.agg #[.int .u32 (x : Int)], .string (strOf l)] M K Kp := by
 refine xQ ?_
 refine aj h ?_
 clear h; intro k1 M h
 refine aj h ?_
 clear h; intro k3 M h
 refine Np h ?_
 clear h; intro M h
 refine ⟨_, by rw [fP.b9]; simp; rfl, rfl, ?_⟩
 refine aj h ?_
 clear h; intro k8 M h
 refine Vr h rfl (by show (lY.cells _).length = 256; rw [fP.b9]; simp; rfl) (fun v hv => fP.iD v hv) ?_
 clear h; intro M h
 refine ay h ?_
 refine h.TU Bj rZ EJ fun R1 A c M' g1 hA h' => ?_
 clear h
 have h := h'
 clear h'
 rw [tS hl] at hA ⊢
 rw [Vs hx]
 refine aO ?_
 refine ⟨fun d ws M => ∃ i : Nat, ws = [.int .u32 (Bi (4294967295 - x) (l.take i) : Nat), .int .i64 (i : Int)] ∧ d = l.length - i ∧ i ≤ l.length ∧
  Hp R1 (pt k8 (lY.cells ((List.range 256).map fun i => ((je 8 i : Nat) : Int))) 325 :: pt k3 [.int .u32 0] 287 :: L) M, ⟨_, 0, rfl, rfl, by omega, h.sub bp⟩, ?_⟩
 clear h
 rintro d _ _ ii M ⟨i, he, hd, hi, h⟩
 simp only [List.cons.injEq, Value.int.injEq, and_true, true_and] at he
 obtain ⟨rfl, rfl⟩ := he
 have hlt : Bi (4294967295 - x) (l.take i) < 4294967296 := Lj (fun n hn => hl n (List.mem_of_mem_take hn)) (by omega)
 refine aJ.2 ⟨fun hil => ?_, fun hge => ?_⟩
 ·obtain ⟨b, hb⟩ := aM (l := l) (i := i) (by omega)
  have N5 := hl b (List.mem_of_getElem? hb)
  obtain ⟨q, rfl⟩ := Int.eq_ofNat_of_zero_le N5.1
  have hstep : Bi (4294967295 - x) (l.take (i + 1)) = Nn (Bi (4294967295 - x) (l.take i)) q := by rw [bu hb, No, Int.toNat_natCast]
  generalize Bi (4294967295 - x) (l.take i) = y at *
  obtain ⟨b1, o1, rfl⟩ := hA.some (by omega) (by decide)
  refine ⟨by omega, hil, ?_⟩
  refine aY ?_
  simp only [Int.toNat_natCast]
  refine aR (hA.src.at h (i := i) (j := 0) hb rfl (by simp [Fc])) ?_
  have e1 : IntKind.wrap .u8 (((Nat.bitwise bne (BitVec.ofInt IntKind.u8.bits (IntKind.u8.wrap (y : Int))).toNat (BitVec.ofInt IntKind.u8.bits (q : Int)).toNat) : Nat) : Int) = (((y ^^^ q) % 256 : Nat) : Int) := by
   rw [show IntKind.u8.wrap (y : Int) = ((y % 256 : Nat) : Int) from w8, ofInt8 (Nat.mod_lt _ (by omega)), ofInt8 (by omega), w8]
   have h1 := Nat.xor_mod_two_pow (a := y) (b := q) (n := 8)
   have h2 := Nat.xor_mod_two_pow (a := y % 256) (b := q) (n := 8)
   rw [show (2 : Nat) ^ 8 = 256 from rfl] at h1 h2
   have h3 : Nat.bitwise bne (y % 256) q = (y % 256) ^^^ q := rfl
   rw [h3, h1, h2, Nat.mod_mod]
  rw [e1]
  have hz := Nat.mod_lt (y ^^^ q) (show 256 > 0 by omega)
  have htab := JM (x := y) (b := q) (by omega)
  generalize (y ^^^ q) % 256 = z at *
  refine ⟨by omega, by omega, ?_⟩
  simp only [Int.toNat_natCast]
  have s8 : ∀ L', Src R1 (pt k8 (lY.cells ((List.range 256).map fun i => ((je 8 i : Nat) : Int))) 325 :: L') (some ⟨k8, 0, none⟩) (lY.cells ((List.range 256).map fun i => ((je 8 i : Nat) : Int))) := fun L' => Src.pt .here
  refine aR ((s8 _).at h (i := z) (j := 0) (Vm hz) rfl (by simp [lY])) ?_
  have hzI : je 8 z < 4294967296 := zS (by omega) 8
  have e2 : (y : Int).fdiv (2 ^ min (Int.toNat 8) IntKind.u32.bits) = ((y / 256 : Nat) : Int) := by
   rw [show (2 : Int) ^ min (Int.toNat 8) IntKind.u32.bits = 256 from rfl, Int.fdiv_eq_ediv_of_nonneg _ (by omega)]; omega
  rw [e2, Vq (by omega) hzI, htab, ← hstep, aP (by omega)]
  exact ⟨l.length - (i + 1), by omega, i + 1, rfl, rfl, by omega, h⟩
 ·obtain rfl : i = l.length := by omega
  rw [List.take_length] at hlt ⊢
  rw [Vs hlt]
  repeat (first|(refine aj h ?_;clear h;intro kb M h)|(refine au h ?_;clear h;intro M h)|refine St.to h ?_|(apply Exists.intro;(repeat apply Exists.intro);refine And.intro rfl ?_)|refine av ?_|refine ae ?_|refine ai ?_)
  exact k R1 _ g1 h.sk
theorem Yv {b c : Nat} {l : List Int} (hl : ∀ n ∈ l, 0 ≤ n ∧ n < 256) (hs : l.length ≤ 100000000000000) (h : Hp R L M) [o : ng b 0 L (.string (strOf l))]
  (k : ∀ R' M', R.le R' → Hp R' L M' → K (.int .u32 (Li l : Nat)) M') : aa Tryz.prog 102 #[.slice (some ⟨b, 0, none⟩) 1 c] M K Kp := by
 refine Nc ?_
 refine aj h ?_
 clear h; intro k1 M h
 refine ⟨fun d ws M => ∃ (i : Nat) (R' : Mem), ws = [.int .i64 (i : Int)] ∧ d = 1 - i ∧ i ≤ 1 ∧ R.le R' ∧ Hp R' (pt k1 [.int .u32 (if i = 0 then 0 else Li l : Nat)] 287 :: L) M, ⟨_, 0, R, rfl, rfl, by omega, Mem.le_refl R, h⟩, ?_⟩
 clear h
 rintro d _ ii M ⟨i, R1, he, hd, hi, g1, h⟩
 simp only [List.cons.injEq, Value.int.injEq, and_true, true_and] at he
 subst he
 refine aJ.2 ⟨fun hil => ?_, fun hge => ?_⟩
 ·obtain rfl : i = 0 := by omega
  refine ⟨by omega, hil, aY ?_⟩
  have : (M.ld ⟨b, 0 + Int.toNat ((0 : Nat) : Int), none⟩) = some (.string (strOf l)) := o.ld R1 M h.drop
  refine aaf this ?_
  refine ay h ?_
  refine T0 (x := 0) (by omega) hl hs h fun R2 M' g2 h' => ?_
  clear h
  have h := h'
  clear h'
  refine ⟨_, rfl, ?_⟩
  refine au h ?_
  clear h; intro M h
  exact ⟨0, by omega, 1, R2, by rw [aP (by omega)], rfl, by omega, Mem.le_trans g1 g2, h⟩
 ·obtain rfl : i = 1 := by omega
  refine ay h ?_
  refine xR ?_
  repeat (first|(refine aj h ?_;clear h;intro kb M h)|(refine au h ?_;clear h;intro M h)|refine St.to h ?_|(apply Exists.intro;(repeat apply Exists.intro);refine And.intro rfl ?_)|refine av ?_|refine ae ?_|refine ai ?_)
  exact k _ _ g1 h.sk
end
def QU (x : Int) : Int := IntKind.wrap .u64 (((Nat.bitwise bne
  (BitVec.ofInt IntKind.u64.bits (IntKind.u64.wrap (IntKind.i64.wrap (x * 2 ^ min (Int.toNat 1) IntKind.i64.bits)))).toNat
  (BitVec.ofInt IntKind.u64.bits (IntKind.u64.wrap (x.fdiv (2 ^ min (Int.toNat 63) IntKind.i64.bits)))).toNat) : Nat) : Int)
def CC (x : Int) : Nat := (QU x).toNat
theorem Ln (x : Int) : QU x = ((CC x : Nat) : Int) ∧ CC x < 18446744073709551616 := by
 have : 0 ≤ QU x ∧ QU x < 18446744073709551616 := by unfold QU; rw [IntKind.wrap_u64]; omega
 unfold CC
 omega
def wF (l : List Int) : List Int := l.flatMap fun n => qO (CC n)
def qP (l : List Int) : Nat := Li (wF l)
theorem QV {l : List Int} : (wF l).length ≤ 10 * l.length := by
 induction l with
 | nil => simp [wF]
 | cons a l ih =>
  have h2 := (Ln a).2
  have h3 := wE 9 (CC a) (by have : (128 : Nat) ^ (9 + 1) = 1180591620717411303424 := rfl; omega)
  have e : wF (a :: l) = qO (CC a) ++ wF l := rfl
  rw [e, List.length_append, List.length_cons]; omega
theorem Nq (l : List Int) (n : Int) : wF (l ++ [n]) = wF l ++ qO (CC n) := by simp [wF]
theorem T3 (l : List Int) : ∀ n ∈ wF l, 0 ≤ n ∧ n < 256 := fun n hn => by
 obtain ⟨m, _, h⟩ := List.mem_flatMap.1 hn; exact Lh _ n h
theorem QW (l : List Int) : qP l < 4294967296 := by unfold qP Li; omega
section
variable {R : Mem} {L L' : List HP} {M : Mem} {K : Value → Mem → Prop} {Kp : List PanicEntry → Mem → Prop}
theorem kO {B : Option Addr} {n c : Nat} {l : List Int} (h : Hp R L M) (hB : Src R L B (br.cells l)) (hn : n = l.length) (hs : l.length ≤ 1000000000000)
  (k : ∀ R' M', R.le R' → Hp R' L M' → K (.int .u32 (qP l : Nat)) M') : aa Tryz.prog 46 #[.slice B n c] M K Kp := by
 subst hn
 refine AW ?_
 refine aj h ?_
 clear h; intro kb M h
 replace h := (h.pt kb).gu (E := Fc) (l := []) rfl
 refine ⟨fun d ws M => ∃ (i : Nat) (A : Option Addr) (c : Nat), ws = [.slice A (wF (l.take i)).length c, .int .i64 (i : Int)] ∧ d = l.length - i ∧ i ≤ l.length ∧
   Hp R (bE Fc 5 A c (wF (l.take i)) :: L) M, ⟨_, 0, _, _, rfl, rfl, by omega, h⟩, ?_⟩
 clear h
 rintro d _ A n c ii M ⟨i, _, _, he, hd, hi, h⟩
 simp only [List.cons.injEq, Value.int.injEq, Value.slice.injEq, and_true, true_and] at he
 obtain ⟨⟨rfl, rfl, rfl⟩, rfl⟩ := he
 have hlen := QV (l := l.take i)
 have htl : (l.take i).length ≤ l.length := List.length_take_le' ..
 refine aJ.2 ⟨fun hlt => ?_, fun hge => ?_⟩
 ·obtain ⟨a, ha⟩ := aM (l := l) (i := i) (by omega)
  have hz := Ln a
  have hstep : wF (l.take (i + 1)) = wF (l.take i) ++ qO (CC a) := by rw [bu ha, Nq]
  have h3 := wE 9 (CC a) (by have : (128 : Nat) ^ (9 + 1) = 1180591620717411303424 := rfl; omega)
  obtain ⟨b1, o1, rfl⟩ := hB.cons.ie h (by omega) (by decide)
  refine ⟨by omega, hlt, aY ?_⟩
  simp only [Int.toNat_natCast]
  refine aR (hB.cons.at h (i := i) (j := 0) ha rfl (by simp [br])) ?_
  refine Jp ?_
  refine bW ?_
  have ez : IntKind.wrap .u64 (((Nat.bitwise bne
   (BitVec.ofInt IntKind.u64.bits (IntKind.u64.wrap (IntKind.i64.wrap (a * 2 ^ min (Int.toNat 1) IntKind.i64.bits)))).toNat
   (BitVec.ofInt IntKind.u64.bits (IntKind.u64.wrap (a.fdiv (2 ^ min (Int.toNat 63) IntKind.i64.bits)))).toNat) : Nat) : Int) = ((CC a : Nat) : Int) := hz.1
  rw [ez]
  refine TZ h hz.2 ?_
  clear h; intro M h
  refine KE ?_
  refine Hp.EH h QS rZ (by rw [JL]; omega) ?_
  clear h; intro A' c' M h
  rw [tS (Lh _), ← hstep] at h ⊢
  refine aO ?_
  rw [aP (by omega)]
  exact ⟨l.length - (i + 1), by omega, i + 1, A', c', rfl, rfl, by omega, h⟩
 ·obtain rfl : i = l.length := by omega
  rw [List.take_length] at h hlen ⊢
  refine tT Bj rZ EJ (h.src (A := A) M h) rfl ?_
  refine KE ?_
  refine aj h ?_
  clear h; intro kZ M h
  refine Yv (l := wF l) (T3 l) (by omega) h fun R' M' g h' => ?_
  exact bW (k R' M' g h'.sk)
end
end Go.Proofs
