/- A part of proofs about one program. -/
import Derived.Test.YtnnlgknlialpmaaGreatZTraceSeenAgg
import Derived.Test.YtnnlgknlialpmaaGreatZTraceSeen1
set_option linter.unusedVariables false
namespace Go.AF
theorem IU {p q : Prop} [Decidable p] [Decidable q] {X Y : Prop} (hy : Y) (hx : p → q → X) : aP (decide p) (aP (decide q) X Y) Y := by
 by_cases hp : p
 ·by_cases hq : q
  ·simp only [hp, hq, decide_true]; exact ai (ai (hx hp hq))
  ·simp only [hp, hq, decide_true, decide_false]; exact ai (ae hy)
 ·simp only [hp, decide_false]; exact ae hy
theorem wn {z : Int} {n : Nat} (e : z = (n : Int)) (h : n < 9223372036854775808) : IntKind.wrap .i64 z = (n : Int) := by rw [e]; exact mS h
theorem Src.row {α : Type} {E : hU α} {R : Mem} {L L' : List HP} {A : Option Addr} {T c : Nat} {l : List α} [hp : cK A L α E T c l L'] : Src R L A (E.cells l) := fun M h => h.src (A := A) M h
theorem Src.pre1 {R : Mem} {L : List HP} {A : Option Addr} {c : Nat} {l : List Int} (hs : Src R L A (bl.cells l)) (hc : l.length ≤ c) (q : Nat) : Src R L (lO A 0 c 1) (bl.cells (l.take q)) := by
 have := (hs.drop (m := 0) (c := c) hc).Sv q
 rw [List.drop_zero] at this
 exact this
theorem Src.Q2 {R : Mem} {L : List HP} {A : Option Addr} {c : Nat} {l : List Int} (hs : Src R L A (bl.cells l)) (hc : l.length ≤ c) (q : Nat) : Src R L (lO A q c 1) (bl.cells (l.drop q)) := hs.drop hc
end Go.AF
namespace Go.AF
abbrev AL := List (Int × Value)
def dF : Nat → AL → List MapEntry
 | _, [] => []
 | i, (k, v) :: l => ⟨.int .i64 k, v, i⟩ :: dF (i + 1) l
def lT (l : AL) : Obj := .map (dF 0 l).toArray l.length
def u7 (k : Int) : AL → Nat → Option (Nat × Value)
 | [], _ => none
 | (k', v) :: l, i => if k = k' then some (i, v) else u7 k l (i + 1)
def Bj (l : AL) (k : Int) : Option Value := (u7 k l 0).map (·.2)
def Q3 (l : AL) (k : Int) (v : Value) : AL := match u7 k l 0 with
 | some (i, _) => l.set i (k, v)
 | none => l ++ [(k, v)]
theorem u9 {kd : IntKind} (k : Int) : ∀ (l : AL) (i b : Nat), Instr.findNow (.int kd) (.int .i64 k) (dF b l) i = some (u7 k l i)
 | [], _, _ => rfl
 | (k', v) :: l, i, b => by
  simp only [dF, Instr.findNow, Instr.sameNow, if_true, u7]
  by_cases h : k = k'
  ·simp [h]
  ·have : (k == k') = false := by simp [h]
   rw [this, if_neg h]
   exact u9 k l (i + 1) (b + 1)
theorem IV {k : Int} : ∀ {l : AL} {i j : Nat} {v : Value}, u7 k l i = some (j, v) → i ≤ j ∧ l[j - i]? = some (k, v)
 | [], _, _, _, h => by simp [u7] at h
 | (k', v') :: l, i, j, v, h => by
  simp only [u7] at h
  split at h
  ·rename_i e; cases h; subst e; exact ⟨Nat.le_refl _, by simp⟩
  ·obtain ⟨h1, h2⟩ := IV h
   refine ⟨by omega, ?_⟩
   rw [show j - i = (j - (i + 1)) + 1 from by omega, List.getElem?_cons_succ]; exact h2
theorem IW : ∀ {l : AL} {i b : Nat} {k : Int} {v : Value}, l[i]? = some (k, v) → (dF b l)[i]? = some ⟨.int .i64 k, v, b + i⟩
 | [], _, _, _, _, h => by simp at h
 | (k', v') :: l, 0, b, k, v, h => by simp at h; obtain ⟨rfl, rfl⟩ := h; rfl
 | (k', v') :: l, i + 1, b, k, v, h => by
  have := IW (b := b + 1) (show l[i]? = some (k, v) from by simpa using h)
  simp only [dF, List.getElem?_cons_succ, this]
  congr 2; omega
theorem E8 : ∀ {l : AL} {i b : Nat} {k : Int} {v w : Value}, l[i]? = some (k, w) → (dF b l).modify i (fun e => { e with key := .int .i64 k, val := v }) = dF b (l.set i (k, v))
 | [], _, _, _, _, _, h => by simp at h
 | (k', v') :: l, 0, b, k, v, w, h => by simp at h; obtain ⟨rfl, rfl⟩ := h; rfl
 | (k', v') :: l, i + 1, b, k, v, w, h => by
  have := E8 (b := b + 1) (v := v) (show l[i]? = some (k, w) from by simpa using h)
  simp only [dF, List.modify_succ_cons, List.set_cons_succ, this]
theorem E9 : ∀ (l m : AL) (b : Nat), dF b (l ++ m) = dF b l ++ dF (b + l.length) m
 | [], m, b => by simp [dF]
 | (k, v) :: l, m, b => by simp only [List.cons_append, dF, E9 l m (b + 1), List.length_cons]; congr 3; omega
def zK : AL → Int → Option Value
 | [], _ => none
 | (k', v) :: l, k => if k = k' then some v else zK l k
theorem Fa (k : Int) : ∀ (l : AL) (i : Nat), (u7 k l i).map (·.2) = zK l k
 | [], _ => rfl
 | (k', v) :: l, i => by
  simp only [u7, zK]
  split
  ·rfl
  ·exact Fa k l (i + 1)
theorem Q4 (l : AL) (k : Int) : Bj l k = zK l k := Fa k l 0
theorem B4 {k : Int} : ∀ {l : AL}, zK l k = none ↔ k ∉ l.map (·.1)
 | [] => by simp [zK]
 | (q, w) :: l => by
  have ih := B4 (k := k) (l := l)
  simp only [zK, List.map_cons, List.mem_cons, not_or]
  by_cases h : k = q
  ·rw [if_pos h]; simp [h]
  ·rw [if_neg h]; simp [h, ih]
section
variable {R : Mem} {L L' : List HP} {M : Mem} {P : Program} {t kt et : TypeId} {r : Nat} {l : AL} {k : Int} {kd : IntKind}
class Fb (b : Nat) (L : List HP) (o : outParam Obj) (L' : outParam (List HP)) : Prop where
 pick : dc L (ob b o) L'
instance Fb.here {b : Nat} {o : Obj} {L : List HP} : Fb b (ob b o :: L) o L := ⟨.here⟩
instance (priority := low) Fb.there {b : Nat} {o : Obj} {Q : HP} {L L' : List HP} [h : Fb b L o L'] : Fb b (Q :: L) o (Q :: L') := ⟨.there h.pick⟩
theorem ql {P : Program} {M : Mem} {b : Bool} (hk : P.underlying kt = some (.int kd)) : bR P (Instr.checkKey b 10000 kt (.int .i64 k)) M = some () := by
 unfold Instr.checkKey
 rw [aR, aL hk]; rfl
theorem tS {P : Program} {M : Mem} (hk : P.underlying kt = some (.int kd)) : bR P (Instr.findKey kt (.int .i64 k) (dF 0 l)) M = some (u7 k l 0) := by
 unfold Instr.findKey
 rw [aR, aL hk, Option.bind_some, u9]; rfl
theorem tT {P : Program} {α : Type} {M : Mem} {r : Nat} {l : AL} {f : Obj → Sem α} {K : α → Mem → Prop} {Kp : Value → Mem → Prop} (hb : M r = some (lT l)) (h : dV P (f (lT l)) M K Kp) : dV P (getObj r >>= f) M K Kp := by
 refine gq P _ _ ?_
 unfold getObj
 simp only [dV, hb, lT]
 exact h
theorem N9 {z : Value} {i : TypeInfo} {K : Value → Mem → Prop} {Kp : List PanicEntry → Mem → Prop} (h : Hp R L M) [p : Fb r L (lT l) L'] (hu : P.underlying t = some (.map kt et)) (hk : P.underlying kt = some (.int kd)) (hi : P.info? et = some i) (hz : i.zero = some z)
  (g : K ((Bj l k).getD z) M) : bk P (Instr.lookup t (.map (some r)) (.int .i64 k) false) M K Kp := by
 have hb : M r = some (lT l) := (h.pick p.pick).Mk
 unfold bk Instr.lookup
 refine bq (aL hu M) ?_
 simp only
 refine gq P _ _ ?_
 refine tT hb ?_
 simp only [lT]
 refine bq (x := ()) (ql hk) ?_
 refine bq (tS hk) ?_
 unfold Bj at g
 cases ha : u7 k l 0 with
 | none =>
  rw [ha] at g
  simp only
  have hz0 : bR P (zeroValue et) M = some z := by rw [kX]; simp [zeroOf, hi, hz]
  refine bq hz0 ?_
  refine bq (x := (z, false)) rfl ?_
  exact g
 | some x =>
  rw [ha] at g
  exact g
theorem xN {v : Value} {K : Mem → Prop} {Kp : List PanicEntry → Mem → Prop} (h : Hp R L M) [p : Fb r L (lT l) L'] (hu : P.underlying t = some (.map kt et)) (hk : P.underlying kt = some (.int kd))
  (g : ∀ M', Hp R (ob r (lT (Q3 l k v)) :: L') M' → K M') : bJ P (Instr.mapUpdate t (.map (some r)) (.int .i64 k) v) M K Kp := by
 have h1 := h.pick p.pick
 have hb : M r = some (lT l) := h1.Mk
 have fin : ∀ o, o = lT (Q3 l k v) → K (M.set r o) := fun o e => by
  subst e
  exact g _ (h1.set (x := lT l) (fun A ha => by unfold ob at ha; exact ha) fun A ha => by unfold ob; exact eV)
 unfold bJ Instr.mapUpdate
 refine bq (aL hu M) ?_
 simp only
 refine tT hb ?_
 simp only [lT]
 refine bq (x := ()) (ql hk) ?_
 refine bq (tS hk) ?_
 have zL : ∀ o : Obj, K (M.set r o) → dV P (setObj r o) M (fun _ => K) (fun v M' => Kp [{ v, recovered := false }] M') := fun o hK => by
  unfold setObj
  simp only [dV, hb, lT]
  exact hK
 cases ha : u7 k l 0 with
 | none =>
  simp only
  refine zL _ (fin _ ?_)
  unfold Q3 lT
  rw [ha]
  simp only [List.push_toArray, List.length_append, List.length_singleton]
  rw [E9]; simp [dF]
 | some x =>
  obtain ⟨i, w⟩ := x
  obtain ⟨_, hw⟩ := IV ha
  rw [Nat.sub_zero] at hw
  simp only
  have he := IW (b := 0) hw
  refine bq (x := Value.int .i64 k) ?_ ?_
  ·have : (((dF 0 l).toArray[i]?).map (·.key)).getD (.int .i64 k) = .int .i64 k := by simp [he]
   rw [this]
   unfold Instr.keyThatStays
   simp [Instr.sameBits]; rfl
  ·refine zL _ (fin _ ?_)
   unfold Q3 lT
   rw [ha]
   simp only [List.length_set]
   rw [← E8 (v := v) hw]
   simp [List.modify_toArray]
end
end Go.AF
namespace Go.AF
theorem Dp {P : Program} {t t' e ty : TypeId} {i : TypeInfo} {zv : Value} {A B : Option Addr} {n c m d : Nat} {l r : List Value} {M : Mem} {K : Value → Mem → Prop} {Kp : List PanicEntry → Mem → Prop}
  (hu : P.underlying t = some (.slice e)) (Sk : P.underlying t' = some (.slice e)) (hi : P.info? e = some i) (hz : i.zero = some zv) (hs : zv.cells.size = i.size)
  (WQ : Sl M A l) (hl : l.length = n * i.size) (hr : Sl M B r) (lq : r.length = m * i.size) (hc : c < n + m) (hb : (n + m) * i.bytes ≤ 140737488355328) (hby : 0 < i.bytes)
  (h : ∀ k c' M', M k = none → ud M' i.size e (some ⟨k, 0, none⟩) (n + m) c' (l ++ r) → nG [] M M' → K (.slice (some ⟨k, 0, none⟩) (n + m) c') M') :
  bk P (Builtin.append_ #[t, t'] ty #[.slice A n c, .slice B m d]) M K Kp := by
 unfold bk Builtin.append_
 simp only [List.getElem?_toArray, List.getElem?_cons_zero, List.getElem?_cons_succ]
 refine bq (aL hu M) ?_
 simp only
 refine bq (fN hi M) ?_
 refine bq (aL Sk M) ?_
 refine bq (x := false) rfl ?_
 refine bq (x := m) rfl ?_
 simp only [Bool.not_false, if_true]
 rw [if_neg (by omega)]
 refine bq (cE hi M) ?_
 rw [if_neg (by simp; omega)]
 refine bq (cE hi M) ?_
 rw [if_neg (by have := growslice_fits (need := n + m) (old := c) (bytes := i.bytes) (by omega) hb; omega)]
 show ∀ q, _
 intro q
 have hcap : n + m ≤ Question.cut (.appendCap (n + m) c e) q := by simp only [Question.cut]; omega
 generalize Question.cut (.appendCap (n + m) c e) q = nc at hcap
 refine bq (x := nc) rfl ?_
 refine bq (cE hi M) ?_
 refine gq P _ _ ?_
 have room : ∀ (X : Prop) , X → dV P (askRoom (nc * i.bytes)) M (fun _ M' => M' = M) (fun _ _ => False) := by
  intro X _
  unfold askRoom
  split
  ·exact rfl
  ·exact rfl
 refine iN P _ (room True trivial) (fun _ M' hM' => ?_) (fun _ _ hf => hf.elim)
 subst hM'
 refine bq (g7 WQ hl) ?_
 refine bq (g7 hr lq) ?_
 refine bq (x := zv) (by rw [kX]; simp [zeroOf, hi, hz]) ?_
 intro k hk
 refine h k nc _ hk ⟨by rw [List.length_append, hl, lq, Nat.add_mul], .inr ⟨k, _, rfl, eV, ?_, hcap, fun j hj => ?_⟩⟩ ((nG.refl _ _).set (.inr hk))
 ·simp only [Array.size_append, List.size_toArray, hl, lq]
  have : (Builtin.zeroCells zv.cells (nc - (n + m))).size = (nc - (n + m)) * i.size := by simp [Builtin.zeroCells, hs]
  rw [this, ← Nat.add_mul, ← Nat.add_mul]; congr 1; omega
 ·rw [Nat.add_mul] at hj
  rw [Array.getElem?_append_left (by simp [hl, lq]; omega)]
  simp
theorem Hp.Q5 {α : Type} {E : hU α} {R : Mem} {L L' : List HP} {M : Mem} {T : Nat} {P : Program} {t bytes ty d m k n c : Nat} {zero rc : List Value} {A : Option Addr} {l r : List α} {K : Value → Mem → Prop} {Kp : List PanicEntry → Mem → Prop}
  (h : Hp R L M) [hk : jY k L rc T L'] (hA : Src R L A (E.cells l)) (hn : n = l.length) (El : bj P t T E.z bytes zero) (he : rc = E.cells r) (hm : m = r.length) (hc : c < n + m) (hb : (l.length + r.length) * bytes ≤ 140737488355328)
  (g : ∀ b c' M', Hp R (bE E T (some ⟨b, 0, none⟩) c' (l ++ r) :: L') M' → K (.slice (some ⟨b, 0, none⟩) (l ++ r).length c') M') :
  bk P (Builtin.append_ #[t, t] ty #[.slice A n c, .slice (some ⟨k, 0, none⟩) m d]) M K Kp := by
 subst hm; subst he; subst hn
 have hB : Sl M (some ⟨k, 0, none⟩) (E.cells r) := h.Mo hk.pick
 obtain ⟨hu, i, zv, hi, hs, hby, hz, rfl, hl, hpos⟩ := El
 refine Dp hu hu hi hz (by rw [hs, ← hl]; simp) (hA M h) (by rw [hs]; exact E.dI) hB (by rw [hs]; exact E.dI) hc (by rw [hby]; exact hb) (by omega) fun b c' M' hbn ho xO => ?_
 have h2 : Hp R (bE E T (some ⟨b, 0, none⟩) c' (l ++ r) :: L) M' := by
  have h3 : Hp R (fact True :: L) M := Hp.fZ.2 ⟨trivial, h⟩
  refine h3.change (D := []) (D' := [b]) (fun A hA x hx => by cases hx) xO (fun x hx => by simp only [List.mem_singleton] at hx; subst hx; exact .inr hbn) ?_
  unfold bE own
  rw [List.length_append, E.we]
  rw [hs] at ho
  have := ho.Gz
  simpa [AQ] using this
 have := g b c' M' (h2.map fun _ hs => hs.tail fun _ hx => (b6.pick hk.pick hx).drop)
 rwa [List.length_append] at this
section
variable {R : Mem} {L L' : List HP} {M : Mem} {P : Program} {t kt et : TypeId} {r : Nat} {l : AL} {k : Int} {kd : IntKind}
theorem KE {z : Value} {i : TypeInfo} {K : Value → Mem → Prop} {Kp : List PanicEntry → Mem → Prop} (h : Hp R L M) [p : Fb r L (lT l) L'] (hu : P.underlying t = some (.map kt et)) (hk : P.underlying kt = some (.int kd)) (hi : P.info? et = some i) (hz : i.zero = some z)
  (g : K (.tuple #[(Bj l k).getD z, .bool (Bj l k).isSome]) M) : bk P (Instr.lookup t (.map (some r)) (.int .i64 k) true) M K Kp := by
 have hb : M r = some (lT l) := (h.pick p.pick).Mk
 unfold bk Instr.lookup
 refine bq (aL hu M) ?_
 simp only
 refine gq P _ _ ?_
 refine tT hb ?_
 simp only [lT]
 refine bq (x := ()) (ql hk) ?_
 refine bq (tS hk) ?_
 unfold Bj at g
 cases ha : u7 k l 0 with
 | none =>
  rw [ha] at g
  simp only
  have hz0 : bR P (zeroValue et) M = some z := by rw [kX]; simp [zeroOf, hi, hz]
  refine bq hz0 ?_
  refine bq (x := (z, false)) rfl ?_
  exact g
 | some x =>
  rw [ha] at g
  exact g
end
theorem Fc {C : Ctx} {g : Nat} {args : List Value} {M : Mem} {K : Value → Mem → Prop} {Kp : List PanicEntry → Mem → Prop} (hg : 1 < g ∧ g < C.ok) (h : aa C.P g args.toArray M K Kp) : gZ C (.func (.func g) #[] #[]) args M K Kp := by
 unfold gZ
 simp only
 rw [if_pos hg]
 simpa using h
theorem jC {z : Int} (h0 : 0 ≤ z) (h : z < 9223372036854775807) : IntKind.wrap .i64 (z + 1) = z + 1 := by
 obtain ⟨n, rfl⟩ := Int.eq_ofNat_of_zero_le h0
 have := mS (n := n + 1) (by omega)
 exact_mod_cast this
theorem Hp.eF {α : Type} {E : hU α} {R : Mem} {L L' nJ : List HP} {M : Mem} {T c n : Nat} {A : Option Addr} {l : List α} {P : Program} {t bytes ty k d m : Nat} {zero rc : List Value} {K : Value → Mem → Prop} {Kp : List PanicEntry → Mem → Prop}
  (h : Hp R L M) [ha : cK A L α E T c l L'] [hk : jY k L' rc T nJ] (El : bj P t T E.z bytes zero) (r : List α) (he : rc = E.cells r) (hn : n = l.length) (hm : m = r.length) (hb : (l.length + r.length) * bytes ≤ 140737488355328)
  (g : ∀ A' c' M', Hp R (bE E T A' c' (l ++ r) :: nJ) M' → K (.slice A' (n + m) c') M') :
  bk P (Builtin.append_ #[t, t] ty #[.slice A n c, .slice (some ⟨k, 0, none⟩) m d]) M K Kp := by
 subst hn
 refine h.aT (A := A) El r he hm hb fun A' c' M' h => ?_
 have := g A' c' M' h
 rwa [hm, ← List.length_append] at this
theorem B5 {C : Ctx} {g : Nat} {caps : Array Value} {args : List Value} {M : Mem} {K : Value → Mem → Prop} {Kp : List PanicEntry → Mem → Prop} (hg : 1 < g ∧ g < C.ok) (h : aa C.P g (args ++ caps.toList).toArray M K Kp) : gZ C (.func (.func g) #[] caps) args M K Kp := by
 unfold gZ
 simp only
 rw [if_pos hg]
 simpa using h
end Go.AF
namespace Go.Proofs
open Go.AF
set_option maxRecDepth 100000
set_option maxHeartbeats 1000000
attribute [local irreducible] aI c7 fm cy aB eN aE aM aX bk bJ aP
abbrev va (A : Option Addr) (c : Nat) (l : List gM) : HP := bE jB 275 A c l
theorem Oa : bj Tryz.prog 226 275 11 88 (jB.f ⟨0, 0, [], 0⟩) := bj.mk' (zv := .agg #[.int .i64 0, .int .i64 0, .int .i64 0, .int .i64 0, .int .i64 0, .int .i64 0, .int .i64 0, .int .i64 0, .int .i64 0, .int .i64 0, .int .i64 0]) (by kernel_rfl) (by kernel_rfl) rfl (by omega)
theorem gM.set_set {f : gM} {q u v : Int} : (f.set q u).set q v = f.set q v := by
 unfold gM.set
 congr 1
 apply List.map_congr_left
 intro i hi
 by_cases h : i = q.toNat
 ·rw [if_pos h, if_pos h]
 ·rw [if_neg h, if_neg h]
  simp [List.mem_range.1 hi, h]
section
variable {R : Mem} {L L' : List HP} {M : Mem} {K : Value → Mem → Prop} {Kp : List PanicEntry → Mem → Prop} {b i c : Nat} {l : List gM} {f : gM} {x : cI}
theorem vb {q : Int} {o : Nat} {G : Int → Prop} (h : Hp R L M) [p : cK (some ⟨b, 0, none⟩) L gM jB 275 c l L'] (hi : l[i]? = some f) (hq : aZ q) (e : o = i * 11 + 2 + q.toNat) (g : G (f.bS q)) : aI (M.ld ⟨b, o, none⟩) .i64 G := by
 refine be (Src.at (h.src (A := some ⟨b, 0, none⟩)) h (i := i) (j := 2 + q.toNat) hi (TU hq.1 hq.2) ?_) g
 show _ = 0 + (i * 11 + (2 + q.toNat)); omega
theorem wS {q v : Int} {o : Nat} {G : Mem → Prop} (h : Hp R L M) [p : cK (some ⟨b, 0, none⟩) L gM jB 275 c l L'] (hi : l[i]? = some f) (hq : aZ q) (e : o = i * 11 + 2 + q.toNat)
  (k : ∀ M', Hp R (va (some ⟨b, 0, none⟩) c (l.set i (f.set q v)) :: L') M' → G M') : aM M ⟨b, o, none⟩ (.int .i64 v) G := by
 obtain ⟨q0, q8⟩ := hq
 refine iR i (2 + q.toNat) h hi ?_ (Qh q0 q8) ?_ k
 ·show _ < 11; omega
 ·show _ = i * 11 + (2 + q.toNat); omega
theorem zM {o : Nat} {G : Int → Prop} (h : Hp R L M) [p : cK (some ⟨b, 0, none⟩) L gM jB 275 c l L'] (hi : l[i]? = some f) (e : o = i * 11 + 1) (g : G f.pc) : aI (M.ld ⟨b, o, none⟩) .i64 G := by
 refine be (Src.at (h.src (A := some ⟨b, 0, none⟩)) h (i := i) (j := 1) hi rfl ?_) g
 show _ = 0 + (i * 11 + 1); omega
theorem zN {v : Int} {o : Nat} {G : Mem → Prop} (h : Hp R L M) [p : cK (some ⟨b, 0, none⟩) L gM jB 275 c l L'] (hi : l[i]? = some f) (e : o = i * 11 + 1)
  (k : ∀ M', Hp R (va (some ⟨b, 0, none⟩) c (l.set i { f with pc := v }) :: L') M' → G M') : aM M ⟨b, o, none⟩ (.int .i64 v) G := by
 refine iR i 1 h hi (by show 1 < 11; omega) TV ?_ k
 show _ = i * 11 + 1; omega
theorem jd {α : Type} {l : List α} {i : Nat} {u v : α} : (l.set i u).set i v = l.set i v := by simp
def ZJ : List Nat := [225, 226, 227, 228, 229, 230, 231, 232, 233]
theorem Ob (h : Hp R L M) [p : cK (some ⟨b, 0, none⟩) L gM jB 275 c l L'] (hi : l[i]? = some f) (hx : x.cB) (n : Nat) (hn : x.op = (n : Int)) (h8 : n ≤ 8)
  (k : ∀ M', Hp R (va (some ⟨b, 0, none⟩) c (l.set i (f.pure x)) :: L') M' → K (.tuple #[]) M') :
  aa Tryz.prog (ZJ.getD n 0) #[.pointer (some ⟨b, i * 11, none⟩), .agg #[.int .i64 x.op, .int .i64 x.a, .int .i64 x.b, .int .i64 x.c]] M K Kp := by
 obtain ⟨op, xa, xb, xc⟩ := x
 obtain ⟨o1, o2, o3⟩ := hx
 dsimp only at hn o1 o2 o3 k ⊢
 have hsame : l.set i f = l := by obtain ⟨hl, rfl⟩ := List.getElem?_eq_some_iff.1 hi; simp
 subst hn
 have hlt := (List.getElem?_eq_some_iff.1 hi).1
 obtain rfl | rfl | rfl | rfl | rfl | rfl | rfl | rfl | rfl : n = 0 ∨ n = 1 ∨ n = 2 ∨ n = 3 ∨ n = 4 ∨ n = 5 ∨ n = 6 ∨ n = 7 ∨ n = 8 := by omega
 ·refine tF ?_
  have e : f.pure ⟨((0 : Nat) : Int), xa, xb, xc⟩ = f := rfl
  rw [e, hsame] at k
  repeat (first|(refine aj h ?_;clear h;intro kb M h)|(refine au h ?_;clear h;intro M h)|refine St.to h ?_|(apply Exists.intro;(repeat apply Exists.intro);refine And.intro rfl ?_)|refine av ?_|refine ai ?_|refine ae ?_)
  exact k _ ((h.row (some ⟨b, 0, none⟩)).b7)
 ·have ra : aZ xa := o1 (by simp)
  refine m6 ?_
  repeat (first|(refine aj h ?_;clear h;intro kb M h)|(refine au h ?_;clear h;intro M h)|refine St.to h ?_|(apply Exists.intro;(repeat apply Exists.intro);refine And.intro rfl ?_)|refine av ?_|refine ai ?_|refine ae ?_)
  refine ⟨ra.1, ra.2, wS h hi ra rfl fun M h => ?_⟩
  exact k _ h.b7
 ·obtain ⟨ra, rb⟩ := o2 rfl
  refine rX ?_
  repeat (first|(refine aj h ?_;clear h;intro kb M h)|(refine au h ?_;clear h;intro M h)|refine St.to h ?_|(apply Exists.intro;(repeat apply Exists.intro);refine And.intro rfl ?_)|refine av ?_|refine ai ?_|refine ae ?_)
  refine ⟨rb.1, rb.2, vb h hi rb rfl ?_⟩
  refine ⟨ra.1, ra.2, wS h hi ra rfl fun M h => ?_⟩
  exact k _ h.b7
 ·obtain ⟨ra, rb, rc⟩ := o3 (by simp)
  refine tG ?_
  repeat (first|(refine aj h ?_;clear h;intro kb M h)|(refine au h ?_;clear h;intro M h)|refine St.to h ?_|(apply Exists.intro;(repeat apply Exists.intro);refine And.intro rfl ?_)|refine av ?_|refine ai ?_|refine ae ?_)
  refine ⟨rb.1, rb.2, vb h hi rb rfl ?_⟩
  repeat (first|(refine aj h ?_;clear h;intro kb M h)|(refine au h ?_;clear h;intro M h)|refine St.to h ?_|(apply Exists.intro;(repeat apply Exists.intro);refine And.intro rfl ?_)|refine av ?_|refine ai ?_|refine ae ?_)
  refine ⟨rc.1, rc.2, vb h hi rc rfl ?_⟩
  refine ⟨ra.1, ra.2, wS h hi ra rfl fun M h => ?_⟩
  exact k _ h.b7
 ·obtain ⟨ra, rb, rc⟩ := o3 (by simp)
  refine tH ?_
  repeat (first|(refine aj h ?_;clear h;intro kb M h)|(refine au h ?_;clear h;intro M h)|refine St.to h ?_|(apply Exists.intro;(repeat apply Exists.intro);refine And.intro rfl ?_)|refine av ?_|refine ai ?_|refine ae ?_)
  refine ⟨rb.1, rb.2, vb h hi rb rfl ?_⟩
  repeat (first|(refine aj h ?_;clear h;intro kb M h)|(refine au h ?_;clear h;intro M h)|refine St.to h ?_|(apply Exists.intro;(repeat apply Exists.intro);refine And.intro rfl ?_)|refine av ?_|refine ai ?_|refine ae ?_)
  refine ⟨rc.1, rc.2, vb h hi rc rfl ?_⟩
  refine ⟨ra.1, ra.2, wS h hi ra rfl fun M h => ?_⟩
  exact k _ h.b7
 ·obtain ⟨ra, rb, rc⟩ := o3 (by simp)
  refine tI ?_
  repeat (first|(refine aj h ?_;clear h;intro kb M h)|(refine au h ?_;clear h;intro M h)|refine St.to h ?_|(apply Exists.intro;(repeat apply Exists.intro);refine And.intro rfl ?_)|refine av ?_|refine ai ?_|refine ae ?_)
  refine ⟨rb.1, rb.2, vb h hi rb rfl ?_⟩
  repeat (first|(refine aj h ?_;clear h;intro kb M h)|(refine au h ?_;clear h;intro M h)|refine St.to h ?_|(apply Exists.intro;(repeat apply Exists.intro);refine And.intro rfl ?_)|refine av ?_|refine ai ?_|refine ae ?_)
  refine ⟨rc.1, rc.2, vb h hi rc rfl ?_⟩
  refine ⟨ra.1, ra.2, wS h hi ra rfl fun M h => ?_⟩
  exact k _ h.b7
 ·obtain ⟨ra, rb, rc⟩ := o3 (by simp)
  refine rY ?_
  repeat (first|(refine aj h ?_;clear h;intro kb M h)|(refine au h ?_;clear h;intro M h)|refine St.to h ?_|(apply Exists.intro;(repeat apply Exists.intro);refine And.intro rfl ?_)|refine av ?_|refine ai ?_|refine ae ?_)
  refine ⟨rb.1, rb.2, vb h hi rb rfl ?_⟩
  repeat (first|(refine aj h ?_;clear h;intro kb M h)|(refine au h ?_;clear h;intro M h)|refine St.to h ?_|(apply Exists.intro;(repeat apply Exists.intro);refine And.intro rfl ?_)|refine av ?_|refine ai ?_|refine ae ?_)
  refine ⟨rc.1, rc.2, vb h hi rc rfl ?_⟩
  repeat (first|(refine aj h ?_;clear h;intro kb M h)|(refine au h ?_;clear h;intro M h)|refine St.to h ?_|(apply Exists.intro;(repeat apply Exists.intro);refine And.intro rfl ?_)|refine av ?_|refine ai ?_|refine ae ?_)
  refine ⟨ra.1, ra.2, wS h hi ra rfl fun M h => ?_⟩
  have e : f.pure ⟨((6 : Nat) : Int), xa, xb, xc⟩ = f.set xa (if f.bS xb < f.bS xc then 1 else 0) := rfl
  rw [e] at k
  refine aN.2 ⟨fun hl => ?_, fun hl => ?_⟩
  ·rw [if_pos hl] at k
   repeat (first|(refine aj h ?_;clear h;intro kb M h)|(refine au h ?_;clear h;intro M h)|refine St.to h ?_|(apply Exists.intro;(repeat apply Exists.intro);refine And.intro rfl ?_)|refine av ?_|refine ai ?_|refine ae ?_)
   have N1 : (l.set i (f.set xa 0))[i]? = some (f.set xa 0) := by simp [hlt]
   refine ⟨ra.1, ra.2, wS h N1 ra rfl fun M h => ?_⟩
   rw [jd, gM.set_set] at h
   exact k _ h.b7
  ·rw [if_neg hl] at k
   exact k _ h.b7
 ·refine rZ ?_
  repeat (first|(refine aj h ?_;clear h;intro kb M h)|(refine au h ?_;clear h;intro M h)|refine St.to h ?_|(apply Exists.intro;(repeat apply Exists.intro);refine And.intro rfl ?_)|refine av ?_|refine ai ?_|refine ae ?_)
  refine zN h hi rfl fun M h => ?_
  exact k _ h.b7
 ·have ra : aZ xa := o1 (by simp)
  refine oO ?_
  repeat (first|(refine aj h ?_;clear h;intro kb M h)|(refine au h ?_;clear h;intro M h)|refine St.to h ?_|(apply Exists.intro;(repeat apply Exists.intro);refine And.intro rfl ?_)|refine av ?_|refine ai ?_|refine ae ?_)
  have e : f.pure ⟨((8 : Nat) : Int), xa, xb, xc⟩ = if f.bS xa ≠ 0 then { f with pc := xb } else f := rfl
  rw [e] at k
  refine ⟨ra.1, ra.2, vb h hi ra rfl ?_⟩
  refine dJ.2 ⟨fun hl => ?_, fun hl => ?_⟩
  ·rw [if_pos hl] at k
   repeat (first|(refine aj h ?_;clear h;intro kb M h)|(refine au h ?_;clear h;intro M h)|refine St.to h ?_|(apply Exists.intro;(repeat apply Exists.intro);refine And.intro rfl ?_)|refine av ?_|refine ai ?_|refine ae ?_)
   refine zN h hi rfl fun M h => ?_
   exact k _ h.b7
  ·rw [if_neg (by simpa using hl), hsame] at k
   exact k _ ((h.row (some ⟨b, 0, none⟩)).b7)
def Q6 : AL := (List.range 9).map fun n : Nat => ((n : Int), .func (.func (ZJ.getD n 0)) #[] #[])
theorem Fe (h : Hp R L M) (k : ∀ m M', Hp R (ob m (lT Q6) :: L) M' → K (.map (some m)) M') : aa Tryz.prog 203 #[] M K Kp := by
 refine zz ?_
 refine Sr h ?_
 clear h
 intro m M h
 replace h : Hp R (ob m (lT []) :: L) M := h
 have hu : Tryz.prog.underlying 361 = some (.map 25 359) := by kernel_rfl
 have hk : Tryz.prog.underlying 25 = some (.int .i64) := by kernel_rfl
 iterate 9
  refine xN h hu hk ?_
  clear h
  intro M h
 exact k _ _ h
theorem Ho (h : Hp R L M) [p : cK (some ⟨b, 0, none⟩) L gM jB 275 c l L'] (hi : l[i]? = some f) (hx : x.cB) (h0 : 0 ≤ x.op) (hs : 0 ≤ f.pc ∧ f.pc < 1000000000)
  (k1 : x.op ≤ 8 → ∀ M', Hp R (va (some ⟨b, 0, none⟩) c (l.set i (f.next.pure x)) :: L') M' → K (.bool true) M')
  (k2 : 8 < x.op → ∀ M', Hp R (va (some ⟨b, 0, none⟩) c l :: L') M' → K (.bool false) M') :
  aa Tryz.prog 190 #[.pointer (some ⟨b, i * 11, none⟩), .agg #[.int .i64 x.op, .int .i64 x.a, .int .i64 x.b, .int .i64 x.c]] M K Kp := by
 have hlt := (List.getElem?_eq_some_iff.1 hi).1
 obtain ⟨q, hq⟩ := Int.eq_ofNat_of_zero_le h0
 refine rH ?_
 repeat (first|(refine aj h ?_;clear h;intro kb M h)|(refine au h ?_;clear h;intro M h)|refine St.to h ?_|(apply Exists.intro;(repeat apply Exists.intro);refine And.intro rfl ?_)|refine av ?_|refine ai ?_|refine ae ?_)
 refine Fe h ?_
 clear h
 intro m M h
 repeat (first|(refine aj h ?_;clear h;intro kb M h)|(refine au h ?_;clear h;intro M h)|refine St.to h ?_|(apply Exists.intro;(repeat apply Exists.intro);refine And.intro rfl ?_)|refine av ?_|refine ai ?_|refine ae ?_)
 have hu : Tryz.prog.underlying 361 = some (.map 25 359) := by kernel_rfl
 have hk : Tryz.prog.underlying 25 = some (.int .i64) := by kernel_rfl
 obtain ⟨ti, hti, htz⟩ : ∃ ti, Tryz.prog.info? 359 = some ti ∧ ti.zero = some .nilFunc := ⟨_, rfl, rfl⟩
 refine KE h hu hk hti htz ?_
 refine ⟨_, _, rfl, bO h, ?_⟩
 by_cases h8 : x.op ≤ 8
 ·have hq8 : q ≤ 8 := by omega
  have hl : Bj Q6 x.op = some (.func (.func (ZJ.getD q 0)) #[] #[]) := by
   rw [hq]
   obtain rfl | rfl | rfl | rfl | rfl | rfl | rfl | rfl | rfl : q = 0 ∨ q = 1 ∨ q = 2 ∨ q = 3 ∨ q = 4 ∨ q = 5 ∨ q = 6 ∨ q = 7 ∨ q = 8 := by omega
   all_goals rfl
  rw [hl]
  refine ai ?_
  refine zM h hi rfl ?_
  rw [jC (by omega) (by omega)]
  refine zN h hi rfl ?_
  clear h
  intro M h
  have N1 : (l.set i { f with pc := f.pc + 1 })[i]? = some f.next := by simp [hlt, gM.next]
  repeat (first|(refine aj h ?_;clear h;intro kb M h)|(refine au h ?_;clear h;intro M h)|refine St.to h ?_|(apply Exists.intro;(repeat apply Exists.intro);refine And.intro rfl ?_)|refine av ?_|refine ai ?_|refine ae ?_)
  have hg : 1 < ZJ.getD q 0 ∧ ZJ.getD q 0 < Cx.ok := by
   obtain rfl | rfl | rfl | rfl | rfl | rfl | rfl | rfl | rfl : q = 0 ∨ q = 1 ∨ q = 2 ∨ q = 3 ∨ q = 4 ∨ q = 5 ∨ q = 6 ∨ q = 7 ∨ q = 8 := by omega
   all_goals exact ⟨by decide, by show _ < 255; decide⟩
  refine Fc hg ?_
  refine Ob (f := f.next) h N1 hx q hq hq8 ?_
  clear h
  intro M h
  rw [jd] at h
  exact ⟨rfl, k1 h8 _ h.b7⟩
 ·have hl : Bj Q6 x.op = none := by
   rw [Q4, B4]
   have : Q6.map (·.1) = [0, 1, 2, 3, 4, 5, 6, 7, 8] := by decide
   rw [this]; simp; omega
  rw [hl]
  refine ae ?_
  exact k2 (by omega) _ ((h.row (some ⟨b, 0, none⟩)).b7)
end
section
variable {R : Mem} {L L' : List HP} {M : Mem} {K : Value → Mem → Prop} {Kp : List PanicEntry → Mem → Prop} {b i c : Nat} {l : List gM} {f : gM} {x : cI}
theorem m8 {m : Nat} (hm : 0 < m) (h2 : m ≤ 1000000000) (k : K (.pointer (some ⟨b, (m - 1) * 11, none⟩)) M) : aa Tryz.prog 189 #[.slice (some ⟨b, 0, none⟩) m c] M K Kp := by
 refine tx ?_
 have e : IntKind.wrap .i64 ((m : Int) - 1) = ((m - 1 : Nat) : Int) := wn (by omega) (by omega)
 refine aY.2 ⟨fun h0 => by omega, fun _ => ?_⟩
 rw [e]
 refine ⟨by omega, by omega, bg ?_⟩
 simp only [Int.toNat_natCast, Nat.zero_add]
 exact k
theorem qm {fn v : Int} (h : Hp R L M) (k : ∀ b M', Hp R (va (some ⟨b, 0, none⟩) 1 [gM.begin fn v] :: L) M' → K (.slice (some ⟨b, 0, none⟩) 1 1) M') : aa Tryz.prog 112 #[.int .i64 fn, .int .i64 v] M K Kp := by
 refine zx ?_
 refine aj h ?_
 clear h
 intro b M h
 exact k b M (h.gW (E := jB) (l := [gM.begin fn v]) rfl)
theorem Hq {fn v rE : Int} {A : Option Addr} (h : Hp R L M) [p : cK A L gM jB 275 c l L'] (hl : 0 < l.length)
  (k1 : 16 ≤ l.length → K (.tuple #[.slice A l.length c, .bool false]) M)
  (k2 : l.length < 16 → ∀ b c' M', Hp R (va (some ⟨b, 0, none⟩) c' (l ++ [⟨fn, 0, [v, 0, 0, 0, 0, 0, 0, 0], rE⟩]) :: L) M' → K (.tuple #[.slice (some ⟨b, 0, none⟩) (l.length + 1) c', .bool true]) M') :
  aa Tryz.prog 241 #[.slice A l.length c, .int .i64 fn, .int .i64 v, .int .i64 rE] M K Kp := by
 refine r8 ?_
 have hcap := h.jZ A
 refine aN.2 ⟨fun ve => k1 (by omega), fun ve => ?_⟩
 refine ⟨by omega, by omega, by omega, by omega, by omega, by omega, ?_⟩
 refine aj h ?_
 clear h
 intro kb M h
 simp only [Int.toNat_natCast, Nat.sub_zero]
 have e : lO A 0 l.length 11 = A := by
  obtain ⟨bb, rfl⟩ := h.bM (A := A) hl (by decide)
  unfold lO
  rw [if_neg (by omega)]
  rfl
 rw [e]
 refine Hp.Q5 (E := jB) (r := [⟨fn, 0, [v, 0, 0, 0, 0, 0, 0, 0], rE⟩]) h (h.src (A := A)) rfl Oa rfl rfl (by omega) (by simp; omega) ?_
 clear h
 intro b c' M h
 refine aQ ?_
 have := k2 (by omega) b c' M h
 rwa [List.length_append]
theorem Dq {v : Int} {A : Option Addr} (h : Hp R L M) [p : cK A L gM jB 275 c l L'] (hl : 0 < l.length) (hs : l.length ≤ 1000000)
  (Oc : l[l.length - 1]? = some f) (hin : aZ f.rE)
  (k1 : l.length < 2 → K (.tuple #[.slice none 0 0, .bool false]) M)
  (k2 : 2 ≤ l.length → ∀ b c' M', ∀ g, l[l.length - 2]? = some g → Hp R (va (some ⟨b, 0, none⟩) c' ((l.take (l.length - 1)).set (l.length - 2) (g.set f.rE v)) :: L) M' → K (.tuple #[.slice (some ⟨b, 0, none⟩) (l.length - 1) c', .bool true]) M') :
  aa Tryz.prog 242 #[.slice A l.length c, .int .i64 v] M K Kp := by
 refine oP ?_
 have hcap := h.jZ A
 refine aN.2 ⟨fun ve => k1 (by omega), fun ve => ?_⟩
 have e : IntKind.wrap .i64 ((l.length : Int) - 1) = ((l.length - 1 : Nat) : Int) := wn (by omega) (by omega)
 obtain ⟨ba, rfl⟩ := h.bM (A := A) hl (by decide)
 refine aj h ?_
 clear h
 intro kb M h
 rw [e]
 refine ⟨by omega, by omega, by omega, by omega, by omega, by omega, ?_⟩
 simp only [Int.toNat_natCast, Nat.sub_zero]
 have e2 : lO (some ⟨ba, 0, none⟩) 0 c 11 = some ⟨ba, 0, none⟩ := by
  unfold lO
  rw [if_neg (by omega)]
  rfl
 rw [e2]
 refine h.lY jB Oa (l.take (l.length - 1)) ((h.src (A := some ⟨ba, 0, none⟩)).Sv _) (by simp) (by simp; omega) ?_
 clear h
 intro A' c' M h
 have hlen : (l.take (l.length - 1)).length = l.length - 1 := by simp
 obtain ⟨b', rfl⟩ := h.bM (A := A') (by omega) (by decide)
 refine aQ ?_
 rw [hlen]
 refine m8 (by omega) (by omega) ?_
 refine jL (bg ?_)
 refine m8 (by omega) (by omega) ?_
 refine jL (bg ?_)
 refine be (Src.at (h.src (A := some ⟨ba, 0, none⟩)) h (i := l.length - 1) (j := 10) Oc rfl (by show _ = 0 + ((l.length - 1) * 11 + 10); omega)) ?_
 obtain ⟨g, hg⟩ := aU (l := l) (i := l.length - 2) (by omega)
 refine ⟨hin.1, hin.2, ?_⟩
 have KF : (l.take (l.length - 1))[l.length - 2]? = some g := by rw [List.getElem?_take, if_pos (by omega)]; exact hg
 refine wS h KF hin (by omega) ?_
 clear h
 intro M h
 exact k2 (by omega) b' c' M g hg h
abbrev lU (A : Option Addr) (c : Nat) (l : List Int) : HP := bE bl 3 A c l
def gd : tj Lk := ⟨fun b x => exs fun A : Option Addr => exs fun c : Nat => sep [pt b [.int .i64 x.owner, .slice A x.waits.length c] 307, lU A c x.waits]⟩
def Lk.take (x : Lk) (g : Int) : Lk × Bool := if x.owner = -1 then (⟨g, x.waits⟩, true) else (⟨x.owner, x.waits ++ [g]⟩, false)
def Lk.sL (x : Lk) (g : Int) : Lk × Int × Int :=
 if x.owner = -1 ∨ x.owner ≠ g then (x, -1, 5) else (⟨x.waits.headD (-1), x.waits.tail⟩, x.waits.headD (-1), 0)
variable {y : Lk}
theorem B6 (h : Hp R L M) [o : cq gd b L y L'] : ∃ A c, Hp R (pt b [.int .i64 y.owner, .slice A y.waits.length c] 307 :: lU A c y.waits :: L') M := by
 have := h.obj gd b
 simpa only [gd, Hp.de, Hp.aS, List.cons_append, List.nil_append] using this
theorem ik {A : Option Addr} {n c : Nat} {o : Int} {ws : List Int} {L1 L2 : List HP} (h : Hp R L M) (b : Nat) [p : jY b L [.int .i64 o, .slice A n c] 307 L1] [p1 : cK A L1 Int bl 3 c ws L2] (e : n = ws.length := by first | rfl | simp) : Hp R (ay gd b ⟨o, ws⟩ :: L2) M := by
 subst e
 refine Hp.wg ?_
 simp only [gd, Hp.de, Hp.aS, List.cons_append, List.nil_append]
 exact ⟨_, _, h.sub (.cons p.pick (.cons p1.pick .refl))⟩
theorem B7 (h : Hp R L M) (k : ∀ b M', Hp R (ay gd b ⟨-1, []⟩ :: L) M' → K (.pointer (some ⟨b, 0, none⟩)) M') : aa Tryz.prog 114 #[] M K Kp := by
 refine C5 ?_
 refine aj h ?_
 clear h
 intro b M h
 have h := h.bY bl 3
 exact k b M (ik h b)
theorem Hr {g : Int} (h : Hp R L M) [o : cq gd b L y L'] (hs : y.waits.length ≤ 1000000000) (k : ∀ M', Hp R (ay gd b (y.take g).1 :: L') M' → K (.bool (y.take g).2) M') :
  aa Tryz.prog 245 #[.pointer (some ⟨b, 0, none⟩), .int .i64 g] M K Kp := by
 refine tJ ?_
 have h' := B6 h (b := b)
 clear h
 obtain ⟨A, c, h⟩ := h'
 repeat (first|(refine aj h ?_;clear h;intro kb M h)|(refine au h ?_;clear h;intro M h)|refine St.to h ?_|(apply Exists.intro;(repeat apply Exists.intro);refine And.intro rfl ?_)|refine av ?_|refine ai ?_|refine ae ?_)
 unfold Lk.take at k
 refine dJ.2 ⟨fun hn => ?_, fun hn => ?_⟩
 ·rw [if_neg hn] at k
  repeat (first|(refine aj h ?_;clear h;intro kb M h)|(refine au h ?_;clear h;intro M h)|refine St.to h ?_|(apply Exists.intro;(repeat apply Exists.intro);refine And.intro rfl ?_)|refine av ?_|refine ai ?_|refine ae ?_)
  refine h.aT dX [g] rfl rfl (by simp; omega) ?_
  clear h
  intro A' c' M h
  repeat (first|(refine aj h ?_;clear h;intro kb M h)|(refine au h ?_;clear h;intro M h)|refine St.to h ?_|(apply Exists.intro;(repeat apply Exists.intro);refine And.intro rfl ?_)|refine av ?_|refine ai ?_|refine ae ?_)
  exact k _ (ik h b).b7
 ·rw [if_pos hn] at k
  repeat (first|(refine aj h ?_;clear h;intro kb M h)|(refine au h ?_;clear h;intro M h)|refine St.to h ?_|(apply Exists.intro;(repeat apply Exists.intro);refine And.intro rfl ?_)|refine av ?_|refine ai ?_|refine ae ?_)
  exact k _ (ik h b).b7
theorem Hs {g : Int} (h : Hp R L M) [o : cq gd b L y L'] (hs : y.waits.length ≤ 1000000000) (k : ∀ M', Hp R (ay gd b (y.sL g).1 :: L') M' → K (.tuple #[.int .i64 (y.sL g).2.1, .int .i64 (y.sL g).2.2]) M') :
  aa Tryz.prog 246 #[.pointer (some ⟨b, 0, none⟩), .int .i64 g] M K Kp := by
 refine tK ?_
 obtain ⟨ow, ws⟩ := y
 have h' := B6 h (b := b)
 clear h
 obtain ⟨A, c, h⟩ := h'
 dsimp only at h hs
 repeat (first|(refine aj h ?_;clear h;intro kb M h)|(refine au h ?_;clear h;intro M h)|refine St.to h ?_|(apply Exists.intro;(repeat apply Exists.intro);refine And.intro rfl ?_)|refine av ?_|refine ai ?_|refine ae ?_)
 unfold Lk.sL at k
 refine aY.2 ⟨fun hn => ?_, fun hn => ?_⟩
 ·rw [if_pos (.inl hn)] at k
  exact k _ (ik h b).b7
 repeat (first|(refine aj h ?_;clear h;intro kb M h)|(refine au h ?_;clear h;intro M h)|refine St.to h ?_|(apply Exists.intro;(repeat apply Exists.intro);refine And.intro rfl ?_)|refine av ?_|refine ai ?_|refine ae ?_)
 refine dJ.2 ⟨fun AO => ?_, fun AO => ?_⟩
 ·rw [if_pos (.inr AO)] at k
  exact k _ (ik h b).b7
 rw [if_neg (by rintro (h | h) <;> contradiction)] at k
 repeat (first|(refine aj h ?_;clear h;intro kb M h)|(refine au h ?_;clear h;intro M h)|refine St.to h ?_|(apply Exists.intro;(repeat apply Exists.intro);refine And.intro rfl ?_)|refine av ?_|refine ai ?_|refine ae ?_)
 refine aN.2 ⟨fun hr => ?_, fun hr => ?_⟩
 ·cases ws with
  | nil => simp at hr
  | cons w r =>
   repeat (first|(refine aj h ?_;clear h;intro kb M h)|(refine au h ?_;clear h;intro M h)|refine St.to h ?_|(apply Exists.intro;(repeat apply Exists.intro);refine And.intro rfl ?_)|refine av ?_|refine ai ?_|refine ae ?_)
   obtain ⟨q, rfl⟩ := h.bM (A := A) (by simp) (by decide)
   repeat (first|(refine aj h ?_;clear h;intro kb M h)|(refine au h ?_;clear h;intro M h)|refine St.to h ?_|(apply Exists.intro;(repeat apply Exists.intro);refine And.intro rfl ?_)|refine av ?_|refine ai ?_|refine ae ?_)
   refine be (Src.at (h.src (A := some ⟨q, 0, none⟩)) h (i := 0) (j := 0) rfl rfl (by simp [bl])) ?_
   have hcap := h.jZ (some ⟨q, 0, none⟩)
   have hlen : r.length + 1 ≤ 1000000000 := by simpa using hs
   repeat (first|(refine aj h ?_;clear h;intro kb M h)|(refine au h ?_;clear h;intro M h)|refine St.to h ?_|(apply Exists.intro;(repeat apply Exists.intro);refine And.intro rfl ?_)|refine av ?_|refine ai ?_|refine ae ?_)
   simp only [Int.toNat_natCast]
   refine h.lY bl dX r ((h.src (A := some ⟨q, 0, none⟩)).drop (m := 1) hcap) (by simp) (by omega) ?_
   clear h
   intro A' c' M h
   repeat (first|(refine aj h ?_;clear h;intro kb M h)|(refine au h ?_;clear h;intro M h)|refine St.to h ?_|(apply Exists.intro;(repeat apply Exists.intro);refine And.intro rfl ?_)|refine av ?_|refine ai ?_|refine ae ?_)
   exact k _ (ik h b).b7
 ·cases ws with
  | cons v l => simp at hr
  | nil =>
   repeat (first|(refine aj h ?_;clear h;intro kb M h)|(refine au h ?_;clear h;intro M h)|refine St.to h ?_|(apply Exists.intro;(repeat apply Exists.intro);refine And.intro rfl ?_)|refine av ?_|refine ai ?_|refine ae ?_)
   exact k _ (ik h b).b7
end
structure PA where
 f : Option Addr
 fc : Nat
 c : Option Addr
 cc : Nat
 k : Option Addr
 kc : Nat
abbrev GA := Option Addr × Nat
abbrev qn (y : jr) (A : Option Addr) (c : Nat) : List Value := [.int .i64 y.st, .slice A y.fs.length c, .int .i64 y.wt.op, .int .i64 y.wt.a, .int .i64 y.wt.b, .int .i64 y.wt.c]
def gk : tj (jr × GA) := ⟨fun b x => sep [pt b (qn x.1 x.2.1 x.2.2) 229, va x.2.1 x.2.2 x.1.fs]⟩
structure WA where
 ag : Option Addr
 cg : Nat
 gb : List Nat
 ac : Option Addr
 cc : Nat
 cb : List Nat
 al : Option Addr
 cl : Nat
 lb : List Nat
 ah : Option Addr
 ch : Nat
 ao : Option Addr
 co : Nat
 ar : Option Addr
 cr : Nat
abbrev mG (pa : PA) (p : bZ) (dr : Value) (a : WA) (x : Wd) : List Value :=
 [.slice pa.f p.funcs.length pa.fc, .slice pa.c p.dx.length pa.cc, .int .i64 p.aK, .slice pa.k p.cases.length pa.kc, .slice a.ag a.gb.length a.cg, .int .u64 x.clock,
  .slice a.ac a.cb.length a.cc, .slice a.al a.lb.length a.cl, .slice a.ah x.hl.length a.ch, .int .u64 x.lG, .slice a.ao x.out.length a.co, .int .i64 x.end_, .int .i64 x.code, .slice a.ar x.ready.length a.cr, dr]
abbrev zO (A : Option Addr) (c : Nat) (l : List Nat) : HP := bE mB 224 A c l
abbrev zP (A : Option Addr) (c : Nat) (l : List Nat) : HP := bE mB 230 A c l
abbrev zQ (A : Option Addr) (c : Nat) (l : List Nat) : HP := bE mB 232 A c l
abbrev gp (A : Option Addr) (c : Nat) (l : List bH) : HP := bE sU 203 A c l
abbrev sX (a : WA) (x : Wd) (L : List HP) : List HP :=
 zO a.ag a.cg a.gb :: zP a.ac a.cc a.cb :: bn bK a.cb x.aC :: zQ a.al a.cl a.lb :: bn gd a.lb x.aK :: gp a.ah a.ch x.hl :: zp a.ao a.co x.out :: lU a.ar a.cr x.ready :: L
def fq (gg : List GA) (a : WA) (x : Wd) : Prop := a.gb.length = x.gs.length ∧ gg.length = x.gs.length ∧ a.cb.length = x.aC.length ∧ a.lb.length = x.aK.length
def bz (pa : PA) (p : bZ) (gg : List GA) (dr : Value) : tj Wd := ⟨fun b x => exs fun a : WA =>
 sep (pt b (mG pa p dr a x) 161 :: bn gk a.gb (x.gs.zip gg) :: fact (fq gg a x) :: sX a x [])⟩
class wT (b : Nat) (L : List HP) (pa : outParam PA) (p : outParam bZ) (gg : outParam (List GA)) (dr : outParam Value) (x : outParam Wd) (L' : outParam (List HP)) : Prop where
 pick : dc L (ay (bz pa p gg dr) b x) L'
instance wT.here {pa : PA} {p : bZ} {gg : List GA} {dr : Value} {b : Nat} {x : Wd} {L : List HP} : wT b (ay (bz pa p gg dr) b x :: L) pa p gg dr x L := ⟨.here⟩
instance (priority := low) wT.there {pa : PA} {p : bZ} {gg : List GA} {dr : Value} {b : Nat} {x : Wd} {Q : HP} {L L' : List HP} [h : wT b L pa p gg dr x L'] : wT b (Q :: L) pa p gg dr x (Q :: L') := ⟨.there h.pick⟩
section
variable {R : Mem} {L L' : List HP} {M : Mem} {K : Value → Mem → Prop} {Kp : List PanicEntry → Mem → Prop} {pa : PA} {p : bZ} {gg : List GA} {dr : Value} {b : Nat} {x : Wd}
theorem cv (h : Hp R L M) [o : wT b L pa p gg dr x L'] : ∃ a : WA, fq gg a x ∧ Hp R (pt b (mG pa p dr a x) 161 :: bn gk a.gb (x.gs.zip gg) :: sX a x L') M := by
 have := h.pick o.pick
 unfold ay at this
 simp only [bz, sX, Hp.de, Hp.aS, List.cons_append, List.nil_append] at this
 obtain ⟨a, h⟩ := this
 have h2 := h.pick (P := fact (fq gg a x)) (.there (.there .here))
 exact ⟨a, (Hp.fZ.1 h2).1, (Hp.fZ.1 h2).2⟩
theorem jO {a : WA} (hl : fq gg a x) (h : Hp R (pt b (mG pa p dr a x) 161 :: bn gk a.gb (x.gs.zip gg) :: sX a x L) M) : Hp R (ay (bz pa p gg dr) b x :: L) M := by
 refine Hp.wg ?_
 simp only [bz, sX, Hp.de, Hp.aS, List.cons_append, List.nil_append]
 refine ⟨a, ?_⟩
 have h2 : Hp R (fact (fq gg a x) :: pt b (mG pa p dr a x) 161 :: bn gk a.gb (x.gs.zip gg) :: sX a x L) M := Hp.fZ.2 ⟨hl, h⟩
 exact h2.nH (.there (.there .here))
theorem bh {a : WA} {L0 L1 L2 L3 L4 L5 L6 L7 L8 L9 : List HP} (hl : fq gg a x) (h : Hp R L M) (b : Nat)
  [p0 : jY b L (mG pa p dr a x) 161 L0] [p1 : fS gk L0 a.gb (x.gs.zip gg) L1] [p2 : cK a.ag L1 Nat mB 224 a.cg a.gb L2] [p3 : cK a.ac L2 Nat mB 230 a.cc a.cb L3]
  [p4 : fS bK L3 a.cb x.aC L4] [p5 : cK a.al L4 Nat mB 232 a.cl a.lb L5] [p6 : fS gd L5 a.lb x.aK L6] [p7 : cK a.ah L6 bH sU 203 a.ch x.hl L7] [p8 : cK a.ao L7 Int bl 2 a.co x.out L8]
  [p9 : cK a.ar L8 Int bl 3 a.cr x.ready L9] : Hp R (ay (bz pa p gg dr) b x :: L9) M :=
 jO hl (h.sub (.cons p0.pick (.cons p1.pick (.cons p2.pick (.cons p3.pick (.cons p4.pick (.cons p5.pick (.cons p6.pick (.cons p7.pick (.cons p8.pick (.cons p9.pick .refl)))))))))))
theorem Ff {α β : Type} : ∀ {l : List α} {m : List β} {i : Nat} {u : α} {v : β}, m[i]? = some v → (l.zip m).set i (u, v) = (l.set i u).zip m
 | [], _, _, _, _, _ => by simp
 | a :: l, [], i, u, v, h => by simp at h
 | a :: l, w :: m, 0, u, v, h => by simp at h; subst h; rfl
 | a :: l, w :: m, i + 1, u, v, h => by
  have := Ff (l := l) (u := u) (show m[i]? = some v from by simpa using h)
  simp [this]
theorem nZ {α β : Type} : ∀ {l : List α} {m : List β} {i : Nat} {u : α} {v : β}, l[i]? = some u → m[i]? = some v → (l.zip m)[i]? = some (u, v)
 | [], _, _, _, _, h, _ => by simp at h
 | a :: l, [], i, u, v, _, h => by simp at h
 | a :: l, w :: m, 0, u, v, h, g => by simp at h g; subst h; subst g; rfl
 | a :: l, w :: m, i + 1, u, v, h, g => by simpa using nZ (show l[i]? = some u from by simpa using h) (show m[i]? = some v from by simpa using g)
theorem m9 {c : Nat} {y : jr} {A : Option Addr} (h : Hp R L M) [o : cq gk b L (y, (A, c)) L'] : Hp R (pt b (qn y A c) 229 :: va A c y.fs :: L') M := by
 have := h.obj gk b
 simpa only [gk, Hp.aS, List.cons_append, List.nil_append] using this
theorem ng {A : Option Addr} {n c : Nat} {st o1 o2 o3 o4 : Int} {fs : List gM} {L1 L2 : List HP} (h : Hp R L M) (b : Nat) [p : jY b L [.int .i64 st, .slice A n c, .int .i64 o1, .int .i64 o2, .int .i64 o3, .int .i64 o4] 229 L1] [p1 : cK A L1 gM jB 275 c fs L2]
  (e : n = fs.length := by first | rfl | simp) : Hp R (ay gk b (⟨st, fs, ⟨o1, o2, o3, o4⟩⟩, (A, c)) :: L2) M := by
 subst e
 refine Hp.wg ?_
 simp only [gk, Hp.aS, List.cons_append, List.nil_append]
 exact h.sub (.cons p.pick (.cons p1.pick .refl))
theorem jP {g : Int} (h : Hp R L M) [o : wT b L pa p gg dr x L'] (h0 : 0 ≤ g) (hg : g < x.gs.length) :
  ∃ (a : WA) (gb : Nat) (A : Option Addr) (c : Nat), fq gg a x ∧ a.gb[g.toNat]? = some gb ∧ gg[g.toNat]? = some (A, c) ∧
   Hp R (pt gb (qn (aq x g) A c) 229 :: va A c (aq x g).fs :: pt b (mG pa p dr a x) 161 :: mb gk a.gb (x.gs.zip gg) g.toNat :: sX a x L') M := by
 obtain ⟨a, hl, h1⟩ := cv h (b := b)
 obtain ⟨l1, l2, l3, l4⟩ := hl
 obtain ⟨gb, gf⟩ := aU (l := a.gb) (i := g.toNat) (by omega)
 obtain ⟨⟨A, c⟩, eZ⟩ := aU (l := gg) (i := g.toNat) (by omega)
 obtain ⟨y, hy⟩ := aU (l := x.gs) (i := g.toNat) (by omega)
 have e : aq x g = y := by simp [aq, hy]
 rw [e]
 have h2 := h1.dg gk gf (nZ hy eZ)
 have h3 := m9 (b := gb) h2
 exact ⟨a, gb, A, c, ⟨l1, l2, l3, l4⟩, gf, eZ, h3.sub br⟩
theorem cT {a : WA} {A : Option Addr} {c n : Nat} {g : Int} {st o1 o2 o3 o4 : Int} {fs : List gM} {L1 L2 L3 : List HP} (h : Hp R L M) (gb : Nat) (hl : fq gg a x) (gf : a.gb[g.toNat]? = some gb) (eZ : gg[g.toNat]? = some (A, c))
  [p1 : jY gb L [.int .i64 st, .slice A n c, .int .i64 o1, .int .i64 o2, .int .i64 o3, .int .i64 o4] 229 L1] [p2 : cK A L1 gM jB 275 c fs L2]
  [p3 : xH gk L2 a.gb (x.gs.zip gg) g.toNat L3] (e : n = fs.length := by first | rfl | simp) : Hp R (bn gk a.gb ((x.gs.set g.toNat ⟨st, fs, ⟨o1, o2, o3, o4⟩⟩).zip gg) :: L3) M := by
 have h1 := ng h gb e
 obtain ⟨l1, l2, l3, l4⟩ := hl
 have hi := (List.getElem?_eq_some_iff.1 gf).1
 have h2 := h1.dW gk gb gf (by rw [List.length_zip]; omega)
 rwa [Ff eZ] at h2
end
section
variable {R : Mem} {L L' : List HP} {M : Mem} {K : Value → Mem → Prop} {Kp : List PanicEntry → Mem → Prop} {pa : PA} {p : bZ} {gg : List GA} {dr : Value} {b : Nat} {x : Wd}
theorem VS {A : Option Addr} {l : List Nat} {T c q i bb : Nat} (h : Hp R L M) [r : cK A L Nat mB T c l L'] (hq : A = some ⟨q, 0, none⟩) (hb : l[i]? = some bb) : M.ld ⟨q, 0 + i, none⟩ = some (.pointer (some ⟨bb, 0, none⟩)) := by
 subst hq
 exact Src.at (h.src (A := some ⟨q, 0, none⟩)) h (i := i) (j := 0) hb rfl (by simp [mB])
theorem vL {A : Option Addr} {l : List Nat} {T c bb i : Nat} {G : Nat → Nat → Option Addr → Prop} (h : Hp R L M) [r : cK A L Nat mB T c l L'] (hb : l[i]? = some bb) (k : ∀ q, A = some ⟨q, 0, none⟩ → G q 0 (some ⟨bb, 0, none⟩)) :
  aE A fun k4 k5 => cy (M.ld ⟨k4, k5 + i, none⟩) fun A6 => G k4 k5 A6 := by
 obtain ⟨q, hq⟩ := h.bM (A := A) (by have := (List.getElem?_eq_some_iff.1 hb).1; omega) (by decide)
 have h2 := VS h hq hb
 subst hq
 refine bg ?_
 rw [h2]
 exact jL (k q rfl)
theorem iq {g : Int} (h : Hp R L M) [o : wT b L pa p gg dr x L'] (h0 : 0 ≤ g) (hg : g < x.gs.length) (hr : x.ready.length ≤ 1000000000)
  (k : ∀ M', Hp R (ay (bz pa p gg dr) b (x.fA g) :: L') M' → K (.tuple #[]) M') : aa Tryz.prog 158 #[.pointer (some ⟨b, 0, none⟩), .int .i64 g] M K Kp := by
 refine rG ?_
 have h' := jP h (b := b) h0 hg
 clear h
 obtain ⟨a, gb, A, c, hl, gf, eZ, h⟩ := h'
 have hl' := hl
 obtain ⟨l1, l2, l3, l4⟩ := hl'
 repeat (first|(refine aj h ?_;clear h;intro kb M h)|(refine au h ?_;clear h;intro M h)|refine St.to h ?_|(apply Exists.intro;(repeat apply Exists.intro);refine And.intro rfl ?_)|refine av ?_|refine ai ?_|refine ae ?_)
 refine vL h gf fun q hq => ?_
 repeat (first|(refine aj h ?_;clear h;intro kb M h)|(refine au h ?_;clear h;intro M h)|refine St.to h ?_|(apply Exists.intro;(repeat apply Exists.intro);refine And.intro rfl ?_)|refine av ?_|refine ai ?_|refine ae ?_)
 refine h.aT dX [g] rfl rfl (by simp; omega) ?_
 clear h
 intro A' c' M h
 repeat (first|(refine aj h ?_;clear h;intro kb M h)|(refine au h ?_;clear h;intro M h)|refine St.to h ?_|(apply Exists.intro;(repeat apply Exists.intro);refine And.intro rfl ?_)|refine av ?_|refine ai ?_|refine ae ?_)
 replace h := cT h gb hl gf eZ
 exact k _ (jO (a := { a with ar := A', cr := c' }) ⟨by simpa [Wd.fA, Wd.bF] using l1, by simpa [Wd.fA, Wd.bF] using l2, l3, l4⟩ (h.sub br))
theorem eJ {y : jr} (h : 0 < y.fs.length) : y.fs[y.fs.length - 1]? = some y.top := by
 unfold jr.top
 rw [List.getD_eq_getElem?_getD, List.getElem?_eq_getElem (by omega)]; rfl
theorem di {a : WA} {g : Int} {y : jr} (hl : fq gg a x) : fq gg a (x.bF g y) := by
 obtain ⟨l1, l2, l3, l4⟩ := hl
 exact ⟨by simpa [Wd.bF] using l1, by simpa [Wd.bF] using l2, l3, l4⟩
theorem me {g : Int} {i : cI} (h : Hp R L M) [o : wT b L pa p gg dr x L'] (h0 : 0 ≤ g) (hg : g < x.gs.length)
  (k : ∀ M', Hp R (ay (bz pa p gg dr) b (x.block g i) :: L') M' → K (.tuple #[]) M') : aa Tryz.prog 208 #[.pointer (some ⟨b, 0, none⟩), .int .i64 g, .agg #[.int .i64 i.op, .int .i64 i.a, .int .i64 i.b, .int .i64 i.c]] M K Kp := by
 refine pV ?_
 have h' := jP h (b := b) h0 hg
 clear h
 obtain ⟨a, gb, A, c, hl, gf, eZ, h⟩ := h'
 have hl' := hl
 obtain ⟨l1, l2, l3, l4⟩ := hl'
 repeat (first|(refine aj h ?_;clear h;intro kb M h)|(refine au h ?_;clear h;intro M h)|refine St.to h ?_|(apply Exists.intro;(repeat apply Exists.intro);refine And.intro rfl ?_)|refine av ?_|refine ai ?_|refine ae ?_)
 refine vL h gf fun q hq => ?_
 repeat (first|(refine aj h ?_;clear h;intro kb M h)|(refine au h ?_;clear h;intro M h)|refine St.to h ?_|(apply Exists.intro;(repeat apply Exists.intro);refine And.intro rfl ?_)|refine av ?_|refine ai ?_|refine ae ?_)
 refine vL h gf fun q2 oX => ?_
 repeat (first|(refine aj h ?_;clear h;intro kb M h)|(refine au h ?_;clear h;intro M h)|refine St.to h ?_|(apply Exists.intro;(repeat apply Exists.intro);refine And.intro rfl ?_)|refine av ?_|refine ai ?_|refine ae ?_)
 replace h := cT h gb hl gf eZ
 exact k _ (jO (a := a) (di hl) (h.sub br))
theorem vf {g kk : Int} (h : Hp R L M) [o : wT b L pa p gg dr x L'] (hg : bp x g) (hc : aZ (aq x g).wt.c) (hs : x.Sm)
  (k : ∀ M', Hp R (ay (bz pa p gg dr) b (x.gA g kk) :: L') M' → K (.tuple #[]) M') : aa Tryz.prog 251 #[.pointer (some ⟨b, 0, none⟩), .int .i64 g, .int .i64 kk] M K Kp := by
 refine oQ ?_
 obtain ⟨h0, h1, h2, h3⟩ := hg
 obtain ⟨s1, s2, s3, s4, s5, s6, s7, s8⟩ := hs
 have h' := jP h (b := b) h0 h1
 clear h
 obtain ⟨a, gb, A, c, hl, gf, eZ, h⟩ := h'
 have hl' := hl
 obtain ⟨l1, l2, l3, l4⟩ := hl'
 repeat (first|(refine aj h ?_;clear h;intro kb M h)|(refine au h ?_;clear h;intro M h)|refine St.to h ?_|(apply Exists.intro;(repeat apply Exists.intro);refine And.intro rfl ?_)|refine av ?_|refine ai ?_|refine ae ?_)
 refine vL h gf fun q hq => ?_
 repeat (first|(refine aj h ?_;clear h;intro kb M h)|(refine au h ?_;clear h;intro M h)|refine St.to h ?_|(apply Exists.intro;(repeat apply Exists.intro);refine And.intro rfl ?_)|refine av ?_|refine ai ?_|refine ae ?_)
 refine vL h gf fun q2 oX => ?_
 repeat (first|(refine aj h ?_;clear h;intro kb M h)|(refine au h ?_;clear h;intro M h)|refine St.to h ?_|(apply Exists.intro;(repeat apply Exists.intro);refine And.intro rfl ?_)|refine av ?_|refine ai ?_|refine ae ?_)
 obtain ⟨bs, rfl⟩ := h.bM (A := A) h2 (by decide)
 refine m8 h2 (by omega) ?_
 repeat (first|(refine aj h ?_;clear h;intro kb M h)|(refine au h ?_;clear h;intro M h)|refine St.to h ?_|(apply Exists.intro;(repeat apply Exists.intro);refine And.intro rfl ?_)|refine av ?_|refine ai ?_|refine ae ?_)
 refine ⟨hc.1, hc.2, wS h (eJ h2) hc rfl ?_⟩
 clear h
 intro M h
 repeat (first|(refine aj h ?_;clear h;intro kb M h)|(refine au h ?_;clear h;intro M h)|refine St.to h ?_|(apply Exists.intro;(repeat apply Exists.intro);refine And.intro rfl ?_)|refine av ?_|refine ai ?_|refine ae ?_)
 refine EK h (Src.row (A := a.ac)) rfl (by omega) l3 (fun c hc => (s1 c hc).mono (by omega)) ?_
 clear h
 intro M h
 refine ⟨rfl, ?_⟩
 replace h := cT h gb hl gf eZ
 exact k _ (jO (a := a) (x := x.gA g kk) ⟨by simpa [Wd.gA, Wd.leave, Wd.bx, Wd.bF] using l1, by simpa [Wd.gA, Wd.leave, Wd.bx, Wd.bF] using l2, by simpa [Wd.gA, Wd.leave, Wd.bx, Wd.bF] using l3, l4⟩ (h.sub br))
end
theorem je {x : Wd} {g q v : Int} (h : bp x g) : aq (x.bx g q v) g = (aq x g).cO ((aq x g).top.set q v) := gN h.1 h.2.1
theorem jf {x : Wd} {g q v : Int} (h : bp x g) : bp (x.bx g q v) g := by
 obtain ⟨h0, h1, h2, h3⟩ := h
 refine ⟨h0, by simpa [Wd.bx, Wd.bF] using h1, ?_, ?_⟩ <;> rw [je ⟨h0, h1, h2, h3⟩] <;> simpa [jr.cO]
theorem KG {x : Wd} {g q v : Int} (h : bp x g) : (aq (x.bx g q v) g).wt = (aq x g).wt := by rw [je h]; rfl
theorem vg {x : Wd} {g k : Int} (h : bp x g) : bp (x.gA g k) g := jf h
theorem IX {x : Wd} {g : Int} {y : jr} (h : x.Sm) : (x.bF g y).Sm := by
 obtain ⟨s1, s2, s3, s4⟩ := h
 exact ⟨s1, s2, by simpa [Wd.bF] using s3, s4⟩
theorem cC {z : Int} (h0 : 0 ≤ z) (h : z < 9223372036854775808) : IntKind.wrap .i64 z = z := by
 obtain ⟨n, rfl⟩ := Int.eq_ofNat_of_zero_le h0
 exact mS (by omega)
section
variable {R : Mem} {L L' : List HP} {M : Mem} {K : Value → Mem → Prop} {Kp : List PanicEntry → Mem → Prop} {pa : PA} {p : bZ} {gg : List GA} {dr : Value} {b : Nat} {x : Wd}
theorem VT {A : Option Addr} {c : Nat} {l : List oy} {q : Int} {G : Nat → Nat → Int → Prop} (h : Hp R L M) (hp : RS ij R A c l) (h0 : 0 ≤ q) (hq : q < l.length) (k : ∀ b o, G b o (l.getD q.toNat ⟨0, 0, 0⟩).bS) :
  aE A fun b o => aI (M.ld ⟨b, ((o + q.toNat * 3) + 2), none⟩) .i64 fun n => G b o n := by
 obtain ⟨bb, o, rfl⟩ := hp.some (by omega) (by decide)
 obtain ⟨y, hy⟩ := aU (l := l) (i := q.toNat) (by omega)
 have e : l.getD q.toNat ⟨0, 0, 0⟩ = y := by simp [hy]
 refine bg ?_
 refine be (Src.at (hp.src (L := L)) h (i := q.toNat) (j := 2) hy rfl (by show _ = o + (q.toNat * 3 + 2); omega)) ?_
 have := k bb o
 rwa [e] at this
theorem qo {v : Wt} {some : Int} (h : Hp R L M) [o : wT b L pa p gg dr x L'] (hp : RS ij R pa.k pa.kc p.cases) (hv : pS p x v) (hs : x.Sm)
  (k : ∀ M', Hp R (ay (bz pa p gg dr) b (x.received p v some) :: L') M' → K (.tuple #[]) M') : aa Tryz.prog 238 #[.pointer (Option.some ⟨b, 0, none⟩), .agg #[.int .i64 v.g, .int .i64 v.cs, .int .i64 v.v], .int .i64 some] M K Kp := by
 refine m7 ?_
 obtain ⟨hg, hv⟩ := hv
 have Dr := hg
 obtain ⟨h0, h1, h2, h3⟩ := Dr
 have hs' := hs
 obtain ⟨s1, s2, s3, s4, s5, s6, s7, s8⟩ := hs'
 have h' := jP h (b := b) h0 h1
 clear h
 obtain ⟨a, gb, A, c, hl, gf, eZ, h⟩ := h'
 have hl' := hl
 obtain ⟨l1, l2, l3, l4⟩ := hl'
 repeat (first|(refine aj h ?_;clear h;intro kb M h)|(refine au h ?_;clear h;intro M h)|refine St.to h ?_|(apply Exists.intro;(repeat apply Exists.intro);refine And.intro rfl ?_)|refine av ?_|refine ai ?_|refine ae ?_)
 refine vL h gf fun q hq => ?_
 repeat (first|(refine aj h ?_;clear h;intro kb M h)|(refine au h ?_;clear h;intro M h)|refine St.to h ?_|(apply Exists.intro;(repeat apply Exists.intro);refine And.intro rfl ?_)|refine av ?_|refine ai ?_|refine ae ?_)
 refine vL h gf fun q2 oX => ?_
 repeat (first|(refine aj h ?_;clear h;intro kb M h)|(refine au h ?_;clear h;intro M h)|refine St.to h ?_|(apply Exists.intro;(repeat apply Exists.intro);refine And.intro rfl ?_)|refine av ?_|refine ai ?_|refine ae ?_)
 obtain ⟨bs, rfl⟩ := h.bM (A := A) h2 (by decide)
 refine m8 h2 (by omega) ?_
 repeat (first|(refine aj h ?_;clear h;intro kb M h)|(refine au h ?_;clear h;intro M h)|refine St.to h ?_|(apply Exists.intro;(repeat apply Exists.intro);refine And.intro rfl ?_)|refine av ?_|refine ai ?_|refine ae ?_)
 refine ⟨VS h oX gf, ?_⟩
 repeat (first|(refine aj h ?_;clear h;intro kb M h)|(refine au h ?_;clear h;intro M h)|refine St.to h ?_|(apply Exists.intro;(repeat apply Exists.intro);refine And.intro rfl ?_)|refine av ?_|refine ai ?_|refine ae ?_)
 refine ⟨VS h oX gf, ?_⟩
 repeat (first|(refine aj h ?_;clear h;intro kb M h)|(refine au h ?_;clear h;intro M h)|refine St.to h ?_|(apply Exists.intro;(repeat apply Exists.intro);refine And.intro rfl ?_)|refine av ?_|refine ai ?_|refine ae ?_)
 unfold Wd.received at k
 refine aY.2 ⟨fun IY => ?_, fun IY => ?_⟩
 ·simp only [IY, if_true] at k hv
  obtain ⟨v1, v2, v3, v4, v5⟩ := hv
  repeat (first|(refine aj h ?_;clear h;intro kb M h)|(refine au h ?_;clear h;intro M h)|refine St.to h ?_|(apply Exists.intro;(repeat apply Exists.intro);refine And.intro rfl ?_)|refine av ?_|refine ai ?_|refine ae ?_)
  rw [cC v1 (by omega)]
  refine ⟨v1, by omega, VT (q := (aq x v.g).wt.a + v.cs) h hp v1 v2 fun _ _ => ?_⟩
  repeat (first|(refine aj h ?_;clear h;intro kb M h)|(refine au h ?_;clear h;intro M h)|refine St.to h ?_|(apply Exists.intro;(repeat apply Exists.intro);refine And.intro rfl ?_)|refine av ?_|refine ai ?_|refine ae ?_)
  refine ⟨v4.1, v4.2, wS h (eJ h2) v4 rfl ?_⟩
  clear h
  intro M h
  repeat (first|(refine aj h ?_;clear h;intro kb M h)|(refine au h ?_;clear h;intro M h)|refine St.to h ?_|(apply Exists.intro;(repeat apply Exists.intro);refine And.intro rfl ?_)|refine av ?_|refine ai ?_|refine ae ?_)
  replace h := cT h gb hl gf eZ
  replace h := bh (a := a) (p := p) (pa := pa) (dr := dr) (gg := gg) (x := x.bx v.g (pR p ((aq x v.g).wt.a + v.cs)).bS v.v) (di hl) h b
  have v5' := v5
  rw [← KG (q := (pR p ((aq x v.g).wt.a + v.cs)).bS) (v := v.v) hg] at v5'
  refine vf (b := b) h (jf hg) v5' (IX hs) ?_
  clear h
  intro M h
  repeat (first|(refine aj h ?_;clear h;intro kb M h)|(refine au h ?_;clear h;intro M h)|refine St.to h ?_|(apply Exists.intro;(repeat apply Exists.intro);refine And.intro rfl ?_)|refine av ?_|refine ai ?_|refine ae ?_)
  have KF := vg (k := v.cs) (jf (q := (pR p ((aq x v.g).wt.a + v.cs)).bS) (v := v.v) hg)
  refine iq (b := b) h KF.1 KF.2.1 (by show x.ready.length ≤ _; omega) ?_
  clear h
  intro M h
  exact ⟨rfl, k _ h.b7⟩
 ·simp only [IY, if_false] at k hv
  obtain ⟨v1, v2⟩ := hv
  repeat (first|(refine aj h ?_;clear h;intro kb M h)|(refine au h ?_;clear h;intro M h)|refine St.to h ?_|(apply Exists.intro;(repeat apply Exists.intro);refine And.intro rfl ?_)|refine av ?_|refine ai ?_|refine ae ?_)
  refine ⟨v1.1, v1.2, ?_⟩
  repeat (first|(refine aj h ?_;clear h;intro kb M h)|(refine au h ?_;clear h;intro M h)|refine St.to h ?_|(apply Exists.intro;(repeat apply Exists.intro);refine And.intro rfl ?_)|refine av ?_|refine ai ?_|refine ae ?_)
  refine wS h (eJ h2) v1 rfl ?_
  clear h
  intro M h
  repeat (first|(refine aj h ?_;clear h;intro kb M h)|(refine au h ?_;clear h;intro M h)|refine St.to h ?_|(apply Exists.intro;(repeat apply Exists.intro);refine And.intro rfl ?_)|refine av ?_|refine ai ?_|refine ae ?_)
  have N1 : ((aq x v.g).fs.set ((aq x v.g).fs.length - 1) ((aq x v.g).top.set (aq x v.g).wt.b v.v))[(aq x v.g).fs.length - 1]? = Option.some ((aq x v.g).top.set (aq x v.g).wt.b v.v) := by
   rw [List.getElem?_set_self]; omega
  refine ⟨v2.1, v2.2, wS h N1 v2 rfl ?_⟩
  clear h
  intro M h
  rw [jd] at h
  repeat (first|(refine aj h ?_;clear h;intro kb M h)|(refine au h ?_;clear h;intro M h)|refine St.to h ?_|(apply Exists.intro;(repeat apply Exists.intro);refine And.intro rfl ?_)|refine av ?_|refine ai ?_|refine ae ?_)
  replace h := cT h gb hl gf eZ (by simp)
  have ex : (x.bx v.g (aq x v.g).wt.b v.v).bx v.g (aq x v.g).wt.c some = x.bF v.g ((aq x v.g).cO (((aq x v.g).top.set (aq x v.g).wt.b v.v).set (aq x v.g).wt.c some)) := by
   have e1 := je (q := (aq x v.g).wt.b) (v := v.v) hg
   have e2 : ∀ (z : Wd) (q u : Int), z.bx v.g q u = z.bF v.g ((aq z v.g).cO ((aq z v.g).top.set q u)) := fun _ _ _ => rfl
   rw [e2 (x.bx v.g (aq x v.g).wt.b v.v), e1]
   have e3 : ((aq x v.g).cO ((aq x v.g).top.set (aq x v.g).wt.b v.v)).top = (aq x v.g).top.set (aq x v.g).wt.b v.v := by
    unfold jr.top jr.cO
    dsimp only
    rw [List.length_set, List.getD_eq_getElem?_getD, List.getElem?_set_self (by omega)]; rfl
   rw [e3]
   simp [Wd.bx, Wd.bF, jr.cO]
  rw [ex] at k
  replace h := bh (a := a) (p := p) (pa := pa) (dr := dr) (gg := gg) (x := x.bF v.g ((aq x v.g).cO (((aq x v.g).top.set (aq x v.g).wt.b v.v).set (aq x v.g).wt.c some))) (di hl) h b
  refine iq (b := b) h h0 (by simpa [Wd.bF] using h1) (by show x.ready.length ≤ _; omega) ?_
  clear h
  intro M h
  exact ⟨rfl, k _ h.b7⟩
theorem Ht {v : Wt} (h : Hp R L M) [o : wT b L pa p gg dr x L'] (hv : xJ x v) (hs : x.Sm)
  (k : ∀ M', Hp R (ay (bz pa p gg dr) b (x.sent v) :: L') M' → K (.tuple #[]) M') : aa Tryz.prog 240 #[.pointer (some ⟨b, 0, none⟩), .agg #[.int .i64 v.g, .int .i64 v.cs, .int .i64 v.v]] M K Kp := by
 refine r7 ?_
 obtain ⟨hg, hv⟩ := hv
 have Dr := hg
 obtain ⟨h0, h1, h2, h3⟩ := Dr
 have hs' := hs
 obtain ⟨s1, s2, s3, s4, s5, s6, s7, s8⟩ := hs'
 have h' := jP h (b := b) h0 h1
 clear h
 obtain ⟨a, gb, A, c, hl, gf, eZ, h⟩ := h'
 have hl' := hl
 obtain ⟨l1, l2, l3, l4⟩ := hl'
 repeat (first|(refine aj h ?_;clear h;intro kb M h)|(refine au h ?_;clear h;intro M h)|refine St.to h ?_|(apply Exists.intro;(repeat apply Exists.intro);refine And.intro rfl ?_)|refine av ?_|refine ai ?_|refine ae ?_)
 refine vL h gf fun q hq => ?_
 repeat (first|(refine aj h ?_;clear h;intro kb M h)|(refine au h ?_;clear h;intro M h)|refine St.to h ?_|(apply Exists.intro;(repeat apply Exists.intro);refine And.intro rfl ?_)|refine av ?_|refine ai ?_|refine ae ?_)
 unfold Wd.sent at k
 have ex : x.bF v.g (aq x v.g) = x := by
  obtain ⟨y, hy⟩ := aU (l := x.gs) (i := v.g.toNat) (by omega)
  have e : aq x v.g = y := by simp [aq, hy]
  rw [e]
  obtain ⟨hi, rfl⟩ := List.getElem?_eq_some_iff.1 hy
  simp [Wd.bF]
 refine aY.2 ⟨fun IY => ?_, fun IY => ?_⟩
 ·simp only [IY, if_true] at k hv
  repeat (first|(refine aj h ?_;clear h;intro kb M h)|(refine au h ?_;clear h;intro M h)|refine St.to h ?_|(apply Exists.intro;(repeat apply Exists.intro);refine And.intro rfl ?_)|refine av ?_|refine ai ?_|refine ae ?_)
  replace h := cT h gb hl gf eZ
  replace h := bh (a := a) (p := p) (pa := pa) (dr := dr) (gg := gg) (x := x.bF v.g (aq x v.g)) (di hl) h b
  rw [ex] at h
  refine vf (b := b) (x := x) h hg (hv trivial) hs ?_
  clear h
  intro M h
  repeat (first|(refine aj h ?_;clear h;intro kb M h)|(refine au h ?_;clear h;intro M h)|refine St.to h ?_|(apply Exists.intro;(repeat apply Exists.intro);refine And.intro rfl ?_)|refine av ?_|refine ai ?_|refine ae ?_)
  have KF := vg (k := v.cs) hg
  refine iq (b := b) h KF.1 KF.2.1 (by show x.ready.length ≤ _; omega) ?_
  clear h
  intro M h
  exact ⟨rfl, k _ h.b7⟩
 ·simp only [IY, if_false] at k
  repeat (first|(refine aj h ?_;clear h;intro kb M h)|(refine au h ?_;clear h;intro M h)|refine St.to h ?_|(apply Exists.intro;(repeat apply Exists.intro);refine And.intro rfl ?_)|refine av ?_|refine ai ?_|refine ae ?_)
  replace h := cT h gb hl gf eZ
  replace h := bh (a := a) (p := p) (pa := pa) (dr := dr) (gg := gg) (x := x.bF v.g (aq x v.g)) (di hl) h b
  rw [ex] at h
  refine iq (b := b) (x := x) h h0 h1 (by omega) ?_
  clear h
  intro M h
  exact ⟨rfl, k _ h.b7⟩
end
def vj (x : Wd) (k : Int) : Prop := 0 ≤ k ∧ k < x.aC.length
instance (x : Wd) (k : Int) : Decidable (vj x k) := by unfold vj; infer_instance
def oz (p : bZ) (x : Wd) (k v : Int) : Prop := vj x k ∧ (((dO x.aC k).send v).2.2.1 = true → pS p x ((dO x.aC k).send v).2.1) ∧ ((dO x.aC k).send v).1.Small 1000000
instance (p : bZ) (x : Wd) (k v : Int) : Decidable (oz p x k v) := by unfold oz; infer_instance
def vk (x : Wd) (k : Int) : Prop := vj x k ∧ ((dO x.aC k).recv.2.2.2.2.1 = true → xJ x (dO x.aC k).recv.2.2.2.1) ∧ (dO x.aC k).recv.1.Small 1000000
instance (x : Wd) (k : Int) : Decidable (vk x k) := by unfold vk; infer_instance
theorem Fg {x : Wd} {k : Int} {c : aV} (h : x.Sm) (hc : c.Small 1000000) : (x.cu k c).Sm := by
 obtain ⟨s1, s2, s3⟩ := h
 refine ⟨fun d hd => ?_, by simpa [Wd.cu] using s2, s3⟩
 rcases mem_set hd with h | rfl
 ·exact s1 d h
 ·exact hc
section
variable {R : Mem} {L L' : List HP} {M : Mem} {K : Value → Mem → Prop} {Kp : List PanicEntry → Mem → Prop} {pa : PA} {p : bZ} {gg : List GA} {dr : Value} {b : Nat} {x : Wd}
theorem qT {a : WA} {k : Int} {c : aV} (hl : fq gg a x) : fq gg a (x.cu k c) := by
 obtain ⟨l1, l2, l3, l4⟩ := hl
 exact ⟨l1, l2, by simpa [Wd.cu] using l3, l4⟩
theorem Od {a : WA} {k : Int} (h : Hp R L M) [q : fS bK L a.cb x.aC L'] (hl : fq gg a x) (hk : vj x k) : ∃ cb, a.cb[k.toNat]? = some cb ∧ x.aC[k.toNat]? = some (dO x.aC k) ∧ Hp R (ay bK cb (dO x.aC k) :: mb bK a.cb x.aC k.toNat :: L') M := by
 obtain ⟨l1, l2, l3, l4⟩ := hl
 obtain ⟨k0, k1⟩ := hk
 obtain ⟨cb, hcb⟩ := aU (l := a.cb) (i := k.toNat) (by omega)
 obtain ⟨y, hy⟩ := aU (l := x.aC) (i := k.toNat) (by omega)
 have e : dO x.aC k = y := by simp [dO, hy]
 rw [e]
 exact ⟨cb, hcb, hy, h.dg bK hcb hy⟩
theorem B8 {k v : Int} (h : Hp R L M) [o : wT b L pa p gg dr x L'] (hp : RS ij R pa.k pa.kc p.cases) (hk : oz p x k v) (hs : x.Sm)
  (k1 : ∀ y ok M', x.put p k v = .on (y, ok) → Hp R (ay (bz pa p gg dr) b y :: L') M' → K (.bool ok) M')
  (k2 : ∀ y n M', x.put p k v = .fk n y → Hp R (ay (bz pa p gg dr) b y :: L') M' → Kp [{ v := .iface 340 (.int .i64 n), recovered := false }] M') :
  aa Tryz.prog 209 #[.pointer (some ⟨b, 0, none⟩), .int .i64 k, .int .i64 v] M K Kp := by
 refine tD ?_
 obtain ⟨hc, hr, IJ⟩ := hk
 have hs' := hs
 obtain ⟨s1, s2, s3, s4, s5, s6, s7, s8⟩ := hs'
 have h' := cv h (b := b)
 clear h
 obtain ⟨a, hl, h⟩ := h'
 have hl' := hl
 obtain ⟨l1, l2, l3, l4⟩ := hl'
 have F6 := hc
 obtain ⟨c0, c1⟩ := F6
 have h' := Od h hl hc
 clear h
 obtain ⟨cb, hcb, xO, h⟩ := h'
 repeat (first|(refine aj h ?_;clear h;intro kb M h)|(refine au h ?_;clear h;intro M h)|refine St.to h ?_|(apply Exists.intro;(repeat apply Exists.intro);refine And.intro rfl ?_)|refine av ?_|refine ai ?_|refine ae ?_)
 refine vL h hcb fun q hq => ?_
 have hsc : (dO x.aC k).Small 1000000 := s1 _ (uK c0 c1)
 refine GL h (hsc.mono (by omega)) ?_
 clear h
 intro M h
 replace h := h.dW bK cb hcb (by omega)
 unfold Wd.put at k1 k2
 dsimp only at k1 k2
 generalize (dO x.aC k).send v = s at h k1 k2 hr IJ
 obtain ⟨c', w, ok, e⟩ := s
 dsimp only [SC] at h k1 k2 hr IJ ⊢
 refine ⟨w.g, w.cs, w.v, ok, e, rfl, ?_⟩
 repeat (first|(refine aj h ?_;clear h;intro kb M h)|(refine au h ?_;clear h;intro M h)|refine St.to h ?_|(apply Exists.intro;(repeat apply Exists.intro);refine And.intro rfl ?_)|refine av ?_|refine ai ?_|refine ae ?_)
 refine aY.2 ⟨fun e10 => ?_, fun e10 => ?_⟩
 ·rw [if_pos e10] at k2
  replace h := bh (a := a) (p := p) (pa := pa) (dr := dr) (gg := gg) (x := x.cu k c') (qT hl) h b
  exact k2 _ _ _ rfl h.b7
 ·rw [if_neg e10] at k1
  replace h := bh (a := a) (p := p) (pa := pa) (dr := dr) (gg := gg) (x := x.cu k c') (qT hl) h b
  refine gL.2 ⟨fun ht => ?_, fun ht => ?_⟩
  ·subst ht
   simp only [if_true] at k1
   repeat (first|(refine aj h ?_;clear h;intro kb M h)|(refine au h ?_;clear h;intro M h)|refine St.to h ?_|(apply Exists.intro;(repeat apply Exists.intro);refine And.intro rfl ?_)|refine av ?_|refine ai ?_|refine ae ?_)
   refine qo (b := b) (v := w) h hp (show pS p (x.cu k c') w from hr rfl) (Fg hs IJ) ?_
   clear h
   intro M h
   exact ⟨rfl, k1 _ _ _ rfl h.b7⟩
  ·subst ht
   simp only [Bool.false_eq_true, if_false] at k1
   exact k1 _ _ _ rfl h.b7
theorem B9 {k : Int} (h : Hp R L M) [o : wT b L pa p gg dr x L'] (hk : vk x k) (hs : x.Sm)
  (k1 : ∀ M', Hp R (ay (bz pa p gg dr) b (x.get k).1 :: L') M' → K (.tuple #[.int .i64 (x.get k).2.1, .int .i64 (x.get k).2.2.1, .bool (x.get k).2.2.2]) M') :
  aa Tryz.prog 210 #[.pointer (some ⟨b, 0, none⟩), .int .i64 k] M K Kp := by
 refine tE ?_
 obtain ⟨hc, hr, IJ⟩ := hk
 have hs' := hs
 obtain ⟨s1, s2, s3, s4, s5, s6, s7, s8⟩ := hs'
 have h' := cv h (b := b)
 clear h
 obtain ⟨a, hl, h⟩ := h'
 have hl' := hl
 obtain ⟨l1, l2, l3, l4⟩ := hl'
 have F6 := hc
 obtain ⟨c0, c1⟩ := F6
 have h' := Od h hl hc
 clear h
 obtain ⟨cb, hcb, xO, h⟩ := h'
 repeat (first|(refine aj h ?_;clear h;intro kb M h)|(refine au h ?_;clear h;intro M h)|refine St.to h ?_|(apply Exists.intro;(repeat apply Exists.intro);refine And.intro rfl ?_)|refine av ?_|refine ai ?_|refine ae ?_)
 refine vL h hcb fun q hq => ?_
 have hsc : (dO x.aC k).Small 1000000 := s1 _ (uK c0 c1)
 refine GM h (hsc.mono (by omega)) ?_
 clear h
 intro M h
 replace h := h.dW bK cb hcb (by omega)
 unfold Wd.get at k1
 dsimp only at k1
 generalize (dO x.aC k).recv = s at h k1 hr IJ
 obtain ⟨c', v, some, w, IZ, e⟩ := s
 dsimp only [SD] at h k1 hr IJ ⊢
 refine ⟨v, some, w.g, w.cs, w.v, IZ, e, rfl, ?_⟩
 repeat (first|(refine aj h ?_;clear h;intro kb M h)|(refine au h ?_;clear h;intro M h)|refine St.to h ?_|(apply Exists.intro;(repeat apply Exists.intro);refine And.intro rfl ?_)|refine av ?_|refine ai ?_|refine ae ?_)
 replace h := bh (a := a) (p := p) (pa := pa) (dr := dr) (gg := gg) (x := x.cu k c') (qT hl) h b
 refine gL.2 ⟨fun ht => ?_, fun ht => ?_⟩
 ·subst ht
  simp only [if_true] at k1
  repeat (first|(refine aj h ?_;clear h;intro kb M h)|(refine au h ?_;clear h;intro M h)|refine St.to h ?_|(apply Exists.intro;(repeat apply Exists.intro);refine And.intro rfl ?_)|refine av ?_|refine ai ?_|refine ae ?_)
  refine Ht (b := b) (v := w) h (show xJ (x.cu k c') w from hr rfl) (Fg hs IJ) ?_
  clear h
  intro M h
  repeat (first|(refine aj h ?_;clear h;intro kb M h)|(refine au h ?_;clear h;intro M h)|refine St.to h ?_|(apply Exists.intro;(repeat apply Exists.intro);refine And.intro rfl ?_)|refine av ?_|refine ai ?_|refine ae ?_)
  refine gL.2 ⟨fun hb => ?_, fun hb => ?_⟩
  ·subst hb
   repeat (first|(refine aj h ?_;clear h;intro kb M h)|(refine au h ?_;clear h;intro M h)|refine St.to h ?_|(apply Exists.intro;(repeat apply Exists.intro);refine And.intro rfl ?_)|refine av ?_|refine ai ?_|refine ae ?_)
   exact k1 _ h.b7
  ·subst hb
   exact k1 _ h.b7
 ·subst ht
  simp only [Bool.false_eq_true, if_false] at k1
  repeat (first|(refine aj h ?_;clear h;intro kb M h)|(refine au h ?_;clear h;intro M h)|refine St.to h ?_|(apply Exists.intro;(repeat apply Exists.intro);refine And.intro rfl ?_)|refine av ?_|refine ai ?_|refine ae ?_)
  refine gL.2 ⟨fun hb => ?_, fun hb => ?_⟩
  ·subst hb
   repeat (first|(refine aj h ?_;clear h;intro kb M h)|(refine au h ?_;clear h;intro M h)|refine St.to h ?_|(apply Exists.intro;(repeat apply Exists.intro);refine And.intro rfl ?_)|refine av ?_|refine ai ?_|refine ae ?_)
   exact k1 _ h.b7
  ·subst hb
   exact k1 _ h.b7
end
end Go.Proofs
namespace Go.Proofs
open Go.AF
def bD (x : Wd) (g q : Int) : Int := (aq x g).top.bS q
def Wd.I0 (x : Wd) (k g v : Int) : Wd := x.cu k { dO x.aC k with snd := (dO x.aC k).snd ++ [⟨g, 0, v⟩] }
def Wd.I2 (x : Wd) (k g : Int) : Wd := x.cu k { dO x.aC k with eH := (dO x.aC k).eH ++ [⟨g, 0, 0⟩] }
def Wd.send (p : bZ) (x : Wd) (g : Int) (i : cI) : Out Wd := match x.put p i.a (bD x g i.b) with
 | .fk n y => .fk n y
 | .dh l y => .dh l y
 | .on (y, true) => .on y
 | .on (y, false) => .on ((y.I0 i.a g (bD y g i.b)).block g i)
def Wd.recv (x : Wd) (g : Int) (i : cI) : Wd :=
 if (x.get i.a).2.2.2 then ((x.get i.a).1.bx g i.b (x.get i.a).2.1).bx g i.c (x.get i.a).2.2.1
 else ((x.get i.a).1.I2 i.a g).block g i
def dP (p : bZ) (x : Wd) (v : Wt) : Wd := if (aq x v.g).st = 2 then x.received p { v with v := 0 } 0 else x
def Wd.shut (p : bZ) (x : Wd) (i : cI) : Out Wd :=
 let s := (dO x.aC i.a).close
 let y := x.cu i.a s.1
 if s.2.2.2 ≠ 0 then .fk (-2) y else if 0 < s.2.2.1.length then .fk (-1) y else .on (s.2.1.foldl (dP p) y)
def wU (p : bZ) (x : Wd) : List Wt → Prop
 | [] => True
 | v :: l => x.Sm ∧ 0 ≤ v.g ∧ v.g < x.gs.length ∧ ((aq x v.g).st = 2 → pS p x { v with v := 0 }) ∧ wU p (dP p x v) l
instance Hu (p : bZ) : ∀ (l : List Wt) (x : Wd), Decidable (wU p x l)
 | [], _ => isTrue trivial
 | v :: l, x => by
  have := Hu p l (dP p x v)
  unfold wU; infer_instance
theorem Ca {p : bZ} : ∀ {l : List Wt} {x : Wd} {i : Nat} {v : Wt}, wU p x l → l[i]? = some v →
  let y := (l.take i).foldl (dP p) x
  y.Sm ∧ 0 ≤ v.g ∧ v.g < y.gs.length ∧ ((aq y v.g).st = 2 → pS p y { v with v := 0 })
 | [], _, _, _, _, h => by simp at h
 | w :: l, x, 0, v, h, hv => by simp at hv; subst hv; exact ⟨h.1, h.2.1, h.2.2.1, h.2.2.2.1⟩
 | w :: l, x, i + 1, v, h, hv => Ca (l := l) h.2.2.2.2 (by simpa using hv)
def Wd.emit (x : Wd) (g : Int) (i : cI) : Out Wd := if x.out.length ≥ 1000 then .fk (-6) x else .on { x with out := x.out ++ [bD x g i.a] }
def Wd.spawn (x : Wd) (g : Int) (i : cI) : Out Wd := if x.gs.length ≥ 100 then .fk (-5) x else
 .on ((Wd.fA { x with gs := x.gs ++ [⟨0, [gM.begin i.a (bD x g i.b)], .zero⟩] } (x.gs.length : Int)).bx g i.c (x.gs.length : Int))
def Wd.call (x : Wd) (g : Int) (i : cI) : Out Wd := if (aq x g).fs.length ≥ 16 then .fk (-4) x else
 .on (x.bF g { aq x g with fs := (aq x g).fs ++ [⟨i.a, 0, [bD x g i.b, 0, 0, 0, 0, 0, 0, 0], i.c⟩] })
def jr.back (y : jr) (v : Int) : jr := { y with fs := (y.fs.take (y.fs.length - 1)).set (y.fs.length - 2) ((y.fs.getD (y.fs.length - 2) ⟨0, 0, [], 0⟩).set y.top.rE v) }
def Wd.back (x : Wd) (g : Int) (i : cI) : Wd := if 2 ≤ (aq x g).fs.length then x.bF g ((aq x g).back (bD x g i.a))
 else if g = 0 then { x.bF g { aq x g with st := 4 } with end_ := 1 } else x.bF g { aq x g with st := 4 }
end Go.Proofs
namespace Go.Proofs
open Go.AF
set_option maxRecDepth 100000
set_option maxHeartbeats 1000000
attribute [local irreducible] aI c7 fm cy aB eN aE aM aX bk bJ aP
section
variable {R : Mem} {L L' : List HP} {M : Mem} {K : Value → Mem → Prop} {Kp : List PanicEntry → Mem → Prop} {pa : PA} {p : bZ} {gg : List GA} {dr : Value} {b : Nat} {x : Wd}
theorem gQ {g : Int} {A : Option Addr} {c : Nat} (h : Hp R L M) [o : wT b L pa p gg dr x L'] (h0 : 0 ≤ g) (hg : g < x.gs.length) (eZ : gg[g.toNat]? = some (A, c)) :
  ∃ (a : WA) (gb : Nat), fq gg a x ∧ a.gb[g.toNat]? = some gb ∧
   Hp R (pt gb (qn (aq x g) A c) 229 :: va A c (aq x g).fs :: pt b (mG pa p dr a x) 161 :: mb gk a.gb (x.gs.zip gg) g.toNat :: sX a x L') M := by
 obtain ⟨a, gb, A', c', hl, gf, ZK, h1⟩ := jP h (b := b) h0 hg
 rw [eZ] at ZK
 cases ZK
 exact ⟨a, gb, hl, gf, h1⟩
theorem Fh {g q : Int} {bs c oo : Nat} {G : Int → Prop} (h : Hp R L M) [o : wT b L pa p gg dr x L'] (hg : bp x g) (eZ : gg[g.toNat]? = some (some ⟨bs, 0, none⟩, c)) (hq : aZ q) (e : oo = ((aq x g).fs.length - 1) * 11 + 2 + q.toNat)
  (k : G (bD x g q)) : aI (M.ld ⟨bs, oo, none⟩) .i64 G := by
 obtain ⟨h0, h1, h2, h3⟩ := hg
 obtain ⟨a, gb, hl, gf, h4⟩ := gQ h (b := b) h0 h1 eZ
 exact vb h4 (eJ h2) hq e k
theorem mh {g q v : Int} {bs c oo : Nat} {G : Mem → Prop} (h : Hp R L M) [o : wT b L pa p gg dr x L'] (hg : bp x g) (eZ : gg[g.toNat]? = some (some ⟨bs, 0, none⟩, c)) (hq : aZ q) (e : oo = ((aq x g).fs.length - 1) * 11 + 2 + q.toNat)
  (k : ∀ M', Hp R (ay (bz pa p gg dr) b (x.bx g q v) :: L') M' → G M') : aM M ⟨bs, oo, none⟩ (.int .i64 v) G := by
 obtain ⟨h0, h1, h2, h3⟩ := hg
 obtain ⟨a, gb, hl, gf, h4⟩ := gQ h (b := b) h0 h1 eZ
 refine wS h4 (eJ h2) hq e fun M' h5 => ?_
 replace h5 := cT h5 gb hl gf eZ (by simp)
 exact k M' (bh (a := a) (p := p) (pa := pa) (dr := dr) (gg := gg) (x := x.bx g q v) (di hl) h5 b)
theorem SO {G : Option Addr → Nat → Nat → Prop} (h : Hp R L M) [o : wT b L pa p gg dr x L'] (k1 : ∀ a : WA, fq gg a x → Hp R (pt b (mG pa p dr a x) 161 :: bn gk a.gb (x.gs.zip gg) :: sX a x L') M → G a.ac a.cb.length a.cc) : aB (M.ld ⟨b, 0 + 6, none⟩) G := by
 obtain ⟨a, hl, h1⟩ := cv h (b := b)
 exact aF h1 (k1 a hl h1)
def Out.Ok {α : Type} (r : Out α) (k1 : α → Prop) (k2 : Int → Wd → Prop) (k3 : List PanicEntry → Wd → Prop := fun _ _ => True) : Prop := match r with
 | .on y => k1 y
 | .fk n y => k2 n y
 | .dh l y => k3 l y
def zR (x : Wd) (k : Int) : Prop := vj x k ∧ (dO x.aC k).Small 999999
instance (x : Wd) (k : Int) : Decidable (zR x k) := by unfold zR; infer_instance
def Hv (p : bZ) (x : Wd) (g : Int) (i : cI) : Prop := bp x g ∧ aZ i.b ∧ oz p x i.a (bD x g i.b) ∧
 match x.put p i.a (bD x g i.b) with
 | .on (y, false) => bp y g ∧ (aq y g).fs.length = (aq x g).fs.length ∧ zR y i.a
 | _ => True
theorem Hw {g : Int} {i : cI} {bs c : Nat} (h : Hp R L M) [o : wT b L pa p gg dr x L'] (hp : RS ij R pa.k pa.kc p.cases) (eZ : gg[g.toNat]? = some (some ⟨bs, 0, none⟩, c)) (hk : Hv p x g i) (hs : x.Sm)
  (k : Out.Ok (x.send p g i) (fun y => ∀ M', Hp R (ay (bz pa p gg dr) b y :: L') M' → K (.tuple #[]) M')
   (fun n y => ∀ M', Hp R (ay (bz pa p gg dr) b y :: L') M' → Kp [{ v := .iface 340 (.int .i64 n), recovered := false }] M')) :
  aa Tryz.prog 215 #[.pointer (some ⟨b, 0, none⟩), .int .i64 g, .pointer (some ⟨bs, ((aq x g).fs.length - 1) * 11, none⟩), .agg #[.int .i64 i.op, .int .i64 i.a, .int .i64 i.b, .int .i64 i.c]] M K Kp := by
 refine rN ?_
 obtain ⟨hg, hb, hput, hw⟩ := hk
 repeat (first|(refine aj h ?_;clear h;intro kb M h)|(refine au h ?_;clear h;intro M h)|refine St.to h ?_|(apply Exists.intro;(repeat apply Exists.intro);refine And.intro rfl ?_)|refine av ?_|refine ai ?_|refine ae ?_)
 refine ⟨hb.1, hb.2, Fh (b := b) h hg eZ hb rfl ?_⟩
 unfold Wd.send at k
 refine B8 (b := b) h hp hput hs ?_ ?_
 ·intro y ok M' e h
  rw [e] at k hw
  cases ok with
  | true =>
   dsimp only at k
   refine ov (ae ?_)
   exact k _ h.b7
  | false =>
   dsimp only at k hw
   obtain ⟨Fi, hfl, xO, IJ⟩ := hw
   refine ov (ai ?_)
   refine SO h fun a hl h => ?_
   have hl' := hl
   obtain ⟨l1, l2, l3, l4⟩ := hl'
   have F6 := xO
   obtain ⟨c0, c1⟩ := F6
   have h' := Od h hl xO
   clear h
   obtain ⟨cb, hcb, VU, h⟩ := h'
   repeat (first|(refine aj h ?_;clear h;intro kb M h)|(refine au h ?_;clear h;intro M h)|refine St.to h ?_|(apply Exists.intro;(repeat apply Exists.intro);refine And.intro rfl ?_)|refine av ?_|refine ai ?_|refine ae ?_)
   refine vL h hcb fun q hq => ?_
   repeat (first|(refine aj h ?_;clear h;intro kb M h)|(refine au h ?_;clear h;intro M h)|refine St.to h ?_|(apply Exists.intro;(repeat apply Exists.intro);refine And.intro rfl ?_)|refine av ?_|refine ai ?_|refine ae ?_)
   refine ⟨hb.1, hb.2, ?_⟩
   have h2 := h.wE bK cb hcb VU
   have h3 := bh (a := a) (p := p) (pa := pa) (dr := dr) (gg := gg) (x := y) hl h2 b
   refine Fh (b := b) h3 Fi eZ hb (by rw [hfl]) ?_
   clear h2 h3
   refine pP (w := ⟨g, 0, bD y g i.b⟩) h (IJ.mono (by omega)) ?_
   clear h
   intro M h
   replace h := h.dW bK cb hcb (by omega)
   replace h := bh (a := a) (p := p) (pa := pa) (dr := dr) (gg := gg) (x := y.I0 i.a g (bD y g i.b)) (qT hl) h b
   repeat (first|(refine aj h ?_;clear h;intro kb M h)|(refine au h ?_;clear h;intro M h)|refine St.to h ?_|(apply Exists.intro;(repeat apply Exists.intro);refine And.intro rfl ?_)|refine av ?_|refine ai ?_|refine ae ?_)
   refine me (b := b) (i := i) (x := y.I0 i.a g (bD y g i.b)) h Fi.1 Fi.2.1 ?_
   clear h
   intro M h
   exact ⟨rfl, k _ h.b7⟩
 ·intro y n M' e h
  rw [e] at k
  exact k _ h.b7
def wV (x : Wd) (g : Int) (i : cI) : Prop := bp x g ∧ aZ i.b ∧ aZ i.c ∧ vk x i.a ∧ bp (x.get i.a).1 g ∧ (aq (x.get i.a).1 g).fs.length = (aq x g).fs.length ∧ ((x.get i.a).2.2.2 = false → zR (x.get i.a).1 i.a)
theorem Hx {g : Int} {i : cI} {bs c : Nat} (h : Hp R L M) [o : wT b L pa p gg dr x L'] (eZ : gg[g.toNat]? = some (some ⟨bs, 0, none⟩, c)) (hk : wV x g i) (hs : x.Sm)
  (k : ∀ M', Hp R (ay (bz pa p gg dr) b (x.recv g i) :: L') M' → K (.tuple #[]) M') :
  aa Tryz.prog 216 #[.pointer (some ⟨b, 0, none⟩), .int .i64 g, .pointer (some ⟨bs, ((aq x g).fs.length - 1) * 11, none⟩), .agg #[.int .i64 i.op, .int .i64 i.a, .int .i64 i.b, .int .i64 i.c]] M K Kp := by
 refine rO ?_
 obtain ⟨hg, hb, hc, VV, Fi, hfl, hw⟩ := hk
 repeat (first|(refine aj h ?_;clear h;intro kb M h)|(refine au h ?_;clear h;intro M h)|refine St.to h ?_|(apply Exists.intro;(repeat apply Exists.intro);refine And.intro rfl ?_)|refine av ?_|refine ai ?_|refine ae ?_)
 refine B9 (b := b) h VV hs ?_
 clear h
 intro M h
 unfold Wd.recv at k
 generalize x.get i.a = r at h k Fi hfl hw
 obtain ⟨y, v, sm, ok⟩ := r
 dsimp only at h k Fi hfl hw ⊢
 refine ⟨v, sm, ok, rfl, ?_⟩
 cases ok with
 | true =>
  simp only [if_true] at k
  refine ae ?_
  repeat (first|(refine aj h ?_;clear h;intro kb M h)|(refine au h ?_;clear h;intro M h)|refine St.to h ?_|(apply Exists.intro;(repeat apply Exists.intro);refine And.intro rfl ?_)|refine av ?_|refine ai ?_|refine ae ?_)
  refine ⟨hb.1, hb.2, ?_⟩
  repeat (first|(refine aj h ?_;clear h;intro kb M h)|(refine au h ?_;clear h;intro M h)|refine St.to h ?_|(apply Exists.intro;(repeat apply Exists.intro);refine And.intro rfl ?_)|refine av ?_|refine ai ?_|refine ae ?_)
  refine mh (b := b) h Fi eZ hb (by rw [hfl]) ?_
  clear h
  intro M h
  repeat (first|(refine aj h ?_;clear h;intro kb M h)|(refine au h ?_;clear h;intro M h)|refine St.to h ?_|(apply Exists.intro;(repeat apply Exists.intro);refine And.intro rfl ?_)|refine av ?_|refine ai ?_|refine ae ?_)
  have KF := jf (q := i.b) (v := v) Fi
  have Ek : (aq (y.bx g i.b v) g).fs.length = (aq x g).fs.length := by rw [je Fi]; simpa [jr.cO] using hfl
  refine ⟨hc.1, hc.2, mh (b := b) h KF eZ hc (by rw [Ek]) ?_⟩
  clear h
  intro M h
  repeat (first|(refine aj h ?_;clear h;intro kb M h)|(refine au h ?_;clear h;intro M h)|refine St.to h ?_|(apply Exists.intro;(repeat apply Exists.intro);refine And.intro rfl ?_)|refine av ?_|refine ai ?_|refine ae ?_)
  exact k _ h.b7
 | false =>
  simp only [Bool.false_eq_true, if_false] at k
  refine ai ?_
  obtain ⟨xO, IJ⟩ := hw rfl
  refine SO h fun a hl h => ?_
  have hl' := hl
  obtain ⟨l1, l2, l3, l4⟩ := hl'
  have F6 := xO
  obtain ⟨c0, c1⟩ := F6
  have h' := Od h hl xO
  clear h
  obtain ⟨cb, hcb, VU, h⟩ := h'
  repeat (first|(refine aj h ?_;clear h;intro kb M h)|(refine au h ?_;clear h;intro M h)|refine St.to h ?_|(apply Exists.intro;(repeat apply Exists.intro);refine And.intro rfl ?_)|refine av ?_|refine ai ?_|refine ae ?_)
  refine vL h hcb fun q hq => ?_
  refine pQ (w := ⟨g, 0, 0⟩) h (IJ.mono (by omega)) ?_
  clear h
  intro M h
  replace h := h.dW bK cb hcb (by omega)
  replace h := bh (a := a) (p := p) (pa := pa) (dr := dr) (gg := gg) (x := y.I2 i.a g) (qT hl) h b
  repeat (first|(refine aj h ?_;clear h;intro kb M h)|(refine au h ?_;clear h;intro M h)|refine St.to h ?_|(apply Exists.intro;(repeat apply Exists.intro);refine And.intro rfl ?_)|refine av ?_|refine ai ?_|refine ae ?_)
  refine me (b := b) (i := i) (x := y.I2 i.a g) h Fi.1 Fi.2.1 ?_
  clear h
  intro M h
  exact ⟨rfl, k _ h.b7⟩
theorem Hy {g : Int} {i : cI} {bs c : Nat} (h : Hp R L M) [o : wT b L pa p gg dr x L'] (eZ : gg[g.toNat]? = some (some ⟨bs, 0, none⟩, c)) (hg : bp x g) (ha : aZ i.a) (hs : x.Sm)
  (k : Out.Ok (x.emit g i) (fun y => ∀ M', Hp R (ay (bz pa p gg dr) b y :: L') M' → K (.tuple #[]) M')
   (fun n y => ∀ M', Hp R (ay (bz pa p gg dr) b y :: L') M' → Kp [{ v := .iface 340 (.int .i64 n), recovered := false }] M')) :
  aa Tryz.prog 221 #[.pointer (some ⟨b, 0, none⟩), .int .i64 g, .pointer (some ⟨bs, ((aq x g).fs.length - 1) * 11, none⟩), .agg #[.int .i64 i.op, .int .i64 i.a, .int .i64 i.b, .int .i64 i.c]] M K Kp := by
 refine rT ?_
 obtain ⟨s1, s2, s3, s4, s5, s6, s7, s8⟩ := hs
 have Dr := hg
 obtain ⟨h0, h1, h2, h3⟩ := Dr
 unfold Wd.emit at k
 refine aj h ?_
 clear h
 intro kb M h
 have h' := gQ h (b := b) h0 h1 eZ
 clear h
 obtain ⟨a, gb, hl, gf, h⟩ := h'
 have hl' := hl
 obtain ⟨l1, l2, l3, l4⟩ := hl'
 have ex : x.bF g (aq x g) = x := by
  obtain ⟨y, hy⟩ := aU (l := x.gs) (i := g.toNat) (by omega)
  have e : aq x g = y := by simp [aq, hy]
  rw [e]
  obtain ⟨hi, rfl⟩ := List.getElem?_eq_some_iff.1 hy
  simp [Wd.bF]
 repeat (first|(refine aj h ?_;clear h;intro kb M h)|(refine au h ?_;clear h;intro M h)|refine St.to h ?_|(apply Exists.intro;(repeat apply Exists.intro);refine And.intro rfl ?_)|refine av ?_|refine ai ?_|refine ae ?_)
 refine aN.2 ⟨fun hn => ?_, fun hn => ?_⟩
 ·rw [if_pos (by omega)] at k
  replace h := cT h gb hl gf eZ
  have lD := di (y := aq x g) (g := g) hl
  replace h := bh (a := a) (p := p) (pa := pa) (dr := dr) (gg := gg) (x := x.bF g (aq x g)) lD h b
  rw [ex] at h
  exact k _ h.b7
 ·rw [if_neg (by omega)] at k
  repeat (first|(refine aj h ?_;clear h;intro kb M h)|(refine au h ?_;clear h;intro M h)|refine St.to h ?_|(apply Exists.intro;(repeat apply Exists.intro);refine And.intro rfl ?_)|refine av ?_|refine ai ?_|refine ae ?_)
  refine ⟨ha.1, ha.2, vb h (eJ h2) ha rfl ?_⟩
  repeat (first|(refine aj h ?_;clear h;intro kb M h)|(refine au h ?_;clear h;intro M h)|refine St.to h ?_|(apply Exists.intro;(repeat apply Exists.intro);refine And.intro rfl ?_)|refine av ?_|refine ai ?_|refine ae ?_)
  refine h.aT C1 [bD x g i.a] rfl rfl (by simp; omega) ?_
  clear h
  intro A' c' M h
  repeat (first|(refine aj h ?_;clear h;intro kb M h)|(refine au h ?_;clear h;intro M h)|refine St.to h ?_|(apply Exists.intro;(repeat apply Exists.intro);refine And.intro rfl ?_)|refine av ?_|refine ai ?_|refine ae ?_)
  replace h := cT h gb hl gf eZ
  have lD := di (y := aq x g) (g := g) hl
  have h5 := bh (a := { a with ao := A', co := c' }) (p := p) (pa := pa) (dr := dr) (gg := gg) (x := { x.bF g (aq x g) with out := x.out ++ [bD x g i.a] }) lD h b
  rw [ex] at h5
  exact k _ h5.b7
end
theorem SP : bj Tryz.prog 155 224 1 8 [.pointer none] := bj.mk' (zv := .pointer none) (by kernel_rfl) (by kernel_rfl) rfl (by omega)
section
variable {R : Mem} {L L' : List HP} {M : Mem} {K : Value → Mem → Prop} {Kp : List PanicEntry → Mem → Prop} {pa : PA} {p : bZ} {gg : List GA} {dr : Value} {b : Nat} {x : Wd}
def wW (x : Wd) (fn v : Int) : Wd := { x with gs := x.gs ++ [⟨0, [gM.begin fn v], .zero⟩] }
theorem Oe {a : WA} {k bs : Nat} {A' : Option Addr} {c' : Nat} {fn v : Int} (hl : fq gg a x)
  (h : Hp R (pt b (mG pa p dr { a with ag := A', cg := c', gb := a.gb ++ [k] } x) 161 :: zO A' c' (a.gb ++ [k]) :: pt k [.int .i64 0, .slice (some ⟨bs, 0, none⟩) 1 1, .int .i64 0, .int .i64 0, .int .i64 0, .int .i64 0] 229 ::
   va (some ⟨bs, 0, none⟩) 1 [gM.begin fn v] :: bn gk a.gb (x.gs.zip gg) :: zP a.ac a.cc a.cb :: bn bK a.cb x.aC :: zQ a.al a.cl a.lb :: bn gd a.lb x.aK :: gp a.ah a.ch x.hl :: zp a.ao a.co x.out :: lU a.ar a.cr x.ready :: L) M) :
  Hp R (ay (bz pa p (gg ++ [(some ⟨bs, 0, none⟩, 1)]) dr) b (wW x fn v) :: L) M := by
 obtain ⟨l1, l2, l3, l4⟩ := hl
 have h1 := ng h k
 have h2 := h1.kT gk k (by rw [List.length_zip]; omega)
 have e : x.gs.zip gg ++ [(⟨0, [gM.begin fn v], ⟨0, 0, 0, 0⟩⟩, (some ⟨bs, 0, none⟩, 1))] = (wW x fn v).gs.zip (gg ++ [(some ⟨bs, 0, none⟩, 1)]) := by
  unfold wW
  rw [List.zip_append (by omega)]; rfl
 rw [e] at h2
 exact bh (a := { a with ag := A', cg := c', gb := a.gb ++ [k] }) (p := p) (pa := pa) (dr := dr) (gg := gg ++ [(some ⟨bs, 0, none⟩, 1)]) (x := wW x fn v) ⟨by simp [wW, l1], by simp [wW, l2], l3, l4⟩ h2 b
theorem Hz {g fn v : Int} (hg : bp x g) : aq (wW x fn v) g = aq x g := by
 obtain ⟨h0, h1, h2, h3⟩ := hg
 unfold aq wW
 dsimp only
 rw [List.getD_eq_getElem?_getD, List.getElem?_append_left (by omega), ← List.getD_eq_getElem?_getD]
theorem Fj {g : Int} {i : cI} {bs c : Nat} (h : Hp R L M) [o : wT b L pa p gg dr x L'] (eZ : gg[g.toNat]? = some (some ⟨bs, 0, none⟩, c)) (hg : bp x g) (hb : aZ i.b) (hc : aZ i.c) (hs : x.Sm)
  (k : Out.Ok (x.spawn g i) (fun y => ∀ mj M', Hp R (ay (bz pa p mj dr) b y :: L') M' → K (.tuple #[]) M')
   (fun n y => ∀ M', Hp R (ay (bz pa p gg dr) b y :: L') M' → Kp [{ v := .iface 340 (.int .i64 n), recovered := false }] M')) :
  aa Tryz.prog 213 #[.pointer (some ⟨b, 0, none⟩), .int .i64 g, .pointer (some ⟨bs, ((aq x g).fs.length - 1) * 11, none⟩), .agg #[.int .i64 i.op, .int .i64 i.a, .int .i64 i.b, .int .i64 i.c]] M K Kp := by
 refine pW ?_
 obtain ⟨s1, s2, s3, s4, s5, s6, s7, s8⟩ := hs
 unfold Wd.spawn at k
 refine aj h ?_
 clear h
 intro kb M h
 have hC := h
 have h' := cv h (b := b)
 clear h
 obtain ⟨a, hl, h⟩ := h'
 have hl' := hl
 obtain ⟨l1, l2, l3, l4⟩ := hl'
 refine aF h ?_
 refine aN.2 ⟨fun hn => ?_, fun hn => ?_⟩
 ·rw [if_pos (by omega)] at k
  exact k _ (hC.drop.pick o.pick)
 rw [if_neg (by omega)] at k
 refine aF h ?_
 refine ⟨fun vs M => ∃ bs', Hp R (ay (bz pa p (gg ++ [(some ⟨bs', 0, none⟩, 1)]) dr) b (wW x i.a (bD x g i.b)) :: pt kb [.int .i64 i.op, .int .i64 i.a, .int .i64 i.b, .int .i64 i.c] 27 :: L') M, ?_, ?_⟩
 ·repeat (first|(refine aj h ?_;clear h;intro kb M h)|(refine au h ?_;clear h;intro M h)|refine St.to h ?_|(apply Exists.intro;(repeat apply Exists.intro);refine And.intro rfl ?_)|refine av ?_|refine ai ?_|refine ae ?_)
  refine ⟨hb.1, hb.2, Fh (b := b) hC hg eZ hb rfl ?_⟩
  clear hC
  refine ⟨?_, ?_, trivial⟩
  ·repeat (first|(refine aj h ?_;clear h;intro kb M h)|(refine au h ?_;clear h;intro M h)|refine St.to h ?_|(apply Exists.intro;(repeat apply Exists.intro);refine And.intro rfl ?_)|refine av ?_|refine ai ?_|refine ae ?_)
   refine qm h ?_
   clear h
   intro bs' M h
   repeat (first|(refine aj h ?_;clear h;intro kb M h)|(refine au h ?_;clear h;intro M h)|refine St.to h ?_|(apply Exists.intro;(repeat apply Exists.intro);refine And.intro rfl ?_)|refine av ?_|refine ai ?_|refine ae ?_)
   refine h.aT SP [_] rfl rfl (by simp; omega) ?_
   clear h
   intro A' c' M h
   repeat (first|(refine aj h ?_;clear h;intro kb M h)|(refine au h ?_;clear h;intro M h)|refine St.to h ?_|(apply Exists.intro;(repeat apply Exists.intro);refine And.intro rfl ?_)|refine av ?_|refine ai ?_|refine ae ?_)
   exact ⟨bs', Oe hl (h.sub br)⟩
  ·refine qm h ?_
   clear h
   intro bs' M h
   repeat (first|(refine aj h ?_;clear h;intro kb M h)|(refine au h ?_;clear h;intro M h)|refine St.to h ?_|(apply Exists.intro;(repeat apply Exists.intro);refine And.intro rfl ?_)|refine av ?_|refine ai ?_|refine ae ?_)
   refine h.aT SP [_] rfl rfl (by simp; omega) ?_
   clear h
   intro A' c' M h
   repeat (first|(refine aj h ?_;clear h;intro kb M h)|(refine au h ?_;clear h;intro M h)|refine St.to h ?_|(apply Exists.intro;(repeat apply Exists.intro);refine And.intro rfl ?_)|refine av ?_|refine ai ?_|refine ae ?_)
   exact ⟨bs', Oe hl (h.sub br)⟩
 ·clear h hC
  rintro _ M ⟨bs', h⟩
  have hlen : (wW x i.a (bD x g i.b)).gs.length = x.gs.length + 1 := by simp [wW]
  have AO : (x.gs.length : Int) = (a.gb.length : Int) := by omega
  rw [← AO]
  refine iq (b := b) h (by omega) (by omega) (by show x.ready.length ≤ _; omega) ?_
  clear h
  intro M h
  repeat (first|(refine aj h ?_;clear h;intro kb M h)|(refine au h ?_;clear h;intro M h)|refine St.to h ?_|(apply Exists.intro;(repeat apply Exists.intro);refine And.intro rfl ?_)|refine av ?_|refine ai ?_|refine ae ?_)
  have KF : aq ((wW x i.a (bD x g i.b)).fA (x.gs.length : Int)) g = aq x g := by
   rw [← Hz (fn := i.a) (v := bD x g i.b) hg]
   obtain ⟨h0, h1, _⟩ := hg
   have hne : x.gs.length ≠ g.toNat := by omega
   simp [aq, Wd.fA, Wd.bF, List.getElem?_set, hne]
  have hg3 : bp ((wW x i.a (bD x g i.b)).fA (x.gs.length : Int)) g := by
   refine ⟨hg.1, ?_, ?_, ?_⟩
   ·have h1 := hg.2.1
    simp only [Wd.fA, Wd.bF, List.length_set, hlen]; omega
   ·rw [KF]; exact hg.2.2.1
   ·rw [KF]; exact hg.2.2.2
  have ZL : (gg ++ [(some (⟨bs', 0, none⟩ : Addr), 1)])[g.toNat]? = some (some ⟨bs, 0, none⟩, c) := by
   rw [List.getElem?_append_left (by have := hg.2.1; have := hg.1; omega)]; exact eZ
  refine ⟨hc.1, hc.2, mh (b := b) h hg3 ZL hc (by rw [KF]) ?_⟩
  clear h
  intro M h
  repeat (first|(refine aj h ?_;clear h;intro kb M h)|(refine au h ?_;clear h;intro M h)|refine St.to h ?_|(apply Exists.intro;(repeat apply Exists.intro);refine And.intro rfl ?_)|refine av ?_|refine ai ?_|refine ae ?_)
  exact k _ _ h.b7
end
section
variable {R : Mem} {L L' : List HP} {M : Mem} {K : Value → Mem → Prop} {Kp : List PanicEntry → Mem → Prop} {pa : PA} {p : bZ} {gg : List GA} {dr : Value} {b : Nat} {x : Wd}
def oa (p : bZ) (x : Wd) (i : cI) : Prop := vj x i.a ∧ (dO x.aC i.a).eH.length ≤ 1000000 ∧
 ((dO x.aC i.a).close.2.2.2 = 0 → (dO x.aC i.a).close.2.2.1 = [] → wU p (x.cu i.a (dO x.aC i.a).close.1) (dO x.aC i.a).close.2.1)
theorem HA {g : Int} {i : cI} {f : Value} {bf of' : Nat} (h : Hp R L M) [o : wT b L pa p gg dr x L'] (hp : RS ij R pa.k pa.kc p.cases) (hk : oa p x i) (hs : x.Sm)
  (k : Out.Ok (x.shut p i) (fun y => ∀ M', Hp R (ay (bz pa p gg dr) b y :: L') M' → K (.tuple #[]) M')
   (fun n y => ∀ M', Hp R (ay (bz pa p gg dr) b y :: L') M' → Kp [{ v := .iface 340 (.int .i64 n), recovered := false }] M')) :
  aa Tryz.prog 217 #[.pointer (some ⟨b, 0, none⟩), .int .i64 g, .pointer (some ⟨bf, of', none⟩), .agg #[.int .i64 i.op, .int .i64 i.a, .int .i64 i.b, .int .i64 i.c]] M K Kp := by
 refine rQ ?_
 obtain ⟨xO, hlen, hsh⟩ := hk
 obtain ⟨s1, s2, s3, s4, s5, s6, s7, s8⟩ := hs
 unfold Wd.shut at k
 dsimp only at k
 refine aj h ?_
 clear h
 intro kb M h
 have h' := cv h (b := b)
 clear h
 obtain ⟨a, hl, h⟩ := h'
 have hl' := hl
 obtain ⟨l1, l2, l3, l4⟩ := hl'
 have F6 := xO
 obtain ⟨c0, c1⟩ := F6
 have h' := Od h hl xO
 clear h
 obtain ⟨cb, hcb, VU, h⟩ := h'
 repeat (first|(refine aj h ?_;clear h;intro kb M h)|(refine au h ?_;clear h;intro M h)|refine St.to h ?_|(apply Exists.intro;(repeat apply Exists.intro);refine And.intro rfl ?_)|refine av ?_|refine ai ?_|refine ae ?_)
 refine vL h hcb fun q hq => ?_
 have lq : (dO x.aC i.a).close.2.1.length ≤ 1000000 := by
  unfold aV.close; split <;> simp [hlen]
 refine EH h ?_
 clear h
 intro A ca B cb' M h
 replace h := h.dW bK cb hcb (by omega)
 generalize (dO x.aC i.a).close = s at h k hsh lq
 obtain ⟨c', r, sn, e⟩ := s
 dsimp only at h k hsh lq ⊢
 refine ⟨A, _, ca, B, _, cb', e, rfl, ?_⟩
 replace h := bh (a := a) (p := p) (pa := pa) (dr := dr) (gg := gg) (x := x.cu i.a c') (qT hl) h b
 refine dJ.2 ⟨fun he => ?_, fun he => ?_⟩
 ·rw [if_pos he] at k
  exact k _ h.b7
 rw [if_neg (by simpa using he)] at k
 refine aN.2 ⟨fun hn => ?_, fun hn => ?_⟩
 ·rw [if_pos (by omega)] at k
  exact k _ h.b7
 rw [if_neg (by omega)] at k
 have Q7 : sn = [] := by cases sn with
  | nil => rfl
  | cons _ _ => simp at hn
 have hok := hsh he Q7
 refine ⟨fun d vs M => ∃ (j : Nat), vs = [.int .i64 (j : Int)] ∧ d = r.length - j ∧ j ≤ r.length ∧ Hp R (ay (bz pa p gg dr) b ((r.take j).foldl (dP p) (x.cu i.a c')) :: uH A ca r :: L') M, ⟨_, 0, rfl, rfl, by omega, h.sub br⟩, ?_⟩
 clear h
 rintro d _ nn M ⟨j, xP, hd, hj, h⟩
 simp only [List.cons.injEq, Value.int.injEq, and_true, true_and] at xP
 subst xP
 refine aN.2 ⟨fun hlt => ?_, fun hge => ?_⟩
 ·obtain ⟨w, hw⟩ := aU (l := r) (i := j) (by omega)
  obtain ⟨t1, t2, t3, t4⟩ := Ca hok hw
  have hstep : (r.take (j + 1)).foldl (dP p) (x.cu i.a c') = dP p ((r.take j).foldl (dP p) (x.cu i.a c')) w := by
   rw [eo hw, List.foldl_append]; rfl
  generalize (r.take j).foldl (dP p) (x.cu i.a c') = y at h t1 t3 t4 hstep
  obtain ⟨qa, rfl⟩ := h.bM (A := A) (by omega) (by decide)
  refine ⟨by omega, hlt, bg ?_⟩
  simp only [Int.toNat_natCast]
  refine be (Src.at (h.src (A := some ⟨qa, 0, none⟩)) h (i := j) (j := 0) hw rfl (by simp [gS])) ?_
  refine be (Src.at (h.src (A := some ⟨qa, 0, none⟩)) h (i := j) (j := 1) hw rfl (by simp [gS])) ?_
  refine be (Src.at (h.src (A := some ⟨qa, 0, none⟩)) h (i := j) (j := 2) hw rfl (by simp [gS])) ?_
  refine aj h ?_
  clear h
  intro kw M h
  refine au h ?_
  clear h; intro M h
  refine au h ?_
  clear h; intro M h
  refine au h ?_
  clear h; intro M h
  have hC := h
  have h' := jP h (b := b) t2 t3
  clear h
  obtain ⟨a2, gb, A2, c2, lD, gf, ZL, h⟩ := h'
  have VW := lD
  obtain ⟨m1, m2, m3, m4⟩ := VW
  repeat (first|(refine aj h ?_;clear h;intro kb M h)|(refine au h ?_;clear h;intro M h)|refine St.to h ?_|(apply Exists.intro;(repeat apply Exists.intro);refine And.intro rfl ?_)|refine av ?_|refine ai ?_|refine ae ?_)
  refine vL h gf fun q2 oX => ?_
  repeat (first|(refine aj h ?_;clear h;intro kb M h)|(refine au h ?_;clear h;intro M h)|refine St.to h ?_|(apply Exists.intro;(repeat apply Exists.intro);refine And.intro rfl ?_)|refine av ?_|refine ai ?_|refine ae ?_)
  clear h
  have h := hC
  clear hC
  rw [aW (by omega)]
  have hst : dP p y w = if (aq y w.g).st = 2 then y.received p { w with v := 0 } 0 else y := rfl
  rw [hst] at hstep
  refine aY.2 ⟨fun e2 => ?_, fun e2 => ?_⟩
  ·rw [if_pos e2] at hstep
   refine au h ?_
   clear h; intro M h
   repeat (first|(refine aj h ?_;clear h;intro kb M h)|(refine au h ?_;clear h;intro M h)|refine St.to h ?_|(apply Exists.intro;(repeat apply Exists.intro);refine And.intro rfl ?_)|refine av ?_|refine ai ?_|refine ae ?_)
   refine qo (b := b) (v := { w with v := 0 }) h hp (t4 e2) t1 ?_
   clear h; intro M h
   refine ⟨rfl, r.length - (j + 1), by omega, j + 1, rfl, rfl, by omega, ?_⟩
   rw [hstep]
   exact h.b7
  ·rw [if_neg e2] at hstep
   refine ⟨r.length - (j + 1), by omega, j + 1, rfl, rfl, by omega, ?_⟩
   rw [hstep]
   exact h.sub br
 ·obtain rfl : j = r.length := by omega
  rw [List.take_length] at h
  exact k _ h.b7
end
theorem qU : bj Tryz.prog 36 3 1 8 [.int .i64 0] := bj.mk' (zv := .int .i64 0) (by kernel_rfl) (by kernel_rfl) rfl (by omega)
structure Rg where
 room : Nat
 l : List Int
def Rg.Ok (x : Rg) (head : Nat) (slots : List Int) : Prop := slots.length = x.room ∧ 0 < x.room ∧ x.room ≤ 1024 ∧ head < x.room ∧ x.l.length ≤ x.room ∧ ∀ i v, x.l[i]? = some v → slots[(head + i) % x.room]? = some v
def fu : tj Rg := ⟨fun b x => exs fun A : Option Addr => exs fun c : Nat => exs fun head : Nat => exs fun slots : List Int =>
 sep [fact (x.Ok head slots), pt b [.slice A x.room c, .int .i64 (head : Int), .int .i64 (x.l.length : Int)] 309, bE bl 3 A c slots]⟩
section
variable {R : Mem} {L L' : List HP} {M : Mem} {K : Value → Mem → Prop} {Kp : List PanicEntry → Mem → Prop} {b : Nat} {x : Rg}
theorem kU (h : Hp R L M) [o : cq fu b L x L'] : ∃ A c head slots, x.Ok head slots ∧ Hp R (pt b [.slice A x.room c, .int .i64 (head : Int), .int .i64 (x.l.length : Int)] 309 :: bE bl 3 A c slots :: L') M := by
 have := h.obj fu b
 simpa only [fu, Hp.de, Hp.aS, List.cons_append, List.nil_append, Hp.fZ] using this
theorem vl {A : Option Addr} {c head : Nat} {slots : List Int} (ok : x.Ok head slots) (h : Hp R (pt b [.slice A x.room c, .int .i64 (head : Int), .int .i64 (x.l.length : Int)] 309 :: bE bl 3 A c slots :: L) M) : Hp R (ay fu b x :: L) M := by
 refine Hp.wg ?_
 simp only [fu, Hp.de, Hp.aS, List.cons_append, List.nil_append, Hp.fZ]
 exact ⟨_, _, _, _, ok, h⟩
def fa (n : Int) : Nat := (min (max n 1) 1024).toNat
theorem I3 (n : Int) : 0 < fa n ∧ fa n ≤ 1024 := by unfold fa; omega
theorem Of {n : Int} (h : Hp R L M) (k : ∀ b M', Hp R (ay fu b ⟨fa n, []⟩ :: L) M' → K (.pointer (some ⟨b, 0, none⟩)) M') : aa Tryz.prog 115 #[.int .i64 n] M K Kp := by
 refine EV ?_
 have e : (if (1024 : Int) < (if (1 : Int) > n then 1 else n) then 1024 else (if (1 : Int) > n then 1 else n)) = ((fa n : Nat) : Int) := by unfold fa; split <;> split <;> omega
 have bd := I3 n
 rw [e]
 refine h.yH (E := bl) (a := 0) qU (by omega) ?_
 clear h
 intro kb M h
 repeat (first|(refine aj h ?_;clear h;intro kb M h)|(refine au h ?_;clear h;intro M h)|refine St.to h ?_|(apply Exists.intro;(repeat apply Exists.intro);refine And.intro rfl ?_)|refine av ?_|refine ai ?_|refine ae ?_)
 refine k _ _ (vl (head := 0) (slots := List.replicate (fa n) 0) ⟨by simp, bd.1, bd.2, bd.1, by simp, fun i v hv => by simp at hv⟩ (h.sub br))
theorem Cb (h : Hp R L M) [o : cq fu b L x L'] (k : K (.int .i64 (x.room : Int)) M) : aa Tryz.prog 183 #[.pointer (some ⟨b, 0, none⟩)] M K Kp := by
 refine uS ?_
 have h' := kU h (b := b)
 clear h
 obtain ⟨A, c, head, slots, ok, h⟩ := h'
 repeat (first|(refine aj h ?_;clear h;intro kb M h)|(refine au h ?_;clear h;intro M h)|refine St.to h ?_|(apply Exists.intro;(repeat apply Exists.intro);refine And.intro rfl ?_)|refine av ?_|refine ai ?_|refine ae ?_)
 exact k
theorem vn (h : Hp R L M) [o : cq fu b L x L'] (k : K (.int .i64 (x.l.length : Int)) M) : aa Tryz.prog 181 #[.pointer (some ⟨b, 0, none⟩)] M K Kp := by
 refine wN ?_
 have h' := kU h (b := b)
 clear h
 obtain ⟨A, c, head, slots, ok, h⟩ := h'
 repeat (first|(refine aj h ?_;clear h;intro kb M h)|(refine au h ?_;clear h;intro M h)|refine St.to h ?_|(apply Exists.intro;(repeat apply Exists.intro);refine And.intro rfl ?_)|refine av ?_|refine ai ?_|refine ae ?_)
 exact k
theorem uu {a b : Nat} : Int.tmod (a : Int) (b : Int) = ((a % b : Nat) : Int) := rfl
theorem qV {v : Int} (h : Hp R L M) [o : cq fu b L x L'] (k1 : x.l.length = x.room → ∀ M', Hp R (ay fu b x :: L') M' → K (.bool false) M') (k2 : x.l.length < x.room → ∀ M', Hp R (ay fu b ⟨x.room, x.l ++ [v]⟩ :: L') M' → K (.bool true) M') :
  aa Tryz.prog 184 #[.pointer (some ⟨b, 0, none⟩), .int .i64 v] M K Kp := by
 refine uT ?_
 have h' := kU h (b := b)
 clear h
 obtain ⟨A, c, head, slots, ok, h⟩ := h'
 have ok0 := ok
 obtain ⟨h1, h2, h3, h4, h5, h6⟩ := ok0
 repeat (first|(refine aj h ?_;clear h;intro kb M h)|(refine au h ?_;clear h;intro M h)|refine St.to h ?_|(apply Exists.intro;(repeat apply Exists.intro);refine And.intro rfl ?_)|refine av ?_|refine ai ?_|refine ae ?_)
 refine aY.2 ⟨fun e => ?_, fun e => ?_⟩
 ·exact k1 (by omega) _ (vl ok h)
 ·have hlt : x.l.length < x.room := by omega
  repeat (first|(refine aj h ?_;clear h;intro kb M h)|(refine au h ?_;clear h;intro M h)|refine St.to h ?_|(apply Exists.intro;(repeat apply Exists.intro);refine And.intro rfl ?_)|refine av ?_|refine ai ?_|refine ae ?_)
  have e1 : IntKind.wrap .i64 ((head : Int) + (x.l.length : Int)) = ((head + x.l.length : Nat) : Int) := wn (by simp) (by omega)
  rw [e1, uu]
  have hm := Nat.mod_lt (head + x.l.length) h2
  obtain ⟨b2, rfl⟩ := h.bM (A := A) (by omega) (by decide)
  obtain ⟨w, hw⟩ := aU (l := slots) (i := (head + x.l.length) % x.room) (by omega)
  repeat (first|(refine aj h ?_;clear h;intro kb M h)|(refine au h ?_;clear h;intro M h)|refine St.to h ?_|(apply Exists.intro;(repeat apply Exists.intro);refine And.intro rfl ?_)|refine av ?_|refine ai ?_|refine ae ?_)
  simp only [Int.toNat_natCast]
  refine iR (a' := v) ((head + x.l.length) % x.room) 0 h hw (by decide) rfl (by simp [bl]) ?_
  clear h; intro M h
  repeat (first|(refine aj h ?_;clear h;intro kb M h)|(refine au h ?_;clear h;intro M h)|refine St.to h ?_|(apply Exists.intro;(repeat apply Exists.intro);refine And.intro rfl ?_)|refine av ?_|refine ai ?_|refine ae ?_)
  have e2 : IntKind.wrap .i64 ((x.l.length : Int) + 1) = ((x.l.length + 1 : Nat) : Int) := aW (by omega)
  rw [e2] at h
  refine k2 hlt _ (vl (x := ⟨x.room, x.l ++ [v]⟩) (head := head) (slots := slots.set ((head + x.l.length) % x.room) v) ⟨by simpa using h1, h2, h3, h4, by simp; omega, fun i u hu => ?_⟩ (by simpa using h.sub br))
  dsimp only at hu ⊢
  rcases Nat.lt_or_ge i x.l.length with hi | hi
  ·rw [List.getElem?_append_left hi] at hu
   have hne : (head + i) % x.room ≠ (head + x.l.length) % x.room := by
    intro he
    have a1 : (head + i) % x.room = if head + i < x.room then head + i else head + i - x.room := by
     split
     ·exact Nat.mod_eq_of_lt (by omega)
     ·rw [Nat.mod_eq_sub_mod (by omega)]; exact Nat.mod_eq_of_lt (by omega)
    have a2 : (head + x.l.length) % x.room = if head + x.l.length < x.room then head + x.l.length else head + x.l.length - x.room := by
     split
     ·exact Nat.mod_eq_of_lt (by omega)
     ·rw [Nat.mod_eq_sub_mod (by omega)]; exact Nat.mod_eq_of_lt (by omega)
    rw [a1, a2] at he
    split at he <;> split at he <;> omega
   rw [List.getElem?_set_ne (Ne.symm hne)]
   exact h6 i u hu
  ·rw [List.getElem?_append_right hi] at hu
   have : i = x.l.length := by
    have := (List.getElem?_eq_some_iff.1 hu).1
    simp at this; omega
   subst this
   simp at hu; subst hu
   rw [List.getElem?_set_self (by omega)]
theorem Fk (h : Hp R L M) [o : cq fu b L x L'] (k1 : x.l = [] → ∀ M', Hp R (ay fu b x :: L') M' → K (.tuple #[.int .i64 0, .bool false]) M')
  (k2 : ∀ v l, x.l = v :: l → ∀ M', Hp R (ay fu b ⟨x.room, l⟩ :: L') M' → K (.tuple #[.int .i64 v, .bool true]) M') :
  aa Tryz.prog 177 #[.pointer (some ⟨b, 0, none⟩)] M K Kp := by
 refine wM ?_
 have h' := kU h (b := b)
 clear h
 obtain ⟨A, c, head, slots, ok, h⟩ := h'
 have ok0 := ok
 obtain ⟨h1, h2, h3, h4, h5, h6⟩ := ok0
 obtain ⟨room, l⟩ := x
 dsimp only at *
 repeat (first|(refine aj h ?_;clear h;intro kb M h)|(refine au h ?_;clear h;intro M h)|refine St.to h ?_|(apply Exists.intro;(repeat apply Exists.intro);refine And.intro rfl ?_)|refine av ?_|refine ai ?_|refine ae ?_)
 refine aY.2 ⟨fun e => ?_, fun e => ?_⟩
 ·exact k1 (List.length_eq_zero_iff.1 (by omega)) _ (vl ok h)
 ·cases l with
  | nil => simp at e
  | cons v l =>
  have hv := h6 0 v rfl
  rw [Nat.add_zero, Nat.mod_eq_of_lt h4] at hv
  obtain ⟨b2, rfl⟩ := h.bM (A := A) (by omega) (by decide)
  have s0 := h.src (A := some ⟨b2, 0, none⟩)
  repeat (first|(refine aj h ?_;clear h;intro kb M h)|(refine au h ?_;clear h;intro M h)|refine St.to h ?_|(apply Exists.intro;(repeat apply Exists.intro);refine And.intro rfl ?_)|refine av ?_|refine ai ?_|refine ae ?_)
  simp only [Int.toNat_natCast]
  refine be (s0.at h (i := head) (j := 0) hv rfl (by simp [bl])) ?_
  repeat (first|(refine aj h ?_;clear h;intro kb M h)|(refine au h ?_;clear h;intro M h)|refine St.to h ?_|(apply Exists.intro;(repeat apply Exists.intro);refine And.intro rfl ?_)|refine av ?_|refine ai ?_|refine ae ?_)
  have e1 : IntKind.wrap .i64 ((head : Int) + 1) = ((head + 1 : Nat) : Int) := aW (by omega)
  rw [e1, uu] at h
  have e2 : IntKind.wrap .i64 ((((v :: l).length : Nat) : Int) - 1) = ((l.length : Nat) : Int) := by rw [lX (by simp only [List.length_cons]; omega) (by simp only [List.length_cons] at h5 ⊢; omega)]; simp
  rw [e2] at h
  have h5' : l.length + 1 ≤ room := by simpa using h5
  refine k2 v l rfl _ (vl (x := ⟨room, l⟩) (head := (head + 1) % room) (slots := slots) ⟨h1, h2, h3, Nat.mod_lt _ h2, by dsimp only; omega, fun i u hu => ?_⟩ (h.sub br))
  dsimp only at hu ⊢
  have := h6 (i + 1) u (by simpa using hu)
  rw [Nat.mod_add_mod, ← this]
  congr 2; omega
theorem Cc {n : Int} (h : Hp R L M) [o : cq fu b L x L'] (k : ∀ A c M', Hp R (bE bl 3 A c (x.l.take n.toNat) :: ay fu b ⟨x.room, x.l.drop n.toNat⟩ :: L') M' → K (.slice A (x.l.take n.toNat).length c) M') :
  aa Tryz.prog 182 #[.pointer (some ⟨b, 0, none⟩), .int .i64 n] M K Kp := by
 replace h := h.front fu b
 have hx : x.l.length ≤ 1024 := by
  obtain ⟨A, c, head, slots, ok, _⟩ := kU h (b := b)
  have := ok.2.2.1; have := ok.2.2.2.2.1; omega
 refine uR ⟨fun d ws M => ∃ (i : Nat) (A : Option Addr) (c : Nat), ws = [.slice A (x.l.take i).length c] ∧ d = n.toNat - i ∧ i ≤ n.toNat ∧ i ≤ x.l.length ∧
  Hp R (bE bl 3 A c (x.l.take i) :: ay fu b ⟨x.room, x.l.drop i⟩ :: L') M, ⟨_, 0, none, 0, rfl, rfl, by omega, by omega, h.bY _ _⟩, ?_⟩
 clear h
 rintro d _ A n1 c M ⟨i, _, _, he, hd, hi, hil, h⟩
 simp only [List.cons.injEq, Value.slice.injEq, and_true, true_and] at he
 obtain ⟨rfl, rfl, rfl⟩ := he
 have hlen : (x.l.take i).length = i := by rw [List.length_take]; omega
 refine aN.2 ⟨fun hlt => ?_, fun hge => ?_⟩
 ·refine Fk h (fun e M' h' => ?_) fun v l e M' h' => ?_
  ·repeat (first|(refine aj h ?_;clear h;intro kb M h)|(refine au h ?_;clear h;intro M h)|refine St.to h ?_|(apply Exists.intro;(repeat apply Exists.intro);refine And.intro rfl ?_)|refine av ?_|refine ai ?_|refine ae ?_)
   have : x.l.length ≤ i := by
    have := congrArg List.length e; simp at this; omega
   rw [List.take_of_length_le this] at h' ⊢
   rw [List.drop_of_length_le this] at h'
   have h1 : x.l.take n.toNat = x.l := List.take_of_length_le (by omega)
   have h2 : x.l.drop n.toNat = [] := List.drop_of_length_le (by omega)
   rw [h1, h2] at k
   exact k _ _ _ h'.swap
  ·clear h
   have h := h'.swap
   clear h'
   dsimp only at e
   have hv : x.l[i]? = some v := by
    have := congrArg (fun l => l[0]?) e
    simpa using this
   have e3 : x.l.drop (i + 1) = l := by
    have := congrArg (List.drop 1) e
    simpa using this
   repeat (first|(refine aj h ?_;clear h;intro kb M h)|(refine au h ?_;clear h;intro M h)|refine St.to h ?_|(apply Exists.intro;(repeat apply Exists.intro);refine And.intro rfl ?_)|refine av ?_|refine ai ?_|refine ae ?_)
   refine h.aT qU [v] rfl rfl (by simp; omega) ?_
   clear h
   intro A' c' M h
   repeat (first|(refine aj h ?_;clear h;intro kb M h)|(refine au h ?_;clear h;intro M h)|refine St.to h ?_|(apply Exists.intro;(repeat apply Exists.intro);refine And.intro rfl ?_)|refine av ?_|refine ai ?_|refine ae ?_)
   rw [← eo hv] at h ⊢
   have lD := (List.getElem?_eq_some_iff.1 hv).1
   refine ⟨n.toNat - (i + 1), by omega, i + 1, A', c', rfl, rfl, by omega, by omega, ?_⟩
   rw [e3]; exact h.sub br
 ·obtain rfl : i = n.toNat := by omega
  exact k _ _ _ h
end
structure Loc where
 next : Int
 room : Nat
 l : List Int
def Loc.put (x : Loc) (v : Int) (g : List Int) : Loc × List Int × Nat :=
 if x.l.length < x.room then ({ x with l := x.l ++ [v] }, g, 0) else ({ x with l := x.l.drop (x.l.length / 2) }, g ++ (x.l.take (x.l.length / 2) ++ [v]), x.l.length / 2 + 1)
def Loc.ready (x : Loc) (v : Int) (g : List Int) : Loc × List Int × Nat := if x.next = -1 then ({ x with next := v }, g, 0) else ({ x with next := v } : Loc).put x.next g
def Loc.get (x : Loc) : Loc × Int := if x.next ≠ -1 then ({ x with next := -1 }, x.next) else match x.l with
 | [] => (x, -1)
 | v :: l => ({ x with l := l }, v)
def Loc.gR (x : Loc) (g : List Int) : Loc × List Int × Nat := if x.next = -1 then (x, g, 0) else ({ x with next := -1 } : Loc).put x.next g
def Loc.dG (x : Loc) (g : List Int) (p : Int) : Nat := if p < 1 then 1 else min (g.length / p.toNat + 1) (x.room - x.l.length + 1)
def Loc.fx (x : Loc) (g : List Int) (p : Int) : Loc × List Int × Int := match g.take (x.dG g p) with
 | [] => (x, g, -1)
 | v :: out => ({ x with l := x.l ++ out }, g.drop (x.dG g p), v)
def Loc.gX (x f : Loc) : Nat := min (f.l.length - f.l.length / 2) (x.room - x.l.length + 1)
def Loc.dQ (x f : Loc) : Loc × Loc × Int := match f.l.take (x.gX f) with
 | [] => (x, { f with next := -1 }, f.next)
 | v :: out => ({ x with l := x.l ++ out }, { f with l := f.l.drop (x.gX f) }, v)
def Loc.Ok (x : Loc) : Prop := x.l.length ≤ x.room ∧ x.room ≤ 1024 ∧ 0 < x.room
def bP : tj Loc := ⟨fun b x => exs fun rb : Nat => sep [pt b [.int .i64 x.next, .pointer (some ⟨rb, 0, none⟩)] 237, ay fu rb ⟨x.room, x.l⟩]⟩
structure SQ (gb go : Nat) (P : Option Addr → Nat → Nat → HP) : Prop where
 HB : ∀ (R : Mem) (L : List HP) (M : Mem) (A : Option Addr) (n c : Nat), Hp R (P A n c :: L) M → M.ld ⟨gb, go, none⟩ = some (.slice A n c)
 ZM : ∀ (R : Mem) (L : List HP) (M : Mem) (A A' : Option Addr) (n c n' c' : Nat) (G : Mem → Prop), Hp R (P A n c :: L) M → (∀ M', Hp R (P A' n' c' :: L) M' → G M') → aM M ⟨gb, go, none⟩ (.slice A' n' c') G
def fX (P : Option Addr → Nat → Nat → HP) (l : List Int) : HP := exs fun A : Option Addr => exs fun c : Nat => sep [P A l.length c, bE bl 3 A c l]
class tU (P : Option Addr → Nat → Nat → HP) (L : List HP) (g : outParam (List Int)) (L' : outParam (List HP)) : Prop where
 pick : dc L (fX P g) L'
instance tU.here {P : Option Addr → Nat → Nat → HP} {g : List Int} {L : List HP} : tU P (fX P g :: L) g L := ⟨.here⟩
instance (priority := low) tU.there {P : Option Addr → Nat → Nat → HP} {g : List Int} {Q : HP} {L L' : List HP} [h : tU P L g L'] : tU P (Q :: L) g (Q :: L') := ⟨.there h.pick⟩
section
variable {R : Mem} {L L' nJ : List HP} {M : Mem} {K : Value → Mem → Prop} {Kp : List PanicEntry → Mem → Prop} {b gb go b' : Nat} {P : Option Addr → Nat → Nat → HP} {x f : Loc} {g : List Int}
theorem jg (h : Hp R L M) [o : cq bP b L x L'] : ∃ rb, Hp R (pt b [.int .i64 x.next, .pointer (some ⟨rb, 0, none⟩)] 237 :: ay fu rb ⟨x.room, x.l⟩ :: L') M := by
 have := h.obj bP b
 simpa only [bP, Hp.de, Hp.aS, List.cons_append, List.nil_append] using this
theorem VX {rb : Nat} (h : Hp R (pt b [.int .i64 x.next, .pointer (some ⟨rb, 0, none⟩)] 237 :: ay fu rb ⟨x.room, x.l⟩ :: L) M) : Hp R (ay bP b x :: L) M := by
 refine Hp.wg ?_
 simp only [bP, Hp.de, Hp.aS, List.cons_append, List.nil_append]
 exact ⟨_, h⟩
theorem cJ {next : Int} {rb room : Nat} {l : List Int} {L1 L2 : List HP} (h : Hp R L M) (b : Nat) [p : jY b L [.int .i64 next, .pointer (some ⟨rb, 0, none⟩)] 237 L1] [o : cq fu rb L1 ⟨room, l⟩ L2] : Hp R (ay bP b ⟨next, room, l⟩ :: L2) M :=
 VX (h.sub (.cons p.pick (.cons o.pick .refl)))
theorem jI (h : Hp R L M) [o : tU P L g L'] : ∃ A c, Hp R (P A g.length c :: bE bl 3 A c g :: L') M := by
 have := h.pick o.pick
 simpa only [fX, Hp.de, Hp.aS, List.cons_append, List.nil_append] using this
theorem I7 {A : Option Addr} {c n : Nat} (h : Hp R (P A n c :: bE bl 3 A c g :: L) M) (e : n = g.length := by first | rfl | simp) : Hp R (fX P g :: L) M := by
 subst e
 simp only [fX, Hp.de, Hp.aS, List.cons_append, List.nil_append]
 exact ⟨_, _, h⟩
theorem Q8 {rb : Nat} {r : Rg} (h : Hp R L M) [o : cq fu rb L r L'] : r.l.length ≤ r.room ∧ r.room ≤ 1024 ∧ 0 < r.room := by
 obtain ⟨A, c, head, slots, ok, _⟩ := kU h (b := rb)
 exact ⟨ok.2.2.2.2.1, ok.2.2.1, ok.2.1⟩
theorem wX (h : Hp R L M) [o : cq bP b L x L'] : x.Ok := by
 obtain ⟨rb, h2⟩ := jg h (b := b)
 exact Q8 (rb := rb) h2
theorem Cd {room : Int} (h : Hp R L M) (k : ∀ b M', Hp R (ay bP b ⟨-1, fa room, []⟩ :: L) M' → K (.pointer (some ⟨b, 0, none⟩)) M') : aa Tryz.prog 57 #[.int .i64 room] M K Kp := by
 refine Db ?_
 refine Of h ?_
 clear h
 intro rb M h
 repeat (first|(refine aj h ?_;clear h;intro kb M h)|(refine au h ?_;clear h;intro M h)|refine St.to h ?_|(apply Exists.intro;(repeat apply Exists.intro);refine And.intro rfl ?_)|refine av ?_|refine ai ?_|refine ae ?_)
 exact k _ _ (cJ h kb)
theorem HC (h : Hp R L M) [o : cq bP b L x L'] (k : K (.int .i64 x.next) M) : aa Tryz.prog 148 #[.pointer (some ⟨b, 0, none⟩)] M K Kp := by
 refine si ?_
 have h' := jg h (b := b)
 clear h
 obtain ⟨rb, h⟩ := h'
 repeat (first|(refine aj h ?_;clear h;intro kb M h)|(refine au h ?_;clear h;intro M h)|refine St.to h ?_|(apply Exists.intro;(repeat apply Exists.intro);refine And.intro rfl ?_)|refine av ?_|refine ai ?_|refine ae ?_)
 exact k
theorem HD (D : SQ gb go P) (h : Hp R L M) [o : tU P L g L'] (k : K (.int .i64 (g.length : Int)) M) : aa Tryz.prog 202 #[.pointer (some ⟨gb, go, none⟩)] M K Kp := by
 refine so ?_
 have h' := jI h (P := P)
 clear h
 obtain ⟨A, c, h⟩ := h'
 rw [D.HB _ _ _ _ _ _ h]
 exact aQ k
theorem oc (D : SQ gb go P) {B : Option Addr} {n c : Nat} {l : List Int} (h : Hp R L M) [o : tU P L g L'] (hB : Src R L' B (bl.cells l)) (hn : n = l.length) (hs : g.length + l.length ≤ 1000000000) (k : ∀ M', Hp R (fX P (g ++ l) :: L') M' → K (.tuple #[]) M') :
  aa Tryz.prog 58 #[.pointer (some ⟨gb, go, none⟩), .slice B n c] M K Kp := by
 refine sg ?_
 have h' := jI h (P := P)
 clear h
 obtain ⟨A, cg, h⟩ := h'
 rw [D.HB _ _ _ _ _ _ h]
 refine aQ ?_
 refine h.JY (A := A) (r := l) qU hB.cons.cons hn (by omega) ?_
 clear h
 intro A' c' M h
 refine aQ ?_
 refine D.ZM _ _ _ _ _ _ _ _ _ _ h.swap ?_
 clear h; intro M h
 exact k _ (I7 h)
theorem qp (D : SQ gb go P) {n : Int} (h : Hp R L M) [o : tU P L g L'] (hs : g.length ≤ 1000000000) (k : ∀ A c M', Hp R (bE bl 3 A c (g.take n.toNat) :: fX P (g.drop n.toNat) :: L') M' → K (.slice A (g.take n.toNat).length c) M') :
  aa Tryz.prog 179 #[.pointer (some ⟨gb, go, none⟩), .int .i64 n] M K Kp := by
 refine qe ?_
 have h' := jI h (P := P)
 clear h
 obtain ⟨A, cg, h⟩ := h'
 have hcap := h.jZ A
 have e : (if ((g.length : Nat) : Int) < (if (0 : Int) > n then 0 else n) then ((g.length : Nat) : Int) else (if (0 : Int) > n then 0 else n)) = ((min n.toNat g.length : Nat) : Int) := by split <;> split <;> omega
 have hq : g.take n.toNat = g.take (min n.toNat g.length) ∧ g.drop n.toNat = g.drop (min n.toNat g.length) := by
  rcases Nat.le_total n.toNat g.length with hl | hl
  ·rw [Nat.min_eq_left hl]; exact ⟨rfl, rfl⟩
  ·rw [Nat.min_eq_right hl, List.take_of_length_le hl, List.drop_of_length_le hl]; simp
 rw [hq.1, hq.2] at k
 have hql : min n.toNat g.length ≤ g.length := Nat.min_le_right ..
 rw [D.HB _ _ _ _ _ _ h]
 refine aQ ?_
 rw [e]
 generalize min n.toNat g.length = q at *
 have el : (g.take q).length = q := by rw [List.length_take]; omega
 refine aj h ?_
 clear h; intro kb M h
 rw [D.HB _ _ _ _ _ _ h.swap]
 refine aQ ?_
 simp only [Int.toNat_natCast, Nat.sub_zero]
 refine ⟨by omega, by omega, by omega, by omega, by omega, by omega, ?_⟩
 refine h.lY bl qU (g.take q) (Src.pre1 (h.src (A := A)) hcap q) (by rw [el]) (by rw [el]; omega) ?_
 clear h
 intro A' c' M h
 refine aQ ?_
 refine aj h ?_
 clear h; intro kb2 M h
 replace h : Hp R (P A g.length cg :: bE bl 3 A cg g :: pt kb2 [] 3 :: bE bl 3 A' c' (g.take q) :: L') M := h.sub br
 rw [D.HB _ _ _ _ _ _ h]
 refine aQ ?_
 refine ⟨by omega, by omega, by omega, by omega, by omega, by omega, ?_⟩
 refine h.lY bl qU (g.drop q) (Src.Q2 (h.src (A := A)) hcap q) (by rw [List.length_drop]) (by rw [List.length_drop]; omega) ?_
 clear h
 intro A2 c2 M h
 refine aQ ?_
 replace h : Hp R (P A g.length cg :: bE bl 3 A2 c2 (g.drop q) :: bE bl 3 A' c' (g.take q) :: L') M := h.sub br
 refine D.ZM _ _ _ _ _ _ _ _ _ _ h ?_
 clear h; intro M h
 rw [← el]
 rw [el]
 exact k _ _ _ ((I7 (P := P) h).swap)
theorem Ce (D : SQ gb go P) {v : Int} (h : Hp R L M) [o : cq bP b L x L'] [og : tU P L' g nJ] (hs : g.length ≤ 100000000)
  (k : ∀ M', Hp R (ay bP b (x.put v g).1 :: fX P (x.put v g).2.1 :: nJ) M' → K (.int .i64 ((x.put v g).2.2 : Int)) M') :
  aa Tryz.prog 185 #[.pointer (some ⟨b, 0, none⟩), .int .i64 v, .pointer (some ⟨gb, go, none⟩)] M K Kp := by
 have bd := wX h (b := b)
 have h0 : Hp R (ay bP b x :: fX P g :: nJ) M := (h.pick o.pick).map fun _ hs => hs.tail (fun _ => b6.pick og.pick)
 clear h
 have h := h0
 clear h0
 refine tO ?_
 have h' := jg h (b := b)
 clear h
 obtain ⟨rb, h⟩ := h'
 repeat (first|(refine aj h ?_;clear h;intro kb M h)|(refine au h ?_;clear h;intro M h)|refine St.to h ?_|(apply Exists.intro;(repeat apply Exists.intro);refine And.intro rfl ?_)|refine av ?_|refine ai ?_|refine ae ?_)
 refine qV h (fun e M' h' => ?_) fun e M' h' => ?_
 ·clear h
  have h := h'
  clear h'
  dsimp only at e
  have hp : x.put v g = ({ x with l := x.l.drop (x.l.length / 2) }, g ++ (x.l.take (x.l.length / 2) ++ [v]), x.l.length / 2 + 1) := by unfold Loc.put; rw [if_neg (by omega)]
  rw [hp] at k
  repeat (first|(refine aj h ?_;clear h;intro kb M h)|(refine au h ?_;clear h;intro M h)|refine St.to h ?_|(apply Exists.intro;(repeat apply Exists.intro);refine And.intro rfl ?_)|refine av ?_|refine ai ?_|refine ae ?_)
  refine vn h ?_
  repeat (first|(refine aj h ?_;clear h;intro kb M h)|(refine au h ?_;clear h;intro M h)|refine St.to h ?_|(apply Exists.intro;(repeat apply Exists.intro);refine And.intro rfl ?_)|refine av ?_|refine ai ?_|refine ae ?_)
  have e2 : IntKind.wrap .i64 (Int.tdiv (x.l.length : Int) 2) = ((x.l.length / 2 : Nat) : Int) := wn rfl (by have := bd.1; have := bd.2.1; omega)
  simp only [e2]
  refine Cc h ?_
  clear h
  intro A c M h
  simp only [Int.toNat_natCast] at h ⊢
  repeat (first|(refine aj h ?_;clear h;intro kb M h)|(refine au h ?_;clear h;intro M h)|refine St.to h ?_|(apply Exists.intro;(repeat apply Exists.intro);refine And.intro rfl ?_)|refine av ?_|refine ai ?_|refine ae ?_)
  have htl : (x.l.take (x.l.length / 2)).length = x.l.length / 2 := by rw [List.length_take]; omega
  refine h.aT qU [v] rfl rfl (by have := bd.2.1; have := bd.1; simp; omega) ?_
  clear h
  intro A' c' M h
  repeat (first|(refine aj h ?_;clear h;intro kb M h)|(refine au h ?_;clear h;intro M h)|refine St.to h ?_|(apply Exists.intro;(repeat apply Exists.intro);refine And.intro rfl ?_)|refine av ?_|refine ai ?_|refine ae ?_)
  replace h := h.sub (show Sub _ (fX P g :: bE bl 3 A' c' (x.l.take (x.l.length / 2) ++ [v]) :: ay fu rb ⟨x.room, x.l.drop (x.l.length / 2)⟩ :: pt b [.int .i64 x.next, .pointer (some ⟨rb, 0, none⟩)] 237 :: nJ) from br)
  refine oc D h Src.row rfl (by have := bd.2.1; have := bd.1; simp; omega) ?_
  clear h
  intro M h
  repeat (first|(refine aj h ?_;clear h;intro kb M h)|(refine au h ?_;clear h;intro M h)|refine St.to h ?_|(apply Exists.intro;(repeat apply Exists.intro);refine And.intro rfl ?_)|refine av ?_|refine ai ?_|refine ae ?_)
  have e3 : (((x.l.take (x.l.length / 2) ++ [v]).length : Nat) : Int) = ((x.l.length / 2 + 1 : Nat) : Int) := by simp; omega
  rw [e3]
  exact k _ ((cJ h b).sub br)
 ·clear h
  have h := h'
  clear h'
  dsimp only at e
  have hp : x.put v g = ({ x with l := x.l ++ [v] }, g, 0) := by unfold Loc.put; rw [if_pos e]
  rw [hp] at k
  repeat (first|(refine aj h ?_;clear h;intro kb M h)|(refine au h ?_;clear h;intro M h)|refine St.to h ?_|(apply Exists.intro;(repeat apply Exists.intro);refine And.intro rfl ?_)|refine av ?_|refine ai ?_|refine ae ?_)
  exact k _ ((cJ h b).sub br)
theorem Ds (h : Hp R L M) [o : cq bP b L x L'] [og : tU P L' g nJ] : Hp R (ay bP b x :: fX P g :: nJ) M := (h.pick o.pick).map fun _ hs => hs.tail (fun _ => b6.pick og.pick)
theorem Fl (D : SQ gb go P) {v : Int} (h : Hp R L M) [o : cq bP b L x L'] [og : tU P L' g nJ] (hs : g.length ≤ 100000000)
  (k : ∀ M', Hp R (ay bP b (x.ready v g).1 :: fX P (x.ready v g).2.1 :: nJ) M' → K (.int .i64 ((x.ready v g).2.2 : Int)) M') :
  aa Tryz.prog 152 #[.pointer (some ⟨b, 0, none⟩), .int .i64 v, .pointer (some ⟨gb, go, none⟩)] M K Kp := by
 replace h := Ds (P := P) h (b := b)
 refine qd ?_
 have h' := jg h (b := b)
 clear h
 obtain ⟨rb, h⟩ := h'
 repeat (first|(refine aj h ?_;clear h;intro kb M h)|(refine au h ?_;clear h;intro M h)|refine St.to h ?_|(apply Exists.intro;(repeat apply Exists.intro);refine And.intro rfl ?_)|refine av ?_|refine ai ?_|refine ae ?_)
 refine aY.2 ⟨fun e => ?_, fun e => ?_⟩
 ·have hp : x.ready v g = ({ x with next := v }, g, 0) := by unfold Loc.ready; rw [if_pos e]
  rw [hp] at k
  repeat (first|(refine aj h ?_;clear h;intro kb M h)|(refine au h ?_;clear h;intro M h)|refine St.to h ?_|(apply Exists.intro;(repeat apply Exists.intro);refine And.intro rfl ?_)|refine av ?_|refine ai ?_|refine ae ?_)
  exact k _ ((cJ h b).sub br)
 ·have hp : x.ready v g = ({ x with next := v } : Loc).put x.next g := by unfold Loc.ready; rw [if_neg e]
  rw [hp] at k
  replace h := cJ h b
  refine Ce D h hs ?_
  clear h
  intro M h
  repeat (first|(refine aj h ?_;clear h;intro kb M h)|(refine au h ?_;clear h;intro M h)|refine St.to h ?_|(apply Exists.intro;(repeat apply Exists.intro);refine And.intro rfl ?_)|refine av ?_|refine ai ?_|refine ae ?_)
  exact k _ h
theorem HE (D : SQ gb go P) (h : Hp R L M) [o : cq bP b L x L'] [og : tU P L' g nJ] (hs : g.length ≤ 100000000)
  (k : ∀ M', Hp R (ay bP b (x.gR g).1 :: fX P (x.gR g).2.1 :: nJ) M' → K (.int .i64 ((x.gR g).2.2 : Int)) M') :
  aa Tryz.prog 178 #[.pointer (some ⟨b, 0, none⟩), .pointer (some ⟨gb, go, none⟩)] M K Kp := by
 replace h := Ds (P := P) h (b := b)
 refine sk ?_
 have h' := jg h (b := b)
 clear h
 obtain ⟨rb, h⟩ := h'
 repeat (first|(refine aj h ?_;clear h;intro kb M h)|(refine au h ?_;clear h;intro M h)|refine St.to h ?_|(apply Exists.intro;(repeat apply Exists.intro);refine And.intro rfl ?_)|refine av ?_|refine ai ?_|refine ae ?_)
 refine aY.2 ⟨fun e => ?_, fun e => ?_⟩
 ·have hp : x.gR g = (x, g, 0) := by unfold Loc.gR; rw [if_pos e]
  rw [hp] at k
  exact k _ ((cJ h b).sub br)
 ·have hp : x.gR g = ({ x with next := -1 } : Loc).put x.next g := by unfold Loc.gR; rw [if_neg e]
  rw [hp] at k
  repeat (first|(refine aj h ?_;clear h;intro kb M h)|(refine au h ?_;clear h;intro M h)|refine St.to h ?_|(apply Exists.intro;(repeat apply Exists.intro);refine And.intro rfl ?_)|refine av ?_|refine ai ?_|refine ae ?_)
  replace h := cJ h b
  refine Ce D h hs ?_
  clear h
  intro M h
  repeat (first|(refine aj h ?_;clear h;intro kb M h)|(refine au h ?_;clear h;intro M h)|refine St.to h ?_|(apply Exists.intro;(repeat apply Exists.intro);refine And.intro rfl ?_)|refine av ?_|refine ai ?_|refine ae ?_)
  exact k _ h
theorem Cf (h : Hp R L M) [o : cq bP b L x L']
  (k : ∀ t M', (x.get.2 = -1 → x.next = -1 → x.l = [] → t = false) → (x.next ≠ -1 ∨ x.l ≠ [] → t = true) → Hp R (ay bP b x.get.1 :: L') M' → K (.tuple #[.int .i64 x.get.2, .bool t]) M') :
  aa Tryz.prog 149 #[.pointer (some ⟨b, 0, none⟩)] M K Kp := by
 refine tN ?_
 have h' := jg h (b := b)
 clear h
 obtain ⟨rb, h⟩ := h'
 obtain ⟨next, room, l⟩ := x
 dsimp only at h
 repeat (first|(refine aj h ?_;clear h;intro kb M h)|(refine au h ?_;clear h;intro M h)|refine St.to h ?_|(apply Exists.intro;(repeat apply Exists.intro);refine And.intro rfl ?_)|refine av ?_|refine ai ?_|refine ae ?_)
 refine dJ.2 ⟨fun e => ?_, fun e => ?_⟩
 ·have hp : (Loc.mk next room l).get = (⟨-1, room, l⟩, next) := by unfold Loc.get; dsimp only; rw [if_pos e]
  rw [hp] at k
  repeat (first|(refine aj h ?_;clear h;intro kb M h)|(refine au h ?_;clear h;intro M h)|refine St.to h ?_|(apply Exists.intro;(repeat apply Exists.intro);refine And.intro rfl ?_)|refine av ?_|refine ai ?_|refine ae ?_)
  exact k true _ (fun _ h2 => absurd h2 e) (fun _ => rfl) ((cJ h b).sub br)
 ·repeat (first|(refine aj h ?_;clear h;intro kb M h)|(refine au h ?_;clear h;intro M h)|refine St.to h ?_|(apply Exists.intro;(repeat apply Exists.intro);refine And.intro rfl ?_)|refine av ?_|refine ai ?_|refine ae ?_)
  refine Fk h (fun e2 M' h' => ?_) fun v l2 e2 M' h' => ?_
  ·dsimp only at e2
   subst e2
   have hp : (Loc.mk next room []).get = (⟨next, room, []⟩, -1) := by unfold Loc.get; dsimp only; rw [if_neg (by simpa using e)]
   rw [hp] at k
   repeat (first|(refine aj h ?_;clear h;intro kb M h)|(refine au h ?_;clear h;intro M h)|refine St.to h ?_|(apply Exists.intro;(repeat apply Exists.intro);refine And.intro rfl ?_)|refine av ?_|refine ai ?_|refine ae ?_)
   exact k false _ (fun _ _ _ => rfl) (fun hx => by rcases hx with hx | hx; exact absurd e hx; exact absurd rfl hx) ((cJ h' b).sub br)
  ·dsimp only at e2
   subst e2
   have hp : (Loc.mk next room (v :: l2)).get = (⟨next, room, l2⟩, v) := by unfold Loc.get; dsimp only; rw [if_neg (by simpa using e)]
   rw [hp] at k
   repeat (first|(refine aj h ?_;clear h;intro kb M h)|(refine au h ?_;clear h;intro M h)|refine St.to h ?_|(apply Exists.intro;(repeat apply Exists.intro);refine And.intro rfl ?_)|refine av ?_|refine ai ?_|refine ae ?_)
   exact k true _ (fun _ _ hx => by simp at hx) (fun _ => rfl) ((cJ h' b).sub br)
end
section
variable {R : Mem} {L L' nJ : List HP} {M : Mem} {K : Value → Mem → Prop} {Kp : List PanicEntry → Mem → Prop} {b gb go b' : Nat} {P : Option Addr → Nat → Nat → HP} {x f : Loc} {g : List Int}
theorem VY {b b' T T' : Nat} {cs cs' : List Value} (h : Hp R (pt b cs T :: L) M) [p : jY b' L cs' T' L'] : b ≠ b' := by
 rintro rfl
 have h2 : Hp R (pt b cs T :: pt b cs' T' :: L') M := h.map fun _ hs => hs.tail fun _ => b6.pick p.pick
 obtain ⟨B, rfl, h1, X, Y, rfl, h2, hp, X2, Y2, rfl, h3, hp2, hs⟩ := h2
 unfold AF.pt at hp hp2
 rcases h2 b with h | h
 ·rw [hp] at h; cases h
 ·rw [Mem.union_left hp2] at h; cases h
theorem VZ {a : Addr} {b : Nat} {G : Bool → Prop} (hne : a.block ≠ b) (h1 : kZ M a.block) (h2 : kZ M b) (g : G false) : ptrEq M (some a) (some ⟨b, 0, none⟩) G :=
 ⟨fun e => absurd (by rw [e]) hne, fun _ => ⟨.inr ⟨h1, h2⟩, g⟩⟩
theorem Fm {b T : Nat} {cs : List Value} (h : Hp R L M) [p : jY b L cs T L'] : kZ M b := ⟨_, _, (h.pick p.pick).zi⟩
theorem Fo (D : SQ gb go P) {p : Int} (h : Hp R L M) [o : cq bP b L x L'] [og : tU P L' g nJ] (hs : g.length ≤ 100000000) (hp9 : p < 9223372036854775808)
  (k : ∀ t M', ((x.fx g p).2.2 = -1 → g = [] → t = false) → (g ≠ [] → t = true) → Hp R (ay bP b (x.fx g p).1 :: fX P (x.fx g p).2.1 :: nJ) M' → K (.tuple #[.int .i64 (x.fx g p).2.2, .bool t]) M') :
  aa Tryz.prog 180 #[.pointer (some ⟨b, 0, none⟩), .pointer (some ⟨gb, go, none⟩), .int .i64 p] M K Kp := by
 have bd := wX h (b := b)
 obtain ⟨bd1, bd2, bd3⟩ := bd
 replace h := Ds (P := P) h (b := b)
 refine qf ?_
 have h' := jg h (b := b)
 clear h
 obtain ⟨rb, h⟩ := h'
 repeat (first|(refine aj h ?_;clear h;intro kb M h)|(refine au h ?_;clear h;intro M h)|refine St.to h ?_|(apply Exists.intro;(repeat apply Exists.intro);refine And.intro rfl ?_)|refine av ?_|refine ai ?_|refine ae ?_)
 refine HD D h ?_
 repeat (first|(refine aj h ?_;clear h;intro kb M h)|(refine au h ?_;clear h;intro M h)|refine St.to h ?_|(apply Exists.intro;(repeat apply Exists.intro);refine And.intro rfl ?_)|refine av ?_|refine ai ?_|refine ae ?_)
 refine Cb h ?_
 repeat (first|(refine aj h ?_;clear h;intro kb M h)|(refine au h ?_;clear h;intro M h)|refine St.to h ?_|(apply Exists.intro;(repeat apply Exists.intro);refine And.intro rfl ?_)|refine av ?_|refine ai ?_|refine ae ?_)
 refine vn h ?_
 repeat (first|(refine aj h ?_;clear h;intro kb M h)|(refine au h ?_;clear h;intro M h)|refine St.to h ?_|(apply Exists.intro;(repeat apply Exists.intro);refine And.intro rfl ?_)|refine av ?_|refine ai ?_|refine ae ?_)
 dsimp only at *
 have hn0 : 1 ≤ x.dG g p := by unfold Loc.dG; generalize g.length / p.toNat = q; split <;> omega
 have Q9 : x.l.length + (x.dG g p - 1) ≤ x.room := by unfold Loc.dG; generalize g.length / p.toNat = q; split <;> omega
 have key : ∀ n : Int, n.toNat = x.dG g p → ∀ {Q : Prop}, Q → Q := fun _ _ _ q => q
 refine aN.2 ⟨fun Og => ?_, fun Og => ?_⟩
 ·have hn : (1 : Int).toNat = x.dG g p := by unfold Loc.dG; rw [if_pos Og]; rfl
  refine qp D h (by omega) ?_
  clear h
  intro A c M h
  rw [hn] at h ⊢
  repeat (first|(refine aj h ?_;clear h;intro kb M h)|(refine au h ?_;clear h;intro M h)|refine St.to h ?_|(apply Exists.intro;(repeat apply Exists.intro);refine And.intro rfl ?_)|refine av ?_|refine ai ?_|refine ae ?_)
  cases hg : g.take (x.dG g p) with
  | nil =>
   have Ra : g = [] := by
    have := congrArg List.length hg
    rw [List.length_take, List.length_nil] at this
    exact List.length_eq_zero_iff.1 (by omega)
   have hp : x.fx g p = (x, g, -1) := by unfold Loc.fx; rw [hg]
   rw [hp] at k
   refine wc rfl ?_
   have e3 : g.drop (x.dG g p) = g := by rw [Ra]; simp
   rw [e3] at h
   exact k false _ (fun _ _ => rfl) (fun h1 => absurd Ra h1) ((cJ h b).sub br)
  | cons v out =>
   have hp : x.fx g p = ({ x with l := x.l ++ out }, g.drop (x.dG g p), v) := by unfold Loc.fx; rw [hg]
   rw [hp] at k
   have WQ : out.length + 1 ≤ x.dG g p := by
    have := congrArg List.length hg
    rw [List.length_take, List.length_cons] at this
    omega
   refine lu (by simp; omega) ?_
   rw [hg] at h
   generalize g.drop (x.dG g p) = g2 at *
   have ZN : g ≠ [] := by rintro rfl; simp at hg
   obtain ⟨A0, SR⟩ : ∃ A0, A0 = lO A 1 c 1 := ⟨_, rfl⟩
   have hcap := h.jZ A
   rw [List.length_cons] at hcap
   simp only [Int.toNat_natCast, List.length_cons]
   repeat (first|(refine aj h ?_;clear h;intro kb M h)|(refine au h ?_;clear h;intro M h)|refine St.to h ?_|(apply Exists.intro;(repeat apply Exists.intro);refine And.intro rfl ?_)|refine av ?_|refine ai ?_|refine ae ?_)
   refine ⟨fun d ws M => ∃ i : Nat, ws = [.int .i64 (i : Int)] ∧ d = out.length - i ∧ i ≤ out.length ∧
    Hp R (bE bl 3 A c (v :: out) :: pt b [.int .i64 x.next, .pointer (some ⟨rb, 0, none⟩)] 237 :: ay fu rb ⟨x.room, x.l ++ out.take i⟩ :: fX P g2 :: nJ) M,
    ⟨_, 0, rfl, rfl, by omega, by rw [List.take_zero, List.append_nil]; exact h.sub br⟩, ?_⟩
   clear h
   rintro d _ ii M ⟨i, he, hd, hi, h⟩
   simp only [List.cons.injEq, Value.int.injEq, and_true, true_and] at he
   subst he
   refine aN.2 ⟨fun hlt => ?_, fun hge => ?_⟩
   ·obtain ⟨w, hw⟩ := aU (l := out) (i := i) (by omega)
    have s0 := Src.Q2 (h.src (A := A)) (by rw [List.length_cons]; exact hcap) 1
    rw [← SR] at s0 ⊢
    rw [show (v :: out).drop 1 = out from rfl] at s0
    obtain ⟨b0, o0, rfl⟩ := s0.g8 h (by omega) (by decide)
    repeat (first|(refine aj h ?_;clear h;intro kb M h)|(refine au h ?_;clear h;intro M h)|refine St.to h ?_|(apply Exists.intro;(repeat apply Exists.intro);refine And.intro rfl ?_)|refine av ?_|refine ai ?_|refine ae ?_)
    simp only [Int.toNat_natCast]
    refine be (s0.at h (i := i) (j := 0) hw rfl (by simp [bl])) ?_
    repeat (first|(refine aj h ?_;clear h;intro kb M h)|(refine au h ?_;clear h;intro M h)|refine St.to h ?_|(apply Exists.intro;(repeat apply Exists.intro);refine And.intro rfl ?_)|refine av ?_|refine ai ?_|refine ae ?_)
    refine qV (v := w) h (fun e M' h' => ?_) fun e M' h' => ?_
    ·exfalso
     simp only [List.length_append, List.length_take] at e
     omega
    ·clear h
     have h := h'
     clear h'
     repeat (first|(refine aj h ?_;clear h;intro kb M h)|(refine au h ?_;clear h;intro M h)|refine St.to h ?_|(apply Exists.intro;(repeat apply Exists.intro);refine And.intro rfl ?_)|refine av ?_|refine ai ?_|refine ae ?_)
     rw [aW (by omega)]
     refine ⟨out.length - (i + 1), by omega, i + 1, rfl, rfl, by omega, ?_⟩
     rw [eo hw, ← List.append_assoc]
     exact h.sub br
   ·obtain rfl : i = out.length := by omega
    rw [List.take_length] at h
    have s0 := h.src (A := A)
    obtain ⟨b0, rfl⟩ := h.bM (A := A) (by simp) (by decide)
    repeat (first|(refine aj h ?_;clear h;intro kb M h)|(refine au h ?_;clear h;intro M h)|refine St.to h ?_|(apply Exists.intro;(repeat apply Exists.intro);refine And.intro rfl ?_)|refine av ?_|refine ai ?_|refine ae ?_)
    refine be (s0.at h (i := 0) (j := 0) rfl rfl (by simp [bl])) ?_
    repeat (first|(refine aj h ?_;clear h;intro kb M h)|(refine au h ?_;clear h;intro M h)|refine St.to h ?_|(apply Exists.intro;(repeat apply Exists.intro);refine And.intro rfl ?_)|refine av ?_|refine ai ?_|refine ae ?_)
    exact k true _ (fun _ h1 => absurd h1 ZN) (fun _ => rfl) ((cJ h b).sub br)
 ·have hn : (if IntKind.wrap .i64 (IntKind.wrap .i64 ((x.room : Int) - (x.l.length : Int)) + 1) < IntKind.wrap .i64 (IntKind.wrap .i64 (Int.tdiv (g.length : Int) (if (1 : Int) > p then 1 else p)) + 1) then IntKind.wrap .i64 (IntKind.wrap .i64 ((x.room : Int) - (x.l.length : Int)) + 1) else IntKind.wrap .i64 (IntKind.wrap .i64 (Int.tdiv (g.length : Int) (if (1 : Int) > p then 1 else p)) + 1)).toNat = x.dG g p := by
   obtain ⟨q, rfl⟩ := Int.eq_ofNat_of_zero_le (show 0 ≤ p by omega)
   have e1 : (if (1 : Int) > (q : Int) then 1 else (q : Int)) = (q : Int) := by split <;> omega
   rw [e1]
   have hd : g.length / q ≤ g.length := Nat.div_le_self ..
   have e2 : IntKind.wrap .i64 (Int.tdiv (g.length : Int) (q : Int)) = ((g.length / q : Nat) : Int) := wn rfl (by omega)
   rw [e2, aW (by omega), lX (n := (x.room : Int) - (x.l.length : Int)) (by omega) (by omega), lX (n := (x.room : Int) - (x.l.length : Int) + 1) (by omega) (by omega)]
   unfold Loc.dG
   rw [if_neg Og, Int.toNat_natCast]
   generalize g.length / q = z at *
   split <;> omega
  revert hn
  generalize (if IntKind.wrap .i64 (IntKind.wrap .i64 ((x.room : Int) - (x.l.length : Int)) + 1) < IntKind.wrap .i64 (IntKind.wrap .i64 (Int.tdiv (g.length : Int) (if (1 : Int) > p then 1 else p)) + 1) then IntKind.wrap .i64 (IntKind.wrap .i64 ((x.room : Int) - (x.l.length : Int)) + 1) else IntKind.wrap .i64 (IntKind.wrap .i64 (Int.tdiv (g.length : Int) (if (1 : Int) > p then 1 else p)) + 1)) = n
  intro hn
  refine qp D h (by omega) ?_
  clear h
  intro A c M h
  rw [hn] at h ⊢
  repeat (first|(refine aj h ?_;clear h;intro kb M h)|(refine au h ?_;clear h;intro M h)|refine St.to h ?_|(apply Exists.intro;(repeat apply Exists.intro);refine And.intro rfl ?_)|refine av ?_|refine ai ?_|refine ae ?_)
  cases hg : g.take (x.dG g p) with
  | nil =>
   have Ra : g = [] := by
    have := congrArg List.length hg
    rw [List.length_take, List.length_nil] at this
    exact List.length_eq_zero_iff.1 (by omega)
   have hp : x.fx g p = (x, g, -1) := by unfold Loc.fx; rw [hg]
   rw [hp] at k
   refine wc rfl ?_
   have e3 : g.drop (x.dG g p) = g := by rw [Ra]; simp
   rw [e3] at h
   exact k false _ (fun _ _ => rfl) (fun h1 => absurd Ra h1) ((cJ h b).sub br)
  | cons v out =>
   have hp : x.fx g p = ({ x with l := x.l ++ out }, g.drop (x.dG g p), v) := by unfold Loc.fx; rw [hg]
   rw [hp] at k
   have WQ : out.length + 1 ≤ x.dG g p := by
    have := congrArg List.length hg
    rw [List.length_take, List.length_cons] at this
    omega
   refine lu (by simp; omega) ?_
   rw [hg] at h
   generalize g.drop (x.dG g p) = g2 at *
   have ZN : g ≠ [] := by rintro rfl; simp at hg
   obtain ⟨A0, SR⟩ : ∃ A0, A0 = lO A 1 c 1 := ⟨_, rfl⟩
   have hcap := h.jZ A
   rw [List.length_cons] at hcap
   simp only [Int.toNat_natCast, List.length_cons]
   repeat (first|(refine aj h ?_;clear h;intro kb M h)|(refine au h ?_;clear h;intro M h)|refine St.to h ?_|(apply Exists.intro;(repeat apply Exists.intro);refine And.intro rfl ?_)|refine av ?_|refine ai ?_|refine ae ?_)
   refine ⟨fun d ws M => ∃ i : Nat, ws = [.int .i64 (i : Int)] ∧ d = out.length - i ∧ i ≤ out.length ∧
    Hp R (bE bl 3 A c (v :: out) :: pt b [.int .i64 x.next, .pointer (some ⟨rb, 0, none⟩)] 237 :: ay fu rb ⟨x.room, x.l ++ out.take i⟩ :: fX P g2 :: nJ) M,
    ⟨_, 0, rfl, rfl, by omega, by rw [List.take_zero, List.append_nil]; exact h.sub br⟩, ?_⟩
   clear h
   rintro d _ ii M ⟨i, he, hd, hi, h⟩
   simp only [List.cons.injEq, Value.int.injEq, and_true, true_and] at he
   subst he
   refine aN.2 ⟨fun hlt => ?_, fun hge => ?_⟩
   ·obtain ⟨w, hw⟩ := aU (l := out) (i := i) (by omega)
    have s0 := Src.Q2 (h.src (A := A)) (by rw [List.length_cons]; exact hcap) 1
    rw [← SR] at s0 ⊢
    rw [show (v :: out).drop 1 = out from rfl] at s0
    obtain ⟨b0, o0, rfl⟩ := s0.g8 h (by omega) (by decide)
    repeat (first|(refine aj h ?_;clear h;intro kb M h)|(refine au h ?_;clear h;intro M h)|refine St.to h ?_|(apply Exists.intro;(repeat apply Exists.intro);refine And.intro rfl ?_)|refine av ?_|refine ai ?_|refine ae ?_)
    simp only [Int.toNat_natCast]
    refine be (s0.at h (i := i) (j := 0) hw rfl (by simp [bl])) ?_
    repeat (first|(refine aj h ?_;clear h;intro kb M h)|(refine au h ?_;clear h;intro M h)|refine St.to h ?_|(apply Exists.intro;(repeat apply Exists.intro);refine And.intro rfl ?_)|refine av ?_|refine ai ?_|refine ae ?_)
    refine qV (v := w) h (fun e M' h' => ?_) fun e M' h' => ?_
    ·exfalso
     simp only [List.length_append, List.length_take] at e
     omega
    ·clear h
     have h := h'
     clear h'
     repeat (first|(refine aj h ?_;clear h;intro kb M h)|(refine au h ?_;clear h;intro M h)|refine St.to h ?_|(apply Exists.intro;(repeat apply Exists.intro);refine And.intro rfl ?_)|refine av ?_|refine ai ?_|refine ae ?_)
     rw [aW (by omega)]
     refine ⟨out.length - (i + 1), by omega, i + 1, rfl, rfl, by omega, ?_⟩
     rw [eo hw, ← List.append_assoc]
     exact h.sub br
   ·obtain rfl : i = out.length := by omega
    rw [List.take_length] at h
    have s0 := h.src (A := A)
    obtain ⟨b0, rfl⟩ := h.bM (A := A) (by simp) (by decide)
    repeat (first|(refine aj h ?_;clear h;intro kb M h)|(refine au h ?_;clear h;intro M h)|refine St.to h ?_|(apply Exists.intro;(repeat apply Exists.intro);refine And.intro rfl ?_)|refine av ?_|refine ai ?_|refine ae ?_)
    refine be (s0.at h (i := 0) (j := 0) rfl rfl (by simp [bl])) ?_
    repeat (first|(refine aj h ?_;clear h;intro kb M h)|(refine au h ?_;clear h;intro M h)|refine St.to h ?_|(apply Exists.intro;(repeat apply Exists.intro);refine And.intro rfl ?_)|refine av ?_|refine ai ?_|refine ae ?_)
    exact k true _ (fun _ h1 => absurd h1 ZN) (fun _ => rfl) ((cJ h b).sub br)
theorem Fp (h : Hp R L M) [o : cq bP b L x L'] [of : cq bP b' L' f nJ]
  (k : ∀ t M', ((x.dQ f).2.2 = -1 → f.l = [] → t = false) → ((x.dQ f).2.2 ≠ -1 ∨ f.l ≠ [] → t = true) → Hp R (ay bP b (x.dQ f).1 :: ay bP b' (x.dQ f).2.1 :: nJ) M' → K (.tuple #[.int .i64 (x.dQ f).2.2, .bool t]) M') :
  aa Tryz.prog 151 #[.pointer (some ⟨b, 0, none⟩), .pointer (some ⟨b', 0, none⟩)] M K Kp := by
 have bd := wX h (b := b)
 obtain ⟨bd1, bd2, bd3⟩ := bd
 have h0 : Hp R (ay bP b x :: ay bP b' f :: nJ) M := (h.pick o.pick).map fun _ hs => hs.tail (fun _ => b6.pick of.pick)
 clear h
 have h := h0
 clear h0
 have bdf := wX h (b := b')
 obtain ⟨bf1, bf2, bf3⟩ := bdf
 refine jN ?_
 have h' := jg h (b := b)
 clear h
 obtain ⟨rb, h⟩ := h'
 have h' := jg h (b := b')
 clear h
 obtain ⟨rf, h⟩ := h'
 have hne : b' ≠ b := VY h
 refine VZ (Ne.symm hne) (Fm h (b := b)) (Fm h (b := b')) ?_
 repeat (first|(refine aj h ?_;clear h;intro kb M h)|(refine au h ?_;clear h;intro M h)|refine St.to h ?_|(apply Exists.intro;(repeat apply Exists.intro);refine And.intro rfl ?_)|refine av ?_|refine ai ?_|refine ae ?_)
 refine vn h ?_
 repeat (first|(refine aj h ?_;clear h;intro kb M h)|(refine au h ?_;clear h;intro M h)|refine St.to h ?_|(apply Exists.intro;(repeat apply Exists.intro);refine And.intro rfl ?_)|refine av ?_|refine ai ?_|refine ae ?_)
 dsimp only at *
 refine aY.2 ⟨fun e => ?_, fun e => ?_⟩
 ·have hl : f.l = [] := List.length_eq_zero_iff.1 (by omega)
  have hp : x.dQ f = (x, { f with next := -1 }, f.next) := by unfold Loc.dQ; rw [hl, List.take_nil]
  rw [hp] at k
  repeat (first|(refine aj h ?_;clear h;intro kb M h)|(refine au h ?_;clear h;intro M h)|refine St.to h ?_|(apply Exists.intro;(repeat apply Exists.intro);refine And.intro rfl ?_)|refine av ?_|refine ai ?_|refine ae ?_)
  have h2 := cJ (cJ h b) b'
  exact k _ _ (fun h1 _ => by dsimp only at h1; rw [h1]; rfl) (fun h1 => by rcases h1 with h1 | h1; exact bne_iff_ne.2 h1; exact absurd hl h1) (h2.sub br)
 ·have hn0 : 1 ≤ x.gX f := by unfold Loc.gX; omega
  have Q9 : x.l.length + (x.gX f - 1) ≤ x.room := by unfold Loc.gX; omega
  repeat (first|(refine aj h ?_;clear h;intro kb M h)|(refine au h ?_;clear h;intro M h)|refine St.to h ?_|(apply Exists.intro;(repeat apply Exists.intro);refine And.intro rfl ?_)|refine av ?_|refine ai ?_|refine ae ?_)
  refine Cb h ?_
  repeat (first|(refine aj h ?_;clear h;intro kb M h)|(refine au h ?_;clear h;intro M h)|refine St.to h ?_|(apply Exists.intro;(repeat apply Exists.intro);refine And.intro rfl ?_)|refine av ?_|refine ai ?_|refine ae ?_)
  refine vn h ?_
  repeat (first|(refine aj h ?_;clear h;intro kb M h)|(refine au h ?_;clear h;intro M h)|refine St.to h ?_|(apply Exists.intro;(repeat apply Exists.intro);refine And.intro rfl ?_)|refine av ?_|refine ai ?_|refine ae ?_)
  dsimp only at *
  have hn : (if IntKind.wrap .i64 (IntKind.wrap .i64 ((x.room : Int) - (x.l.length : Int)) + 1) < IntKind.wrap .i64 ((f.l.length : Int) - IntKind.wrap .i64 (Int.tdiv (f.l.length : Int) 2)) then IntKind.wrap .i64 (IntKind.wrap .i64 ((x.room : Int) - (x.l.length : Int)) + 1) else IntKind.wrap .i64 ((f.l.length : Int) - IntKind.wrap .i64 (Int.tdiv (f.l.length : Int) 2))).toNat = x.gX f := by
   have e2 : IntKind.wrap .i64 (Int.tdiv (f.l.length : Int) 2) = ((f.l.length / 2 : Nat) : Int) := wn rfl (by omega)
   rw [e2, lX (n := (x.room : Int) - (x.l.length : Int)) (by omega) (by omega), lX (n := (x.room : Int) - (x.l.length : Int) + 1) (by omega) (by omega), lX (n := (f.l.length : Int) - ((f.l.length / 2 : Nat) : Int)) (by omega) (by omega)]
   unfold Loc.gX
   split <;> omega
  revert hn
  generalize (if IntKind.wrap .i64 (IntKind.wrap .i64 ((x.room : Int) - (x.l.length : Int)) + 1) < IntKind.wrap .i64 ((f.l.length : Int) - IntKind.wrap .i64 (Int.tdiv (f.l.length : Int) 2)) then IntKind.wrap .i64 (IntKind.wrap .i64 ((x.room : Int) - (x.l.length : Int)) + 1) else IntKind.wrap .i64 ((f.l.length : Int) - IntKind.wrap .i64 (Int.tdiv (f.l.length : Int) 2))) = n
  intro hn
  refine Cc h ?_
  clear h
  intro A c M h
  rw [hn] at h ⊢
  repeat (first|(refine aj h ?_;clear h;intro kb M h)|(refine au h ?_;clear h;intro M h)|refine St.to h ?_|(apply Exists.intro;(repeat apply Exists.intro);refine And.intro rfl ?_)|refine av ?_|refine ai ?_|refine ae ?_)
  cases hg : f.l.take (x.gX f) with
  | nil =>
   exfalso
   have := congrArg List.length hg
   rw [List.length_take, List.length_nil] at this
   omega
  | cons v out =>
   have hp : x.dQ f = ({ x with l := x.l ++ out }, { f with l := f.l.drop (x.gX f) }, v) := by unfold Loc.dQ; rw [hg]
   rw [hp] at k
   have WQ : out.length + 1 ≤ x.gX f := by
    have := congrArg List.length hg
    rw [List.length_take, List.length_cons] at this
    omega
   dsimp only at h
   rw [hg] at h
   generalize f.l.drop (x.gX f) = f2 at *
   have ZN : f.l ≠ [] := by intro e0; rw [e0] at hg; simp at hg
   obtain ⟨A0, SR⟩ : ∃ A0, A0 = lO A 1 c 1 := ⟨_, rfl⟩
   have hcap := h.jZ A
   rw [List.length_cons] at hcap
   simp only [Int.toNat_natCast, List.length_cons]
   repeat (first|(refine aj h ?_;clear h;intro kb M h)|(refine au h ?_;clear h;intro M h)|refine St.to h ?_|(apply Exists.intro;(repeat apply Exists.intro);refine And.intro rfl ?_)|refine av ?_|refine ai ?_|refine ae ?_)
   refine ⟨fun d ws M => ∃ i : Nat, ws = [.int .i64 (i : Int)] ∧ d = out.length - i ∧ i ≤ out.length ∧
    Hp R (bE bl 3 A c (v :: out) :: pt b [.int .i64 x.next, .pointer (some ⟨rb, 0, none⟩)] 237 :: ay fu rb ⟨x.room, x.l ++ out.take i⟩ :: ay fu rf ⟨f.room, f2⟩ :: pt b' [.int .i64 f.next, .pointer (some ⟨rf, 0, none⟩)] 237 :: nJ) M,
    ⟨_, 0, rfl, rfl, by omega, by rw [List.take_zero, List.append_nil]; exact h.sub br⟩, ?_⟩
   clear h
   rintro d _ ii M ⟨i, he, hd, hi, h⟩
   simp only [List.cons.injEq, Value.int.injEq, and_true, true_and] at he
   subst he
   refine aN.2 ⟨fun hlt => ?_, fun hge => ?_⟩
   ·obtain ⟨w, hw⟩ := aU (l := out) (i := i) (by omega)
    have s0 := Src.Q2 (h.src (A := A)) (by rw [List.length_cons]; exact hcap) 1
    rw [← SR] at s0 ⊢
    rw [show (v :: out).drop 1 = out from rfl] at s0
    obtain ⟨b0, o0, rfl⟩ := s0.g8 h (by omega) (by decide)
    repeat (first|(refine aj h ?_;clear h;intro kb M h)|(refine au h ?_;clear h;intro M h)|refine St.to h ?_|(apply Exists.intro;(repeat apply Exists.intro);refine And.intro rfl ?_)|refine av ?_|refine ai ?_|refine ae ?_)
    simp only [Int.toNat_natCast]
    refine be (s0.at h (i := i) (j := 0) hw rfl (by simp [bl])) ?_
    repeat (first|(refine aj h ?_;clear h;intro kb M h)|(refine au h ?_;clear h;intro M h)|refine St.to h ?_|(apply Exists.intro;(repeat apply Exists.intro);refine And.intro rfl ?_)|refine av ?_|refine ai ?_|refine ae ?_)
    refine qV (v := w) h (fun e M' h' => ?_) fun e M' h' => ?_
    ·exfalso
     simp only [List.length_append, List.length_take] at e
     omega
    ·clear h
     have h := h'
     clear h'
     repeat (first|(refine aj h ?_;clear h;intro kb M h)|(refine au h ?_;clear h;intro M h)|refine St.to h ?_|(apply Exists.intro;(repeat apply Exists.intro);refine And.intro rfl ?_)|refine av ?_|refine ai ?_|refine ae ?_)
     rw [aW (by omega)]
     refine ⟨out.length - (i + 1), by omega, i + 1, rfl, rfl, by omega, ?_⟩
     rw [eo hw, ← List.append_assoc]
     exact h.sub br
   ·obtain rfl : i = out.length := by omega
    rw [List.take_length] at h
    have s0 := h.src (A := A)
    obtain ⟨b0, rfl⟩ := h.bM (A := A) (by simp) (by decide)
    repeat (first|(refine aj h ?_;clear h;intro kb M h)|(refine au h ?_;clear h;intro M h)|refine St.to h ?_|(apply Exists.intro;(repeat apply Exists.intro);refine And.intro rfl ?_)|refine av ?_|refine ai ?_|refine ae ?_)
    refine be (s0.at h (i := 0) (j := 0) rfl rfl (by simp [bl])) ?_
    repeat (first|(refine aj h ?_;clear h;intro kb M h)|(refine au h ?_;clear h;intro M h)|refine St.to h ?_|(apply Exists.intro;(repeat apply Exists.intro);refine And.intro rfl ?_)|refine av ?_|refine ai ?_|refine ae ?_)
    have h2 := cJ (cJ h b) b'
    exact k true _ (fun _ h1 => absurd h1 ZN) (fun _ => rfl) (h2.sub br)
end
end Go.Proofs
namespace Go.Proofs
def Loc.all (x : Loc) : List Int := (if x.next = -1 then [] else [x.next]) ++ x.l
def j7 (v : Int) : List Int := if 0 ≤ v then [v] else []
theorem Rb {xs : List Loc} {i : Nat} {x y : Loc} (a : Int) (h : xs[i]? = some x) : ((xs.set i y).flatMap Loc.all).count a + x.all.count a = (xs.flatMap Loc.all).count a + y.all.count a := by
 induction xs generalizing i with
 | nil => simp at h
 | cons z xs ih =>
  cases i with
  | zero => simp only [List.getElem?_cons_zero, Option.some.injEq] at h; subst h; simp only [List.set_cons_zero, List.flatMap_cons, List.count_append]; omega
  | succ i => have := ih (i := i) (by simpa using h); simp only [List.set_cons_succ, List.flatMap_cons, List.count_append]; omega
theorem HF (a : Int) (l : List Int) (n : Nat) : (l.take n).count a + (l.drop n).count a = l.count a := by rw [← List.count_append, List.take_append_drop]
theorem I8 (x : Loc) (v : Int) (g : List Int) (a : Int) : (x.put v g).1.all.count a + (x.put v g).2.1.count a = x.all.count a + g.count a + [v].count a := by
 unfold Loc.put Loc.all
 have := HF a x.l (x.l.length / 2)
 split <;> simp only [List.count_append] <;> omega
theorem Oh (x : Loc) (v : Int) (hv : v ≠ -1) (a : Int) : (({ x with next := v } : Loc).all).count a + (if x.next = -1 then ([] : List Int) else [x.next]).count a = x.all.count a + [v].count a := by
 unfold Loc.all
 simp only [List.count_append, if_neg hv]; omega
theorem Dt (x : Loc) (a : Int) : (({ x with next := -1 } : Loc).all).count a + (if x.next = -1 then ([] : List Int) else [x.next]).count a = x.all.count a := by
 unfold Loc.all
 simp only [List.count_append, if_true, List.count_nil]; omega
theorem KH (x : Loc) (v : Int) (hv : v ≠ -1) (g : List Int) (a : Int) : (x.ready v g).1.all.count a + (x.ready v g).2.1.count a = x.all.count a + g.count a + [v].count a := by
 have h1 := Oh x v hv a
 unfold Loc.ready
 split
 ·rename_i h; rw [if_pos h] at h1; simp only [List.count_nil] at h1; dsimp only; omega
 ·rename_i h; rw [if_neg h] at h1; rw [I8]; omega
theorem Oi (x : Loc) (g : List Int) (a : Int) : (x.gR g).1.all.count a + (x.gR g).2.1.count a = x.all.count a + g.count a := by
 have h1 := Dt x a
 unfold Loc.gR
 split
 ·rfl
 ·rename_i h; rw [if_neg h] at h1; rw [I8]; omega
def Loc.Pos (x : Loc) : Prop := -1 ≤ x.next ∧ ∀ v ∈ x.l, 0 ≤ v
theorem jh {v : Int} (h : 0 ≤ v) : j7 v = [v] := if_pos h
theorem I9 (x : Loc) (hx : x.Pos) (a : Int) : x.get.1.all.count a + (j7 x.get.2).count a = x.all.count a := by
 obtain ⟨h1, h2⟩ := hx
 have h3 := Dt x a
 unfold Loc.get
 split
 ·rename_i h; rw [if_neg h] at h3; rw [jh (show 0 ≤ x.next by omega)]; omega
 ·rename_i h
  split
  ·rfl
  ·rename_i v l e
   rw [jh (h2 v (by rw [e]; simp))]
   unfold Loc.all
   rw [e]
   simp only [List.count_append, List.count_cons, List.count_nil]; omega
theorem KI (x : Loc) (g : List Int) (hg : ∀ v ∈ g, 0 ≤ v) (p : Int) (a : Int) : (x.fx g p).1.all.count a + (x.fx g p).2.1.count a + (j7 (x.fx g p).2.2).count a = x.all.count a + g.count a := by
 have h1 := HF a g (x.dG g p)
 unfold Loc.fx
 split
 ·rfl
 ·rename_i v out e
  rw [e] at h1
  rw [jh (hg v (List.mem_of_mem_take (by rw [e]; simp)))]
  unfold Loc.all
  simp only [List.count_append, List.count_cons, List.count_nil] at h1 ⊢; omega
theorem KJ (x f : Loc) (hf : f.Pos) (hx : x.l.length ≤ x.room) (a : Int) : (x.dQ f).1.all.count a + (x.dQ f).2.1.all.count a + (j7 (x.dQ f).2.2).count a = x.all.count a + f.all.count a := by
 obtain ⟨h1, h2⟩ := hf
 have h3 := HF a f.l (x.gX f)
 have h4 := Dt f a
 unfold Loc.dQ
 split
 ·rename_i e
  by_cases hn : f.next = -1
  ·have : j7 f.next = [] := by unfold j7; rw [if_neg (by omega)]
   dsimp only
   rw [this]; rw [if_pos hn] at h4; simp only [List.count_nil] at h4 ⊢; omega
  ·dsimp only; rw [jh (by omega)]; rw [if_neg hn] at h4; omega
 ·rename_i v out e
  rw [e] at h3
  rw [jh (h2 v (List.mem_of_mem_take (by rw [e]; simp)))]
  unfold Loc.all
  simp only [List.count_append, List.count_cons, List.count_nil] at h3 ⊢; omega
theorem Ja {x : Loc} (hx : x.Pos) : (x.next = -1 ∧ x.l = [] ∧ x.get.2 = -1) ∨ ((x.next ≠ -1 ∨ x.l ≠ []) ∧ 0 ≤ x.get.2) := by
 obtain ⟨h1, h2⟩ := hx
 unfold Loc.get
 split
 ·rename_i h; exact .inr ⟨.inl h, by dsimp only; omega⟩
 ·rename_i h
  split
  ·rename_i e; exact .inl ⟨by omega, e, rfl⟩
  ·rename_i v l e; exact .inr ⟨.inr (by rw [e]; simp), h2 v (by rw [e]; simp)⟩
theorem HG (x : Loc) (g : List Int) (p : Int) : 1 ≤ x.dG g p := by unfold Loc.dG; generalize g.length / p.toNat = q; split <;> omega
theorem Cg {x : Loc} {g : List Int} (hg : ∀ v ∈ g, 0 ≤ v) (p : Int) : (g = [] ∧ (x.fx g p).2.2 = -1) ∨ (g ≠ [] ∧ 0 ≤ (x.fx g p).2.2) := by
 have hn := HG x g p
 unfold Loc.fx
 split
 ·rename_i e
  have := congrArg List.length e
  rw [List.length_take, List.length_nil] at this
  exact .inl ⟨List.length_eq_zero_iff.1 (by omega), rfl⟩
 ·rename_i v out e
  exact .inr ⟨by rintro rfl; simp at e, hg v (List.mem_of_mem_take (by rw [e]; simp))⟩
theorem KK {x f : Loc} (hf : f.Pos) (hx : x.l.length ≤ x.room) : (f.l = [] ∧ (x.dQ f).2.2 = f.next) ∨ (f.l ≠ [] ∧ 0 ≤ (x.dQ f).2.2) := by
 obtain ⟨h1, h2⟩ := hf
 unfold Loc.dQ
 split
 ·rename_i e
  have := congrArg List.length e
  rw [List.length_take, List.length_nil] at this
  unfold Loc.gX at this
  exact .inl ⟨List.length_eq_zero_iff.1 (by omega), rfl⟩
 ·rename_i v out e
  exact .inr ⟨by intro h; rw [h] at e; simp at e, h2 v (List.mem_of_mem_take (by rw [e]; simp))⟩
def qq (n : Nat) : List Int := (List.range n).map Int.ofNat
theorem Oj {x : Loc} (h : x.l.length ≤ x.room ∧ x.room ≤ 1024 ∧ 0 < x.room) (v : Int) (g : List Int) : (x.put v g).1.l.length ≤ (x.put v g).1.room ∧ (x.put v g).1.room ≤ 1024 ∧ 0 < (x.put v g).1.room := by
 unfold Loc.put; split
 ·dsimp only; simp only [List.length_append, List.length_singleton]; omega
 ·dsimp only; simp only [List.length_drop]; omega
theorem Ol {x : Loc} (h : x.l.length ≤ x.room ∧ x.room ≤ 1024 ∧ 0 < x.room) (v : Int) (g : List Int) : (x.ready v g).1.l.length ≤ (x.ready v g).1.room ∧ (x.ready v g).1.room ≤ 1024 ∧ 0 < (x.ready v g).1.room := by
 unfold Loc.ready; split
 ·exact h
 ·exact Oj (x := { x with next := v }) h _ _
theorem Rc {x : Loc} (h : x.l.length ≤ x.room ∧ x.room ≤ 1024 ∧ 0 < x.room) (g : List Int) : (x.gR g).1.l.length ≤ (x.gR g).1.room ∧ (x.gR g).1.room ≤ 1024 ∧ 0 < (x.gR g).1.room := by
 unfold Loc.gR; split
 ·exact h
 ·exact Oj (x := { x with next := -1 }) h _ _
theorem Om {x : Loc} (h : x.l.length ≤ x.room ∧ x.room ≤ 1024 ∧ 0 < x.room) : x.get.1.l.length ≤ x.get.1.room ∧ x.get.1.room ≤ 1024 ∧ 0 < x.get.1.room := by
 unfold Loc.get; split
 ·exact h
 ·split
  ·exact h
  ·rename_i e; dsimp only; rw [e, List.length_cons] at h; omega
theorem On {x : Loc} (h : x.l.length ≤ x.room ∧ x.room ≤ 1024 ∧ 0 < x.room) (g : List Int) (p : Int) : (x.fx g p).1.l.length ≤ (x.fx g p).1.room ∧ (x.fx g p).1.room ≤ 1024 ∧ 0 < (x.fx g p).1.room := by
 have Q9 : x.l.length + (x.dG g p - 1) ≤ x.room := by unfold Loc.dG; generalize g.length / p.toNat = q; split <;> omega
 unfold Loc.fx; split
 ·exact h
 ·rename_i v out e
  have := congrArg List.length e
  rw [List.length_take, List.length_cons] at this
  dsimp only; simp only [List.length_append]; omega
theorem Oo {x f : Loc} (h : x.l.length ≤ x.room ∧ x.room ≤ 1024 ∧ 0 < x.room) (hf : f.l.length ≤ f.room ∧ f.room ≤ 1024 ∧ 0 < f.room) :
  ((x.dQ f).1.l.length ≤ (x.dQ f).1.room ∧ (x.dQ f).1.room ≤ 1024 ∧ 0 < (x.dQ f).1.room) ∧ ((x.dQ f).2.1.l.length ≤ (x.dQ f).2.1.room ∧ (x.dQ f).2.1.room ≤ 1024 ∧ 0 < (x.dQ f).2.1.room) := by
 have Q9 : x.l.length + (x.gX f - 1) ≤ x.room := by unfold Loc.gX; omega
 unfold Loc.dQ; split
 ·exact ⟨h, hf⟩
 ·rename_i v out e
  have := congrArg List.length e
  rw [List.length_take, List.length_cons] at this
  dsimp only; simp only [List.length_append, List.length_drop]; omega
end Go.Proofs
namespace Go.Proofs
open Go.AF
set_option maxRecDepth 100000
set_option maxHeartbeats 1000000
attribute [local irreducible] aI c7 fm cy aB eN aE aM aX bk bJ aP
section
variable {R : Mem} {L L' nJ : List HP} {M : Mem} {K : Value → Mem → Prop} {Kp : List PanicEntry → Mem → Prop} {x f : Loc} {g : List Int}
theorem Ch {room : Int} (h : Hp R L M) (k : ∀ M', Hp R L M' → K (.agg #[.int .i64 (-1), .slice none 0 0, .int .i64 (fa room : Nat)]) M') : aa Tryz.prog 124 #[.int .i64 room] M K Kp := by
 refine sj ?_
 have e : (if (if (1024 : Int) < room then 1024 else room) > 1 then (if (1024 : Int) < room then 1024 else room) else 1) = ((fa room : Nat) : Int) := by unfold fa; split <;> split <;> omega
 rw [e]
 repeat (first|(refine aj h ?_;clear h;intro kb M h)|(refine au h ?_;clear h;intro M h)|refine St.to h ?_|(apply Exists.intro;(repeat apply Exists.intro);refine And.intro rfl ?_)|refine av ?_|refine ai ?_|refine ae ?_)
 exact k _ h.wh
end
end Go.Proofs
