/- A part of proofs about one program. -/
import Derived.Test.YtnnlgknlialpmaaGreatZSnapAlikeAgg
import Derived.Test.YtnnlgknlialpmaaGreatZSnapAlike1
set_option linter.unusedVariables false
namespace Go.AF
theorem K5 {p q : Prop} [Decidable p] [Decidable q] {X Y : Prop} (hy : Y) (hx : p → q → X) : aS (decide p) (aS (decide q) X Y) Y := by
 by_cases hp : p
 ·by_cases hq : q
  ·simp only [hp, hq, decide_true]; exact ai (ai (hx hp hq))
  ·simp only [hp, hq, decide_true, decide_false]; exact ai (aj hy)
 ·simp only [hp, decide_false]; exact aj hy
theorem YB {α : Type} {f : Nat → α} {q m : Nat} {v : α} : ((List.range m).map f).set q v = (List.range m).map (fun j => if j = q then v else f j) := by
 apply List.ext_getElem
 ·simp
 ·intro j h1 h2
  simp only [List.getElem_set, List.getElem_map, List.getElem_range]
  by_cases hj : q = j
  ·rw [if_pos hj, if_pos hj.symm]
  ·rw [if_neg hj, if_neg (Ne.symm hj)]
theorem Va {α : Type} {f : Nat → α} {q m : Nat} (h : q < m) : ((List.range m).map f)[q]? = some (f q) := by simp [h]
theorem GM {α : Type} {f g : Nat → α} {m : Nat} (h : ∀ j, j < m → f j = g j) : (List.range m).map f = (List.range m).map g := List.map_congr_left fun j hj => h j (List.mem_range.1 hj)
theorem wn {z : Int} {n : Nat} (e : z = (n : Int)) (h : n < 9223372036854775808) : IntKind.wrap .i64 z = (n : Int) := by rw [e]; exact nk h
theorem Src.row {α : Type} {E : fO α} {R : Mem} {L L' : List HP} {A : Option Addr} {T c : Nat} {l : List α} [hp : cJ A L α E T c l L'] : Src R L A (E.cells l) := fun M h => h.src (A := A) M h
theorem Src.pre1 {R : Mem} {L : List HP} {A : Option Addr} {c : Nat} {l : List Int} (hs : Src R L A (aZ.cells l)) (hc : l.length ≤ c) (q : Nat) : Src R L (kP A 0 c 1) (aZ.cells (l.take q)) := by
 have := (hs.drop (m := 0) (c := c) hc).UH q
 rw [List.drop_zero] at this
 exact this
theorem Src.Tj {R : Mem} {L : List HP} {A : Option Addr} {c : Nat} {l : List Int} (hs : Src R L A (aZ.cells l)) (hc : l.length ≤ c) (q : Nat) : Src R L (kP A q c 1) (aZ.cells (l.drop q)) := hs.drop hc
end Go.AF
namespace Go.AF
abbrev AL := List (Int × Value)
def dV : Nat → AL → List MapEntry
 | _, [] => []
 | i, (k, v) :: l => ⟨.int .i64 k, v, i⟩ :: dV (i + 1) l
def mB (l : AL) : Obj := .map (dV 0 l).toArray l.length
def wD (k : Int) : AL → Nat → Option (Nat × Value)
 | [], _ => none
 | (k', v) :: l, i => if k = k' then some (i, v) else wD k l (i + 1)
def CF (l : AL) (k : Int) : Option Value := (wD k l 0).map (·.2)
def Tk (l : AL) (k : Int) (v : Value) : AL := match wD k l 0 with
 | some (i, _) => l.set i (k, v)
 | none => l ++ [(k, v)]
theorem wE {kd : IntKind} (k : Int) : ∀ (l : AL) (i b : Nat), Instr.findNow (.int kd) (.int .i64 k) (dV b l) i = some (wD k l i)
 | [], _, _ => rfl
 | (k', v) :: l, i, b => by
  simp only [dV, Instr.findNow, Instr.sameNow, if_true, wD]
  by_cases h : k = k'
  ·simp [h]
  ·have : (k == k') = false := by simp [h]
   rw [this, if_neg h]
   exact wE k l (i + 1) (b + 1)
theorem K6 {k : Int} : ∀ {l : AL} {i j : Nat} {v : Value}, wD k l i = some (j, v) → i ≤ j ∧ l[j - i]? = some (k, v)
 | [], _, _, _, h => by simp [wD] at h
 | (k', v') :: l, i, j, v, h => by
  simp only [wD] at h
  split at h
  ·rename_i e; cases h; subst e; exact ⟨Nat.le_refl _, by simp⟩
  ·obtain ⟨h1, h2⟩ := K6 h
   refine ⟨by omega, ?_⟩
   rw [show j - i = (j - (i + 1)) + 1 from by omega, List.getElem?_cons_succ]; exact h2
theorem K7 : ∀ {l : AL} {i b : Nat} {k : Int} {v : Value}, l[i]? = some (k, v) → (dV b l)[i]? = some ⟨.int .i64 k, v, b + i⟩
 | [], _, _, _, _, h => by simp at h
 | (k', v') :: l, 0, b, k, v, h => by simp at h; obtain ⟨rfl, rfl⟩ := h; rfl
 | (k', v') :: l, i + 1, b, k, v, h => by
  have := K7 (b := b + 1) (show l[i]? = some (k, v) from by simpa using h)
  simp only [dV, List.getElem?_cons_succ, this]
  congr 2; omega
theorem GN : ∀ {l : AL} {i b : Nat} {k : Int} {v w : Value}, l[i]? = some (k, w) → (dV b l).modify i (fun e => { e with key := .int .i64 k, val := v }) = dV b (l.set i (k, v))
 | [], _, _, _, _, _, h => by simp at h
 | (k', v') :: l, 0, b, k, v, w, h => by simp at h; obtain ⟨rfl, rfl⟩ := h; rfl
 | (k', v') :: l, i + 1, b, k, v, w, h => by
  have := GN (b := b + 1) (v := v) (show l[i]? = some (k, w) from by simpa using h)
  simp only [dV, List.modify_succ_cons, List.set_cons_succ, this]
theorem GO : ∀ (l m : AL) (b : Nat), dV b (l ++ m) = dV b l ++ dV (b + l.length) m
 | [], m, b => by simp [dV]
 | (k, v) :: l, m, b => by simp only [List.cons_append, dV, GO l m (b + 1), List.length_cons]; congr 3; omega
def Ba : AL → Int → Option Value
 | [], _ => none
 | (k', v) :: l, k => if k = k' then some v else Ba l k
theorem GP (k : Int) : ∀ (l : AL) (i : Nat), (wD k l i).map (·.2) = Ba l k
 | [], _ => rfl
 | (k', v) :: l, i => by
  simp only [wD, Ba]
  split
  ·rfl
  ·exact GP k l (i + 1)
theorem Tl (l : AL) (k : Int) : CF l k = Ba l k := GP k l 0
theorem Dr {k : Int} : ∀ {l : AL}, Ba l k = none ↔ k ∉ l.map (·.1)
 | [] => by simp [Ba]
 | (q, w) :: l => by
  have ih := Dr (k := k) (l := l)
  simp only [Ba, List.map_cons, List.mem_cons, not_or]
  by_cases h : k = q
  ·rw [if_pos h]; simp [h]
  ·rw [if_neg h]; simp [h, ih]
section
variable {R : Mem} {L L' : List HP} {M : Mem} {P : Program} {t kt et : TypeId} {r : Nat} {l : AL} {k : Int} {kd : IntKind}
class GQ (b : Nat) (L : List HP) (o : outParam Obj) (L' : outParam (List HP)) : Prop where
 pick : cZ L (ob b o) L'
instance GQ.here {b : Nat} {o : Obj} {L : List HP} : GQ b (ob b o :: L) o L := ⟨.here⟩
instance (priority := low) GQ.there {b : Nat} {o : Obj} {Q : HP} {L L' : List HP} [h : GQ b L o L'] : GQ b (Q :: L) o (Q :: L') := ⟨.there h.pick⟩
theorem qS {P : Program} {M : Mem} {b : Bool} (hk : P.underlying kt = some (.int kd)) : bQ P (Instr.checkKey b 10000 kt (.int .i64 k)) M = some () := by
 unfold Instr.checkKey
 rw [aT, aH hk]; rfl
theorem uW {P : Program} {M : Mem} (hk : P.underlying kt = some (.int kd)) : bQ P (Instr.findKey kt (.int .i64 k) (dV 0 l)) M = some (wD k l 0) := by
 unfold Instr.findKey
 rw [aT, aH hk, Option.bind_some, wE]; rfl
theorem uX {P : Program} {α : Type} {M : Mem} {r : Nat} {l : AL} {f : Obj → Sem α} {K : α → Mem → Prop} {Kp : Value → Mem → Prop} (hb : M r = some (mB l)) (h : ee P (f (mB l)) M K Kp) : ee P (getObj r >>= f) M K Kp := by
 refine eK P _ _ ?_
 unfold getObj
 simp only [ee, hb, mB]
 exact h
theorem Qr {z : Value} {i : TypeInfo} {K : Value → Mem → Prop} {Kp : List PanicEntry → Mem → Prop} (h : Hp R L M) [p : GQ r L (mB l) L'] (hu : P.underlying t = some (.map kt et)) (hk : P.underlying kt = some (.int kd)) (hi : P.info? et = some i) (hz : i.zero = some z)
  (g : K ((CF l k).getD z) M) : be P (Instr.lookup t (.map (some r)) (.int .i64 k) false) M K Kp := by
 have hb : M r = some (mB l) := (h.pick p.pick).OP
 unfold be Instr.lookup
 refine aW (aH hu M) ?_
 simp only
 refine eK P _ _ ?_
 refine uX hb ?_
 simp only [mB]
 refine aW (x := ()) (qS hk) ?_
 refine aW (uW hk) ?_
 unfold CF at g
 cases ha : wD k l 0 with
 | none =>
  rw [ha] at g
  simp only
  have hz0 : bQ P (zeroValue et) M = some z := by rw [jS]; simp [zeroOf, hi, hz]
  refine aW hz0 ?_
  refine aW (x := (z, false)) rfl ?_
  exact g
 | some x =>
  rw [ha] at g
  exact g
theorem yM {v : Value} {K : Mem → Prop} {Kp : List PanicEntry → Mem → Prop} (h : Hp R L M) [p : GQ r L (mB l) L'] (hu : P.underlying t = some (.map kt et)) (hk : P.underlying kt = some (.int kd))
  (g : ∀ M', Hp R (ob r (mB (Tk l k v)) :: L') M' → K M') : bK P (Instr.mapUpdate t (.map (some r)) (.int .i64 k) v) M K Kp := by
 have h1 := h.pick p.pick
 have hb : M r = some (mB l) := h1.OP
 have fin : ∀ o, o = mB (Tk l k v) → K (M.set r o) := fun o e => by
  subst e
  exact g _ (h1.set (x := mB l) (fun A ha => by unfold ob at ha; exact ha) fun A ha => by unfold ob; exact dI)
 unfold bK Instr.mapUpdate
 refine aW (aH hu M) ?_
 simp only
 refine uX hb ?_
 simp only [mB]
 refine aW (x := ()) (qS hk) ?_
 refine aW (uW hk) ?_
 have Bb : ∀ o : Obj, K (M.set r o) → ee P (setObj r o) M (fun _ => K) (fun v M' => Kp [{ v, recovered := false }] M') := fun o hK => by
  unfold setObj
  simp only [ee, hb, mB]
  exact hK
 cases ha : wD k l 0 with
 | none =>
  simp only
  refine Bb _ (fin _ ?_)
  unfold Tk mB
  rw [ha]
  simp only [List.push_toArray, List.length_append, List.length_singleton]
  rw [GO]; simp [dV]
 | some x =>
  obtain ⟨i, w⟩ := x
  obtain ⟨_, hw⟩ := K6 ha
  rw [Nat.sub_zero] at hw
  simp only
  have he := K7 (b := 0) hw
  refine aW (x := Value.int .i64 k) ?_ ?_
  ·have : (((dV 0 l).toArray[i]?).map (·.key)).getD (.int .i64 k) = .int .i64 k := by simp [he]
   rw [this]
   unfold Instr.keyThatStays
   simp [Instr.sameBits]; rfl
  ·refine Bb _ (fin _ ?_)
   unfold Tk mB
   rw [ha]
   simp only [List.length_set]
   rw [← GN (v := v) hw]
   simp [List.modify_toArray]
end
end Go.AF
namespace Go.AF
theorem ER {P : Program} {t t' e ty : TypeId} {i : TypeInfo} {zv : Value} {A B : Option Addr} {n c m d : Nat} {l r : List Value} {M : Mem} {K : Value → Mem → Prop} {Kp : List PanicEntry → Mem → Prop}
  (hu : P.underlying t = some (.slice e)) (RD : P.underlying t' = some (.slice e)) (hi : P.info? e = some i) (hz : i.zero = some zv) (hs : zv.cells.size = i.size)
  (UE : Sl M A l) (hl : l.length = n * i.size) (hr : Sl M B r) (jv : r.length = m * i.size) (hc : c < n + m) (hb : (n + m) * i.bytes ≤ 140737488355328) (hby : 0 < i.bytes)
  (h : ∀ k c' M', M k = none → sC M' i.size e (some ⟨k, 0, none⟩) (n + m) c' (l ++ r) → mT [] M M' → K (.slice (some ⟨k, 0, none⟩) (n + m) c') M') :
  be P (Builtin.append_ #[t, t'] ty #[.slice A n c, .slice B m d]) M K Kp := by
 unfold be Builtin.append_
 simp only [List.getElem?_toArray, List.getElem?_cons_zero, List.getElem?_cons_succ]
 refine aW (aH hu M) ?_
 simp only
 refine aW (fC hi M) ?_
 refine aW (aH RD M) ?_
 refine aW (x := false) rfl ?_
 refine aW (x := m) rfl ?_
 simp only [Bool.not_false, if_true]
 rw [if_neg (by omega)]
 refine aW (b7 hi M) ?_
 rw [if_neg (by simp; omega)]
 refine aW (b7 hi M) ?_
 rw [if_neg (by have := growslice_fits (need := n + m) (old := c) (bytes := i.bytes) (by omega) hb; omega)]
 show ∀ q, _
 intro q
 have hcap : n + m ≤ Question.cut (.appendCap (n + m) c e) q := by simp only [Question.cut]; omega
 generalize Question.cut (.appendCap (n + m) c e) q = nc at hcap
 refine aW (x := nc) rfl ?_
 refine aW (b7 hi M) ?_
 refine eK P _ _ ?_
 have room : ∀ (X : Prop) , X → ee P (askRoom (nc * i.bytes)) M (fun _ M' => M' = M) (fun _ _ => False) := by
  intro X _
  unfold askRoom
  split
  ·exact rfl
  ·exact rfl
 refine ir P _ (room True trivial) (fun _ M' hM' => ?_) (fun _ _ hf => hf.elim)
 subst hM'
 refine aW (fE UE hl) ?_
 refine aW (fE hr jv) ?_
 refine aW (x := zv) (by rw [jS]; simp [zeroOf, hi, hz]) ?_
 intro k hk
 refine h k nc _ hk ⟨by rw [List.length_append, hl, jv, Nat.add_mul], .inr ⟨k, _, rfl, dI, ?_, hcap, fun j hj => ?_⟩⟩ ((mT.refl _ _).set (.inr hk))
 ·simp only [Array.size_append, List.size_toArray, hl, jv]
  have : (Builtin.zeroCells zv.cells (nc - (n + m))).size = (nc - (n + m)) * i.size := by simp [Builtin.zeroCells, hs]
  rw [this, ← Nat.add_mul, ← Nat.add_mul]; congr 1; omega
 ·rw [Nat.add_mul] at hj
  rw [Array.getElem?_append_left (by simp [hl, jv]; omega)]
  simp
theorem Hp.Tm {α : Type} {E : fO α} {R : Mem} {L L' : List HP} {M : Mem} {T : Nat} {P : Program} {t bytes ty d m k n c : Nat} {zero rc : List Value} {A : Option Addr} {l r : List α} {K : Value → Mem → Prop} {Kp : List PanicEntry → Mem → Prop}
  (h : Hp R L M) [hk : jV k L rc T L'] (hA : Src R L A (E.cells l)) (hn : n = l.length) (El : aY P t T E.z bytes zero) (he : rc = E.cells r) (hm : m = r.length) (hc : c < n + m) (hb : (l.length + r.length) * bytes ≤ 140737488355328)
  (g : ∀ b c' M', Hp R (bE E T (some ⟨b, 0, none⟩) c' (l ++ r) :: L') M' → K (.slice (some ⟨b, 0, none⟩) (l ++ r).length c') M') :
  be P (Builtin.append_ #[t, t] ty #[.slice A n c, .slice (some ⟨k, 0, none⟩) m d]) M K Kp := by
 subst hm; subst he; subst hn
 have hB : Sl M (some ⟨k, 0, none⟩) (E.cells r) := h.OU hk.pick
 obtain ⟨hu, i, zv, hi, hs, hby, hz, rfl, hl, hpos⟩ := El
 refine ER hu hu hi hz (by rw [hs, ← hl]; simp) (hA M h) (by rw [hs]; exact E.cj) hB (by rw [hs]; exact E.cj) hc (by rw [hby]; exact hb) (by omega) fun b c' M' hbn ho zR => ?_
 have h2 : Hp R (bE E T (some ⟨b, 0, none⟩) c' (l ++ r) :: L) M' := by
  have h3 : Hp R (fact True :: L) M := Hp.gv.2 ⟨trivial, h⟩
  refine h3.change (D := []) (D' := [b]) (fun A hA x hx => by cases hx) zR (fun x hx => by simp only [List.mem_singleton] at hx; subst hx; exact .inr hbn) ?_
  unfold bE own
  rw [List.length_append, E.nt]
  rw [hs] at ho
  have := ho.HW
  simpa [yA] using this
 have := g b c' M' (h2.map fun _ hs => hs.tail fun _ hx => (cq.pick hk.pick hx).drop)
 rwa [List.length_append] at this
section
variable {R : Mem} {L L' : List HP} {M : Mem} {P : Program} {t kt et : TypeId} {r : Nat} {l : AL} {k : Int} {kd : IntKind}
theorem Nd {z : Value} {i : TypeInfo} {K : Value → Mem → Prop} {Kp : List PanicEntry → Mem → Prop} (h : Hp R L M) [p : GQ r L (mB l) L'] (hu : P.underlying t = some (.map kt et)) (hk : P.underlying kt = some (.int kd)) (hi : P.info? et = some i) (hz : i.zero = some z)
  (g : K (.tuple #[(CF l k).getD z, .bool (CF l k).isSome]) M) : be P (Instr.lookup t (.map (some r)) (.int .i64 k) true) M K Kp := by
 have hb : M r = some (mB l) := (h.pick p.pick).OP
 unfold be Instr.lookup
 refine aW (aH hu M) ?_
 simp only
 refine eK P _ _ ?_
 refine uX hb ?_
 simp only [mB]
 refine aW (x := ()) (qS hk) ?_
 refine aW (uW hk) ?_
 unfold CF at g
 cases ha : wD k l 0 with
 | none =>
  rw [ha] at g
  simp only
  have hz0 : bQ P (zeroValue et) M = some z := by rw [jS]; simp [zeroOf, hi, hz]
  refine aW hz0 ?_
  refine aW (x := (z, false)) rfl ?_
  exact g
 | some x =>
  rw [ha] at g
  exact g
end
theorem GR {C : Ctx} {g : Nat} {args : List Value} {M : Mem} {K : Value → Mem → Prop} {Kp : List PanicEntry → Mem → Prop} (hg : 1 < g ∧ g < C.ok) (h : aa C.P g args.toArray M K Kp) : gr C (.func (.func g) #[] #[]) args M K Kp := by
 unfold gr
 simp only
 rw [if_pos hg]
 simpa using h
theorem jJ {z : Int} (h0 : 0 ≤ z) (h : z < 9223372036854775807) : IntKind.wrap .i64 (z + 1) = z + 1 := by
 obtain ⟨n, rfl⟩ := Int.eq_ofNat_of_zero_le h0
 have := nk (n := n + 1) (by omega)
 exact_mod_cast this
theorem Hp.uY {α : Type} {E : fO α} {R : Mem} {L : List HP} {M : Mem} {T c : Nat} {A : Option Addr} {l r : List α} {P : Program} {t bytes ty d m : Nat} {zero : List Value} {B : Option Addr} {K : Value → Mem → Prop} {Kp : List PanicEntry → Mem → Prop}
  (h : Hp R (bE E T A c l :: L) M) (El : aY P t T E.z bytes zero) (hr : Sl M B (E.cells r)) (hm : m = r.length) (hb : (l.length + r.length) * bytes ≤ 140737488355328)
  (g : ∀ A' c' M', Hp R (bE E T A' c' (l ++ r) :: L) M' → K (.slice A' (l ++ r).length c') M') :
  be P (Builtin.append_ #[t, t] ty #[.slice A l.length c, .slice B m d]) M K Kp := by
 subst hm
 have h2 : Hp R (own E.z T A l.length c (E.cells l) :: L) M := by
  have := h; unfold bE at this; exact this
 refine h2.append El hr E.cj E.iK hb fun A' c' M' h => ?_
 have := g A' c' M' (by unfold bE; rw [List.length_append, E.nt]; exact h)
 rwa [List.length_append] at this
theorem Hp.dW {α : Type} {E : fO α} {R : Mem} {L L' nY : List HP} {M : Mem} {T c n : Nat} {A : Option Addr} {l : List α} {P : Program} {t bytes ty k d m : Nat} {zero rc : List Value} {K : Value → Mem → Prop} {Kp : List PanicEntry → Mem → Prop}
  (h : Hp R L M) [ha : cJ A L α E T c l L'] [hk : jV k L' rc T nY] (El : aY P t T E.z bytes zero) (r : List α) (he : rc = E.cells r) (hn : n = l.length) (hm : m = r.length) (hb : (l.length + r.length) * bytes ≤ 140737488355328)
  (g : ∀ A' c' M', Hp R (bE E T A' c' (l ++ r) :: nY) M' → K (.slice A' (n + m) c') M') :
  be P (Builtin.append_ #[t, t] ty #[.slice A n c, .slice (some ⟨k, 0, none⟩) m d]) M K Kp := by
 subst hn
 refine h.bL (A := A) El r he hm hb fun A' c' M' h => ?_
 have := g A' c' M' h
 rwa [hm, ← List.length_append] at this
theorem lJ {C : Ctx} {g : Nat} {caps : Array Value} {args : List Value} {M : Mem} {K : Value → Mem → Prop} {Kp : List PanicEntry → Mem → Prop} (hg : 1 < g ∧ g < C.ok) (h : aa C.P g (args ++ caps.toList).toArray M K Kp) : gr C (.func (.func g) #[] caps) args M K Kp := by
 unfold gr
 simp only
 rw [if_pos hg]
 simpa using h
end Go.AF
namespace Go.Proofs
open Go.AF
set_option maxRecDepth 100000
set_option maxHeartbeats 1000000
attribute [local irreducible] aK dH fa cw az fk aE aP aX be bK aS
abbrev tO (A : Option Addr) (c : Nat) (l : List gH) : HP := bE fF 275 A c l
theorem JD : aY Tryz.prog 226 275 11 88 (fF.f ⟨0, 0, [], 0⟩) := aY.mk' (zv := .agg #[.int .i64 0, .int .i64 0, .int .i64 0, .int .i64 0, .int .i64 0, .int .i64 0, .int .i64 0, .int .i64 0, .int .i64 0, .int .i64 0, .int .i64 0]) (by kernel_rfl) (by kernel_rfl) rfl (by omega)
theorem gH.set_set {f : gH} {q u v : Int} : (f.set q u).set q v = f.set q v := by
 unfold gH.set
 congr 1
 apply List.map_congr_left
 intro i hi
 by_cases h : i = q.toNat
 ·rw [if_pos h, if_pos h]
 ·rw [if_neg h, if_neg h]
  simp [List.mem_range.1 hi, h]
section
variable {R : Mem} {L L' : List HP} {M : Mem} {K : Value → Mem → Prop} {Kp : List PanicEntry → Mem → Prop} {b i c : Nat} {l : List gH} {f : gH} {x : cQ}
theorem wF {q : Int} {o : Nat} {G : Int → Prop} (h : Hp R L M) [p : cJ (some ⟨b, 0, none⟩) L gH fF 275 c l L'] (hi : l[i]? = some f) (hq : bj q) (e : o = i * 11 + 2 + q.toNat) (g : G (f.bS q)) : aK (M.ld ⟨b, o, none⟩) .i64 G := by
 refine aR (Src.at (h.src (A := some ⟨b, 0, none⟩)) h (i := i) (j := 2 + q.toNat) hi (Wb hq.1 hq.2) ?_) g
 show _ = 0 + (i * 11 + (2 + q.toNat)); omega
theorem xR {q v : Int} {o : Nat} {G : Mem → Prop} (h : Hp R L M) [p : cJ (some ⟨b, 0, none⟩) L gH fF 275 c l L'] (hi : l[i]? = some f) (hq : bj q) (e : o = i * 11 + 2 + q.toNat)
  (k : ∀ M', Hp R (tO (some ⟨b, 0, none⟩) c (l.set i (f.set q v)) :: L') M' → G M') : aP M ⟨b, o, none⟩ (.int .i64 v) G := by
 obtain ⟨q0, q8⟩ := hq
 refine iL i (2 + q.toNat) h hi ?_ (SF q0 q8) ?_ k
 ·show _ < 11; omega
 ·show _ = i * 11 + (2 + q.toNat); omega
theorem Bc {o : Nat} {G : Int → Prop} (h : Hp R L M) [p : cJ (some ⟨b, 0, none⟩) L gH fF 275 c l L'] (hi : l[i]? = some f) (e : o = i * 11 + 1) (g : G f.pc) : aK (M.ld ⟨b, o, none⟩) .i64 G := by
 refine aR (Src.at (h.src (A := some ⟨b, 0, none⟩)) h (i := i) (j := 1) hi rfl ?_) g
 show _ = 0 + (i * 11 + 1); omega
theorem Bd {v : Int} {o : Nat} {G : Mem → Prop} (h : Hp R L M) [p : cJ (some ⟨b, 0, none⟩) L gH fF 275 c l L'] (hi : l[i]? = some f) (e : o = i * 11 + 1)
  (k : ∀ M', Hp R (tO (some ⟨b, 0, none⟩) c (l.set i { f with pc := v }) :: L') M' → G M') : aP M ⟨b, o, none⟩ (.int .i64 v) G := by
 refine iL i 1 h hi (by show 1 < 11; omega) Wc ?_ k
 show _ = i * 11 + 1; omega
theorem jf {α : Type} {l : List α} {i : Nat} {u v : α} : (l.set i u).set i v = l.set i v := by simp
def fOp : List Nat := [225, 226, 227, 228, 229, 230, 231, 232, 233]
theorem Qs (h : Hp R L M) [p : cJ (some ⟨b, 0, none⟩) L gH fF 275 c l L'] (hi : l[i]? = some f) (hx : x.cN) (n : Nat) (hn : x.op = (n : Int)) (h8 : n ≤ 8)
  (k : ∀ M', Hp R (tO (some ⟨b, 0, none⟩) c (l.set i (f.pure x)) :: L') M' → K (.tuple #[]) M') :
  aa Tryz.prog (fOp.getD n 0) #[.pointer (some ⟨b, i * 11, none⟩), .agg #[.int .i64 x.op, .int .i64 x.a, .int .i64 x.b, .int .i64 x.c]] M K Kp := by
 obtain ⟨op, xa, xb, xc⟩ := x
 obtain ⟨o1, o2, o3⟩ := hx
 dsimp only at hn o1 o2 o3 k ⊢
 have hsame : l.set i f = l := by obtain ⟨hl, rfl⟩ := List.getElem?_eq_some_iff.1 hi; simp
 subst hn
 have hlt := (List.getElem?_eq_some_iff.1 hi).1
 obtain rfl | rfl | rfl | rfl | rfl | rfl | rfl | rfl | rfl : n = 0 ∨ n = 1 ∨ n = 2 ∨ n = 3 ∨ n = 4 ∨ n = 5 ∨ n = 6 ∨ n = 7 ∨ n = 8 := by omega
 ·refine uI ?_
  have e : f.pure ⟨((0 : Nat) : Int), xa, xb, xc⟩ = f := rfl
  rw [e, hsame] at k
  repeat (first|(refine ae h ?_;clear h;intro kb M h)|(refine au h ?_;clear h;intro M h)|refine St.to h ?_|(apply Exists.intro;(repeat apply Exists.intro);refine And.intro rfl ?_)|refine av ?_|refine ai ?_|refine aj ?_)
  exact k _ ((h.row (some ⟨b, 0, none⟩)).ck)
 ·have ra : bj xa := o1 (by simp)
  refine nD ?_
  repeat (first|(refine ae h ?_;clear h;intro kb M h)|(refine au h ?_;clear h;intro M h)|refine St.to h ?_|(apply Exists.intro;(repeat apply Exists.intro);refine And.intro rfl ?_)|refine av ?_|refine ai ?_|refine aj ?_)
  refine ⟨ra.1, ra.2, xR h hi ra rfl fun M h => ?_⟩
  exact k _ h.ck
 ·obtain ⟨ra, rb⟩ := o2 rfl
  refine sX ?_
  repeat (first|(refine ae h ?_;clear h;intro kb M h)|(refine au h ?_;clear h;intro M h)|refine St.to h ?_|(apply Exists.intro;(repeat apply Exists.intro);refine And.intro rfl ?_)|refine av ?_|refine ai ?_|refine aj ?_)
  refine ⟨rb.1, rb.2, wF h hi rb rfl ?_⟩
  refine ⟨ra.1, ra.2, xR h hi ra rfl fun M h => ?_⟩
  exact k _ h.ck
 ·obtain ⟨ra, rb, rc⟩ := o3 (by simp)
  refine uJ ?_
  repeat (first|(refine ae h ?_;clear h;intro kb M h)|(refine au h ?_;clear h;intro M h)|refine St.to h ?_|(apply Exists.intro;(repeat apply Exists.intro);refine And.intro rfl ?_)|refine av ?_|refine ai ?_|refine aj ?_)
  refine ⟨rb.1, rb.2, wF h hi rb rfl ?_⟩
  repeat (first|(refine ae h ?_;clear h;intro kb M h)|(refine au h ?_;clear h;intro M h)|refine St.to h ?_|(apply Exists.intro;(repeat apply Exists.intro);refine And.intro rfl ?_)|refine av ?_|refine ai ?_|refine aj ?_)
  refine ⟨rc.1, rc.2, wF h hi rc rfl ?_⟩
  refine ⟨ra.1, ra.2, xR h hi ra rfl fun M h => ?_⟩
  exact k _ h.ck
 ·obtain ⟨ra, rb, rc⟩ := o3 (by simp)
  refine uK ?_
  repeat (first|(refine ae h ?_;clear h;intro kb M h)|(refine au h ?_;clear h;intro M h)|refine St.to h ?_|(apply Exists.intro;(repeat apply Exists.intro);refine And.intro rfl ?_)|refine av ?_|refine ai ?_|refine aj ?_)
  refine ⟨rb.1, rb.2, wF h hi rb rfl ?_⟩
  repeat (first|(refine ae h ?_;clear h;intro kb M h)|(refine au h ?_;clear h;intro M h)|refine St.to h ?_|(apply Exists.intro;(repeat apply Exists.intro);refine And.intro rfl ?_)|refine av ?_|refine ai ?_|refine aj ?_)
  refine ⟨rc.1, rc.2, wF h hi rc rfl ?_⟩
  refine ⟨ra.1, ra.2, xR h hi ra rfl fun M h => ?_⟩
  exact k _ h.ck
 ·obtain ⟨ra, rb, rc⟩ := o3 (by simp)
  refine uL ?_
  repeat (first|(refine ae h ?_;clear h;intro kb M h)|(refine au h ?_;clear h;intro M h)|refine St.to h ?_|(apply Exists.intro;(repeat apply Exists.intro);refine And.intro rfl ?_)|refine av ?_|refine ai ?_|refine aj ?_)
  refine ⟨rb.1, rb.2, wF h hi rb rfl ?_⟩
  repeat (first|(refine ae h ?_;clear h;intro kb M h)|(refine au h ?_;clear h;intro M h)|refine St.to h ?_|(apply Exists.intro;(repeat apply Exists.intro);refine And.intro rfl ?_)|refine av ?_|refine ai ?_|refine aj ?_)
  refine ⟨rc.1, rc.2, wF h hi rc rfl ?_⟩
  refine ⟨ra.1, ra.2, xR h hi ra rfl fun M h => ?_⟩
  exact k _ h.ck
 ·obtain ⟨ra, rb, rc⟩ := o3 (by simp)
  refine sY ?_
  repeat (first|(refine ae h ?_;clear h;intro kb M h)|(refine au h ?_;clear h;intro M h)|refine St.to h ?_|(apply Exists.intro;(repeat apply Exists.intro);refine And.intro rfl ?_)|refine av ?_|refine ai ?_|refine aj ?_)
  refine ⟨rb.1, rb.2, wF h hi rb rfl ?_⟩
  repeat (first|(refine ae h ?_;clear h;intro kb M h)|(refine au h ?_;clear h;intro M h)|refine St.to h ?_|(apply Exists.intro;(repeat apply Exists.intro);refine And.intro rfl ?_)|refine av ?_|refine ai ?_|refine aj ?_)
  refine ⟨rc.1, rc.2, wF h hi rc rfl ?_⟩
  repeat (first|(refine ae h ?_;clear h;intro kb M h)|(refine au h ?_;clear h;intro M h)|refine St.to h ?_|(apply Exists.intro;(repeat apply Exists.intro);refine And.intro rfl ?_)|refine av ?_|refine ai ?_|refine aj ?_)
  refine ⟨ra.1, ra.2, xR h hi ra rfl fun M h => ?_⟩
  have e : f.pure ⟨((6 : Nat) : Int), xa, xb, xc⟩ = f.set xa (if f.bS xb < f.bS xc then 1 else 0) := rfl
  rw [e] at k
  refine aJ.2 ⟨fun hl => ?_, fun hl => ?_⟩
  ·rw [if_pos hl] at k
   repeat (first|(refine ae h ?_;clear h;intro kb M h)|(refine au h ?_;clear h;intro M h)|refine St.to h ?_|(apply Exists.intro;(repeat apply Exists.intro);refine And.intro rfl ?_)|refine av ?_|refine ai ?_|refine aj ?_)
   have Qh : (l.set i (f.set xa 0))[i]? = some (f.set xa 0) := by simp [hlt]
   refine ⟨ra.1, ra.2, xR h Qh ra rfl fun M h => ?_⟩
   rw [jf, gH.set_set] at h
   exact k _ h.ck
  ·rw [if_neg hl] at k
   exact k _ h.ck
 ·refine sZ ?_
  repeat (first|(refine ae h ?_;clear h;intro kb M h)|(refine au h ?_;clear h;intro M h)|refine St.to h ?_|(apply Exists.intro;(repeat apply Exists.intro);refine And.intro rfl ?_)|refine av ?_|refine ai ?_|refine aj ?_)
  refine Bd h hi rfl fun M h => ?_
  exact k _ h.ck
 ·have ra : bj xa := o1 (by simp)
  refine pJ ?_
  repeat (first|(refine ae h ?_;clear h;intro kb M h)|(refine au h ?_;clear h;intro M h)|refine St.to h ?_|(apply Exists.intro;(repeat apply Exists.intro);refine And.intro rfl ?_)|refine av ?_|refine ai ?_|refine aj ?_)
  have e : f.pure ⟨((8 : Nat) : Int), xa, xb, xc⟩ = if f.bS xa ≠ 0 then { f with pc := xb } else f := rfl
  rw [e] at k
  refine ⟨ra.1, ra.2, wF h hi ra rfl ?_⟩
  refine fj.2 ⟨fun hl => ?_, fun hl => ?_⟩
  ·rw [if_pos hl] at k
   repeat (first|(refine ae h ?_;clear h;intro kb M h)|(refine au h ?_;clear h;intro M h)|refine St.to h ?_|(apply Exists.intro;(repeat apply Exists.intro);refine And.intro rfl ?_)|refine av ?_|refine ai ?_|refine aj ?_)
   refine Bd h hi rfl fun M h => ?_
   exact k _ h.ck
  ·rw [if_neg (by simpa using hl), hsame] at k
   exact k _ ((h.row (some ⟨b, 0, none⟩)).ck)
def Tn : AL := (List.range 9).map fun n : Nat => ((n : Int), .func (.func (fOp.getD n 0)) #[] #[])
theorem GS (h : Hp R L M) (k : ∀ m M', Hp R (ob m (mB Tn) :: L) M' → K (.map (some m)) M') : aa Tryz.prog 203 #[] M K Kp := by
 refine AK ?_
 refine UF h ?_
 clear h
 intro m M h
 replace h : Hp R (ob m (mB []) :: L) M := h
 have hu : Tryz.prog.underlying 361 = some (.map 25 359) := by kernel_rfl
 have hk : Tryz.prog.underlying 25 = some (.int .i64) := by kernel_rfl
 iterate 9
  refine yM h hu hk ?_
  clear h
  intro M h
 exact k _ _ h
theorem JE (h : Hp R L M) [p : cJ (some ⟨b, 0, none⟩) L gH fF 275 c l L'] (hi : l[i]? = some f) (hx : x.cN) (h0 : 0 ≤ x.op) (hs : 0 ≤ f.pc ∧ f.pc < 1000000000)
  (k1 : x.op ≤ 8 → ∀ M', Hp R (tO (some ⟨b, 0, none⟩) c (l.set i (f.next.pure x)) :: L') M' → K (.bool true) M')
  (k2 : 8 < x.op → ∀ M', Hp R (tO (some ⟨b, 0, none⟩) c l :: L') M' → K (.bool false) M') :
  aa Tryz.prog 190 #[.pointer (some ⟨b, i * 11, none⟩), .agg #[.int .i64 x.op, .int .i64 x.a, .int .i64 x.b, .int .i64 x.c]] M K Kp := by
 have hlt := (List.getElem?_eq_some_iff.1 hi).1
 obtain ⟨q, hq⟩ := Int.eq_ofNat_of_zero_le h0
 refine sL ?_
 repeat (first|(refine ae h ?_;clear h;intro kb M h)|(refine au h ?_;clear h;intro M h)|refine St.to h ?_|(apply Exists.intro;(repeat apply Exists.intro);refine And.intro rfl ?_)|refine av ?_|refine ai ?_|refine aj ?_)
 refine GS h ?_
 clear h
 intro m M h
 repeat (first|(refine ae h ?_;clear h;intro kb M h)|(refine au h ?_;clear h;intro M h)|refine St.to h ?_|(apply Exists.intro;(repeat apply Exists.intro);refine And.intro rfl ?_)|refine av ?_|refine ai ?_|refine aj ?_)
 have hu : Tryz.prog.underlying 361 = some (.map 25 359) := by kernel_rfl
 have hk : Tryz.prog.underlying 25 = some (.int .i64) := by kernel_rfl
 obtain ⟨ti, hti, htz⟩ : ∃ ti, Tryz.prog.info? 359 = some ti ∧ ti.zero = some .nilFunc := ⟨_, rfl, rfl⟩
 refine Nd h hu hk hti htz ?_
 refine ⟨_, _, rfl, bN h, ?_⟩
 by_cases h8 : x.op ≤ 8
 ·have hq8 : q ≤ 8 := by omega
  have hl : CF Tn x.op = some (.func (.func (fOp.getD q 0)) #[] #[]) := by
   rw [hq]
   obtain rfl | rfl | rfl | rfl | rfl | rfl | rfl | rfl | rfl : q = 0 ∨ q = 1 ∨ q = 2 ∨ q = 3 ∨ q = 4 ∨ q = 5 ∨ q = 6 ∨ q = 7 ∨ q = 8 := by omega
   all_goals rfl
  rw [hl]
  refine ai ?_
  refine Bc h hi rfl ?_
  rw [jJ (by omega) (by omega)]
  refine Bd h hi rfl ?_
  clear h
  intro M h
  have Qh : (l.set i { f with pc := f.pc + 1 })[i]? = some f.next := by simp [hlt, gH.next]
  repeat (first|(refine ae h ?_;clear h;intro kb M h)|(refine au h ?_;clear h;intro M h)|refine St.to h ?_|(apply Exists.intro;(repeat apply Exists.intro);refine And.intro rfl ?_)|refine av ?_|refine ai ?_|refine aj ?_)
  have hg : 1 < fOp.getD q 0 ∧ fOp.getD q 0 < Cx.ok := by
   obtain rfl | rfl | rfl | rfl | rfl | rfl | rfl | rfl | rfl : q = 0 ∨ q = 1 ∨ q = 2 ∨ q = 3 ∨ q = 4 ∨ q = 5 ∨ q = 6 ∨ q = 7 ∨ q = 8 := by omega
   all_goals exact ⟨by decide, by show _ < 255; decide⟩
  refine GR hg ?_
  refine Qs (f := f.next) h Qh hx q hq hq8 ?_
  clear h
  intro M h
  rw [jf] at h
  exact ⟨rfl, k1 h8 _ h.ck⟩
 ·have hl : CF Tn x.op = none := by
   rw [Tl, Dr]
   have : Tn.map (·.1) = [0, 1, 2, 3, 4, 5, 6, 7, 8] := by decide
   rw [this]; simp; omega
  rw [hl]
  refine aj ?_
  exact k2 (by omega) _ ((h.row (some ⟨b, 0, none⟩)).ck)
end
section
variable {R : Mem} {L L' : List HP} {M : Mem} {K : Value → Mem → Prop} {Kp : List PanicEntry → Mem → Prop} {b i c : Nat} {l : List gH} {f : gH} {x : cQ}
theorem nH {m : Nat} (hm : 0 < m) (h2 : m ≤ 1000000000) (k : K (.pointer (some ⟨b, (m - 1) * 11, none⟩)) M) : aa Tryz.prog 189 #[.slice (some ⟨b, 0, none⟩) m c] M K Kp := by
 refine uz ?_
 have e : IntKind.wrap .i64 ((m : Int) - 1) = ((m - 1 : Nat) : Int) := wn (by omega) (by omega)
 refine bh.2 ⟨fun h0 => by omega, fun _ => ?_⟩
 rw [e]
 refine ⟨by omega, by omega, bg ?_⟩
 simp only [Int.toNat_natCast, Nat.zero_add]
 exact k
theorem qT {fn v : Int} (h : Hp R L M) (k : ∀ b M', Hp R (tO (some ⟨b, 0, none⟩) 1 [gH.begin fn v] :: L) M' → K (.slice (some ⟨b, 0, none⟩) 1 1) M') : aa Tryz.prog 112 #[.int .i64 fn, .int .i64 v] M K Kp := by
 refine AI ?_
 refine ae h ?_
 clear h
 intro b M h
 exact k b M (h.fQ (E := fF) (l := [gH.begin fn v]) rfl)
theorem JF {fn v pF : Int} {A : Option Addr} (h : Hp R L M) [p : cJ A L gH fF 275 c l L'] (hl : 0 < l.length)
  (k1 : 16 ≤ l.length → K (.tuple #[.slice A l.length c, .bool false]) M)
  (k2 : l.length < 16 → ∀ b c' M', Hp R (tO (some ⟨b, 0, none⟩) c' (l ++ [⟨fn, 0, [v, 0, 0, 0, 0, 0, 0, 0], pF⟩]) :: L) M' → K (.tuple #[.slice (some ⟨b, 0, none⟩) (l.length + 1) c', .bool true]) M') :
  aa Tryz.prog 241 #[.slice A l.length c, .int .i64 fn, .int .i64 v, .int .i64 pF] M K Kp := by
 refine ta ?_
 have hcap := h.kH A
 refine aJ.2 ⟨fun wG => k1 (by omega), fun wG => ?_⟩
 refine ⟨by omega, by omega, by omega, by omega, by omega, by omega, ?_⟩
 refine ae h ?_
 clear h
 intro kb M h
 simp only [Int.toNat_natCast, Nat.sub_zero]
 have e : kP A 0 l.length 11 = A := by
  obtain ⟨bb, rfl⟩ := h.bF (A := A) hl (by decide)
  unfold kP
  rw [if_neg (by omega)]
  rfl
 rw [e]
 refine Hp.Tm (E := fF) (r := [⟨fn, 0, [v, 0, 0, 0, 0, 0, 0, 0], pF⟩]) h (h.src (A := A)) rfl JD rfl rfl (by omega) (by simp; omega) ?_
 clear h
 intro b c' M h
 refine aO ?_
 have := k2 (by omega) b c' M h
 rwa [List.length_append]
theorem ES {v : Int} {A : Option Addr} (h : Hp R L M) [p : cJ A L gH fF 275 c l L'] (hl : 0 < l.length) (hs : l.length ≤ 1000000)
  (Qt : l[l.length - 1]? = some f) (hin : bj f.pF)
  (k1 : l.length < 2 → K (.tuple #[.slice none 0 0, .bool false]) M)
  (k2 : 2 ≤ l.length → ∀ b c' M', ∀ g, l[l.length - 2]? = some g → Hp R (tO (some ⟨b, 0, none⟩) c' ((l.take (l.length - 1)).set (l.length - 2) (g.set f.pF v)) :: L) M' → K (.tuple #[.slice (some ⟨b, 0, none⟩) (l.length - 1) c', .bool true]) M') :
  aa Tryz.prog 242 #[.slice A l.length c, .int .i64 v] M K Kp := by
 refine pK ?_
 have hcap := h.kH A
 refine aJ.2 ⟨fun wG => k1 (by omega), fun wG => ?_⟩
 have e : IntKind.wrap .i64 ((l.length : Int) - 1) = ((l.length - 1 : Nat) : Int) := wn (by omega) (by omega)
 obtain ⟨ba, rfl⟩ := h.bF (A := A) hl (by decide)
 refine ae h ?_
 clear h
 intro kb M h
 rw [e]
 refine ⟨by omega, by omega, by omega, by omega, by omega, by omega, ?_⟩
 simp only [Int.toNat_natCast, Nat.sub_zero]
 have e2 : kP (some ⟨ba, 0, none⟩) 0 c 11 = some ⟨ba, 0, none⟩ := by
  unfold kP
  rw [if_neg (by omega)]
  rfl
 rw [e2]
 refine h.gE fF JD (l.take (l.length - 1)) ((h.src (A := some ⟨ba, 0, none⟩)).UH _) (by simp) (by simp; omega) ?_
 clear h
 intro A' c' M h
 have hlen : (l.take (l.length - 1)).length = l.length - 1 := by simp
 obtain ⟨b', rfl⟩ := h.bF (A := A') (by omega) (by decide)
 refine aO ?_
 rw [hlen]
 refine nH (by omega) (by omega) ?_
 refine jB (bg ?_)
 refine nH (by omega) (by omega) ?_
 refine jB (bg ?_)
 refine aR (Src.at (h.src (A := some ⟨ba, 0, none⟩)) h (i := l.length - 1) (j := 10) Qt rfl (by show _ = 0 + ((l.length - 1) * 11 + 10); omega)) ?_
 obtain ⟨g, hg⟩ := aM (l := l) (i := l.length - 2) (by omega)
 refine ⟨hin.1, hin.2, ?_⟩
 have Nf : (l.take (l.length - 1))[l.length - 2]? = some g := by rw [List.getElem?_take, if_pos (by omega)]; exact hg
 refine xR h Nf hin (by omega) ?_
 clear h
 intro M h
 exact k2 (by omega) b' c' M g hg h
abbrev jg (A : Option Addr) (c : Nat) (l : List Int) : HP := bE aZ 3 A c l
def eT : um Lk := ⟨fun b x => exs fun A : Option Addr => exs fun c : Nat => sep [pt b [.int .i64 x.owner, .slice A x.waits.length c] 307, jg A c x.waits]⟩
def Lk.take (x : Lk) (g : Int) : Lk × Bool := if x.owner = -1 then (⟨g, x.waits⟩, true) else (⟨x.owner, x.waits ++ [g]⟩, false)
def Lk.tP (x : Lk) (g : Int) : Lk × Int × Int :=
 if x.owner = -1 ∨ x.owner ≠ g then (x, -1, 5) else (⟨x.waits.headD (-1), x.waits.tail⟩, x.waits.headD (-1), 0)
variable {y : Lk}
theorem r9 (h : Hp R L M) [o : b6 eT b L y L'] : ∃ A c, Hp R (pt b [.int .i64 y.owner, .slice A y.waits.length c] 307 :: jg A c y.waits :: L') M := by
 have := h.obj eT b
 simpa only [eT, Hp.dU, Hp.bl, List.cons_append, List.nil_append] using this
theorem gS {A : Option Addr} {n c : Nat} {o : Int} {ws : List Int} {L1 L2 : List HP} (h : Hp R L M) (b : Nat) [p : jV b L [.int .i64 o, .slice A n c] 307 L1] [p1 : cJ A L1 Int aZ 3 c ws L2] (e : n = ws.length := by first | rfl | simp) : Hp R (ay eT b ⟨o, ws⟩ :: L2) M := by
 subst e
 refine Hp.xw ?_
 simp only [eT, Hp.dU, Hp.bl, List.cons_append, List.nil_append]
 exact ⟨_, _, h.sub (.cons p.pick (.cons p1.pick .refl))⟩
theorem Ds (h : Hp R L M) (k : ∀ b M', Hp R (ay eT b ⟨-1, []⟩ :: L) M' → K (.pointer (some ⟨b, 0, none⟩)) M') : aa Tryz.prog 114 #[] M K Kp := by
 refine Et ?_
 refine ae h ?_
 clear h
 intro b M h
 have h := h.bP aZ 3
 exact k b M (gS h b)
theorem JG {g : Int} (h : Hp R L M) [o : b6 eT b L y L'] (hs : y.waits.length ≤ 1000000000) (k : ∀ M', Hp R (ay eT b (y.take g).1 :: L') M' → K (.bool (y.take g).2) M') :
  aa Tryz.prog 245 #[.pointer (some ⟨b, 0, none⟩), .int .i64 g] M K Kp := by
 refine uM ?_
 have h' := r9 h (b := b)
 clear h
 obtain ⟨A, c, h⟩ := h'
 repeat (first|(refine ae h ?_;clear h;intro kb M h)|(refine au h ?_;clear h;intro M h)|refine St.to h ?_|(apply Exists.intro;(repeat apply Exists.intro);refine And.intro rfl ?_)|refine av ?_|refine ai ?_|refine aj ?_)
 unfold Lk.take at k
 refine fj.2 ⟨fun hn => ?_, fun hn => ?_⟩
 ·rw [if_neg hn] at k
  repeat (first|(refine ae h ?_;clear h;intro kb M h)|(refine au h ?_;clear h;intro M h)|refine St.to h ?_|(apply Exists.intro;(repeat apply Exists.intro);refine And.intro rfl ?_)|refine av ?_|refine ai ?_|refine aj ?_)
  refine h.bL qv [g] rfl rfl (by simp; omega) ?_
  clear h
  intro A' c' M h
  repeat (first|(refine ae h ?_;clear h;intro kb M h)|(refine au h ?_;clear h;intro M h)|refine St.to h ?_|(apply Exists.intro;(repeat apply Exists.intro);refine And.intro rfl ?_)|refine av ?_|refine ai ?_|refine aj ?_)
  exact k _ (gS h b).ck
 ·rw [if_pos hn] at k
  repeat (first|(refine ae h ?_;clear h;intro kb M h)|(refine au h ?_;clear h;intro M h)|refine St.to h ?_|(apply Exists.intro;(repeat apply Exists.intro);refine And.intro rfl ?_)|refine av ?_|refine ai ?_|refine aj ?_)
  exact k _ (gS h b).ck
theorem JH {g : Int} (h : Hp R L M) [o : b6 eT b L y L'] (hs : y.waits.length ≤ 1000000000) (k : ∀ M', Hp R (ay eT b (y.tP g).1 :: L') M' → K (.tuple #[.int .i64 (y.tP g).2.1, .int .i64 (y.tP g).2.2]) M') :
  aa Tryz.prog 246 #[.pointer (some ⟨b, 0, none⟩), .int .i64 g] M K Kp := by
 refine uN ?_
 obtain ⟨ow, ws⟩ := y
 have h' := r9 h (b := b)
 clear h
 obtain ⟨A, c, h⟩ := h'
 dsimp only at h hs
 repeat (first|(refine ae h ?_;clear h;intro kb M h)|(refine au h ?_;clear h;intro M h)|refine St.to h ?_|(apply Exists.intro;(repeat apply Exists.intro);refine And.intro rfl ?_)|refine av ?_|refine ai ?_|refine aj ?_)
 unfold Lk.tP at k
 refine bh.2 ⟨fun hn => ?_, fun hn => ?_⟩
 ·rw [if_pos (.inl hn)] at k
  exact k _ (gS h b).ck
 repeat (first|(refine ae h ?_;clear h;intro kb M h)|(refine au h ?_;clear h;intro M h)|refine St.to h ?_|(apply Exists.intro;(repeat apply Exists.intro);refine And.intro rfl ?_)|refine av ?_|refine ai ?_|refine aj ?_)
 refine fj.2 ⟨fun BZ => ?_, fun BZ => ?_⟩
 ·rw [if_pos (.inr BZ)] at k
  exact k _ (gS h b).ck
 rw [if_neg (by rintro (h | h) <;> contradiction)] at k
 repeat (first|(refine ae h ?_;clear h;intro kb M h)|(refine au h ?_;clear h;intro M h)|refine St.to h ?_|(apply Exists.intro;(repeat apply Exists.intro);refine And.intro rfl ?_)|refine av ?_|refine ai ?_|refine aj ?_)
 refine aJ.2 ⟨fun hr => ?_, fun hr => ?_⟩
 ·cases ws with
  | nil => simp at hr
  | cons w r =>
   repeat (first|(refine ae h ?_;clear h;intro kb M h)|(refine au h ?_;clear h;intro M h)|refine St.to h ?_|(apply Exists.intro;(repeat apply Exists.intro);refine And.intro rfl ?_)|refine av ?_|refine ai ?_|refine aj ?_)
   obtain ⟨q, rfl⟩ := h.bF (A := A) (by simp) (by decide)
   repeat (first|(refine ae h ?_;clear h;intro kb M h)|(refine au h ?_;clear h;intro M h)|refine St.to h ?_|(apply Exists.intro;(repeat apply Exists.intro);refine And.intro rfl ?_)|refine av ?_|refine ai ?_|refine aj ?_)
   refine aR (Src.at (h.src (A := some ⟨q, 0, none⟩)) h (i := 0) (j := 0) rfl rfl (by simp [aZ])) ?_
   have hcap := h.kH (some ⟨q, 0, none⟩)
   have hlen : r.length + 1 ≤ 1000000000 := by simpa using hs
   repeat (first|(refine ae h ?_;clear h;intro kb M h)|(refine au h ?_;clear h;intro M h)|refine St.to h ?_|(apply Exists.intro;(repeat apply Exists.intro);refine And.intro rfl ?_)|refine av ?_|refine ai ?_|refine aj ?_)
   simp only [Int.toNat_natCast]
   refine h.gE aZ qv r ((h.src (A := some ⟨q, 0, none⟩)).drop (m := 1) hcap) (by simp) (by omega) ?_
   clear h
   intro A' c' M h
   repeat (first|(refine ae h ?_;clear h;intro kb M h)|(refine au h ?_;clear h;intro M h)|refine St.to h ?_|(apply Exists.intro;(repeat apply Exists.intro);refine And.intro rfl ?_)|refine av ?_|refine ai ?_|refine aj ?_)
   exact k _ (gS h b).ck
 ·cases ws with
  | cons v l => simp at hr
  | nil =>
   repeat (first|(refine ae h ?_;clear h;intro kb M h)|(refine au h ?_;clear h;intro M h)|refine St.to h ?_|(apply Exists.intro;(repeat apply Exists.intro);refine And.intro rfl ?_)|refine av ?_|refine ai ?_|refine aj ?_)
   exact k _ (gS h b).ck
end
structure PA where
 f : Option Addr
 fc : Nat
 c : Option Addr
 cc : Nat
 k : Option Addr
 kc : Nat
abbrev GA := Option Addr × Nat
abbrev qU (y : jt) (A : Option Addr) (c : Nat) : List Value := [.int .i64 y.st, .slice A y.fs.length c, .int .i64 y.wt.op, .int .i64 y.wt.a, .int .i64 y.wt.b, .int .i64 y.wt.c]
def fY : um (jt × GA) := ⟨fun b x => sep [pt b (qU x.1 x.2.1 x.2.2) 229, tO x.2.1 x.2.2 x.1.fs]⟩
structure WA where
 ag : Option Addr
 cg : Nat
 gb : List Nat
 ac : Option Addr
 cc : Nat
 cb : List Nat
 al : Option Addr
 cl : Nat
 lb : List Nat
 ah : Option Addr
 ch : Nat
 ao : Option Addr
 co : Nat
 ar : Option Addr
 cr : Nat
abbrev mX (pa : PA) (p : cv) (dr : Value) (a : WA) (x : Wd) : List Value :=
 [.slice pa.f p.funcs.length pa.fc, .slice pa.c p.dS.length pa.cc, .int .i64 p.aI, .slice pa.k p.cases.length pa.kc, .slice a.ag a.gb.length a.cg, .int .u64 x.clock,
  .slice a.ac a.cb.length a.cc, .slice a.al a.lb.length a.cl, .slice a.ah x.hl.length a.ch, .int .u64 x.lz, .slice a.ao x.out.length a.co, .int .i64 x.end_, .int .i64 x.code, .slice a.ar x.ready.length a.cr, dr]
abbrev yN (A : Option Addr) (c : Nat) (l : List Nat) : HP := bE mU 224 A c l
abbrev yO (A : Option Addr) (c : Nat) (l : List Nat) : HP := bE mU 230 A c l
abbrev yP (A : Option Addr) (c : Nat) (l : List Nat) : HP := bE mU 232 A c l
abbrev eu (A : Option Addr) (c : Nat) (l : List bA) : HP := bE kU 203 A c l
abbrev tX (a : WA) (x : Wd) (L : List HP) : List HP :=
 yN a.ag a.cg a.gb :: yO a.ac a.cc a.cb :: bp bI a.cb x.aB :: yP a.al a.cl a.lb :: bp eT a.lb x.aI :: eu a.ah a.ch x.hl :: jz a.ao a.co x.out :: jg a.ar a.cr x.ready :: L
def fG (gg : List GA) (a : WA) (x : Wd) : Prop := a.gb.length = x.gs.length ∧ gg.length = x.gs.length ∧ a.cb.length = x.aB.length ∧ a.lb.length = x.aI.length
def bC (pa : PA) (p : cv) (gg : List GA) (dr : Value) : um Wd := ⟨fun b x => exs fun a : WA =>
 sep (pt b (mX pa p dr a x) 161 :: bp fY a.gb (x.gs.zip gg) :: fact (fG gg a x) :: tX a x [])⟩
class xS (b : Nat) (L : List HP) (pa : outParam PA) (p : outParam cv) (gg : outParam (List GA)) (dr : outParam Value) (x : outParam Wd) (L' : outParam (List HP)) : Prop where
 pick : cZ L (ay (bC pa p gg dr) b x) L'
instance xS.here {pa : PA} {p : cv} {gg : List GA} {dr : Value} {b : Nat} {x : Wd} {L : List HP} : xS b (ay (bC pa p gg dr) b x :: L) pa p gg dr x L := ⟨.here⟩
instance (priority := low) xS.there {pa : PA} {p : cv} {gg : List GA} {dr : Value} {b : Nat} {x : Wd} {Q : HP} {L L' : List HP} [h : xS b L pa p gg dr x L'] : xS b (Q :: L) pa p gg dr x (Q :: L') := ⟨.there h.pick⟩
section
variable {R : Mem} {L L' : List HP} {M : Mem} {K : Value → Mem → Prop} {Kp : List PanicEntry → Mem → Prop} {pa : PA} {p : cv} {gg : List GA} {dr : Value} {b : Nat} {x : Wd}
theorem cG (h : Hp R L M) [o : xS b L pa p gg dr x L'] : ∃ a : WA, fG gg a x ∧ Hp R (pt b (mX pa p dr a x) 161 :: bp fY a.gb (x.gs.zip gg) :: tX a x L') M := by
 have := h.pick o.pick
 unfold ay at this
 simp only [bC, tX, Hp.dU, Hp.bl, List.cons_append, List.nil_append] at this
 obtain ⟨a, h⟩ := this
 have h2 := h.pick (P := fact (fG gg a x)) (.there (.there .here))
 exact ⟨a, (Hp.gv.1 h2).1, (Hp.gv.1 h2).2⟩
theorem kj {a : WA} (hl : fG gg a x) (h : Hp R (pt b (mX pa p dr a x) 161 :: bp fY a.gb (x.gs.zip gg) :: tX a x L) M) : Hp R (ay (bC pa p gg dr) b x :: L) M := by
 refine Hp.xw ?_
 simp only [bC, tX, Hp.dU, Hp.bl, List.cons_append, List.nil_append]
 refine ⟨a, ?_⟩
 have h2 : Hp R (fact (fG gg a x) :: pt b (mX pa p dr a x) 161 :: bp fY a.gb (x.gs.zip gg) :: tX a x L) M := Hp.gv.2 ⟨hl, h⟩
 exact h2.ov (.there (.there .here))
theorem bk {a : WA} {L0 L1 L2 L3 L4 L5 L6 L7 L8 L9 : List HP} (hl : fG gg a x) (h : Hp R L M) (b : Nat)
  [p0 : jV b L (mX pa p dr a x) 161 L0] [p1 : gk fY L0 a.gb (x.gs.zip gg) L1] [p2 : cJ a.ag L1 Nat mU 224 a.cg a.gb L2] [p3 : cJ a.ac L2 Nat mU 230 a.cc a.cb L3]
  [p4 : gk bI L3 a.cb x.aB L4] [p5 : cJ a.al L4 Nat mU 232 a.cl a.lb L5] [p6 : gk eT L5 a.lb x.aI L6] [p7 : cJ a.ah L6 bA kU 203 a.ch x.hl L7] [p8 : cJ a.ao L7 Int aZ 2 a.co x.out L8]
  [p9 : cJ a.ar L8 Int aZ 3 a.cr x.ready L9] : Hp R (ay (bC pa p gg dr) b x :: L9) M :=
 kj hl (h.sub (.cons p0.pick (.cons p1.pick (.cons p2.pick (.cons p3.pick (.cons p4.pick (.cons p5.pick (.cons p6.pick (.cons p7.pick (.cons p8.pick (.cons p9.pick .refl)))))))))))
theorem GU {α β : Type} : ∀ {l : List α} {m : List β} {i : Nat} {u : α} {v : β}, m[i]? = some v → (l.zip m).set i (u, v) = (l.set i u).zip m
 | [], _, _, _, _, _ => by simp
 | a :: l, [], i, u, v, h => by simp at h
 | a :: l, w :: m, 0, u, v, h => by simp at h; subst h; rfl
 | a :: l, w :: m, i + 1, u, v, h => by
  have := GU (l := l) (u := u) (show m[i]? = some v from by simpa using h)
  simp [this]
theorem mG {α β : Type} : ∀ {l : List α} {m : List β} {i : Nat} {u : α} {v : β}, l[i]? = some u → m[i]? = some v → (l.zip m)[i]? = some (u, v)
 | [], _, _, _, _, h, _ => by simp at h
 | a :: l, [], i, u, v, _, h => by simp at h
 | a :: l, w :: m, 0, u, v, h, g => by simp at h g; subst h; subst g; rfl
 | a :: l, w :: m, i + 1, u, v, h, g => by simpa using mG (show l[i]? = some u from by simpa using h) (show m[i]? = some v from by simpa using g)
theorem lW {c : Nat} {y : jt} {A : Option Addr} (h : Hp R L M) [o : b6 fY b L (y, (A, c)) L'] : Hp R (pt b (qU y A c) 229 :: tO A c y.fs :: L') M := by
 have := h.obj fY b
 simpa only [fY, Hp.bl, List.cons_append, List.nil_append] using this
theorem nI {A : Option Addr} {n c : Nat} {st o1 o2 o3 o4 : Int} {fs : List gH} {L1 L2 : List HP} (h : Hp R L M) (b : Nat) [p : jV b L [.int .i64 st, .slice A n c, .int .i64 o1, .int .i64 o2, .int .i64 o3, .int .i64 o4] 229 L1] [p1 : cJ A L1 gH fF 275 c fs L2]
  (e : n = fs.length := by first | rfl | simp) : Hp R (ay fY b (⟨st, fs, ⟨o1, o2, o3, o4⟩⟩, (A, c)) :: L2) M := by
 subst e
 refine Hp.xw ?_
 simp only [fY, Hp.bl, List.cons_append, List.nil_append]
 exact h.sub (.cons p.pick (.cons p1.pick .refl))
theorem ko {g : Int} (h : Hp R L M) [o : xS b L pa p gg dr x L'] (h0 : 0 ≤ g) (hg : g < x.gs.length) :
  ∃ (a : WA) (gb : Nat) (A : Option Addr) (c : Nat), fG gg a x ∧ a.gb[g.toNat]? = some gb ∧ gg[g.toNat]? = some (A, c) ∧
   Hp R (pt gb (qU (aq x g) A c) 229 :: tO A c (aq x g).fs :: pt b (mX pa p dr a x) 161 :: mF fY a.gb (x.gs.zip gg) g.toNat :: tX a x L') M := by
 obtain ⟨a, hl, h1⟩ := cG h (b := b)
 obtain ⟨l1, l2, l3, l4⟩ := hl
 obtain ⟨gb, gd⟩ := aM (l := a.gb) (i := g.toNat) (by omega)
 obtain ⟨⟨A, c⟩, fu⟩ := aM (l := gg) (i := g.toNat) (by omega)
 obtain ⟨y, hy⟩ := aM (l := x.gs) (i := g.toNat) (by omega)
 have e : aq x g = y := by simp [aq, hy]
 rw [e]
 have h2 := h1.cK fY gd (mG hy fu)
 have h3 := lW (b := gb) h2
 exact ⟨a, gb, A, c, ⟨l1, l2, l3, l4⟩, gd, fu, h3.sub bu⟩
theorem dh {a : WA} {A : Option Addr} {c n : Nat} {g : Int} {st o1 o2 o3 o4 : Int} {fs : List gH} {L1 L2 L3 : List HP} (h : Hp R L M) (gb : Nat) (hl : fG gg a x) (gd : a.gb[g.toNat]? = some gb) (fu : gg[g.toNat]? = some (A, c))
  [p1 : jV gb L [.int .i64 st, .slice A n c, .int .i64 o1, .int .i64 o2, .int .i64 o3, .int .i64 o4] 229 L1] [p2 : cJ A L1 gH fF 275 c fs L2]
  [p3 : yJ fY L2 a.gb (x.gs.zip gg) g.toNat L3] (e : n = fs.length := by first | rfl | simp) : Hp R (bp fY a.gb ((x.gs.set g.toNat ⟨st, fs, ⟨o1, o2, o3, o4⟩⟩).zip gg) :: L3) M := by
 have h1 := nI h gb e
 obtain ⟨l1, l2, l3, l4⟩ := hl
 have hi := (List.getElem?_eq_some_iff.1 gd).1
 have h2 := h1.eF fY gb gd (by rw [List.length_zip]; omega)
 rwa [GU fu] at h2
end
section
variable {R : Mem} {L L' : List HP} {M : Mem} {K : Value → Mem → Prop} {Kp : List PanicEntry → Mem → Prop} {pa : PA} {p : cv} {gg : List GA} {dr : Value} {b : Nat} {x : Wd}
theorem Qu {A : Option Addr} {l : List Nat} {T c q i bb : Nat} (h : Hp R L M) [r : cJ A L Nat mU T c l L'] (hq : A = some ⟨q, 0, none⟩) (hb : l[i]? = some bb) : M.ld ⟨q, 0 + i, none⟩ = some (.pointer (some ⟨bb, 0, none⟩)) := by
 subst hq
 exact Src.at (h.src (A := some ⟨q, 0, none⟩)) h (i := i) (j := 0) hb rfl (by simp [mU])
theorem uZ {A : Option Addr} {l : List Nat} {T c bb i : Nat} {G : Nat → Nat → Option Addr → Prop} (h : Hp R L M) [r : cJ A L Nat mU T c l L'] (hb : l[i]? = some bb) (k : ∀ q, A = some ⟨q, 0, none⟩ → G q 0 (some ⟨bb, 0, none⟩)) :
  aE A fun k4 k5 => cw (M.ld ⟨k4, k5 + i, none⟩) fun A6 => G k4 k5 A6 := by
 obtain ⟨q, hq⟩ := h.bF (A := A) (by have := (List.getElem?_eq_some_iff.1 hb).1; omega) (by decide)
 have h2 := Qu h hq hb
 subst hq
 refine bg ?_
 rw [h2]
 exact jB (k q rfl)
theorem iE {g : Int} (h : Hp R L M) [o : xS b L pa p gg dr x L'] (h0 : 0 ≤ g) (hg : g < x.gs.length) (hr : x.ready.length ≤ 1000000000)
  (k : ∀ M', Hp R (ay (bC pa p gg dr) b (x.fL g) :: L') M' → K (.tuple #[]) M') : aa Tryz.prog 158 #[.pointer (some ⟨b, 0, none⟩), .int .i64 g] M K Kp := by
 refine sK ?_
 have h' := ko h (b := b) h0 hg
 clear h
 obtain ⟨a, gb, A, c, hl, gd, fu, h⟩ := h'
 have hl' := hl
 obtain ⟨l1, l2, l3, l4⟩ := hl'
 repeat (first|(refine ae h ?_;clear h;intro kb M h)|(refine au h ?_;clear h;intro M h)|refine St.to h ?_|(apply Exists.intro;(repeat apply Exists.intro);refine And.intro rfl ?_)|refine av ?_|refine ai ?_|refine aj ?_)
 refine uZ h gd fun q hq => ?_
 repeat (first|(refine ae h ?_;clear h;intro kb M h)|(refine au h ?_;clear h;intro M h)|refine St.to h ?_|(apply Exists.intro;(repeat apply Exists.intro);refine And.intro rfl ?_)|refine av ?_|refine ai ?_|refine aj ?_)
 refine h.bL qv [g] rfl rfl (by simp; omega) ?_
 clear h
 intro A' c' M h
 repeat (first|(refine ae h ?_;clear h;intro kb M h)|(refine au h ?_;clear h;intro M h)|refine St.to h ?_|(apply Exists.intro;(repeat apply Exists.intro);refine And.intro rfl ?_)|refine av ?_|refine ai ?_|refine aj ?_)
 replace h := dh h gb hl gd fu
 exact k _ (kj (a := { a with ar := A', cr := c' }) ⟨by simpa [Wd.fL, Wd.bG] using l1, by simpa [Wd.fL, Wd.bG] using l2, l3, l4⟩ (h.sub bu))
theorem eX {y : jt} (h : 0 < y.fs.length) : y.fs[y.fs.length - 1]? = some y.top := by
 unfold jt.top
 rw [List.getD_eq_getElem?_getD, List.getElem?_eq_getElem (by omega)]; rfl
theorem dK {a : WA} {g : Int} {y : jt} (hl : fG gg a x) : fG gg a (x.bG g y) := by
 obtain ⟨l1, l2, l3, l4⟩ := hl
 exact ⟨by simpa [Wd.bG] using l1, by simpa [Wd.bG] using l2, l3, l4⟩
theorem mH {g : Int} {i : cQ} (h : Hp R L M) [o : xS b L pa p gg dr x L'] (h0 : 0 ≤ g) (hg : g < x.gs.length)
  (k : ∀ M', Hp R (ay (bC pa p gg dr) b (x.block g i) :: L') M' → K (.tuple #[]) M') : aa Tryz.prog 208 #[.pointer (some ⟨b, 0, none⟩), .int .i64 g, .agg #[.int .i64 i.op, .int .i64 i.a, .int .i64 i.b, .int .i64 i.c]] M K Kp := by
 refine qB ?_
 have h' := ko h (b := b) h0 hg
 clear h
 obtain ⟨a, gb, A, c, hl, gd, fu, h⟩ := h'
 have hl' := hl
 obtain ⟨l1, l2, l3, l4⟩ := hl'
 repeat (first|(refine ae h ?_;clear h;intro kb M h)|(refine au h ?_;clear h;intro M h)|refine St.to h ?_|(apply Exists.intro;(repeat apply Exists.intro);refine And.intro rfl ?_)|refine av ?_|refine ai ?_|refine aj ?_)
 refine uZ h gd fun q hq => ?_
 repeat (first|(refine ae h ?_;clear h;intro kb M h)|(refine au h ?_;clear h;intro M h)|refine St.to h ?_|(apply Exists.intro;(repeat apply Exists.intro);refine And.intro rfl ?_)|refine av ?_|refine ai ?_|refine aj ?_)
 refine uZ h gd fun q2 oa => ?_
 repeat (first|(refine ae h ?_;clear h;intro kb M h)|(refine au h ?_;clear h;intro M h)|refine St.to h ?_|(apply Exists.intro;(repeat apply Exists.intro);refine And.intro rfl ?_)|refine av ?_|refine ai ?_|refine aj ?_)
 replace h := dh h gb hl gd fu
 exact k _ (kj (a := a) (dK hl) (h.sub bu))
theorem wH {g kk : Int} (h : Hp R L M) [o : xS b L pa p gg dr x L'] (hg : br x g) (hc : bj (aq x g).wt.c) (hs : x.Sm)
  (k : ∀ M', Hp R (ay (bC pa p gg dr) b (x.gR g kk) :: L') M' → K (.tuple #[]) M') : aa Tryz.prog 251 #[.pointer (some ⟨b, 0, none⟩), .int .i64 g, .int .i64 kk] M K Kp := by
 refine pL ?_
 obtain ⟨h0, h1, h2, h3⟩ := hg
 obtain ⟨s1, s2, s3, s4, s5, s6, s7, s8⟩ := hs
 have h' := ko h (b := b) h0 h1
 clear h
 obtain ⟨a, gb, A, c, hl, gd, fu, h⟩ := h'
 have hl' := hl
 obtain ⟨l1, l2, l3, l4⟩ := hl'
 repeat (first|(refine ae h ?_;clear h;intro kb M h)|(refine au h ?_;clear h;intro M h)|refine St.to h ?_|(apply Exists.intro;(repeat apply Exists.intro);refine And.intro rfl ?_)|refine av ?_|refine ai ?_|refine aj ?_)
 refine uZ h gd fun q hq => ?_
 repeat (first|(refine ae h ?_;clear h;intro kb M h)|(refine au h ?_;clear h;intro M h)|refine St.to h ?_|(apply Exists.intro;(repeat apply Exists.intro);refine And.intro rfl ?_)|refine av ?_|refine ai ?_|refine aj ?_)
 refine uZ h gd fun q2 oa => ?_
 repeat (first|(refine ae h ?_;clear h;intro kb M h)|(refine au h ?_;clear h;intro M h)|refine St.to h ?_|(apply Exists.intro;(repeat apply Exists.intro);refine And.intro rfl ?_)|refine av ?_|refine ai ?_|refine aj ?_)
 obtain ⟨bs, rfl⟩ := h.bF (A := A) h2 (by decide)
 refine nH h2 (by omega) ?_
 repeat (first|(refine ae h ?_;clear h;intro kb M h)|(refine au h ?_;clear h;intro M h)|refine St.to h ?_|(apply Exists.intro;(repeat apply Exists.intro);refine And.intro rfl ?_)|refine av ?_|refine ai ?_|refine aj ?_)
 refine ⟨hc.1, hc.2, xR h (eX h2) hc rfl ?_⟩
 clear h
 intro M h
 repeat (first|(refine ae h ?_;clear h;intro kb M h)|(refine au h ?_;clear h;intro M h)|refine St.to h ?_|(apply Exists.intro;(repeat apply Exists.intro);refine And.intro rfl ?_)|refine av ?_|refine ai ?_|refine aj ?_)
 refine Gl h (Src.row (A := a.ac)) rfl (by omega) l3 (fun c hc => (s1 c hc).mono (by omega)) ?_
 clear h
 intro M h
 refine ⟨rfl, ?_⟩
 replace h := dh h gb hl gd fu
 exact k _ (kj (a := a) (x := x.gR g kk) ⟨by simpa [Wd.gR, Wd.leave, Wd.bB, Wd.bG] using l1, by simpa [Wd.gR, Wd.leave, Wd.bB, Wd.bG] using l2, by simpa [Wd.gR, Wd.leave, Wd.bB, Wd.bG] using l3, l4⟩ (h.sub bu))
end
theorem jh {x : Wd} {g q v : Int} (h : br x g) : aq (x.bB g q v) g = (aq x g).cW ((aq x g).top.set q v) := g9 h.1 h.2.1
theorem ji {x : Wd} {g q v : Int} (h : br x g) : br (x.bB g q v) g := by
 obtain ⟨h0, h1, h2, h3⟩ := h
 refine ⟨h0, by simpa [Wd.bB, Wd.bG] using h1, ?_, ?_⟩ <;> rw [jh ⟨h0, h1, h2, h3⟩] <;> simpa [jt.cW]
theorem Ng {x : Wd} {g q v : Int} (h : br x g) : (aq (x.bB g q v) g).wt = (aq x g).wt := by rw [jh h]; rfl
theorem wI {x : Wd} {g k : Int} (h : br x g) : br (x.gR g k) g := ji h
theorem K8 {x : Wd} {g : Int} {y : jt} (h : x.Sm) : (x.bG g y).Sm := by
 obtain ⟨s1, s2, s3, s4⟩ := h
 exact ⟨s1, s2, by simpa [Wd.bG] using s3, s4⟩
theorem dm {z : Int} (h0 : 0 ≤ z) (h : z < 9223372036854775808) : IntKind.wrap .i64 z = z := by
 obtain ⟨n, rfl⟩ := Int.eq_ofNat_of_zero_le h0
 exact nk (by omega)
section
variable {R : Mem} {L L' : List HP} {M : Mem} {K : Value → Mem → Prop} {Kp : List PanicEntry → Mem → Prop} {pa : PA} {p : cv} {gg : List GA} {dr : Value} {b : Nat} {x : Wd}
theorem YC {A : Option Addr} {c : Nat} {l : List po} {q : Int} {G : Nat → Nat → Int → Prop} (h : Hp R L M) (hp : RS iD R A c l) (h0 : 0 ≤ q) (hq : q < l.length) (k : ∀ b o, G b o (l.getD q.toNat ⟨0, 0, 0⟩).bS) :
  aE A fun b o => aK (M.ld ⟨b, ((o + q.toNat * 3) + 2), none⟩) .i64 fun n => G b o n := by
 obtain ⟨bb, o, rfl⟩ := hp.some (by omega) (by decide)
 obtain ⟨y, hy⟩ := aM (l := l) (i := q.toNat) (by omega)
 have e : l.getD q.toNat ⟨0, 0, 0⟩ = y := by simp [hy]
 refine bg ?_
 refine aR (Src.at (hp.src (L := L)) h (i := q.toNat) (j := 2) hy rfl (by show _ = o + (q.toNat * 3 + 2); omega)) ?_
 have := k bb o
 rwa [e] at this
theorem qV {v : Wt} {some : Int} (h : Hp R L M) [o : xS b L pa p gg dr x L'] (hp : RS iD R pa.k pa.kc p.cases) (hv : qx p x v) (hs : x.Sm)
  (k : ∀ M', Hp R (ay (bC pa p gg dr) b (x.received p v some) :: L') M' → K (.tuple #[]) M') : aa Tryz.prog 238 #[.pointer (Option.some ⟨b, 0, none⟩), .agg #[.int .i64 v.g, .int .i64 v.cs, .int .i64 v.v], .int .i64 some] M K Kp := by
 refine nE ?_
 obtain ⟨hg, hv⟩ := hv
 have ET := hg
 obtain ⟨h0, h1, h2, h3⟩ := ET
 have hs' := hs
 obtain ⟨s1, s2, s3, s4, s5, s6, s7, s8⟩ := hs'
 have h' := ko h (b := b) h0 h1
 clear h
 obtain ⟨a, gb, A, c, hl, gd, fu, h⟩ := h'
 have hl' := hl
 obtain ⟨l1, l2, l3, l4⟩ := hl'
 repeat (first|(refine ae h ?_;clear h;intro kb M h)|(refine au h ?_;clear h;intro M h)|refine St.to h ?_|(apply Exists.intro;(repeat apply Exists.intro);refine And.intro rfl ?_)|refine av ?_|refine ai ?_|refine aj ?_)
 refine uZ h gd fun q hq => ?_
 repeat (first|(refine ae h ?_;clear h;intro kb M h)|(refine au h ?_;clear h;intro M h)|refine St.to h ?_|(apply Exists.intro;(repeat apply Exists.intro);refine And.intro rfl ?_)|refine av ?_|refine ai ?_|refine aj ?_)
 refine uZ h gd fun q2 oa => ?_
 repeat (first|(refine ae h ?_;clear h;intro kb M h)|(refine au h ?_;clear h;intro M h)|refine St.to h ?_|(apply Exists.intro;(repeat apply Exists.intro);refine And.intro rfl ?_)|refine av ?_|refine ai ?_|refine aj ?_)
 obtain ⟨bs, rfl⟩ := h.bF (A := A) h2 (by decide)
 refine nH h2 (by omega) ?_
 repeat (first|(refine ae h ?_;clear h;intro kb M h)|(refine au h ?_;clear h;intro M h)|refine St.to h ?_|(apply Exists.intro;(repeat apply Exists.intro);refine And.intro rfl ?_)|refine av ?_|refine ai ?_|refine aj ?_)
 refine ⟨Qu h oa gd, ?_⟩
 repeat (first|(refine ae h ?_;clear h;intro kb M h)|(refine au h ?_;clear h;intro M h)|refine St.to h ?_|(apply Exists.intro;(repeat apply Exists.intro);refine And.intro rfl ?_)|refine av ?_|refine ai ?_|refine aj ?_)
 refine ⟨Qu h oa gd, ?_⟩
 repeat (first|(refine ae h ?_;clear h;intro kb M h)|(refine au h ?_;clear h;intro M h)|refine St.to h ?_|(apply Exists.intro;(repeat apply Exists.intro);refine And.intro rfl ?_)|refine av ?_|refine ai ?_|refine aj ?_)
 unfold Wd.received at k
 refine bh.2 ⟨fun K9 => ?_, fun K9 => ?_⟩
 ·simp only [K9, if_true] at k hv
  obtain ⟨v1, v2, v3, v4, v5⟩ := hv
  repeat (first|(refine ae h ?_;clear h;intro kb M h)|(refine au h ?_;clear h;intro M h)|refine St.to h ?_|(apply Exists.intro;(repeat apply Exists.intro);refine And.intro rfl ?_)|refine av ?_|refine ai ?_|refine aj ?_)
  rw [dm v1 (by omega)]
  refine ⟨v1, by omega, YC (q := (aq x v.g).wt.a + v.cs) h hp v1 v2 fun _ _ => ?_⟩
  repeat (first|(refine ae h ?_;clear h;intro kb M h)|(refine au h ?_;clear h;intro M h)|refine St.to h ?_|(apply Exists.intro;(repeat apply Exists.intro);refine And.intro rfl ?_)|refine av ?_|refine ai ?_|refine aj ?_)
  refine ⟨v4.1, v4.2, xR h (eX h2) v4 rfl ?_⟩
  clear h
  intro M h
  repeat (first|(refine ae h ?_;clear h;intro kb M h)|(refine au h ?_;clear h;intro M h)|refine St.to h ?_|(apply Exists.intro;(repeat apply Exists.intro);refine And.intro rfl ?_)|refine av ?_|refine ai ?_|refine aj ?_)
  replace h := dh h gb hl gd fu
  replace h := bk (a := a) (p := p) (pa := pa) (dr := dr) (gg := gg) (x := x.bB v.g (qw p ((aq x v.g).wt.a + v.cs)).bS v.v) (dK hl) h b
  have v5' := v5
  rw [← Ng (q := (qw p ((aq x v.g).wt.a + v.cs)).bS) (v := v.v) hg] at v5'
  refine wH (b := b) h (ji hg) v5' (K8 hs) ?_
  clear h
  intro M h
  repeat (first|(refine ae h ?_;clear h;intro kb M h)|(refine au h ?_;clear h;intro M h)|refine St.to h ?_|(apply Exists.intro;(repeat apply Exists.intro);refine And.intro rfl ?_)|refine av ?_|refine ai ?_|refine aj ?_)
  have Nf := wI (k := v.cs) (ji (q := (qw p ((aq x v.g).wt.a + v.cs)).bS) (v := v.v) hg)
  refine iE (b := b) h Nf.1 Nf.2.1 (by show x.ready.length ≤ _; omega) ?_
  clear h
  intro M h
  exact ⟨rfl, k _ h.ck⟩
 ·simp only [K9, if_false] at k hv
  obtain ⟨v1, v2⟩ := hv
  repeat (first|(refine ae h ?_;clear h;intro kb M h)|(refine au h ?_;clear h;intro M h)|refine St.to h ?_|(apply Exists.intro;(repeat apply Exists.intro);refine And.intro rfl ?_)|refine av ?_|refine ai ?_|refine aj ?_)
  refine ⟨v1.1, v1.2, ?_⟩
  repeat (first|(refine ae h ?_;clear h;intro kb M h)|(refine au h ?_;clear h;intro M h)|refine St.to h ?_|(apply Exists.intro;(repeat apply Exists.intro);refine And.intro rfl ?_)|refine av ?_|refine ai ?_|refine aj ?_)
  refine xR h (eX h2) v1 rfl ?_
  clear h
  intro M h
  repeat (first|(refine ae h ?_;clear h;intro kb M h)|(refine au h ?_;clear h;intro M h)|refine St.to h ?_|(apply Exists.intro;(repeat apply Exists.intro);refine And.intro rfl ?_)|refine av ?_|refine ai ?_|refine aj ?_)
  have Qh : ((aq x v.g).fs.set ((aq x v.g).fs.length - 1) ((aq x v.g).top.set (aq x v.g).wt.b v.v))[(aq x v.g).fs.length - 1]? = Option.some ((aq x v.g).top.set (aq x v.g).wt.b v.v) := by
   rw [List.getElem?_set_self]; omega
  refine ⟨v2.1, v2.2, xR h Qh v2 rfl ?_⟩
  clear h
  intro M h
  rw [jf] at h
  repeat (first|(refine ae h ?_;clear h;intro kb M h)|(refine au h ?_;clear h;intro M h)|refine St.to h ?_|(apply Exists.intro;(repeat apply Exists.intro);refine And.intro rfl ?_)|refine av ?_|refine ai ?_|refine aj ?_)
  replace h := dh h gb hl gd fu (by simp)
  have ex : (x.bB v.g (aq x v.g).wt.b v.v).bB v.g (aq x v.g).wt.c some = x.bG v.g ((aq x v.g).cW (((aq x v.g).top.set (aq x v.g).wt.b v.v).set (aq x v.g).wt.c some)) := by
   have e1 := jh (q := (aq x v.g).wt.b) (v := v.v) hg
   have e2 : ∀ (z : Wd) (q u : Int), z.bB v.g q u = z.bG v.g ((aq z v.g).cW ((aq z v.g).top.set q u)) := fun _ _ _ => rfl
   rw [e2 (x.bB v.g (aq x v.g).wt.b v.v), e1]
   have e3 : ((aq x v.g).cW ((aq x v.g).top.set (aq x v.g).wt.b v.v)).top = (aq x v.g).top.set (aq x v.g).wt.b v.v := by
    unfold jt.top jt.cW
    dsimp only
    rw [List.length_set, List.getD_eq_getElem?_getD, List.getElem?_set_self (by omega)]; rfl
   rw [e3]
   simp [Wd.bB, Wd.bG, jt.cW]
  rw [ex] at k
  replace h := bk (a := a) (p := p) (pa := pa) (dr := dr) (gg := gg) (x := x.bG v.g ((aq x v.g).cW (((aq x v.g).top.set (aq x v.g).wt.b v.v).set (aq x v.g).wt.c some))) (dK hl) h b
  refine iE (b := b) h h0 (by simpa [Wd.bG] using h1) (by show x.ready.length ≤ _; omega) ?_
  clear h
  intro M h
  exact ⟨rfl, k _ h.ck⟩
theorem JI {v : Wt} (h : Hp R L M) [o : xS b L pa p gg dr x L'] (hv : yK x v) (hs : x.Sm)
  (k : ∀ M', Hp R (ay (bC pa p gg dr) b (x.sent v) :: L') M' → K (.tuple #[]) M') : aa Tryz.prog 240 #[.pointer (some ⟨b, 0, none⟩), .agg #[.int .i64 v.g, .int .i64 v.cs, .int .i64 v.v]] M K Kp := by
 refine s9 ?_
 obtain ⟨hg, hv⟩ := hv
 have ET := hg
 obtain ⟨h0, h1, h2, h3⟩ := ET
 have hs' := hs
 obtain ⟨s1, s2, s3, s4, s5, s6, s7, s8⟩ := hs'
 have h' := ko h (b := b) h0 h1
 clear h
 obtain ⟨a, gb, A, c, hl, gd, fu, h⟩ := h'
 have hl' := hl
 obtain ⟨l1, l2, l3, l4⟩ := hl'
 repeat (first|(refine ae h ?_;clear h;intro kb M h)|(refine au h ?_;clear h;intro M h)|refine St.to h ?_|(apply Exists.intro;(repeat apply Exists.intro);refine And.intro rfl ?_)|refine av ?_|refine ai ?_|refine aj ?_)
 refine uZ h gd fun q hq => ?_
 repeat (first|(refine ae h ?_;clear h;intro kb M h)|(refine au h ?_;clear h;intro M h)|refine St.to h ?_|(apply Exists.intro;(repeat apply Exists.intro);refine And.intro rfl ?_)|refine av ?_|refine ai ?_|refine aj ?_)
 unfold Wd.sent at k
 have ex : x.bG v.g (aq x v.g) = x := by
  obtain ⟨y, hy⟩ := aM (l := x.gs) (i := v.g.toNat) (by omega)
  have e : aq x v.g = y := by simp [aq, hy]
  rw [e]
  obtain ⟨hi, rfl⟩ := List.getElem?_eq_some_iff.1 hy
  simp [Wd.bG]
 refine bh.2 ⟨fun K9 => ?_, fun K9 => ?_⟩
 ·simp only [K9, if_true] at k hv
  repeat (first|(refine ae h ?_;clear h;intro kb M h)|(refine au h ?_;clear h;intro M h)|refine St.to h ?_|(apply Exists.intro;(repeat apply Exists.intro);refine And.intro rfl ?_)|refine av ?_|refine ai ?_|refine aj ?_)
  replace h := dh h gb hl gd fu
  replace h := bk (a := a) (p := p) (pa := pa) (dr := dr) (gg := gg) (x := x.bG v.g (aq x v.g)) (dK hl) h b
  rw [ex] at h
  refine wH (b := b) (x := x) h hg (hv trivial) hs ?_
  clear h
  intro M h
  repeat (first|(refine ae h ?_;clear h;intro kb M h)|(refine au h ?_;clear h;intro M h)|refine St.to h ?_|(apply Exists.intro;(repeat apply Exists.intro);refine And.intro rfl ?_)|refine av ?_|refine ai ?_|refine aj ?_)
  have Nf := wI (k := v.cs) hg
  refine iE (b := b) h Nf.1 Nf.2.1 (by show x.ready.length ≤ _; omega) ?_
  clear h
  intro M h
  exact ⟨rfl, k _ h.ck⟩
 ·simp only [K9, if_false] at k
  repeat (first|(refine ae h ?_;clear h;intro kb M h)|(refine au h ?_;clear h;intro M h)|refine St.to h ?_|(apply Exists.intro;(repeat apply Exists.intro);refine And.intro rfl ?_)|refine av ?_|refine ai ?_|refine aj ?_)
  replace h := dh h gb hl gd fu
  replace h := bk (a := a) (p := p) (pa := pa) (dr := dr) (gg := gg) (x := x.bG v.g (aq x v.g)) (dK hl) h b
  rw [ex] at h
  refine iE (b := b) (x := x) h h0 h1 (by omega) ?_
  clear h
  intro M h
  exact ⟨rfl, k _ h.ck⟩
end
def u5 (x : Wd) (k : Int) : Prop := 0 ≤ k ∧ k < x.aB.length
instance (x : Wd) (k : Int) : Decidable (u5 x k) := by unfold u5; infer_instance
def pq (p : cv) (x : Wd) (k v : Int) : Prop := u5 x k ∧ (((dg x.aB k).send v).2.2.1 = true → qx p x ((dg x.aB k).send v).2.1) ∧ ((dg x.aB k).send v).1.Small 1000000
instance (p : cv) (x : Wd) (k v : Int) : Decidable (pq p x k v) := by unfold pq; infer_instance
def wJ (x : Wd) (k : Int) : Prop := u5 x k ∧ ((dg x.aB k).recv.2.2.2.2.1 = true → yK x (dg x.aB k).recv.2.2.2.1) ∧ (dg x.aB k).recv.1.Small 1000000
instance (x : Wd) (k : Int) : Decidable (wJ x k) := by unfold wJ; infer_instance
theorem GV {x : Wd} {k : Int} {c : aV} (h : x.Sm) (hc : c.Small 1000000) : (x.cE k c).Sm := by
 obtain ⟨s1, s2, s3⟩ := h
 refine ⟨fun d hd => ?_, by simpa [Wd.cE] using s2, s3⟩
 rcases mem_set hd with h | rfl
 ·exact s1 d h
 ·exact hc
section
variable {R : Mem} {L L' : List HP} {M : Mem} {K : Value → Mem → Prop} {Kp : List PanicEntry → Mem → Prop} {pa : PA} {p : cv} {gg : List GA} {dr : Value} {b : Nat} {x : Wd}
theorem sg {a : WA} {k : Int} {c : aV} (hl : fG gg a x) : fG gg a (x.cE k c) := by
 obtain ⟨l1, l2, l3, l4⟩ := hl
 exact ⟨l1, l2, by simpa [Wd.cE] using l3, l4⟩
theorem Qv {a : WA} {k : Int} (h : Hp R L M) [q : gk bI L a.cb x.aB L'] (hl : fG gg a x) (hk : u5 x k) : ∃ cb, a.cb[k.toNat]? = some cb ∧ x.aB[k.toNat]? = some (dg x.aB k) ∧ Hp R (ay bI cb (dg x.aB k) :: mF bI a.cb x.aB k.toNat :: L') M := by
 obtain ⟨l1, l2, l3, l4⟩ := hl
 obtain ⟨k0, k1⟩ := hk
 obtain ⟨cb, hcb⟩ := aM (l := a.cb) (i := k.toNat) (by omega)
 obtain ⟨y, hy⟩ := aM (l := x.aB) (i := k.toNat) (by omega)
 have e : dg x.aB k = y := by simp [dg, hy]
 rw [e]
 exact ⟨cb, hcb, hy, h.cK bI hcb hy⟩
theorem Dt {k v : Int} (h : Hp R L M) [o : xS b L pa p gg dr x L'] (hp : RS iD R pa.k pa.kc p.cases) (hk : pq p x k v) (hs : x.Sm)
  (k1 : ∀ y ok M', x.put p k v = .on (y, ok) → Hp R (ay (bC pa p gg dr) b y :: L') M' → K (.bool ok) M')
  (k2 : ∀ y n M', x.put p k v = .fM n y → Hp R (ay (bC pa p gg dr) b y :: L') M' → Kp [{ v := .iface 340 (.int .i64 n), recovered := false }] M') :
  aa Tryz.prog 209 #[.pointer (some ⟨b, 0, none⟩), .int .i64 k, .int .i64 v] M K Kp := by
 refine uG ?_
 obtain ⟨hc, hr, AH⟩ := hk
 have hs' := hs
 obtain ⟨s1, s2, s3, s4, s5, s6, s7, s8⟩ := hs'
 have h' := cG h (b := b)
 clear h
 obtain ⟨a, hl, h⟩ := h'
 have hl' := hl
 obtain ⟨l1, l2, l3, l4⟩ := hl'
 have HZ := hc
 obtain ⟨c0, c1⟩ := HZ
 have h' := Qv h hl hc
 clear h
 obtain ⟨cb, hcb, zR, h⟩ := h'
 repeat (first|(refine ae h ?_;clear h;intro kb M h)|(refine au h ?_;clear h;intro M h)|refine St.to h ?_|(apply Exists.intro;(repeat apply Exists.intro);refine And.intro rfl ?_)|refine av ?_|refine ai ?_|refine aj ?_)
 refine uZ h hcb fun q hq => ?_
 have hsc : (dg x.aB k).Small 1000000 := s1 _ (vY c0 c1)
 refine IX h (hsc.mono (by omega)) ?_
 clear h
 intro M h
 replace h := h.eF bI cb hcb (by omega)
 unfold Wd.put at k1 k2
 dsimp only at k1 k2
 generalize (dg x.aB k).send v = s at h k1 k2 hr AH
 obtain ⟨c', w, ok, e⟩ := s
 dsimp only [UR] at h k1 k2 hr AH ⊢
 refine ⟨w.g, w.cs, w.v, ok, e, rfl, ?_⟩
 repeat (first|(refine ae h ?_;clear h;intro kb M h)|(refine au h ?_;clear h;intro M h)|refine St.to h ?_|(apply Exists.intro;(repeat apply Exists.intro);refine And.intro rfl ?_)|refine av ?_|refine ai ?_|refine aj ?_)
 refine bh.2 ⟨fun e10 => ?_, fun e10 => ?_⟩
 ·rw [if_pos e10] at k2
  replace h := bk (a := a) (p := p) (pa := pa) (dr := dr) (gg := gg) (x := x.cE k c') (sg hl) h b
  exact k2 _ _ _ rfl h.ck
 ·rw [if_neg e10] at k1
  replace h := bk (a := a) (p := p) (pa := pa) (dr := dr) (gg := gg) (x := x.cE k c') (sg hl) h b
  refine g6.2 ⟨fun ht => ?_, fun ht => ?_⟩
  ·subst ht
   simp only [if_true] at k1
   repeat (first|(refine ae h ?_;clear h;intro kb M h)|(refine au h ?_;clear h;intro M h)|refine St.to h ?_|(apply Exists.intro;(repeat apply Exists.intro);refine And.intro rfl ?_)|refine av ?_|refine ai ?_|refine aj ?_)
   refine qV (b := b) (v := w) h hp (show qx p (x.cE k c') w from hr rfl) (GV hs AH) ?_
   clear h
   intro M h
   exact ⟨rfl, k1 _ _ _ rfl h.ck⟩
  ·subst ht
   simp only [Bool.false_eq_true, if_false] at k1
   exact k1 _ _ _ rfl h.ck
theorem Du {k : Int} (h : Hp R L M) [o : xS b L pa p gg dr x L'] (hk : wJ x k) (hs : x.Sm)
  (k1 : ∀ M', Hp R (ay (bC pa p gg dr) b (x.get k).1 :: L') M' → K (.tuple #[.int .i64 (x.get k).2.1, .int .i64 (x.get k).2.2.1, .bool (x.get k).2.2.2]) M') :
  aa Tryz.prog 210 #[.pointer (some ⟨b, 0, none⟩), .int .i64 k] M K Kp := by
 refine uH ?_
 obtain ⟨hc, hr, AH⟩ := hk
 have hs' := hs
 obtain ⟨s1, s2, s3, s4, s5, s6, s7, s8⟩ := hs'
 have h' := cG h (b := b)
 clear h
 obtain ⟨a, hl, h⟩ := h'
 have hl' := hl
 obtain ⟨l1, l2, l3, l4⟩ := hl'
 have HZ := hc
 obtain ⟨c0, c1⟩ := HZ
 have h' := Qv h hl hc
 clear h
 obtain ⟨cb, hcb, zR, h⟩ := h'
 repeat (first|(refine ae h ?_;clear h;intro kb M h)|(refine au h ?_;clear h;intro M h)|refine St.to h ?_|(apply Exists.intro;(repeat apply Exists.intro);refine And.intro rfl ?_)|refine av ?_|refine ai ?_|refine aj ?_)
 refine uZ h hcb fun q hq => ?_
 have hsc : (dg x.aB k).Small 1000000 := s1 _ (vY c0 c1)
 refine IY h (hsc.mono (by omega)) ?_
 clear h
 intro M h
 replace h := h.eF bI cb hcb (by omega)
 unfold Wd.get at k1
 dsimp only at k1
 generalize (dg x.aB k).recv = s at h k1 hr AH
 obtain ⟨c', v, some, w, La, e⟩ := s
 dsimp only [US] at h k1 hr AH ⊢
 refine ⟨v, some, w.g, w.cs, w.v, La, e, rfl, ?_⟩
 repeat (first|(refine ae h ?_;clear h;intro kb M h)|(refine au h ?_;clear h;intro M h)|refine St.to h ?_|(apply Exists.intro;(repeat apply Exists.intro);refine And.intro rfl ?_)|refine av ?_|refine ai ?_|refine aj ?_)
 replace h := bk (a := a) (p := p) (pa := pa) (dr := dr) (gg := gg) (x := x.cE k c') (sg hl) h b
 refine g6.2 ⟨fun ht => ?_, fun ht => ?_⟩
 ·subst ht
  simp only [if_true] at k1
  repeat (first|(refine ae h ?_;clear h;intro kb M h)|(refine au h ?_;clear h;intro M h)|refine St.to h ?_|(apply Exists.intro;(repeat apply Exists.intro);refine And.intro rfl ?_)|refine av ?_|refine ai ?_|refine aj ?_)
  refine JI (b := b) (v := w) h (show yK (x.cE k c') w from hr rfl) (GV hs AH) ?_
  clear h
  intro M h
  repeat (first|(refine ae h ?_;clear h;intro kb M h)|(refine au h ?_;clear h;intro M h)|refine St.to h ?_|(apply Exists.intro;(repeat apply Exists.intro);refine And.intro rfl ?_)|refine av ?_|refine ai ?_|refine aj ?_)
  refine g6.2 ⟨fun hb => ?_, fun hb => ?_⟩
  ·subst hb
   repeat (first|(refine ae h ?_;clear h;intro kb M h)|(refine au h ?_;clear h;intro M h)|refine St.to h ?_|(apply Exists.intro;(repeat apply Exists.intro);refine And.intro rfl ?_)|refine av ?_|refine ai ?_|refine aj ?_)
   exact k1 _ h.ck
  ·subst hb
   exact k1 _ h.ck
 ·subst ht
  simp only [Bool.false_eq_true, if_false] at k1
  repeat (first|(refine ae h ?_;clear h;intro kb M h)|(refine au h ?_;clear h;intro M h)|refine St.to h ?_|(apply Exists.intro;(repeat apply Exists.intro);refine And.intro rfl ?_)|refine av ?_|refine ai ?_|refine aj ?_)
  refine g6.2 ⟨fun hb => ?_, fun hb => ?_⟩
  ·subst hb
   repeat (first|(refine ae h ?_;clear h;intro kb M h)|(refine au h ?_;clear h;intro M h)|refine St.to h ?_|(apply Exists.intro;(repeat apply Exists.intro);refine And.intro rfl ?_)|refine av ?_|refine ai ?_|refine aj ?_)
   exact k1 _ h.ck
  ·subst hb
   exact k1 _ h.ck
end
end Go.Proofs
namespace Go.Proofs
open Go.AF
def bD (x : Wd) (g q : Int) : Int := (aq x g).top.bS q
def Wd.Lb (x : Wd) (k g v : Int) : Wd := x.cE k { dg x.aB k with snd := (dg x.aB k).snd ++ [⟨g, 0, v⟩] }
def Wd.Lc (x : Wd) (k g : Int) : Wd := x.cE k { dg x.aB k with dF := (dg x.aB k).dF ++ [⟨g, 0, 0⟩] }
def Wd.send (p : cv) (x : Wd) (g : Int) (i : cQ) : Out Wd := match x.put p i.a (bD x g i.b) with
 | .fM n y => .fM n y
 | .dY l y => .dY l y
 | .on (y, true) => .on y
 | .on (y, false) => .on ((y.Lb i.a g (bD y g i.b)).block g i)
def Wd.recv (x : Wd) (g : Int) (i : cQ) : Wd :=
 if (x.get i.a).2.2.2 then ((x.get i.a).1.bB g i.b (x.get i.a).2.1).bB g i.c (x.get i.a).2.2.1
 else ((x.get i.a).1.Lc i.a g).block g i
def eA (p : cv) (x : Wd) (v : Wt) : Wd := if (aq x v.g).st = 2 then x.received p { v with v := 0 } 0 else x
def Wd.shut (p : cv) (x : Wd) (i : cQ) : Out Wd :=
 let s := (dg x.aB i.a).close
 let y := x.cE i.a s.1
 if s.2.2.2 ≠ 0 then .fM (-2) y else if 0 < s.2.2.1.length then .fM (-1) y else .on (s.2.1.foldl (eA p) y)
def xT (p : cv) (x : Wd) : List Wt → Prop
 | [] => True
 | v :: l => x.Sm ∧ 0 ≤ v.g ∧ v.g < x.gs.length ∧ ((aq x v.g).st = 2 → qx p x { v with v := 0 }) ∧ xT p (eA p x v) l
instance JJ (p : cv) : ∀ (l : List Wt) (x : Wd), Decidable (xT p x l)
 | [], _ => isTrue trivial
 | v :: l, x => by
  have := JJ p l (eA p x v)
  unfold xT; infer_instance
theorem Dv {p : cv} : ∀ {l : List Wt} {x : Wd} {i : Nat} {v : Wt}, xT p x l → l[i]? = some v →
  let y := (l.take i).foldl (eA p) x
  y.Sm ∧ 0 ≤ v.g ∧ v.g < y.gs.length ∧ ((aq y v.g).st = 2 → qx p y { v with v := 0 })
 | [], _, _, _, _, h => by simp at h
 | w :: l, x, 0, v, h, hv => by simp at hv; subst hv; exact ⟨h.1, h.2.1, h.2.2.1, h.2.2.2.1⟩
 | w :: l, x, i + 1, v, h, hv => Dv (l := l) h.2.2.2.2 (by simpa using hv)
def Wd.emit (x : Wd) (g : Int) (i : cQ) : Out Wd := if x.out.length ≥ 1000 then .fM (-6) x else .on { x with out := x.out ++ [bD x g i.a] }
def Wd.spawn (x : Wd) (g : Int) (i : cQ) : Out Wd := if x.gs.length ≥ 100 then .fM (-5) x else
 .on ((Wd.fL { x with gs := x.gs ++ [⟨0, [gH.begin i.a (bD x g i.b)], .zero⟩] } (x.gs.length : Int)).bB g i.c (x.gs.length : Int))
def Wd.call (x : Wd) (g : Int) (i : cQ) : Out Wd := if (aq x g).fs.length ≥ 16 then .fM (-4) x else
 .on (x.bG g { aq x g with fs := (aq x g).fs ++ [⟨i.a, 0, [bD x g i.b, 0, 0, 0, 0, 0, 0, 0], i.c⟩] })
def jt.back (y : jt) (v : Int) : jt := { y with fs := (y.fs.take (y.fs.length - 1)).set (y.fs.length - 2) ((y.fs.getD (y.fs.length - 2) ⟨0, 0, [], 0⟩).set y.top.pF v) }
def Wd.back (x : Wd) (g : Int) (i : cQ) : Wd := if 2 ≤ (aq x g).fs.length then x.bG g ((aq x g).back (bD x g i.a))
 else if g = 0 then { x.bG g { aq x g with st := 4 } with end_ := 1 } else x.bG g { aq x g with st := 4 }
end Go.Proofs
namespace Go.Proofs
open Go.AF
set_option maxRecDepth 100000
set_option maxHeartbeats 1000000
attribute [local irreducible] aK dH fa cw az fk aE aP aX be bK aS
section
variable {R : Mem} {L L' : List HP} {M : Mem} {K : Value → Mem → Prop} {Kp : List PanicEntry → Mem → Prop} {pa : PA} {p : cv} {gg : List GA} {dr : Value} {b : Nat} {x : Wd}
theorem hG {g : Int} {A : Option Addr} {c : Nat} (h : Hp R L M) [o : xS b L pa p gg dr x L'] (h0 : 0 ≤ g) (hg : g < x.gs.length) (fu : gg[g.toNat]? = some (A, c)) :
  ∃ (a : WA) (gb : Nat), fG gg a x ∧ a.gb[g.toNat]? = some gb ∧
   Hp R (pt gb (qU (aq x g) A c) 229 :: tO A c (aq x g).fs :: pt b (mX pa p dr a x) 161 :: mF fY a.gb (x.gs.zip gg) g.toNat :: tX a x L') M := by
 obtain ⟨a, gb, A', c', hl, gd, hgg', h1⟩ := ko h (b := b) h0 hg
 rw [fu] at hgg'
 cases hgg'
 exact ⟨a, gb, hl, gd, h1⟩
theorem GW {g q : Int} {bs c oo : Nat} {G : Int → Prop} (h : Hp R L M) [o : xS b L pa p gg dr x L'] (hg : br x g) (fu : gg[g.toNat]? = some (some ⟨bs, 0, none⟩, c)) (hq : bj q) (e : oo = ((aq x g).fs.length - 1) * 11 + 2 + q.toNat)
  (k : G (bD x g q)) : aK (M.ld ⟨bs, oo, none⟩) .i64 G := by
 obtain ⟨h0, h1, h2, h3⟩ := hg
 obtain ⟨a, gb, hl, gd, h4⟩ := hG h (b := b) h0 h1 fu
 exact wF h4 (eX h2) hq e k
theorem mI {g q v : Int} {bs c oo : Nat} {G : Mem → Prop} (h : Hp R L M) [o : xS b L pa p gg dr x L'] (hg : br x g) (fu : gg[g.toNat]? = some (some ⟨bs, 0, none⟩, c)) (hq : bj q) (e : oo = ((aq x g).fs.length - 1) * 11 + 2 + q.toNat)
  (k : ∀ M', Hp R (ay (bC pa p gg dr) b (x.bB g q v) :: L') M' → G M') : aP M ⟨bs, oo, none⟩ (.int .i64 v) G := by
 obtain ⟨h0, h1, h2, h3⟩ := hg
 obtain ⟨a, gb, hl, gd, h4⟩ := hG h (b := b) h0 h1 fu
 refine xR h4 (eX h2) hq e fun M' h5 => ?_
 replace h5 := dh h5 gb hl gd fu (by simp)
 exact k M' (bk (a := a) (p := p) (pa := pa) (dr := dr) (gg := gg) (x := x.bB g q v) (dK hl) h5 b)
theorem Vb {G : Option Addr → Nat → Nat → Prop} (h : Hp R L M) [o : xS b L pa p gg dr x L'] (k1 : ∀ a : WA, fG gg a x → Hp R (pt b (mX pa p dr a x) 161 :: bp fY a.gb (x.gs.zip gg) :: tX a x L') M → G a.ac a.cb.length a.cc) : az (M.ld ⟨b, 0 + 6, none⟩) G := by
 obtain ⟨a, hl, h1⟩ := cG h (b := b)
 exact aL h1 (k1 a hl h1)
def Out.Ok {α : Type} (r : Out α) (k1 : α → Prop) (k2 : Int → Wd → Prop) (k3 : List PanicEntry → Wd → Prop := fun _ _ => True) : Prop := match r with
 | .on y => k1 y
 | .fM n y => k2 n y
 | .dY l y => k3 l y
def Be (x : Wd) (k : Int) : Prop := u5 x k ∧ (dg x.aB k).Small 999999
instance (x : Wd) (k : Int) : Decidable (Be x k) := by unfold Be; infer_instance
def JK (p : cv) (x : Wd) (g : Int) (i : cQ) : Prop := br x g ∧ bj i.b ∧ pq p x i.a (bD x g i.b) ∧
 match x.put p i.a (bD x g i.b) with
 | .on (y, false) => br y g ∧ (aq y g).fs.length = (aq x g).fs.length ∧ Be y i.a
 | _ => True
theorem JL {g : Int} {i : cQ} {bs c : Nat} (h : Hp R L M) [o : xS b L pa p gg dr x L'] (hp : RS iD R pa.k pa.kc p.cases) (fu : gg[g.toNat]? = some (some ⟨bs, 0, none⟩, c)) (hk : JK p x g i) (hs : x.Sm)
  (k : Out.Ok (x.send p g i) (fun y => ∀ M', Hp R (ay (bC pa p gg dr) b y :: L') M' → K (.tuple #[]) M')
   (fun n y => ∀ M', Hp R (ay (bC pa p gg dr) b y :: L') M' → Kp [{ v := .iface 340 (.int .i64 n), recovered := false }] M')) :
  aa Tryz.prog 215 #[.pointer (some ⟨b, 0, none⟩), .int .i64 g, .pointer (some ⟨bs, ((aq x g).fs.length - 1) * 11, none⟩), .agg #[.int .i64 i.op, .int .i64 i.a, .int .i64 i.b, .int .i64 i.c]] M K Kp := by
 refine sQ ?_
 obtain ⟨hg, hb, hput, hw⟩ := hk
 repeat (first|(refine ae h ?_;clear h;intro kb M h)|(refine au h ?_;clear h;intro M h)|refine St.to h ?_|(apply Exists.intro;(repeat apply Exists.intro);refine And.intro rfl ?_)|refine av ?_|refine ai ?_|refine aj ?_)
 refine ⟨hb.1, hb.2, GW (b := b) h hg fu hb rfl ?_⟩
 unfold Wd.send at k
 refine Dt (b := b) h hp hput hs ?_ ?_
 ·intro y ok M' e h
  rw [e] at k hw
  cases ok with
  | true =>
   dsimp only at k
   refine o6 (aj ?_)
   exact k _ h.ck
  | false =>
   dsimp only at k hw
   obtain ⟨GX, hfl, zR, AH⟩ := hw
   refine o6 (ai ?_)
   refine Vb h fun a hl h => ?_
   have hl' := hl
   obtain ⟨l1, l2, l3, l4⟩ := hl'
   have HZ := zR
   obtain ⟨c0, c1⟩ := HZ
   have h' := Qv h hl zR
   clear h
   obtain ⟨cb, hcb, YD, h⟩ := h'
   repeat (first|(refine ae h ?_;clear h;intro kb M h)|(refine au h ?_;clear h;intro M h)|refine St.to h ?_|(apply Exists.intro;(repeat apply Exists.intro);refine And.intro rfl ?_)|refine av ?_|refine ai ?_|refine aj ?_)
   refine uZ h hcb fun q hq => ?_
   repeat (first|(refine ae h ?_;clear h;intro kb M h)|(refine au h ?_;clear h;intro M h)|refine St.to h ?_|(apply Exists.intro;(repeat apply Exists.intro);refine And.intro rfl ?_)|refine av ?_|refine ai ?_|refine aj ?_)
   refine ⟨hb.1, hb.2, ?_⟩
   have h2 := h.lH bI cb hcb YD
   have h3 := bk (a := a) (p := p) (pa := pa) (dr := dr) (gg := gg) (x := y) hl h2 b
   refine GW (b := b) h3 GX fu hb (by rw [hfl]) ?_
   clear h2 h3
   refine qt (w := ⟨g, 0, bD y g i.b⟩) h (AH.mono (by omega)) ?_
   clear h
   intro M h
   replace h := h.eF bI cb hcb (by omega)
   replace h := bk (a := a) (p := p) (pa := pa) (dr := dr) (gg := gg) (x := y.Lb i.a g (bD y g i.b)) (sg hl) h b
   repeat (first|(refine ae h ?_;clear h;intro kb M h)|(refine au h ?_;clear h;intro M h)|refine St.to h ?_|(apply Exists.intro;(repeat apply Exists.intro);refine And.intro rfl ?_)|refine av ?_|refine ai ?_|refine aj ?_)
   refine mH (b := b) (i := i) (x := y.Lb i.a g (bD y g i.b)) h GX.1 GX.2.1 ?_
   clear h
   intro M h
   exact ⟨rfl, k _ h.ck⟩
 ·intro y n M' e h
  rw [e] at k
  exact k _ h.ck
def xU (x : Wd) (g : Int) (i : cQ) : Prop := br x g ∧ bj i.b ∧ bj i.c ∧ wJ x i.a ∧ br (x.get i.a).1 g ∧ (aq (x.get i.a).1 g).fs.length = (aq x g).fs.length ∧ ((x.get i.a).2.2.2 = false → Be (x.get i.a).1 i.a)
theorem JM {g : Int} {i : cQ} {bs c : Nat} (h : Hp R L M) [o : xS b L pa p gg dr x L'] (fu : gg[g.toNat]? = some (some ⟨bs, 0, none⟩, c)) (hk : xU x g i) (hs : x.Sm)
  (k : ∀ M', Hp R (ay (bC pa p gg dr) b (x.recv g i) :: L') M' → K (.tuple #[]) M') :
  aa Tryz.prog 216 #[.pointer (some ⟨b, 0, none⟩), .int .i64 g, .pointer (some ⟨bs, ((aq x g).fs.length - 1) * 11, none⟩), .agg #[.int .i64 i.op, .int .i64 i.a, .int .i64 i.b, .int .i64 i.c]] M K Kp := by
 refine sR ?_
 obtain ⟨hg, hb, hc, YE, GX, hfl, hw⟩ := hk
 repeat (first|(refine ae h ?_;clear h;intro kb M h)|(refine au h ?_;clear h;intro M h)|refine St.to h ?_|(apply Exists.intro;(repeat apply Exists.intro);refine And.intro rfl ?_)|refine av ?_|refine ai ?_|refine aj ?_)
 refine Du (b := b) h YE hs ?_
 clear h
 intro M h
 unfold Wd.recv at k
 generalize x.get i.a = r at h k GX hfl hw
 obtain ⟨y, v, sm, ok⟩ := r
 dsimp only at h k GX hfl hw ⊢
 refine ⟨v, sm, ok, rfl, ?_⟩
 cases ok with
 | true =>
  simp only [if_true] at k
  refine aj ?_
  repeat (first|(refine ae h ?_;clear h;intro kb M h)|(refine au h ?_;clear h;intro M h)|refine St.to h ?_|(apply Exists.intro;(repeat apply Exists.intro);refine And.intro rfl ?_)|refine av ?_|refine ai ?_|refine aj ?_)
  refine ⟨hb.1, hb.2, ?_⟩
  repeat (first|(refine ae h ?_;clear h;intro kb M h)|(refine au h ?_;clear h;intro M h)|refine St.to h ?_|(apply Exists.intro;(repeat apply Exists.intro);refine And.intro rfl ?_)|refine av ?_|refine ai ?_|refine aj ?_)
  refine mI (b := b) h GX fu hb (by rw [hfl]) ?_
  clear h
  intro M h
  repeat (first|(refine ae h ?_;clear h;intro kb M h)|(refine au h ?_;clear h;intro M h)|refine St.to h ?_|(apply Exists.intro;(repeat apply Exists.intro);refine And.intro rfl ?_)|refine av ?_|refine ai ?_|refine aj ?_)
  have Nf := ji (q := i.b) (v := v) GX
  have FR : (aq (y.bB g i.b v) g).fs.length = (aq x g).fs.length := by rw [jh GX]; simpa [jt.cW] using hfl
  refine ⟨hc.1, hc.2, mI (b := b) h Nf fu hc (by rw [FR]) ?_⟩
  clear h
  intro M h
  repeat (first|(refine ae h ?_;clear h;intro kb M h)|(refine au h ?_;clear h;intro M h)|refine St.to h ?_|(apply Exists.intro;(repeat apply Exists.intro);refine And.intro rfl ?_)|refine av ?_|refine ai ?_|refine aj ?_)
  exact k _ h.ck
 | false =>
  simp only [Bool.false_eq_true, if_false] at k
  refine ai ?_
  obtain ⟨zR, AH⟩ := hw rfl
  refine Vb h fun a hl h => ?_
  have hl' := hl
  obtain ⟨l1, l2, l3, l4⟩ := hl'
  have HZ := zR
  obtain ⟨c0, c1⟩ := HZ
  have h' := Qv h hl zR
  clear h
  obtain ⟨cb, hcb, YD, h⟩ := h'
  repeat (first|(refine ae h ?_;clear h;intro kb M h)|(refine au h ?_;clear h;intro M h)|refine St.to h ?_|(apply Exists.intro;(repeat apply Exists.intro);refine And.intro rfl ?_)|refine av ?_|refine ai ?_|refine aj ?_)
  refine uZ h hcb fun q hq => ?_
  refine qu (w := ⟨g, 0, 0⟩) h (AH.mono (by omega)) ?_
  clear h
  intro M h
  replace h := h.eF bI cb hcb (by omega)
  replace h := bk (a := a) (p := p) (pa := pa) (dr := dr) (gg := gg) (x := y.Lc i.a g) (sg hl) h b
  repeat (first|(refine ae h ?_;clear h;intro kb M h)|(refine au h ?_;clear h;intro M h)|refine St.to h ?_|(apply Exists.intro;(repeat apply Exists.intro);refine And.intro rfl ?_)|refine av ?_|refine ai ?_|refine aj ?_)
  refine mH (b := b) (i := i) (x := y.Lc i.a g) h GX.1 GX.2.1 ?_
  clear h
  intro M h
  exact ⟨rfl, k _ h.ck⟩
theorem JN {g : Int} {i : cQ} {bs c : Nat} (h : Hp R L M) [o : xS b L pa p gg dr x L'] (fu : gg[g.toNat]? = some (some ⟨bs, 0, none⟩, c)) (hg : br x g) (ha : bj i.a) (hs : x.Sm)
  (k : Out.Ok (x.emit g i) (fun y => ∀ M', Hp R (ay (bC pa p gg dr) b y :: L') M' → K (.tuple #[]) M')
   (fun n y => ∀ M', Hp R (ay (bC pa p gg dr) b y :: L') M' → Kp [{ v := .iface 340 (.int .i64 n), recovered := false }] M')) :
  aa Tryz.prog 221 #[.pointer (some ⟨b, 0, none⟩), .int .i64 g, .pointer (some ⟨bs, ((aq x g).fs.length - 1) * 11, none⟩), .agg #[.int .i64 i.op, .int .i64 i.a, .int .i64 i.b, .int .i64 i.c]] M K Kp := by
 refine sV ?_
 obtain ⟨s1, s2, s3, s4, s5, s6, s7, s8⟩ := hs
 have ET := hg
 obtain ⟨h0, h1, h2, h3⟩ := ET
 unfold Wd.emit at k
 refine ae h ?_
 clear h
 intro kb M h
 have h' := hG h (b := b) h0 h1 fu
 clear h
 obtain ⟨a, gb, hl, gd, h⟩ := h'
 have hl' := hl
 obtain ⟨l1, l2, l3, l4⟩ := hl'
 have ex : x.bG g (aq x g) = x := by
  obtain ⟨y, hy⟩ := aM (l := x.gs) (i := g.toNat) (by omega)
  have e : aq x g = y := by simp [aq, hy]
  rw [e]
  obtain ⟨hi, rfl⟩ := List.getElem?_eq_some_iff.1 hy
  simp [Wd.bG]
 repeat (first|(refine ae h ?_;clear h;intro kb M h)|(refine au h ?_;clear h;intro M h)|refine St.to h ?_|(apply Exists.intro;(repeat apply Exists.intro);refine And.intro rfl ?_)|refine av ?_|refine ai ?_|refine aj ?_)
 refine aJ.2 ⟨fun hn => ?_, fun hn => ?_⟩
 ·rw [if_pos (by omega)] at k
  replace h := dh h gb hl gd fu
  have kM := dK (y := aq x g) (g := g) hl
  replace h := bk (a := a) (p := p) (pa := pa) (dr := dr) (gg := gg) (x := x.bG g (aq x g)) kM h b
  rw [ex] at h
  exact k _ h.ck
 ·rw [if_neg (by omega)] at k
  repeat (first|(refine ae h ?_;clear h;intro kb M h)|(refine au h ?_;clear h;intro M h)|refine St.to h ?_|(apply Exists.intro;(repeat apply Exists.intro);refine And.intro rfl ?_)|refine av ?_|refine ai ?_|refine aj ?_)
  refine ⟨ha.1, ha.2, wF h (eX h2) ha rfl ?_⟩
  repeat (first|(refine ae h ?_;clear h;intro kb M h)|(refine au h ?_;clear h;intro M h)|refine St.to h ?_|(apply Exists.intro;(repeat apply Exists.intro);refine And.intro rfl ?_)|refine av ?_|refine ai ?_|refine aj ?_)
  refine h.bL xD [bD x g i.a] rfl rfl (by simp; omega) ?_
  clear h
  intro A' c' M h
  repeat (first|(refine ae h ?_;clear h;intro kb M h)|(refine au h ?_;clear h;intro M h)|refine St.to h ?_|(apply Exists.intro;(repeat apply Exists.intro);refine And.intro rfl ?_)|refine av ?_|refine ai ?_|refine aj ?_)
  replace h := dh h gb hl gd fu
  have kM := dK (y := aq x g) (g := g) hl
  have h5 := bk (a := { a with ao := A', co := c' }) (p := p) (pa := pa) (dr := dr) (gg := gg) (x := { x.bG g (aq x g) with out := x.out ++ [bD x g i.a] }) kM h b
  rw [ex] at h5
  exact k _ h5.ck
end
theorem Vc : aY Tryz.prog 155 224 1 8 [.pointer none] := aY.mk' (zv := .pointer none) (by kernel_rfl) (by kernel_rfl) rfl (by omega)
section
variable {R : Mem} {L L' : List HP} {M : Mem} {K : Value → Mem → Prop} {Kp : List PanicEntry → Mem → Prop} {pa : PA} {p : cv} {gg : List GA} {dr : Value} {b : Nat} {x : Wd}
def xV (x : Wd) (fn v : Int) : Wd := { x with gs := x.gs ++ [⟨0, [gH.begin fn v], .zero⟩] }
theorem Qw {a : WA} {k bs : Nat} {A' : Option Addr} {c' : Nat} {fn v : Int} (hl : fG gg a x)
  (h : Hp R (pt b (mX pa p dr { a with ag := A', cg := c', gb := a.gb ++ [k] } x) 161 :: yN A' c' (a.gb ++ [k]) :: pt k [.int .i64 0, .slice (some ⟨bs, 0, none⟩) 1 1, .int .i64 0, .int .i64 0, .int .i64 0, .int .i64 0] 229 ::
   tO (some ⟨bs, 0, none⟩) 1 [gH.begin fn v] :: bp fY a.gb (x.gs.zip gg) :: yO a.ac a.cc a.cb :: bp bI a.cb x.aB :: yP a.al a.cl a.lb :: bp eT a.lb x.aI :: eu a.ah a.ch x.hl :: jz a.ao a.co x.out :: jg a.ar a.cr x.ready :: L) M) :
  Hp R (ay (bC pa p (gg ++ [(some ⟨bs, 0, none⟩, 1)]) dr) b (xV x fn v) :: L) M := by
 obtain ⟨l1, l2, l3, l4⟩ := hl
 have h1 := nI h k
 have h2 := h1.lI fY k (by rw [List.length_zip]; omega)
 have e : x.gs.zip gg ++ [(⟨0, [gH.begin fn v], ⟨0, 0, 0, 0⟩⟩, (some ⟨bs, 0, none⟩, 1))] = (xV x fn v).gs.zip (gg ++ [(some ⟨bs, 0, none⟩, 1)]) := by
  unfold xV
  rw [List.zip_append (by omega)]; rfl
 rw [e] at h2
 exact bk (a := { a with ag := A', cg := c', gb := a.gb ++ [k] }) (p := p) (pa := pa) (dr := dr) (gg := gg ++ [(some ⟨bs, 0, none⟩, 1)]) (x := xV x fn v) ⟨by simp [xV, l1], by simp [xV, l2], l3, l4⟩ h2 b
theorem JO {g fn v : Int} (hg : br x g) : aq (xV x fn v) g = aq x g := by
 obtain ⟨h0, h1, h2, h3⟩ := hg
 unfold aq xV
 dsimp only
 rw [List.getD_eq_getElem?_getD, List.getElem?_append_left (by omega), ← List.getD_eq_getElem?_getD]
theorem GY {g : Int} {i : cQ} {bs c : Nat} (h : Hp R L M) [o : xS b L pa p gg dr x L'] (fu : gg[g.toNat]? = some (some ⟨bs, 0, none⟩, c)) (hg : br x g) (hb : bj i.b) (hc : bj i.c) (hs : x.Sm)
  (k : Out.Ok (x.spawn g i) (fun y => ∀ mJ M', Hp R (ay (bC pa p mJ dr) b y :: L') M' → K (.tuple #[]) M')
   (fun n y => ∀ M', Hp R (ay (bC pa p gg dr) b y :: L') M' → Kp [{ v := .iface 340 (.int .i64 n), recovered := false }] M')) :
  aa Tryz.prog 213 #[.pointer (some ⟨b, 0, none⟩), .int .i64 g, .pointer (some ⟨bs, ((aq x g).fs.length - 1) * 11, none⟩), .agg #[.int .i64 i.op, .int .i64 i.a, .int .i64 i.b, .int .i64 i.c]] M K Kp := by
 refine qC ?_
 obtain ⟨s1, s2, s3, s4, s5, s6, s7, s8⟩ := hs
 unfold Wd.spawn at k
 refine ae h ?_
 clear h
 intro kb M h
 have hC := h
 have h' := cG h (b := b)
 clear h
 obtain ⟨a, hl, h⟩ := h'
 have hl' := hl
 obtain ⟨l1, l2, l3, l4⟩ := hl'
 refine aL h ?_
 refine aJ.2 ⟨fun hn => ?_, fun hn => ?_⟩
 ·rw [if_pos (by omega)] at k
  exact k _ (hC.drop.pick o.pick)
 rw [if_neg (by omega)] at k
 refine aL h ?_
 refine ⟨fun vs M => ∃ bs', Hp R (ay (bC pa p (gg ++ [(some ⟨bs', 0, none⟩, 1)]) dr) b (xV x i.a (bD x g i.b)) :: pt kb [.int .i64 i.op, .int .i64 i.a, .int .i64 i.b, .int .i64 i.c] 27 :: L') M, ?_, ?_⟩
 ·repeat (first|(refine ae h ?_;clear h;intro kb M h)|(refine au h ?_;clear h;intro M h)|refine St.to h ?_|(apply Exists.intro;(repeat apply Exists.intro);refine And.intro rfl ?_)|refine av ?_|refine ai ?_|refine aj ?_)
  refine ⟨hb.1, hb.2, GW (b := b) hC hg fu hb rfl ?_⟩
  clear hC
  refine ⟨?_, ?_, trivial⟩
  ·repeat (first|(refine ae h ?_;clear h;intro kb M h)|(refine au h ?_;clear h;intro M h)|refine St.to h ?_|(apply Exists.intro;(repeat apply Exists.intro);refine And.intro rfl ?_)|refine av ?_|refine ai ?_|refine aj ?_)
   refine qT h ?_
   clear h
   intro bs' M h
   repeat (first|(refine ae h ?_;clear h;intro kb M h)|(refine au h ?_;clear h;intro M h)|refine St.to h ?_|(apply Exists.intro;(repeat apply Exists.intro);refine And.intro rfl ?_)|refine av ?_|refine ai ?_|refine aj ?_)
   refine h.bL Vc [_] rfl rfl (by simp; omega) ?_
   clear h
   intro A' c' M h
   repeat (first|(refine ae h ?_;clear h;intro kb M h)|(refine au h ?_;clear h;intro M h)|refine St.to h ?_|(apply Exists.intro;(repeat apply Exists.intro);refine And.intro rfl ?_)|refine av ?_|refine ai ?_|refine aj ?_)
   exact ⟨bs', Qw hl (h.sub bu)⟩
  ·refine qT h ?_
   clear h
   intro bs' M h
   repeat (first|(refine ae h ?_;clear h;intro kb M h)|(refine au h ?_;clear h;intro M h)|refine St.to h ?_|(apply Exists.intro;(repeat apply Exists.intro);refine And.intro rfl ?_)|refine av ?_|refine ai ?_|refine aj ?_)
   refine h.bL Vc [_] rfl rfl (by simp; omega) ?_
   clear h
   intro A' c' M h
   repeat (first|(refine ae h ?_;clear h;intro kb M h)|(refine au h ?_;clear h;intro M h)|refine St.to h ?_|(apply Exists.intro;(repeat apply Exists.intro);refine And.intro rfl ?_)|refine av ?_|refine ai ?_|refine aj ?_)
   exact ⟨bs', Qw hl (h.sub bu)⟩
 ·clear h hC
  rintro _ M ⟨bs', h⟩
  have hlen : (xV x i.a (bD x g i.b)).gs.length = x.gs.length + 1 := by simp [xV]
  have BZ : (x.gs.length : Int) = (a.gb.length : Int) := by omega
  rw [← BZ]
  refine iE (b := b) h (by omega) (by omega) (by show x.ready.length ≤ _; omega) ?_
  clear h
  intro M h
  repeat (first|(refine ae h ?_;clear h;intro kb M h)|(refine au h ?_;clear h;intro M h)|refine St.to h ?_|(apply Exists.intro;(repeat apply Exists.intro);refine And.intro rfl ?_)|refine av ?_|refine ai ?_|refine aj ?_)
  have Nf : aq ((xV x i.a (bD x g i.b)).fL (x.gs.length : Int)) g = aq x g := by
   rw [← JO (fn := i.a) (v := bD x g i.b) hg]
   obtain ⟨h0, h1, _⟩ := hg
   have hne : x.gs.length ≠ g.toNat := by omega
   simp [aq, Wd.fL, Wd.bG, List.getElem?_set, hne]
  have hg3 : br ((xV x i.a (bD x g i.b)).fL (x.gs.length : Int)) g := by
   refine ⟨hg.1, ?_, ?_, ?_⟩
   ·have h1 := hg.2.1
    simp only [Wd.fL, Wd.bG, List.length_set, hlen]; omega
   ·rw [Nf]; exact hg.2.2.1
   ·rw [Nf]; exact hg.2.2.2
  have hgg2 : (gg ++ [(some (⟨bs', 0, none⟩ : Addr), 1)])[g.toNat]? = some (some ⟨bs, 0, none⟩, c) := by
   rw [List.getElem?_append_left (by have := hg.2.1; have := hg.1; omega)]; exact fu
  refine ⟨hc.1, hc.2, mI (b := b) h hg3 hgg2 hc (by rw [Nf]) ?_⟩
  clear h
  intro M h
  repeat (first|(refine ae h ?_;clear h;intro kb M h)|(refine au h ?_;clear h;intro M h)|refine St.to h ?_|(apply Exists.intro;(repeat apply Exists.intro);refine And.intro rfl ?_)|refine av ?_|refine ai ?_|refine aj ?_)
  exact k _ _ h.ck
end
section
variable {R : Mem} {L L' : List HP} {M : Mem} {K : Value → Mem → Prop} {Kp : List PanicEntry → Mem → Prop} {pa : PA} {p : cv} {gg : List GA} {dr : Value} {b : Nat} {x : Wd}
def oO (p : cv) (x : Wd) (i : cQ) : Prop := u5 x i.a ∧ (dg x.aB i.a).dF.length ≤ 1000000 ∧
 ((dg x.aB i.a).close.2.2.2 = 0 → (dg x.aB i.a).close.2.2.1 = [] → xT p (x.cE i.a (dg x.aB i.a).close.1) (dg x.aB i.a).close.2.1)
theorem JP {g : Int} {i : cQ} {f : Value} {bf of' : Nat} (h : Hp R L M) [o : xS b L pa p gg dr x L'] (hp : RS iD R pa.k pa.kc p.cases) (hk : oO p x i) (hs : x.Sm)
  (k : Out.Ok (x.shut p i) (fun y => ∀ M', Hp R (ay (bC pa p gg dr) b y :: L') M' → K (.tuple #[]) M')
   (fun n y => ∀ M', Hp R (ay (bC pa p gg dr) b y :: L') M' → Kp [{ v := .iface 340 (.int .i64 n), recovered := false }] M')) :
  aa Tryz.prog 217 #[.pointer (some ⟨b, 0, none⟩), .int .i64 g, .pointer (some ⟨bf, of', none⟩), .agg #[.int .i64 i.op, .int .i64 i.a, .int .i64 i.b, .int .i64 i.c]] M K Kp := by
 refine sS ?_
 obtain ⟨zR, hlen, hsh⟩ := hk
 obtain ⟨s1, s2, s3, s4, s5, s6, s7, s8⟩ := hs
 unfold Wd.shut at k
 dsimp only at k
 refine ae h ?_
 clear h
 intro kb M h
 have h' := cG h (b := b)
 clear h
 obtain ⟨a, hl, h⟩ := h'
 have hl' := hl
 obtain ⟨l1, l2, l3, l4⟩ := hl'
 have HZ := zR
 obtain ⟨c0, c1⟩ := HZ
 have h' := Qv h hl zR
 clear h
 obtain ⟨cb, hcb, YD, h⟩ := h'
 repeat (first|(refine ae h ?_;clear h;intro kb M h)|(refine au h ?_;clear h;intro M h)|refine St.to h ?_|(apply Exists.intro;(repeat apply Exists.intro);refine And.intro rfl ?_)|refine av ?_|refine ai ?_|refine aj ?_)
 refine uZ h hcb fun q hq => ?_
 have jv : (dg x.aB i.a).close.2.1.length ≤ 1000000 := by
  unfold aV.close; split <;> simp [hlen]
 refine Gi h ?_
 clear h
 intro A ca B cb' M h
 replace h := h.eF bI cb hcb (by omega)
 generalize (dg x.aB i.a).close = s at h k hsh jv
 obtain ⟨c', r, sn, e⟩ := s
 dsimp only at h k hsh jv ⊢
 refine ⟨A, _, ca, B, _, cb', e, rfl, ?_⟩
 replace h := bk (a := a) (p := p) (pa := pa) (dr := dr) (gg := gg) (x := x.cE i.a c') (sg hl) h b
 refine fj.2 ⟨fun he => ?_, fun he => ?_⟩
 ·rw [if_pos he] at k
  exact k _ h.ck
 rw [if_neg (by simpa using he)] at k
 refine aJ.2 ⟨fun hn => ?_, fun hn => ?_⟩
 ·rw [if_pos (by omega)] at k
  exact k _ h.ck
 rw [if_neg (by omega)] at k
 have hsn : sn = [] := by cases sn with
  | nil => rfl
  | cons _ _ => simp at hn
 have hok := hsh he hsn
 refine ⟨fun d vs M => ∃ (j : Nat), vs = [.int .i64 (j : Int)] ∧ d = r.length - j ∧ j ≤ r.length ∧ Hp R (ay (bC pa p gg dr) b ((r.take j).foldl (eA p) (x.cE i.a c')) :: ny A ca r :: L') M, ⟨_, 0, rfl, rfl, by omega, h.sub bu⟩, ?_⟩
 clear h
 rintro d _ nn M ⟨j, yQ, hd, hj, h⟩
 simp only [List.cons.injEq, Value.int.injEq, and_true, true_and] at yQ
 subst yQ
 refine aJ.2 ⟨fun hlt => ?_, fun hge => ?_⟩
 ·obtain ⟨w, hw⟩ := aM (l := r) (i := j) (by omega)
  obtain ⟨t1, t2, t3, t4⟩ := Dv hok hw
  have hstep : (r.take (j + 1)).foldl (eA p) (x.cE i.a c') = eA p ((r.take j).foldl (eA p) (x.cE i.a c')) w := by
   rw [bx hw, List.foldl_append]; rfl
  generalize (r.take j).foldl (eA p) (x.cE i.a c') = y at h t1 t3 t4 hstep
  obtain ⟨qa, rfl⟩ := h.bF (A := A) (by omega) (by decide)
  refine ⟨by omega, hlt, bg ?_⟩
  simp only [Int.toNat_natCast]
  refine aR (Src.at (h.src (A := some ⟨qa, 0, none⟩)) h (i := j) (j := 0) hw rfl (by simp [eG])) ?_
  refine aR (Src.at (h.src (A := some ⟨qa, 0, none⟩)) h (i := j) (j := 1) hw rfl (by simp [eG])) ?_
  refine aR (Src.at (h.src (A := some ⟨qa, 0, none⟩)) h (i := j) (j := 2) hw rfl (by simp [eG])) ?_
  refine ae h ?_
  clear h
  intro kw M h
  refine au h ?_
  clear h; intro M h
  refine au h ?_
  clear h; intro M h
  refine au h ?_
  clear h; intro M h
  have hC := h
  have h' := ko h (b := b) t2 t3
  clear h
  obtain ⟨a2, gb, A2, c2, kM, gd, hgg2, h⟩ := h'
  have YF := kM
  obtain ⟨m1, m2, m3, m4⟩ := YF
  repeat (first|(refine ae h ?_;clear h;intro kb M h)|(refine au h ?_;clear h;intro M h)|refine St.to h ?_|(apply Exists.intro;(repeat apply Exists.intro);refine And.intro rfl ?_)|refine av ?_|refine ai ?_|refine aj ?_)
  refine uZ h gd fun q2 oa => ?_
  repeat (first|(refine ae h ?_;clear h;intro kb M h)|(refine au h ?_;clear h;intro M h)|refine St.to h ?_|(apply Exists.intro;(repeat apply Exists.intro);refine And.intro rfl ?_)|refine av ?_|refine ai ?_|refine aj ?_)
  clear h
  have h := hC
  clear hC
  rw [aQ (by omega)]
  have hst : eA p y w = if (aq y w.g).st = 2 then y.received p { w with v := 0 } 0 else y := rfl
  rw [hst] at hstep
  refine bh.2 ⟨fun e2 => ?_, fun e2 => ?_⟩
  ·rw [if_pos e2] at hstep
   refine au h ?_
   clear h; intro M h
   repeat (first|(refine ae h ?_;clear h;intro kb M h)|(refine au h ?_;clear h;intro M h)|refine St.to h ?_|(apply Exists.intro;(repeat apply Exists.intro);refine And.intro rfl ?_)|refine av ?_|refine ai ?_|refine aj ?_)
   refine qV (b := b) (v := { w with v := 0 }) h hp (t4 e2) t1 ?_
   clear h; intro M h
   refine ⟨rfl, r.length - (j + 1), by omega, j + 1, rfl, rfl, by omega, ?_⟩
   rw [hstep]
   exact h.ck
  ·rw [if_neg e2] at hstep
   refine ⟨r.length - (j + 1), by omega, j + 1, rfl, rfl, by omega, ?_⟩
   rw [hstep]
   exact h.sub bu
 ·obtain rfl : j = r.length := by omega
  rw [List.take_length] at h
  exact k _ h.ck
end
theorem mK : aY Tryz.prog 36 3 1 8 [.int .i64 0] := aY.mk' (zv := .int .i64 0) (by kernel_rfl) (by kernel_rfl) rfl (by omega)
structure Rg where
 room : Nat
 l : List Int
def Rg.Ok (x : Rg) (head : Nat) (slots : List Int) : Prop := slots.length = x.room ∧ 0 < x.room ∧ x.room ≤ 1024 ∧ head < x.room ∧ x.l.length ≤ x.room ∧ ∀ i v, x.l[i]? = some v → slots[(head + i) % x.room]? = some v
def eZ : um Rg := ⟨fun b x => exs fun A : Option Addr => exs fun c : Nat => exs fun head : Nat => exs fun slots : List Int =>
 sep [fact (x.Ok head slots), pt b [.slice A x.room c, .int .i64 (head : Int), .int .i64 (x.l.length : Int)] 309, bE aZ 3 A c slots]⟩
section
variable {R : Mem} {L L' : List HP} {M : Mem} {K : Value → Mem → Prop} {Kp : List PanicEntry → Mem → Prop} {b : Nat} {x : Rg}
theorem jK (h : Hp R L M) [o : b6 eZ b L x L'] : ∃ A c head slots, x.Ok head slots ∧ Hp R (pt b [.slice A x.room c, .int .i64 (head : Int), .int .i64 (x.l.length : Int)] 309 :: bE aZ 3 A c slots :: L') M := by
 have := h.obj eZ b
 simpa only [eZ, Hp.dU, Hp.bl, List.cons_append, List.nil_append, Hp.gv] using this
theorem si {A : Option Addr} {c head : Nat} {slots : List Int} (ok : x.Ok head slots) (h : Hp R (pt b [.slice A x.room c, .int .i64 (head : Int), .int .i64 (x.l.length : Int)] 309 :: bE aZ 3 A c slots :: L) M) : Hp R (ay eZ b x :: L) M := by
 refine Hp.xw ?_
 simp only [eZ, Hp.dU, Hp.bl, List.cons_append, List.nil_append, Hp.gv]
 exact ⟨_, _, _, _, ok, h⟩
def fx (n : Int) : Nat := (min (max n 1) 1024).toNat
theorem Ld (n : Int) : 0 < fx n ∧ fx n ≤ 1024 := by unfold fx; omega
theorem Qx {n : Int} (h : Hp R L M) (k : ∀ b M', Hp R (ay eZ b ⟨fx n, []⟩ :: L) M' → K (.pointer (some ⟨b, 0, none⟩)) M') : aa Tryz.prog 115 #[.int .i64 n] M K Kp := by
 refine Gu ?_
 have e : (if (1024 : Int) < (if (1 : Int) > n then 1 else n) then 1024 else (if (1 : Int) > n then 1 else n)) = ((fx n : Nat) : Int) := by unfold fx; split <;> split <;> omega
 have bd := Ld n
 rw [e]
 refine h.Eg (E := aZ) (a := 0) mK (by omega) ?_
 clear h
 intro kb M h
 repeat (first|(refine ae h ?_;clear h;intro kb M h)|(refine au h ?_;clear h;intro M h)|refine St.to h ?_|(apply Exists.intro;(repeat apply Exists.intro);refine And.intro rfl ?_)|refine av ?_|refine ai ?_|refine aj ?_)
 refine k _ _ (si (head := 0) (slots := List.replicate (fx n) 0) ⟨by simp, bd.1, bd.2, bd.1, by simp, fun i v hv => by simp at hv⟩ (h.sub bu))
theorem Dw (h : Hp R L M) [o : b6 eZ b L x L'] (k : K (.int .i64 (x.room : Int)) M) : aa Tryz.prog 183 #[.pointer (some ⟨b, 0, none⟩)] M K Kp := by
 refine wq ?_
 have h' := jK h (b := b)
 clear h
 obtain ⟨A, c, head, slots, ok, h⟩ := h'
 repeat (first|(refine ae h ?_;clear h;intro kb M h)|(refine au h ?_;clear h;intro M h)|refine St.to h ?_|(apply Exists.intro;(repeat apply Exists.intro);refine And.intro rfl ?_)|refine av ?_|refine ai ?_|refine aj ?_)
 exact k
theorem wK (h : Hp R L M) [o : b6 eZ b L x L'] (k : K (.int .i64 (x.l.length : Int)) M) : aa Tryz.prog 181 #[.pointer (some ⟨b, 0, none⟩)] M K Kp := by
 refine xI ?_
 have h' := jK h (b := b)
 clear h
 obtain ⟨A, c, head, slots, ok, h⟩ := h'
 repeat (first|(refine ae h ?_;clear h;intro kb M h)|(refine au h ?_;clear h;intro M h)|refine St.to h ?_|(apply Exists.intro;(repeat apply Exists.intro);refine And.intro rfl ?_)|refine av ?_|refine ai ?_|refine aj ?_)
 exact k
theorem qm {a b : Nat} : Int.tmod (a : Int) (b : Int) = ((a % b : Nat) : Int) := rfl
theorem sj {v : Int} (h : Hp R L M) [o : b6 eZ b L x L'] (k1 : x.l.length = x.room → ∀ M', Hp R (ay eZ b x :: L') M' → K (.bool false) M') (k2 : x.l.length < x.room → ∀ M', Hp R (ay eZ b ⟨x.room, x.l ++ [v]⟩ :: L') M' → K (.bool true) M') :
  aa Tryz.prog 184 #[.pointer (some ⟨b, 0, none⟩), .int .i64 v] M K Kp := by
 refine wu ?_
 have h' := jK h (b := b)
 clear h
 obtain ⟨A, c, head, slots, ok, h⟩ := h'
 have ok0 := ok
 obtain ⟨h1, h2, h3, h4, h5, h6⟩ := ok0
 repeat (first|(refine ae h ?_;clear h;intro kb M h)|(refine au h ?_;clear h;intro M h)|refine St.to h ?_|(apply Exists.intro;(repeat apply Exists.intro);refine And.intro rfl ?_)|refine av ?_|refine ai ?_|refine aj ?_)
 refine bh.2 ⟨fun e => ?_, fun e => ?_⟩
 ·exact k1 (by omega) _ (si ok h)
 ·have hlt : x.l.length < x.room := by omega
  repeat (first|(refine ae h ?_;clear h;intro kb M h)|(refine au h ?_;clear h;intro M h)|refine St.to h ?_|(apply Exists.intro;(repeat apply Exists.intro);refine And.intro rfl ?_)|refine av ?_|refine ai ?_|refine aj ?_)
  have e1 : IntKind.wrap .i64 ((head : Int) + (x.l.length : Int)) = ((head + x.l.length : Nat) : Int) := wn (by simp) (by omega)
  rw [e1, qm]
  have hm := Nat.mod_lt (head + x.l.length) h2
  obtain ⟨b2, rfl⟩ := h.bF (A := A) (by omega) (by decide)
  obtain ⟨w, hw⟩ := aM (l := slots) (i := (head + x.l.length) % x.room) (by omega)
  repeat (first|(refine ae h ?_;clear h;intro kb M h)|(refine au h ?_;clear h;intro M h)|refine St.to h ?_|(apply Exists.intro;(repeat apply Exists.intro);refine And.intro rfl ?_)|refine av ?_|refine ai ?_|refine aj ?_)
  simp only [Int.toNat_natCast]
  refine iL (a' := v) ((head + x.l.length) % x.room) 0 h hw (by decide) rfl (by simp [aZ]) ?_
  clear h; intro M h
  repeat (first|(refine ae h ?_;clear h;intro kb M h)|(refine au h ?_;clear h;intro M h)|refine St.to h ?_|(apply Exists.intro;(repeat apply Exists.intro);refine And.intro rfl ?_)|refine av ?_|refine ai ?_|refine aj ?_)
  have e2 : IntKind.wrap .i64 ((x.l.length : Int) + 1) = ((x.l.length + 1 : Nat) : Int) := aQ (by omega)
  rw [e2] at h
  refine k2 hlt _ (si (x := ⟨x.room, x.l ++ [v]⟩) (head := head) (slots := slots.set ((head + x.l.length) % x.room) v) ⟨by simpa using h1, h2, h3, h4, by simp; omega, fun i u hu => ?_⟩ (by simpa using h.sub bu))
  dsimp only at hu ⊢
  rcases Nat.lt_or_ge i x.l.length with hi | hi
  ·rw [List.getElem?_append_left hi] at hu
   have hne : (head + i) % x.room ≠ (head + x.l.length) % x.room := by
    intro he
    have a1 : (head + i) % x.room = if head + i < x.room then head + i else head + i - x.room := by
     split
     ·exact Nat.mod_eq_of_lt (by omega)
     ·rw [Nat.mod_eq_sub_mod (by omega)]; exact Nat.mod_eq_of_lt (by omega)
    have a2 : (head + x.l.length) % x.room = if head + x.l.length < x.room then head + x.l.length else head + x.l.length - x.room := by
     split
     ·exact Nat.mod_eq_of_lt (by omega)
     ·rw [Nat.mod_eq_sub_mod (by omega)]; exact Nat.mod_eq_of_lt (by omega)
    rw [a1, a2] at he
    split at he <;> split at he <;> omega
   rw [List.getElem?_set_ne (Ne.symm hne)]
   exact h6 i u hu
  ·rw [List.getElem?_append_right hi] at hu
   have : i = x.l.length := by
    have := (List.getElem?_eq_some_iff.1 hu).1
    simp at this; omega
   subst this
   simp at hu; subst hu
   rw [List.getElem?_set_self (by omega)]
theorem GZ (h : Hp R L M) [o : b6 eZ b L x L'] (k1 : x.l = [] → ∀ M', Hp R (ay eZ b x :: L') M' → K (.tuple #[.int .i64 0, .bool false]) M')
  (k2 : ∀ v l, x.l = v :: l → ∀ M', Hp R (ay eZ b ⟨x.room, l⟩ :: L') M' → K (.tuple #[.int .i64 v, .bool true]) M') :
  aa Tryz.prog 177 #[.pointer (some ⟨b, 0, none⟩)] M K Kp := by
 refine xH ?_
 have h' := jK h (b := b)
 clear h
 obtain ⟨A, c, head, slots, ok, h⟩ := h'
 have ok0 := ok
 obtain ⟨h1, h2, h3, h4, h5, h6⟩ := ok0
 obtain ⟨room, l⟩ := x
 dsimp only at *
 repeat (first|(refine ae h ?_;clear h;intro kb M h)|(refine au h ?_;clear h;intro M h)|refine St.to h ?_|(apply Exists.intro;(repeat apply Exists.intro);refine And.intro rfl ?_)|refine av ?_|refine ai ?_|refine aj ?_)
 refine bh.2 ⟨fun e => ?_, fun e => ?_⟩
 ·exact k1 (List.length_eq_zero_iff.1 (by omega)) _ (si ok h)
 ·cases l with
  | nil => simp at e
  | cons v l =>
  have hv := h6 0 v rfl
  rw [Nat.add_zero, Nat.mod_eq_of_lt h4] at hv
  obtain ⟨b2, rfl⟩ := h.bF (A := A) (by omega) (by decide)
  have s0 := h.src (A := some ⟨b2, 0, none⟩)
  repeat (first|(refine ae h ?_;clear h;intro kb M h)|(refine au h ?_;clear h;intro M h)|refine St.to h ?_|(apply Exists.intro;(repeat apply Exists.intro);refine And.intro rfl ?_)|refine av ?_|refine ai ?_|refine aj ?_)
  simp only [Int.toNat_natCast]
  refine aR (s0.at h (i := head) (j := 0) hv rfl (by simp [aZ])) ?_
  repeat (first|(refine ae h ?_;clear h;intro kb M h)|(refine au h ?_;clear h;intro M h)|refine St.to h ?_|(apply Exists.intro;(repeat apply Exists.intro);refine And.intro rfl ?_)|refine av ?_|refine ai ?_|refine aj ?_)
  have e1 : IntKind.wrap .i64 ((head : Int) + 1) = ((head + 1 : Nat) : Int) := aQ (by omega)
  rw [e1, qm] at h
  have e2 : IntKind.wrap .i64 ((((v :: l).length : Nat) : Int) - 1) = ((l.length : Nat) : Int) := by rw [ou (by simp only [List.length_cons]; omega) (by simp only [List.length_cons] at h5 ⊢; omega)]; simp
  rw [e2] at h
  have h5' : l.length + 1 ≤ room := by simpa using h5
  refine k2 v l rfl _ (si (x := ⟨room, l⟩) (head := (head + 1) % room) (slots := slots) ⟨h1, h2, h3, Nat.mod_lt _ h2, by dsimp only; omega, fun i u hu => ?_⟩ (h.sub bu))
  dsimp only at hu ⊢
  have := h6 (i + 1) u (by simpa using hu)
  rw [Nat.mod_add_mod, ← this]
  congr 2; omega
theorem Dx {n : Int} (h : Hp R L M) [o : b6 eZ b L x L'] (k : ∀ A c M', Hp R (bE aZ 3 A c (x.l.take n.toNat) :: ay eZ b ⟨x.room, x.l.drop n.toNat⟩ :: L') M' → K (.slice A (x.l.take n.toNat).length c) M') :
  aa Tryz.prog 182 #[.pointer (some ⟨b, 0, none⟩), .int .i64 n] M K Kp := by
 replace h := h.front eZ b
 have hx : x.l.length ≤ 1024 := by
  obtain ⟨A, c, head, slots, ok, _⟩ := jK h (b := b)
  have := ok.2.2.1; have := ok.2.2.2.2.1; omega
 refine wm ⟨fun d ws M => ∃ (i : Nat) (A : Option Addr) (c : Nat), ws = [.slice A (x.l.take i).length c] ∧ d = n.toNat - i ∧ i ≤ n.toNat ∧ i ≤ x.l.length ∧
  Hp R (bE aZ 3 A c (x.l.take i) :: ay eZ b ⟨x.room, x.l.drop i⟩ :: L') M, ⟨_, 0, none, 0, rfl, rfl, by omega, by omega, h.bP _ _⟩, ?_⟩
 clear h
 rintro d _ A n1 c M ⟨i, _, _, he, hd, hi, ZM, h⟩
 simp only [List.cons.injEq, Value.slice.injEq, and_true, true_and] at he
 obtain ⟨rfl, rfl, rfl⟩ := he
 have hlen : (x.l.take i).length = i := by rw [List.length_take]; omega
 refine aJ.2 ⟨fun hlt => ?_, fun hge => ?_⟩
 ·refine GZ h (fun e M' h' => ?_) fun v l e M' h' => ?_
  ·repeat (first|(refine ae h ?_;clear h;intro kb M h)|(refine au h ?_;clear h;intro M h)|refine St.to h ?_|(apply Exists.intro;(repeat apply Exists.intro);refine And.intro rfl ?_)|refine av ?_|refine ai ?_|refine aj ?_)
   have : x.l.length ≤ i := by
    have := congrArg List.length e; simp at this; omega
   rw [List.take_of_length_le this] at h' ⊢
   rw [List.drop_of_length_le this] at h'
   have h1 : x.l.take n.toNat = x.l := List.take_of_length_le (by omega)
   have h2 : x.l.drop n.toNat = [] := List.drop_of_length_le (by omega)
   rw [h1, h2] at k
   exact k _ _ _ h'.swap
  ·clear h
   have h := h'.swap
   clear h'
   dsimp only at e
   have hv : x.l[i]? = some v := by
    have := congrArg (fun l => l[0]?) e
    simpa using this
   have e3 : x.l.drop (i + 1) = l := by
    have := congrArg (List.drop 1) e
    simpa using this
   repeat (first|(refine ae h ?_;clear h;intro kb M h)|(refine au h ?_;clear h;intro M h)|refine St.to h ?_|(apply Exists.intro;(repeat apply Exists.intro);refine And.intro rfl ?_)|refine av ?_|refine ai ?_|refine aj ?_)
   refine h.bL mK [v] rfl rfl (by simp; omega) ?_
   clear h
   intro A' c' M h
   repeat (first|(refine ae h ?_;clear h;intro kb M h)|(refine au h ?_;clear h;intro M h)|refine St.to h ?_|(apply Exists.intro;(repeat apply Exists.intro);refine And.intro rfl ?_)|refine av ?_|refine ai ?_|refine aj ?_)
   rw [← bx hv] at h ⊢
   have kM := (List.getElem?_eq_some_iff.1 hv).1
   refine ⟨n.toNat - (i + 1), by omega, i + 1, A', c', rfl, rfl, by omega, by omega, ?_⟩
   rw [e3]; exact h.sub bu
 ·obtain rfl : i = n.toNat := by omega
  exact k _ _ _ h
theorem Nh (h : Hp R L M) [o : b6 eZ b L x L'] (k : ∀ A c M', Hp R (bE aZ 3 A c x.l :: ay eZ b x :: L') M' → K (.slice A x.l.length c) M') :
  aa Tryz.prog 194 #[.pointer (some ⟨b, 0, none⟩)] M K Kp := by
 refine wk ?_
 have h' := jK h (b := b)
 clear h
 obtain ⟨A0, c0, head, slots, ok, h⟩ := h'
 have ok0 := ok
 obtain ⟨h1, h2, h3, h4, h5, h6⟩ := ok0
 repeat (first|(refine ae h ?_;clear h;intro kb M h)|(refine au h ?_;clear h;intro M h)|refine St.to h ?_|(apply Exists.intro;(repeat apply Exists.intro);refine And.intro rfl ?_)|refine av ?_|refine ai ?_|refine aj ?_)
 refine ⟨fun d ws M => ∃ (i : Nat) (A : Option Addr) (c : Nat), ws = [.slice A (x.l.take i).length c, .int .i64 (i : Int)] ∧ d = x.l.length - i ∧ i ≤ x.l.length ∧
  Hp R (bE aZ 3 A c (x.l.take i) :: pt b [.slice A0 x.room c0, .int .i64 (head : Int), .int .i64 (x.l.length : Int)] 309 :: bE aZ 3 A0 c0 slots :: L') M, ⟨_, 0, none, 0, rfl, rfl, by omega, h.bP _ _⟩, ?_⟩
 clear h
 rintro d _ A n1 c ii M ⟨i, _, _, he, hd, hi, h⟩
 simp only [List.cons.injEq, Value.slice.injEq, Value.int.injEq, and_true, true_and] at he
 obtain ⟨⟨rfl, rfl, rfl⟩, rfl⟩ := he
 refine aJ.2 ⟨fun hlt => ?_, fun hge => ?_⟩
 ·obtain ⟨v, hv⟩ := aM (l := x.l) (i := i) (by omega)
  have hs := h6 i v hv
  have G0 := Nat.mod_lt (head + i) h2
  obtain ⟨b2, rfl⟩ := h.drop.bF (A := A0) (by omega) (by decide)
  have s0 : Src R _ (some ⟨b2, 0, none⟩) (aZ.cells slots) := h.src (A := some ⟨b2, 0, none⟩)
  repeat (first|(refine ae h ?_;clear h;intro kb M h)|(refine au h ?_;clear h;intro M h)|refine St.to h ?_|(apply Exists.intro;(repeat apply Exists.intro);refine And.intro rfl ?_)|refine av ?_|refine ai ?_|refine aj ?_)
  have e1 : IntKind.wrap .i64 ((head : Int) + (i : Int)) = ((head + i : Nat) : Int) := wn (by simp) (by omega)
  rw [e1, qm]
  repeat (first|(refine ae h ?_;clear h;intro kb M h)|(refine au h ?_;clear h;intro M h)|refine St.to h ?_|(apply Exists.intro;(repeat apply Exists.intro);refine And.intro rfl ?_)|refine av ?_|refine ai ?_|refine aj ?_)
  simp only [Int.toNat_natCast]
  refine aR (s0.at h (i := (head + i) % x.room) (j := 0) hs rfl (by simp [aZ])) ?_
  repeat (first|(refine ae h ?_;clear h;intro kb M h)|(refine au h ?_;clear h;intro M h)|refine St.to h ?_|(apply Exists.intro;(repeat apply Exists.intro);refine And.intro rfl ?_)|refine av ?_|refine ai ?_|refine aj ?_)
  refine h.bL mK [v] rfl rfl (by simp; omega) ?_
  clear h
  intro A' c' M h
  repeat (first|(refine ae h ?_;clear h;intro kb M h)|(refine au h ?_;clear h;intro M h)|refine St.to h ?_|(apply Exists.intro;(repeat apply Exists.intro);refine And.intro rfl ?_)|refine av ?_|refine ai ?_|refine aj ?_)
  rw [aQ (by omega), ← bx hv] at *
  exact ⟨x.l.length - (i + 1), by omega, i + 1, A', c', rfl, rfl, by omega, h⟩
 ·obtain rfl : i = x.l.length := by omega
  rw [List.take_length] at h ⊢
  refine k _ _ _ ?_
  have h7 := h.swap
  refine (si (x := x) ok (h7.sub bu)).swap.sub bu
end
structure Loc where
 next : Int
 room : Nat
 l : List Int
def Loc.put (x : Loc) (v : Int) (g : List Int) : Loc × List Int × Nat :=
 if x.l.length < x.room then ({ x with l := x.l ++ [v] }, g, 0) else ({ x with l := x.l.drop (x.l.length / 2) }, g ++ (x.l.take (x.l.length / 2) ++ [v]), x.l.length / 2 + 1)
def Loc.ready (x : Loc) (v : Int) (g : List Int) : Loc × List Int × Nat := if x.next = -1 then ({ x with next := v }, g, 0) else ({ x with next := v } : Loc).put x.next g
def Loc.get (x : Loc) : Loc × Int := if x.next ≠ -1 then ({ x with next := -1 }, x.next) else match x.l with
 | [] => (x, -1)
 | v :: l => ({ x with l := l }, v)
def Loc.hH (x : Loc) (g : List Int) : Loc × List Int × Nat := if x.next = -1 then (x, g, 0) else ({ x with next := -1 } : Loc).put x.next g
def Loc.dX (x : Loc) (g : List Int) (p : Int) : Nat := if p < 1 then 1 else min (g.length / p.toNat + 1) (x.room - x.l.length + 1)
def Loc.fH (x : Loc) (g : List Int) (p : Int) : Loc × List Int × Int := match g.take (x.dX g p) with
 | [] => (x, g, -1)
 | v :: out => ({ x with l := x.l ++ out }, g.drop (x.dX g p), v)
def Loc.ie (x f : Loc) : Nat := min (f.l.length - f.l.length / 2) (x.room - x.l.length + 1)
def Loc.eB (x f : Loc) : Loc × Loc × Int := match f.l.take (x.ie f) with
 | [] => (x, { f with next := -1 }, f.next)
 | v :: out => ({ x with l := x.l ++ out }, { f with l := f.l.drop (x.ie f) }, v)
def Loc.Ok (x : Loc) : Prop := x.l.length ≤ x.room ∧ x.room ≤ 1024 ∧ 0 < x.room
def bO : um Loc := ⟨fun b x => exs fun rb : Nat => sep [pt b [.int .i64 x.next, .pointer (some ⟨rb, 0, none⟩)] 237, ay eZ rb ⟨x.room, x.l⟩]⟩
structure To (gb go : Nat) (P : Option Addr → Nat → Nat → HP) : Prop where
 G1 : ∀ (R : Mem) (L : List HP) (M : Mem) (A : Option Addr) (n c : Nat), Hp R (P A n c :: L) M → M.ld ⟨gb, go, none⟩ = some (.slice A n c)
 stS : ∀ (R : Mem) (L : List HP) (M : Mem) (A A' : Option Addr) (n c n' c' : Nat) (G : Mem → Prop), Hp R (P A n c :: L) M → (∀ M', Hp R (P A' n' c' :: L) M' → G M') → aP M ⟨gb, go, none⟩ (.slice A' n' c') G
def gI (P : Option Addr → Nat → Nat → HP) (l : List Int) : HP := exs fun A : Option Addr => exs fun c : Nat => sep [P A l.length c, bE aZ 3 A c l]
class tQ (P : Option Addr → Nat → Nat → HP) (L : List HP) (g : outParam (List Int)) (L' : outParam (List HP)) : Prop where
 pick : cZ L (gI P g) L'
instance tQ.here {P : Option Addr → Nat → Nat → HP} {g : List Int} {L : List HP} : tQ P (gI P g :: L) g L := ⟨.here⟩
instance (priority := low) tQ.there {P : Option Addr → Nat → Nat → HP} {g : List Int} {Q : HP} {L L' : List HP} [h : tQ P L g L'] : tQ P (Q :: L) g (Q :: L') := ⟨.there h.pick⟩
section
variable {R : Mem} {L L' nY : List HP} {M : Mem} {K : Value → Mem → Prop} {Kp : List PanicEntry → Mem → Prop} {b gb go b' : Nat} {P : Option Addr → Nat → Nat → HP} {x f : Loc} {g : List Int}
theorem iy (h : Hp R L M) [o : b6 bO b L x L'] : ∃ rb, Hp R (pt b [.int .i64 x.next, .pointer (some ⟨rb, 0, none⟩)] 237 :: ay eZ rb ⟨x.room, x.l⟩ :: L') M := by
 have := h.obj bO b
 simpa only [bO, Hp.dU, Hp.bl, List.cons_append, List.nil_append] using this
theorem YG {rb : Nat} (h : Hp R (pt b [.int .i64 x.next, .pointer (some ⟨rb, 0, none⟩)] 237 :: ay eZ rb ⟨x.room, x.l⟩ :: L) M) : Hp R (ay bO b x :: L) M := by
 refine Hp.xw ?_
 simp only [bO, Hp.dU, Hp.bl, List.cons_append, List.nil_append]
 exact ⟨_, h⟩
theorem cI {next : Int} {rb room : Nat} {l : List Int} {L1 L2 : List HP} (h : Hp R L M) (b : Nat) [p : jV b L [.int .i64 next, .pointer (some ⟨rb, 0, none⟩)] 237 L1] [o : b6 eZ rb L1 ⟨room, l⟩ L2] : Hp R (ay bO b ⟨next, room, l⟩ :: L2) M :=
 YG (h.sub (.cons p.pick (.cons o.pick .refl)))
theorem jk (h : Hp R L M) [o : tQ P L g L'] : ∃ A c, Hp R (P A g.length c :: bE aZ 3 A c g :: L') M := by
 have := h.pick o.pick
 simpa only [gI, Hp.dU, Hp.bl, List.cons_append, List.nil_append] using this
theorem G2 {A : Option Addr} {c n : Nat} (h : Hp R (P A n c :: bE aZ 3 A c g :: L) M) (e : n = g.length := by first | rfl | simp) : Hp R (gI P g :: L) M := by
 subst e
 simp only [gI, Hp.dU, Hp.bl, List.cons_append, List.nil_append]
 exact ⟨_, _, h⟩
theorem Tp {rb : Nat} {r : Rg} (h : Hp R L M) [o : b6 eZ rb L r L'] : r.l.length ≤ r.room ∧ r.room ≤ 1024 ∧ 0 < r.room := by
 obtain ⟨A, c, head, slots, ok, _⟩ := jK h (b := rb)
 exact ⟨ok.2.2.2.2.1, ok.2.2.1, ok.2.1⟩
theorem xX (h : Hp R L M) [o : b6 bO b L x L'] : x.Ok := by
 obtain ⟨rb, h2⟩ := iy h (b := b)
 exact Tp (rb := rb) h2
theorem Dy {room : Int} (h : Hp R L M) (k : ∀ b M', Hp R (ay bO b ⟨-1, fx room, []⟩ :: L) M' → K (.pointer (some ⟨b, 0, none⟩)) M') : aa Tryz.prog 57 #[.int .i64 room] M K Kp := by
 refine EA ?_
 refine Qx h ?_
 clear h
 intro rb M h
 repeat (first|(refine ae h ?_;clear h;intro kb M h)|(refine au h ?_;clear h;intro M h)|refine St.to h ?_|(apply Exists.intro;(repeat apply Exists.intro);refine And.intro rfl ?_)|refine av ?_|refine ai ?_|refine aj ?_)
 exact k _ _ (cI h kb)
theorem Bf (h : Hp R L M) [o : b6 bO b L x L'] (k : K (.int .i64 x.next) M) : aa Tryz.prog 148 #[.pointer (some ⟨b, 0, none⟩)] M K Kp := by
 refine tp ?_
 have h' := iy h (b := b)
 clear h
 obtain ⟨rb, h⟩ := h'
 repeat (first|(refine ae h ?_;clear h;intro kb M h)|(refine au h ?_;clear h;intro M h)|refine St.to h ?_|(apply Exists.intro;(repeat apply Exists.intro);refine And.intro rfl ?_)|refine av ?_|refine ai ?_|refine aj ?_)
 exact k
theorem JQ (h : Hp R L M) [o : b6 bO b L x L'] (k : ∀ A c M', Hp R (bE aZ 3 A c x.l :: ay bO b x :: L') M' → K (.slice A x.l.length c) M') : aa Tryz.prog 162 #[.pointer (some ⟨b, 0, none⟩)] M K Kp := by
 refine tq ?_
 have h' := iy h (b := b)
 clear h
 obtain ⟨rb, h⟩ := h'
 repeat (first|(refine ae h ?_;clear h;intro kb M h)|(refine au h ?_;clear h;intro M h)|refine St.to h ?_|(apply Exists.intro;(repeat apply Exists.intro);refine And.intro rfl ?_)|refine av ?_|refine ai ?_|refine aj ?_)
 refine Nh h ?_
 clear h
 intro A c M h
 repeat (first|(refine ae h ?_;clear h;intro kb M h)|(refine au h ?_;clear h;intro M h)|refine St.to h ?_|(apply Exists.intro;(repeat apply Exists.intro);refine And.intro rfl ?_)|refine av ?_|refine ai ?_|refine aj ?_)
 exact k _ _ _ ((cI h b).sub bu)
theorem JR (D : To gb go P) (h : Hp R L M) [o : tQ P L g L'] (k : K (.int .i64 (g.length : Int)) M) : aa Tryz.prog 202 #[.pointer (some ⟨gb, go, none⟩)] M K Kp := by
 refine tv ?_
 have h' := jk h (P := P)
 clear h
 obtain ⟨A, c, h⟩ := h'
 rw [D.G1 _ _ _ _ _ _ h]
 exact aO k
theorem G3 (D : To gb go P) (h : Hp R L M) [o : tQ P L g L'] (hs : g.length ≤ 1000000000) (k : ∀ A c M', Hp R (bE aZ 3 A c g :: gI P g :: L') M' → K (.slice A g.length c) M') : aa Tryz.prog 64 #[.pointer (some ⟨gb, go, none⟩)] M K Kp := by
 refine qH ?_
 have h' := jk h (P := P)
 clear h
 obtain ⟨A, c, h⟩ := h'
 refine ae h ?_
 clear h; intro kb M h
 rw [D.G1 _ _ _ _ _ _ h.swap]
 refine aO ?_
 refine h.gE aZ mK g (h.src (A := A)) rfl (by omega) ?_
 clear h
 intro A' c' M h
 refine aO ?_
 exact k _ _ _ (((h.pick (.there .here)).pick (.there (.there .here)) |> fun h => G2 (P := P) (h.sub (show Sub _ (P A g.length c :: bE aZ 3 A c g :: bE aZ 3 A' c' g :: L') from bu))).swap)
theorem oP (D : To gb go P) {B : Option Addr} {n c : Nat} {l : List Int} (h : Hp R L M) [o : tQ P L g L'] (hB : Src R L' B (aZ.cells l)) (hn : n = l.length) (hs : g.length + l.length ≤ 1000000000) (k : ∀ M', Hp R (gI P (g ++ l) :: L') M' → K (.tuple #[]) M') :
  aa Tryz.prog 58 #[.pointer (some ⟨gb, go, none⟩), .slice B n c] M K Kp := by
 refine tj ?_
 have h' := jk h (P := P)
 clear h
 obtain ⟨A, cg, h⟩ := h'
 rw [D.G1 _ _ _ _ _ _ h]
 refine aO ?_
 refine h.Db (A := A) (r := l) mK hB.cons.cons hn (by omega) ?_
 clear h
 intro A' c' M h
 refine aO ?_
 refine D.stS _ _ _ _ _ _ _ _ _ _ h.swap ?_
 clear h; intro M h
 exact k _ (G2 h)
theorem qW (D : To gb go P) {n : Int} (h : Hp R L M) [o : tQ P L g L'] (hs : g.length ≤ 1000000000) (k : ∀ A c M', Hp R (bE aZ 3 A c (g.take n.toNat) :: gI P (g.drop n.toNat) :: L') M' → K (.slice A (g.take n.toNat).length c) M') :
  aa Tryz.prog 179 #[.pointer (some ⟨gb, go, none⟩), .int .i64 n] M K Kp := by
 refine qJ ?_
 have h' := jk h (P := P)
 clear h
 obtain ⟨A, cg, h⟩ := h'
 have hcap := h.kH A
 have e : (if ((g.length : Nat) : Int) < (if (0 : Int) > n then 0 else n) then ((g.length : Nat) : Int) else (if (0 : Int) > n then 0 else n)) = ((min n.toNat g.length : Nat) : Int) := by split <;> split <;> omega
 have hq : g.take n.toNat = g.take (min n.toNat g.length) ∧ g.drop n.toNat = g.drop (min n.toNat g.length) := by
  rcases Nat.le_total n.toNat g.length with hl | hl
  ·rw [Nat.min_eq_left hl]; exact ⟨rfl, rfl⟩
  ·rw [Nat.min_eq_right hl, List.take_of_length_le hl, List.drop_of_length_le hl]; simp
 rw [hq.1, hq.2] at k
 have hql : min n.toNat g.length ≤ g.length := Nat.min_le_right ..
 rw [D.G1 _ _ _ _ _ _ h]
 refine aO ?_
 rw [e]
 generalize min n.toNat g.length = q at *
 have el : (g.take q).length = q := by rw [List.length_take]; omega
 refine ae h ?_
 clear h; intro kb M h
 rw [D.G1 _ _ _ _ _ _ h.swap]
 refine aO ?_
 simp only [Int.toNat_natCast, Nat.sub_zero]
 refine ⟨by omega, by omega, by omega, by omega, by omega, by omega, ?_⟩
 refine h.gE aZ mK (g.take q) (Src.pre1 (h.src (A := A)) hcap q) (by rw [el]) (by rw [el]; omega) ?_
 clear h
 intro A' c' M h
 refine aO ?_
 refine ae h ?_
 clear h; intro kb2 M h
 replace h : Hp R (P A g.length cg :: bE aZ 3 A cg g :: pt kb2 [] 3 :: bE aZ 3 A' c' (g.take q) :: L') M := h.sub bu
 rw [D.G1 _ _ _ _ _ _ h]
 refine aO ?_
 refine ⟨by omega, by omega, by omega, by omega, by omega, by omega, ?_⟩
 refine h.gE aZ mK (g.drop q) (Src.Tj (h.src (A := A)) hcap q) (by rw [List.length_drop]) (by rw [List.length_drop]; omega) ?_
 clear h
 intro A2 c2 M h
 refine aO ?_
 replace h : Hp R (P A g.length cg :: bE aZ 3 A2 c2 (g.drop q) :: bE aZ 3 A' c' (g.take q) :: L') M := h.sub bu
 refine D.stS _ _ _ _ _ _ _ _ _ _ h ?_
 clear h; intro M h
 rw [← el]
 rw [el]
 exact k _ _ _ ((G2 (P := P) h).swap)
theorem Dz (D : To gb go P) {v : Int} (h : Hp R L M) [o : b6 bO b L x L'] [og : tQ P L' g nY] (hs : g.length ≤ 100000000)
  (k : ∀ M', Hp R (ay bO b (x.put v g).1 :: gI P (x.put v g).2.1 :: nY) M' → K (.int .i64 ((x.put v g).2.2 : Int)) M') :
  aa Tryz.prog 185 #[.pointer (some ⟨b, 0, none⟩), .int .i64 v, .pointer (some ⟨gb, go, none⟩)] M K Kp := by
 have bd := xX h (b := b)
 have h0 : Hp R (ay bO b x :: gI P g :: nY) M := (h.pick o.pick).map fun _ hs => hs.tail (fun _ => cq.pick og.pick)
 clear h
 have h := h0
 clear h0
 refine uQ ?_
 have h' := iy h (b := b)
 clear h
 obtain ⟨rb, h⟩ := h'
 repeat (first|(refine ae h ?_;clear h;intro kb M h)|(refine au h ?_;clear h;intro M h)|refine St.to h ?_|(apply Exists.intro;(repeat apply Exists.intro);refine And.intro rfl ?_)|refine av ?_|refine ai ?_|refine aj ?_)
 refine sj h (fun e M' h' => ?_) fun e M' h' => ?_
 ·clear h
  have h := h'
  clear h'
  dsimp only at e
  have hp : x.put v g = ({ x with l := x.l.drop (x.l.length / 2) }, g ++ (x.l.take (x.l.length / 2) ++ [v]), x.l.length / 2 + 1) := by unfold Loc.put; rw [if_neg (by omega)]
  rw [hp] at k
  repeat (first|(refine ae h ?_;clear h;intro kb M h)|(refine au h ?_;clear h;intro M h)|refine St.to h ?_|(apply Exists.intro;(repeat apply Exists.intro);refine And.intro rfl ?_)|refine av ?_|refine ai ?_|refine aj ?_)
  refine wK h ?_
  repeat (first|(refine ae h ?_;clear h;intro kb M h)|(refine au h ?_;clear h;intro M h)|refine St.to h ?_|(apply Exists.intro;(repeat apply Exists.intro);refine And.intro rfl ?_)|refine av ?_|refine ai ?_|refine aj ?_)
  have e2 : IntKind.wrap .i64 (Int.tdiv (x.l.length : Int) 2) = ((x.l.length / 2 : Nat) : Int) := wn rfl (by have := bd.1; have := bd.2.1; omega)
  simp only [e2]
  refine Dx h ?_
  clear h
  intro A c M h
  simp only [Int.toNat_natCast] at h ⊢
  repeat (first|(refine ae h ?_;clear h;intro kb M h)|(refine au h ?_;clear h;intro M h)|refine St.to h ?_|(apply Exists.intro;(repeat apply Exists.intro);refine And.intro rfl ?_)|refine av ?_|refine ai ?_|refine aj ?_)
  have htl : (x.l.take (x.l.length / 2)).length = x.l.length / 2 := by rw [List.length_take]; omega
  refine h.bL mK [v] rfl rfl (by have := bd.2.1; have := bd.1; simp; omega) ?_
  clear h
  intro A' c' M h
  repeat (first|(refine ae h ?_;clear h;intro kb M h)|(refine au h ?_;clear h;intro M h)|refine St.to h ?_|(apply Exists.intro;(repeat apply Exists.intro);refine And.intro rfl ?_)|refine av ?_|refine ai ?_|refine aj ?_)
  replace h := h.sub (show Sub _ (gI P g :: bE aZ 3 A' c' (x.l.take (x.l.length / 2) ++ [v]) :: ay eZ rb ⟨x.room, x.l.drop (x.l.length / 2)⟩ :: pt b [.int .i64 x.next, .pointer (some ⟨rb, 0, none⟩)] 237 :: nY) from bu)
  refine oP D h Src.row rfl (by have := bd.2.1; have := bd.1; simp; omega) ?_
  clear h
  intro M h
  repeat (first|(refine ae h ?_;clear h;intro kb M h)|(refine au h ?_;clear h;intro M h)|refine St.to h ?_|(apply Exists.intro;(repeat apply Exists.intro);refine And.intro rfl ?_)|refine av ?_|refine ai ?_|refine aj ?_)
  have e3 : (((x.l.take (x.l.length / 2) ++ [v]).length : Nat) : Int) = ((x.l.length / 2 + 1 : Nat) : Int) := by simp; omega
  rw [e3]
  exact k _ ((cI h b).sub bu)
 ·clear h
  have h := h'
  clear h'
  dsimp only at e
  have hp : x.put v g = ({ x with l := x.l ++ [v] }, g, 0) := by unfold Loc.put; rw [if_pos e]
  rw [hp] at k
  repeat (first|(refine ae h ?_;clear h;intro kb M h)|(refine au h ?_;clear h;intro M h)|refine St.to h ?_|(apply Exists.intro;(repeat apply Exists.intro);refine And.intro rfl ?_)|refine av ?_|refine ai ?_|refine aj ?_)
  exact k _ ((cI h b).sub bu)
theorem EU (h : Hp R L M) [o : b6 bO b L x L'] [og : tQ P L' g nY] : Hp R (ay bO b x :: gI P g :: nY) M := (h.pick o.pick).map fun _ hs => hs.tail (fun _ => cq.pick og.pick)
theorem G4 (D : To gb go P) {v : Int} (h : Hp R L M) [o : b6 bO b L x L'] [og : tQ P L' g nY] (hs : g.length ≤ 100000000)
  (k : ∀ M', Hp R (ay bO b (x.ready v g).1 :: gI P (x.ready v g).2.1 :: nY) M' → K (.int .i64 ((x.ready v g).2.2 : Int)) M') :
  aa Tryz.prog 152 #[.pointer (some ⟨b, 0, none⟩), .int .i64 v, .pointer (some ⟨gb, go, none⟩)] M K Kp := by
 replace h := EU (P := P) h (b := b)
 refine qI ?_
 have h' := iy h (b := b)
 clear h
 obtain ⟨rb, h⟩ := h'
 repeat (first|(refine ae h ?_;clear h;intro kb M h)|(refine au h ?_;clear h;intro M h)|refine St.to h ?_|(apply Exists.intro;(repeat apply Exists.intro);refine And.intro rfl ?_)|refine av ?_|refine ai ?_|refine aj ?_)
 refine bh.2 ⟨fun e => ?_, fun e => ?_⟩
 ·have hp : x.ready v g = ({ x with next := v }, g, 0) := by unfold Loc.ready; rw [if_pos e]
  rw [hp] at k
  repeat (first|(refine ae h ?_;clear h;intro kb M h)|(refine au h ?_;clear h;intro M h)|refine St.to h ?_|(apply Exists.intro;(repeat apply Exists.intro);refine And.intro rfl ?_)|refine av ?_|refine ai ?_|refine aj ?_)
  exact k _ ((cI h b).sub bu)
 ·have hp : x.ready v g = ({ x with next := v } : Loc).put x.next g := by unfold Loc.ready; rw [if_neg e]
  rw [hp] at k
  replace h := cI h b
  refine Dz D h hs ?_
  clear h
  intro M h
  repeat (first|(refine ae h ?_;clear h;intro kb M h)|(refine au h ?_;clear h;intro M h)|refine St.to h ?_|(apply Exists.intro;(repeat apply Exists.intro);refine And.intro rfl ?_)|refine av ?_|refine ai ?_|refine aj ?_)
  exact k _ h
theorem JS (D : To gb go P) (h : Hp R L M) [o : b6 bO b L x L'] [og : tQ P L' g nY] (hs : g.length ≤ 100000000)
  (k : ∀ M', Hp R (ay bO b (x.hH g).1 :: gI P (x.hH g).2.1 :: nY) M' → K (.int .i64 ((x.hH g).2.2 : Int)) M') :
  aa Tryz.prog 178 #[.pointer (some ⟨b, 0, none⟩), .pointer (some ⟨gb, go, none⟩)] M K Kp := by
 replace h := EU (P := P) h (b := b)
 refine tu ?_
 have h' := iy h (b := b)
 clear h
 obtain ⟨rb, h⟩ := h'
 repeat (first|(refine ae h ?_;clear h;intro kb M h)|(refine au h ?_;clear h;intro M h)|refine St.to h ?_|(apply Exists.intro;(repeat apply Exists.intro);refine And.intro rfl ?_)|refine av ?_|refine ai ?_|refine aj ?_)
 refine bh.2 ⟨fun e => ?_, fun e => ?_⟩
 ·have hp : x.hH g = (x, g, 0) := by unfold Loc.hH; rw [if_pos e]
  rw [hp] at k
  exact k _ ((cI h b).sub bu)
 ·have hp : x.hH g = ({ x with next := -1 } : Loc).put x.next g := by unfold Loc.hH; rw [if_neg e]
  rw [hp] at k
  repeat (first|(refine ae h ?_;clear h;intro kb M h)|(refine au h ?_;clear h;intro M h)|refine St.to h ?_|(apply Exists.intro;(repeat apply Exists.intro);refine And.intro rfl ?_)|refine av ?_|refine ai ?_|refine aj ?_)
  replace h := cI h b
  refine Dz D h hs ?_
  clear h
  intro M h
  repeat (first|(refine ae h ?_;clear h;intro kb M h)|(refine au h ?_;clear h;intro M h)|refine St.to h ?_|(apply Exists.intro;(repeat apply Exists.intro);refine And.intro rfl ?_)|refine av ?_|refine ai ?_|refine aj ?_)
  exact k _ h
theorem DA (h : Hp R L M) [o : b6 bO b L x L']
  (k : ∀ t M', (x.get.2 = -1 → x.next = -1 → x.l = [] → t = false) → (x.next ≠ -1 ∨ x.l ≠ [] → t = true) → Hp R (ay bO b x.get.1 :: L') M' → K (.tuple #[.int .i64 x.get.2, .bool t]) M') :
  aa Tryz.prog 149 #[.pointer (some ⟨b, 0, none⟩)] M K Kp := by
 refine uP ?_
 have h' := iy h (b := b)
 clear h
 obtain ⟨rb, h⟩ := h'
 obtain ⟨next, room, l⟩ := x
 dsimp only at h
 repeat (first|(refine ae h ?_;clear h;intro kb M h)|(refine au h ?_;clear h;intro M h)|refine St.to h ?_|(apply Exists.intro;(repeat apply Exists.intro);refine And.intro rfl ?_)|refine av ?_|refine ai ?_|refine aj ?_)
 refine fj.2 ⟨fun e => ?_, fun e => ?_⟩
 ·have hp : (Loc.mk next room l).get = (⟨-1, room, l⟩, next) := by unfold Loc.get; dsimp only; rw [if_pos e]
  rw [hp] at k
  repeat (first|(refine ae h ?_;clear h;intro kb M h)|(refine au h ?_;clear h;intro M h)|refine St.to h ?_|(apply Exists.intro;(repeat apply Exists.intro);refine And.intro rfl ?_)|refine av ?_|refine ai ?_|refine aj ?_)
  exact k true _ (fun _ h2 => absurd h2 e) (fun _ => rfl) ((cI h b).sub bu)
 ·repeat (first|(refine ae h ?_;clear h;intro kb M h)|(refine au h ?_;clear h;intro M h)|refine St.to h ?_|(apply Exists.intro;(repeat apply Exists.intro);refine And.intro rfl ?_)|refine av ?_|refine ai ?_|refine aj ?_)
  refine GZ h (fun e2 M' h' => ?_) fun v l2 e2 M' h' => ?_
  ·dsimp only at e2
   subst e2
   have hp : (Loc.mk next room []).get = (⟨next, room, []⟩, -1) := by unfold Loc.get; dsimp only; rw [if_neg (by simpa using e)]
   rw [hp] at k
   repeat (first|(refine ae h ?_;clear h;intro kb M h)|(refine au h ?_;clear h;intro M h)|refine St.to h ?_|(apply Exists.intro;(repeat apply Exists.intro);refine And.intro rfl ?_)|refine av ?_|refine ai ?_|refine aj ?_)
   exact k false _ (fun _ _ _ => rfl) (fun hx => by rcases hx with hx | hx; exact absurd e hx; exact absurd rfl hx) ((cI h' b).sub bu)
  ·dsimp only at e2
   subst e2
   have hp : (Loc.mk next room (v :: l2)).get = (⟨next, room, l2⟩, v) := by unfold Loc.get; dsimp only; rw [if_neg (by simpa using e)]
   rw [hp] at k
   repeat (first|(refine ae h ?_;clear h;intro kb M h)|(refine au h ?_;clear h;intro M h)|refine St.to h ?_|(apply Exists.intro;(repeat apply Exists.intro);refine And.intro rfl ?_)|refine av ?_|refine ai ?_|refine aj ?_)
   exact k true _ (fun _ _ hx => by simp at hx) (fun _ => rfl) ((cI h' b).sub bu)
end
section
variable {R : Mem} {L L' nY : List HP} {M : Mem} {K : Value → Mem → Prop} {Kp : List PanicEntry → Mem → Prop} {b gb go b' : Nat} {P : Option Addr → Nat → Nat → HP} {x f : Loc} {g : List Int}
theorem YH {b b' T T' : Nat} {cs cs' : List Value} (h : Hp R (pt b cs T :: L) M) [p : jV b' L cs' T' L'] : b ≠ b' := by
 rintro rfl
 have h2 : Hp R (pt b cs T :: pt b cs' T' :: L') M := h.map fun _ hs => hs.tail fun _ => cq.pick p.pick
 obtain ⟨B, rfl, h1, X, Y, rfl, h2, hp, X2, Y2, rfl, h3, RU, hs⟩ := h2
 unfold AF.pt at hp RU
 rcases h2 b with h | h
 ·rw [hp] at h; cases h
 ·rw [Mem.union_left RU] at h; cases h
theorem YI {a : Addr} {b : Nat} {G : Bool → Prop} (hne : a.block ≠ b) (h1 : lO M a.block) (h2 : lO M b) (g : G false) : ptrEq M (some a) (some ⟨b, 0, none⟩) G :=
 ⟨fun e => absurd (by rw [e]) hne, fun _ => ⟨.inr ⟨h1, h2⟩, g⟩⟩
theorem G5 {b T : Nat} {cs : List Value} (h : Hp R L M) [p : jV b L cs T L'] : lO M b := ⟨_, _, (h.pick p.pick).yB⟩
theorem G6 (D : To gb go P) {p : Int} (h : Hp R L M) [o : b6 bO b L x L'] [og : tQ P L' g nY] (hs : g.length ≤ 100000000) (hp9 : p < 9223372036854775808)
  (k : ∀ t M', ((x.fH g p).2.2 = -1 → g = [] → t = false) → (g ≠ [] → t = true) → Hp R (ay bO b (x.fH g p).1 :: gI P (x.fH g p).2.1 :: nY) M' → K (.tuple #[.int .i64 (x.fH g p).2.2, .bool t]) M') :
  aa Tryz.prog 180 #[.pointer (some ⟨b, 0, none⟩), .pointer (some ⟨gb, go, none⟩), .int .i64 p] M K Kp := by
 have bd := xX h (b := b)
 obtain ⟨bd1, bd2, bd3⟩ := bd
 replace h := EU (P := P) h (b := b)
 refine qK ?_
 have h' := iy h (b := b)
 clear h
 obtain ⟨rb, h⟩ := h'
 repeat (first|(refine ae h ?_;clear h;intro kb M h)|(refine au h ?_;clear h;intro M h)|refine St.to h ?_|(apply Exists.intro;(repeat apply Exists.intro);refine And.intro rfl ?_)|refine av ?_|refine ai ?_|refine aj ?_)
 refine JR D h ?_
 repeat (first|(refine ae h ?_;clear h;intro kb M h)|(refine au h ?_;clear h;intro M h)|refine St.to h ?_|(apply Exists.intro;(repeat apply Exists.intro);refine And.intro rfl ?_)|refine av ?_|refine ai ?_|refine aj ?_)
 refine Dw h ?_
 repeat (first|(refine ae h ?_;clear h;intro kb M h)|(refine au h ?_;clear h;intro M h)|refine St.to h ?_|(apply Exists.intro;(repeat apply Exists.intro);refine And.intro rfl ?_)|refine av ?_|refine ai ?_|refine aj ?_)
 refine wK h ?_
 repeat (first|(refine ae h ?_;clear h;intro kb M h)|(refine au h ?_;clear h;intro M h)|refine St.to h ?_|(apply Exists.intro;(repeat apply Exists.intro);refine And.intro rfl ?_)|refine av ?_|refine ai ?_|refine aj ?_)
 dsimp only at *
 have hn0 : 1 ≤ x.dX g p := by unfold Loc.dX; generalize g.length / p.toNat = q; split <;> omega
 have Tq : x.l.length + (x.dX g p - 1) ≤ x.room := by unfold Loc.dX; generalize g.length / p.toNat = q; split <;> omega
 have key : ∀ n : Int, n.toNat = x.dX g p → ∀ {Q : Prop}, Q → Q := fun _ _ _ q => q
 refine aJ.2 ⟨fun Ie => ?_, fun Ie => ?_⟩
 ·have hn : (1 : Int).toNat = x.dX g p := by unfold Loc.dX; rw [if_pos Ie]; rfl
  refine qW D h (by omega) ?_
  clear h
  intro A c M h
  rw [hn] at h ⊢
  repeat (first|(refine ae h ?_;clear h;intro kb M h)|(refine au h ?_;clear h;intro M h)|refine St.to h ?_|(apply Exists.intro;(repeat apply Exists.intro);refine And.intro rfl ?_)|refine av ?_|refine ai ?_|refine aj ?_)
  cases hg : g.take (x.dX g p) with
  | nil =>
   have YJ : g = [] := by
    have := congrArg List.length hg
    rw [List.length_take, List.length_nil] at this
    exact List.length_eq_zero_iff.1 (by omega)
   have hp : x.fH g p = (x, g, -1) := by unfold Loc.fH; rw [hg]
   rw [hp] at k
   refine xu rfl ?_
   have e3 : g.drop (x.dX g p) = g := by rw [YJ]; simp
   rw [e3] at h
   exact k false _ (fun _ _ => rfl) (fun h1 => absurd YJ h1) ((cI h b).sub bu)
  | cons v out =>
   have hp : x.fH g p = ({ x with l := x.l ++ out }, g.drop (x.dX g p), v) := by unfold Loc.fH; rw [hg]
   rw [hp] at k
   have UE : out.length + 1 ≤ x.dX g p := by
    have := congrArg List.length hg
    rw [List.length_take, List.length_cons] at this
    omega
   refine Aw (by simp; omega) ?_
   rw [hg] at h
   generalize g.drop (x.dX g p) = g2 at *
   have hgn : g ≠ [] := by rintro rfl; simp at hg
   obtain ⟨A0, Vd⟩ : ∃ A0, A0 = kP A 1 c 1 := ⟨_, rfl⟩
   have hcap := h.kH A
   rw [List.length_cons] at hcap
   simp only [Int.toNat_natCast, List.length_cons]
   repeat (first|(refine ae h ?_;clear h;intro kb M h)|(refine au h ?_;clear h;intro M h)|refine St.to h ?_|(apply Exists.intro;(repeat apply Exists.intro);refine And.intro rfl ?_)|refine av ?_|refine ai ?_|refine aj ?_)
   refine ⟨fun d ws M => ∃ i : Nat, ws = [.int .i64 (i : Int)] ∧ d = out.length - i ∧ i ≤ out.length ∧
    Hp R (bE aZ 3 A c (v :: out) :: pt b [.int .i64 x.next, .pointer (some ⟨rb, 0, none⟩)] 237 :: ay eZ rb ⟨x.room, x.l ++ out.take i⟩ :: gI P g2 :: nY) M,
    ⟨_, 0, rfl, rfl, by omega, by rw [List.take_zero, List.append_nil]; exact h.sub bu⟩, ?_⟩
   clear h
   rintro d _ ii M ⟨i, he, hd, hi, h⟩
   simp only [List.cons.injEq, Value.int.injEq, and_true, true_and] at he
   subst he
   refine aJ.2 ⟨fun hlt => ?_, fun hge => ?_⟩
   ·obtain ⟨w, hw⟩ := aM (l := out) (i := i) (by omega)
    have s0 := Src.Tj (h.src (A := A)) (by rw [List.length_cons]; exact hcap) 1
    rw [← Vd] at s0 ⊢
    rw [show (v :: out).drop 1 = out from rfl] at s0
    obtain ⟨b0, o0, rfl⟩ := s0.gD h (by omega) (by decide)
    repeat (first|(refine ae h ?_;clear h;intro kb M h)|(refine au h ?_;clear h;intro M h)|refine St.to h ?_|(apply Exists.intro;(repeat apply Exists.intro);refine And.intro rfl ?_)|refine av ?_|refine ai ?_|refine aj ?_)
    simp only [Int.toNat_natCast]
    refine aR (s0.at h (i := i) (j := 0) hw rfl (by simp [aZ])) ?_
    repeat (first|(refine ae h ?_;clear h;intro kb M h)|(refine au h ?_;clear h;intro M h)|refine St.to h ?_|(apply Exists.intro;(repeat apply Exists.intro);refine And.intro rfl ?_)|refine av ?_|refine ai ?_|refine aj ?_)
    refine sj (v := w) h (fun e M' h' => ?_) fun e M' h' => ?_
    ·exfalso
     simp only [List.length_append, List.length_take] at e
     omega
    ·clear h
     have h := h'
     clear h'
     repeat (first|(refine ae h ?_;clear h;intro kb M h)|(refine au h ?_;clear h;intro M h)|refine St.to h ?_|(apply Exists.intro;(repeat apply Exists.intro);refine And.intro rfl ?_)|refine av ?_|refine ai ?_|refine aj ?_)
     rw [aQ (by omega)]
     refine ⟨out.length - (i + 1), by omega, i + 1, rfl, rfl, by omega, ?_⟩
     rw [bx hw, ← List.append_assoc]
     exact h.sub bu
   ·obtain rfl : i = out.length := by omega
    rw [List.take_length] at h
    have s0 := h.src (A := A)
    obtain ⟨b0, rfl⟩ := h.bF (A := A) (by simp) (by decide)
    repeat (first|(refine ae h ?_;clear h;intro kb M h)|(refine au h ?_;clear h;intro M h)|refine St.to h ?_|(apply Exists.intro;(repeat apply Exists.intro);refine And.intro rfl ?_)|refine av ?_|refine ai ?_|refine aj ?_)
    refine aR (s0.at h (i := 0) (j := 0) rfl rfl (by simp [aZ])) ?_
    repeat (first|(refine ae h ?_;clear h;intro kb M h)|(refine au h ?_;clear h;intro M h)|refine St.to h ?_|(apply Exists.intro;(repeat apply Exists.intro);refine And.intro rfl ?_)|refine av ?_|refine ai ?_|refine aj ?_)
    exact k true _ (fun _ h1 => absurd h1 hgn) (fun _ => rfl) ((cI h b).sub bu)
 ·have hn : (if IntKind.wrap .i64 (IntKind.wrap .i64 ((x.room : Int) - (x.l.length : Int)) + 1) < IntKind.wrap .i64 (IntKind.wrap .i64 (Int.tdiv (g.length : Int) (if (1 : Int) > p then 1 else p)) + 1) then IntKind.wrap .i64 (IntKind.wrap .i64 ((x.room : Int) - (x.l.length : Int)) + 1) else IntKind.wrap .i64 (IntKind.wrap .i64 (Int.tdiv (g.length : Int) (if (1 : Int) > p then 1 else p)) + 1)).toNat = x.dX g p := by
   obtain ⟨q, rfl⟩ := Int.eq_ofNat_of_zero_le (show 0 ≤ p by omega)
   have e1 : (if (1 : Int) > (q : Int) then 1 else (q : Int)) = (q : Int) := by split <;> omega
   rw [e1]
   have hd : g.length / q ≤ g.length := Nat.div_le_self ..
   have e2 : IntKind.wrap .i64 (Int.tdiv (g.length : Int) (q : Int)) = ((g.length / q : Nat) : Int) := wn rfl (by omega)
   rw [e2, aQ (by omega), ou (n := (x.room : Int) - (x.l.length : Int)) (by omega) (by omega), ou (n := (x.room : Int) - (x.l.length : Int) + 1) (by omega) (by omega)]
   unfold Loc.dX
   rw [if_neg Ie, Int.toNat_natCast]
   generalize g.length / q = z at *
   split <;> omega
  revert hn
  generalize (if IntKind.wrap .i64 (IntKind.wrap .i64 ((x.room : Int) - (x.l.length : Int)) + 1) < IntKind.wrap .i64 (IntKind.wrap .i64 (Int.tdiv (g.length : Int) (if (1 : Int) > p then 1 else p)) + 1) then IntKind.wrap .i64 (IntKind.wrap .i64 ((x.room : Int) - (x.l.length : Int)) + 1) else IntKind.wrap .i64 (IntKind.wrap .i64 (Int.tdiv (g.length : Int) (if (1 : Int) > p then 1 else p)) + 1)) = n
  intro hn
  refine qW D h (by omega) ?_
  clear h
  intro A c M h
  rw [hn] at h ⊢
  repeat (first|(refine ae h ?_;clear h;intro kb M h)|(refine au h ?_;clear h;intro M h)|refine St.to h ?_|(apply Exists.intro;(repeat apply Exists.intro);refine And.intro rfl ?_)|refine av ?_|refine ai ?_|refine aj ?_)
  cases hg : g.take (x.dX g p) with
  | nil =>
   have YJ : g = [] := by
    have := congrArg List.length hg
    rw [List.length_take, List.length_nil] at this
    exact List.length_eq_zero_iff.1 (by omega)
   have hp : x.fH g p = (x, g, -1) := by unfold Loc.fH; rw [hg]
   rw [hp] at k
   refine xu rfl ?_
   have e3 : g.drop (x.dX g p) = g := by rw [YJ]; simp
   rw [e3] at h
   exact k false _ (fun _ _ => rfl) (fun h1 => absurd YJ h1) ((cI h b).sub bu)
  | cons v out =>
   have hp : x.fH g p = ({ x with l := x.l ++ out }, g.drop (x.dX g p), v) := by unfold Loc.fH; rw [hg]
   rw [hp] at k
   have UE : out.length + 1 ≤ x.dX g p := by
    have := congrArg List.length hg
    rw [List.length_take, List.length_cons] at this
    omega
   refine Aw (by simp; omega) ?_
   rw [hg] at h
   generalize g.drop (x.dX g p) = g2 at *
   have hgn : g ≠ [] := by rintro rfl; simp at hg
   obtain ⟨A0, Vd⟩ : ∃ A0, A0 = kP A 1 c 1 := ⟨_, rfl⟩
   have hcap := h.kH A
   rw [List.length_cons] at hcap
   simp only [Int.toNat_natCast, List.length_cons]
   repeat (first|(refine ae h ?_;clear h;intro kb M h)|(refine au h ?_;clear h;intro M h)|refine St.to h ?_|(apply Exists.intro;(repeat apply Exists.intro);refine And.intro rfl ?_)|refine av ?_|refine ai ?_|refine aj ?_)
   refine ⟨fun d ws M => ∃ i : Nat, ws = [.int .i64 (i : Int)] ∧ d = out.length - i ∧ i ≤ out.length ∧
    Hp R (bE aZ 3 A c (v :: out) :: pt b [.int .i64 x.next, .pointer (some ⟨rb, 0, none⟩)] 237 :: ay eZ rb ⟨x.room, x.l ++ out.take i⟩ :: gI P g2 :: nY) M,
    ⟨_, 0, rfl, rfl, by omega, by rw [List.take_zero, List.append_nil]; exact h.sub bu⟩, ?_⟩
   clear h
   rintro d _ ii M ⟨i, he, hd, hi, h⟩
   simp only [List.cons.injEq, Value.int.injEq, and_true, true_and] at he
   subst he
   refine aJ.2 ⟨fun hlt => ?_, fun hge => ?_⟩
   ·obtain ⟨w, hw⟩ := aM (l := out) (i := i) (by omega)
    have s0 := Src.Tj (h.src (A := A)) (by rw [List.length_cons]; exact hcap) 1
    rw [← Vd] at s0 ⊢
    rw [show (v :: out).drop 1 = out from rfl] at s0
    obtain ⟨b0, o0, rfl⟩ := s0.gD h (by omega) (by decide)
    repeat (first|(refine ae h ?_;clear h;intro kb M h)|(refine au h ?_;clear h;intro M h)|refine St.to h ?_|(apply Exists.intro;(repeat apply Exists.intro);refine And.intro rfl ?_)|refine av ?_|refine ai ?_|refine aj ?_)
    simp only [Int.toNat_natCast]
    refine aR (s0.at h (i := i) (j := 0) hw rfl (by simp [aZ])) ?_
    repeat (first|(refine ae h ?_;clear h;intro kb M h)|(refine au h ?_;clear h;intro M h)|refine St.to h ?_|(apply Exists.intro;(repeat apply Exists.intro);refine And.intro rfl ?_)|refine av ?_|refine ai ?_|refine aj ?_)
    refine sj (v := w) h (fun e M' h' => ?_) fun e M' h' => ?_
    ·exfalso
     simp only [List.length_append, List.length_take] at e
     omega
    ·clear h
     have h := h'
     clear h'
     repeat (first|(refine ae h ?_;clear h;intro kb M h)|(refine au h ?_;clear h;intro M h)|refine St.to h ?_|(apply Exists.intro;(repeat apply Exists.intro);refine And.intro rfl ?_)|refine av ?_|refine ai ?_|refine aj ?_)
     rw [aQ (by omega)]
     refine ⟨out.length - (i + 1), by omega, i + 1, rfl, rfl, by omega, ?_⟩
     rw [bx hw, ← List.append_assoc]
     exact h.sub bu
   ·obtain rfl : i = out.length := by omega
    rw [List.take_length] at h
    have s0 := h.src (A := A)
    obtain ⟨b0, rfl⟩ := h.bF (A := A) (by simp) (by decide)
    repeat (first|(refine ae h ?_;clear h;intro kb M h)|(refine au h ?_;clear h;intro M h)|refine St.to h ?_|(apply Exists.intro;(repeat apply Exists.intro);refine And.intro rfl ?_)|refine av ?_|refine ai ?_|refine aj ?_)
    refine aR (s0.at h (i := 0) (j := 0) rfl rfl (by simp [aZ])) ?_
    repeat (first|(refine ae h ?_;clear h;intro kb M h)|(refine au h ?_;clear h;intro M h)|refine St.to h ?_|(apply Exists.intro;(repeat apply Exists.intro);refine And.intro rfl ?_)|refine av ?_|refine ai ?_|refine aj ?_)
    exact k true _ (fun _ h1 => absurd h1 hgn) (fun _ => rfl) ((cI h b).sub bu)
theorem G7 (h : Hp R L M) [o : b6 bO b L x L'] [of : b6 bO b' L' f nY]
  (k : ∀ t M', ((x.eB f).2.2 = -1 → f.l = [] → t = false) → ((x.eB f).2.2 ≠ -1 ∨ f.l ≠ [] → t = true) → Hp R (ay bO b (x.eB f).1 :: ay bO b' (x.eB f).2.1 :: nY) M' → K (.tuple #[.int .i64 (x.eB f).2.2, .bool t]) M') :
  aa Tryz.prog 151 #[.pointer (some ⟨b, 0, none⟩), .pointer (some ⟨b', 0, none⟩)] M K Kp := by
 have bd := xX h (b := b)
 obtain ⟨bd1, bd2, bd3⟩ := bd
 have h0 : Hp R (ay bO b x :: ay bO b' f :: nY) M := (h.pick o.pick).map fun _ hs => hs.tail (fun _ => cq.pick of.pick)
 clear h
 have h := h0
 clear h0
 have bdf := xX h (b := b')
 obtain ⟨bf1, bf2, bf3⟩ := bdf
 refine j9 ?_
 have h' := iy h (b := b)
 clear h
 obtain ⟨rb, h⟩ := h'
 have h' := iy h (b := b')
 clear h
 obtain ⟨rf, h⟩ := h'
 have hne : b' ≠ b := YH h
 refine YI (Ne.symm hne) (G5 h (b := b)) (G5 h (b := b')) ?_
 repeat (first|(refine ae h ?_;clear h;intro kb M h)|(refine au h ?_;clear h;intro M h)|refine St.to h ?_|(apply Exists.intro;(repeat apply Exists.intro);refine And.intro rfl ?_)|refine av ?_|refine ai ?_|refine aj ?_)
 refine wK h ?_
 repeat (first|(refine ae h ?_;clear h;intro kb M h)|(refine au h ?_;clear h;intro M h)|refine St.to h ?_|(apply Exists.intro;(repeat apply Exists.intro);refine And.intro rfl ?_)|refine av ?_|refine ai ?_|refine aj ?_)
 dsimp only at *
 refine bh.2 ⟨fun e => ?_, fun e => ?_⟩
 ·have hl : f.l = [] := List.length_eq_zero_iff.1 (by omega)
  have hp : x.eB f = (x, { f with next := -1 }, f.next) := by unfold Loc.eB; rw [hl, List.take_nil]
  rw [hp] at k
  repeat (first|(refine ae h ?_;clear h;intro kb M h)|(refine au h ?_;clear h;intro M h)|refine St.to h ?_|(apply Exists.intro;(repeat apply Exists.intro);refine And.intro rfl ?_)|refine av ?_|refine ai ?_|refine aj ?_)
  have h2 := cI (cI h b) b'
  exact k _ _ (fun h1 _ => by dsimp only at h1; rw [h1]; rfl) (fun h1 => by rcases h1 with h1 | h1; exact bne_iff_ne.2 h1; exact absurd hl h1) (h2.sub bu)
 ·have hn0 : 1 ≤ x.ie f := by unfold Loc.ie; omega
  have Tq : x.l.length + (x.ie f - 1) ≤ x.room := by unfold Loc.ie; omega
  repeat (first|(refine ae h ?_;clear h;intro kb M h)|(refine au h ?_;clear h;intro M h)|refine St.to h ?_|(apply Exists.intro;(repeat apply Exists.intro);refine And.intro rfl ?_)|refine av ?_|refine ai ?_|refine aj ?_)
  refine Dw h ?_
  repeat (first|(refine ae h ?_;clear h;intro kb M h)|(refine au h ?_;clear h;intro M h)|refine St.to h ?_|(apply Exists.intro;(repeat apply Exists.intro);refine And.intro rfl ?_)|refine av ?_|refine ai ?_|refine aj ?_)
  refine wK h ?_
  repeat (first|(refine ae h ?_;clear h;intro kb M h)|(refine au h ?_;clear h;intro M h)|refine St.to h ?_|(apply Exists.intro;(repeat apply Exists.intro);refine And.intro rfl ?_)|refine av ?_|refine ai ?_|refine aj ?_)
  dsimp only at *
  have hn : (if IntKind.wrap .i64 (IntKind.wrap .i64 ((x.room : Int) - (x.l.length : Int)) + 1) < IntKind.wrap .i64 ((f.l.length : Int) - IntKind.wrap .i64 (Int.tdiv (f.l.length : Int) 2)) then IntKind.wrap .i64 (IntKind.wrap .i64 ((x.room : Int) - (x.l.length : Int)) + 1) else IntKind.wrap .i64 ((f.l.length : Int) - IntKind.wrap .i64 (Int.tdiv (f.l.length : Int) 2))).toNat = x.ie f := by
   have e2 : IntKind.wrap .i64 (Int.tdiv (f.l.length : Int) 2) = ((f.l.length / 2 : Nat) : Int) := wn rfl (by omega)
   rw [e2, ou (n := (x.room : Int) - (x.l.length : Int)) (by omega) (by omega), ou (n := (x.room : Int) - (x.l.length : Int) + 1) (by omega) (by omega), ou (n := (f.l.length : Int) - ((f.l.length / 2 : Nat) : Int)) (by omega) (by omega)]
   unfold Loc.ie
   split <;> omega
  revert hn
  generalize (if IntKind.wrap .i64 (IntKind.wrap .i64 ((x.room : Int) - (x.l.length : Int)) + 1) < IntKind.wrap .i64 ((f.l.length : Int) - IntKind.wrap .i64 (Int.tdiv (f.l.length : Int) 2)) then IntKind.wrap .i64 (IntKind.wrap .i64 ((x.room : Int) - (x.l.length : Int)) + 1) else IntKind.wrap .i64 ((f.l.length : Int) - IntKind.wrap .i64 (Int.tdiv (f.l.length : Int) 2))) = n
  intro hn
  refine Dx h ?_
  clear h
  intro A c M h
  rw [hn] at h ⊢
  repeat (first|(refine ae h ?_;clear h;intro kb M h)|(refine au h ?_;clear h;intro M h)|refine St.to h ?_|(apply Exists.intro;(repeat apply Exists.intro);refine And.intro rfl ?_)|refine av ?_|refine ai ?_|refine aj ?_)
  cases hg : f.l.take (x.ie f) with
  | nil =>
   exfalso
   have := congrArg List.length hg
   rw [List.length_take, List.length_nil] at this
   omega
  | cons v out =>
   have hp : x.eB f = ({ x with l := x.l ++ out }, { f with l := f.l.drop (x.ie f) }, v) := by unfold Loc.eB; rw [hg]
   rw [hp] at k
   have UE : out.length + 1 ≤ x.ie f := by
    have := congrArg List.length hg
    rw [List.length_take, List.length_cons] at this
    omega
   dsimp only at h
   rw [hg] at h
   generalize f.l.drop (x.ie f) = f2 at *
   have hgn : f.l ≠ [] := by intro e0; rw [e0] at hg; simp at hg
   obtain ⟨A0, Vd⟩ : ∃ A0, A0 = kP A 1 c 1 := ⟨_, rfl⟩
   have hcap := h.kH A
   rw [List.length_cons] at hcap
   simp only [Int.toNat_natCast, List.length_cons]
   repeat (first|(refine ae h ?_;clear h;intro kb M h)|(refine au h ?_;clear h;intro M h)|refine St.to h ?_|(apply Exists.intro;(repeat apply Exists.intro);refine And.intro rfl ?_)|refine av ?_|refine ai ?_|refine aj ?_)
   refine ⟨fun d ws M => ∃ i : Nat, ws = [.int .i64 (i : Int)] ∧ d = out.length - i ∧ i ≤ out.length ∧
    Hp R (bE aZ 3 A c (v :: out) :: pt b [.int .i64 x.next, .pointer (some ⟨rb, 0, none⟩)] 237 :: ay eZ rb ⟨x.room, x.l ++ out.take i⟩ :: ay eZ rf ⟨f.room, f2⟩ :: pt b' [.int .i64 f.next, .pointer (some ⟨rf, 0, none⟩)] 237 :: nY) M,
    ⟨_, 0, rfl, rfl, by omega, by rw [List.take_zero, List.append_nil]; exact h.sub bu⟩, ?_⟩
   clear h
   rintro d _ ii M ⟨i, he, hd, hi, h⟩
   simp only [List.cons.injEq, Value.int.injEq, and_true, true_and] at he
   subst he
   refine aJ.2 ⟨fun hlt => ?_, fun hge => ?_⟩
   ·obtain ⟨w, hw⟩ := aM (l := out) (i := i) (by omega)
    have s0 := Src.Tj (h.src (A := A)) (by rw [List.length_cons]; exact hcap) 1
    rw [← Vd] at s0 ⊢
    rw [show (v :: out).drop 1 = out from rfl] at s0
    obtain ⟨b0, o0, rfl⟩ := s0.gD h (by omega) (by decide)
    repeat (first|(refine ae h ?_;clear h;intro kb M h)|(refine au h ?_;clear h;intro M h)|refine St.to h ?_|(apply Exists.intro;(repeat apply Exists.intro);refine And.intro rfl ?_)|refine av ?_|refine ai ?_|refine aj ?_)
    simp only [Int.toNat_natCast]
    refine aR (s0.at h (i := i) (j := 0) hw rfl (by simp [aZ])) ?_
    repeat (first|(refine ae h ?_;clear h;intro kb M h)|(refine au h ?_;clear h;intro M h)|refine St.to h ?_|(apply Exists.intro;(repeat apply Exists.intro);refine And.intro rfl ?_)|refine av ?_|refine ai ?_|refine aj ?_)
    refine sj (v := w) h (fun e M' h' => ?_) fun e M' h' => ?_
    ·exfalso
     simp only [List.length_append, List.length_take] at e
     omega
    ·clear h
     have h := h'
     clear h'
     repeat (first|(refine ae h ?_;clear h;intro kb M h)|(refine au h ?_;clear h;intro M h)|refine St.to h ?_|(apply Exists.intro;(repeat apply Exists.intro);refine And.intro rfl ?_)|refine av ?_|refine ai ?_|refine aj ?_)
     rw [aQ (by omega)]
     refine ⟨out.length - (i + 1), by omega, i + 1, rfl, rfl, by omega, ?_⟩
     rw [bx hw, ← List.append_assoc]
     exact h.sub bu
   ·obtain rfl : i = out.length := by omega
    rw [List.take_length] at h
    have s0 := h.src (A := A)
    obtain ⟨b0, rfl⟩ := h.bF (A := A) (by simp) (by decide)
    repeat (first|(refine ae h ?_;clear h;intro kb M h)|(refine au h ?_;clear h;intro M h)|refine St.to h ?_|(apply Exists.intro;(repeat apply Exists.intro);refine And.intro rfl ?_)|refine av ?_|refine ai ?_|refine aj ?_)
    refine aR (s0.at h (i := 0) (j := 0) rfl rfl (by simp [aZ])) ?_
    repeat (first|(refine ae h ?_;clear h;intro kb M h)|(refine au h ?_;clear h;intro M h)|refine St.to h ?_|(apply Exists.intro;(repeat apply Exists.intro);refine And.intro rfl ?_)|refine av ?_|refine ai ?_|refine aj ?_)
    have h2 := cI (cI h b) b'
    exact k true _ (fun _ h1 => absurd h1 hgn) (fun _ => rfl) (h2.sub bu)
end
end Go.Proofs
namespace Go.Proofs
def Loc.all (x : Loc) : List Int := (if x.next = -1 then [] else [x.next]) ++ x.l
def kN (v : Int) : List Int := if 0 ≤ v then [v] else []
theorem Tr {xs : List Loc} {i : Nat} {x y : Loc} (a : Int) (h : xs[i]? = some x) : ((xs.set i y).flatMap Loc.all).count a + x.all.count a = (xs.flatMap Loc.all).count a + y.all.count a := by
 induction xs generalizing i with
 | nil => simp at h
 | cons z xs ih =>
  cases i with
  | zero => simp only [List.getElem?_cons_zero, Option.some.injEq] at h; subst h; simp only [List.set_cons_zero, List.flatMap_cons, List.count_append]; omega
  | succ i => have := ih (i := i) (by simpa using h); simp only [List.set_cons_succ, List.flatMap_cons, List.count_append]; omega
theorem JT (a : Int) (l : List Int) (n : Nat) : (l.take n).count a + (l.drop n).count a = l.count a := by rw [← List.count_append, List.take_append_drop]
theorem Le (x : Loc) (v : Int) (g : List Int) (a : Int) : (x.put v g).1.all.count a + (x.put v g).2.1.count a = x.all.count a + g.count a + [v].count a := by
 unfold Loc.put Loc.all
 have := JT a x.l (x.l.length / 2)
 split <;> simp only [List.count_append] <;> omega
theorem Qy (x : Loc) (v : Int) (hv : v ≠ -1) (a : Int) : (({ x with next := v } : Loc).all).count a + (if x.next = -1 then ([] : List Int) else [x.next]).count a = x.all.count a + [v].count a := by
 unfold Loc.all
 simp only [List.count_append, if_neg hv]; omega
theorem EV (x : Loc) (a : Int) : (({ x with next := -1 } : Loc).all).count a + (if x.next = -1 then ([] : List Int) else [x.next]).count a = x.all.count a := by
 unfold Loc.all
 simp only [List.count_append, if_true, List.count_nil]; omega
theorem Ni (x : Loc) (v : Int) (hv : v ≠ -1) (g : List Int) (a : Int) : (x.ready v g).1.all.count a + (x.ready v g).2.1.count a = x.all.count a + g.count a + [v].count a := by
 have h1 := Qy x v hv a
 unfold Loc.ready
 split
 ·rename_i h; rw [if_pos h] at h1; simp only [List.count_nil] at h1; dsimp only; omega
 ·rename_i h; rw [if_neg h] at h1; rw [Le]; omega
theorem Qz (x : Loc) (g : List Int) (a : Int) : (x.hH g).1.all.count a + (x.hH g).2.1.count a = x.all.count a + g.count a := by
 have h1 := EV x a
 unfold Loc.hH
 split
 ·rfl
 ·rename_i h; rw [if_neg h] at h1; rw [Le]; omega
def Loc.Pos (x : Loc) : Prop := -1 ≤ x.next ∧ ∀ v ∈ x.l, 0 ≤ v
theorem jl {v : Int} (h : 0 ≤ v) : kN v = [v] := if_pos h
theorem Lf (x : Loc) (hx : x.Pos) (a : Int) : x.get.1.all.count a + (kN x.get.2).count a = x.all.count a := by
 obtain ⟨h1, h2⟩ := hx
 have h3 := EV x a
 unfold Loc.get
 split
 ·rename_i h; rw [if_neg h] at h3; rw [jl (show 0 ≤ x.next by omega)]; omega
 ·rename_i h
  split
  ·rfl
  ·rename_i v l e
   rw [jl (h2 v (by rw [e]; simp))]
   unfold Loc.all
   rw [e]
   simp only [List.count_append, List.count_cons, List.count_nil]; omega
theorem Nj (x : Loc) (g : List Int) (hg : ∀ v ∈ g, 0 ≤ v) (p : Int) (a : Int) : (x.fH g p).1.all.count a + (x.fH g p).2.1.count a + (kN (x.fH g p).2.2).count a = x.all.count a + g.count a := by
 have h1 := JT a g (x.dX g p)
 unfold Loc.fH
 split
 ·rfl
 ·rename_i v out e
  rw [e] at h1
  rw [jl (hg v (List.mem_of_mem_take (by rw [e]; simp)))]
  unfold Loc.all
  simp only [List.count_append, List.count_cons, List.count_nil] at h1 ⊢; omega
theorem Nk (x f : Loc) (hf : f.Pos) (hx : x.l.length ≤ x.room) (a : Int) : (x.eB f).1.all.count a + (x.eB f).2.1.all.count a + (kN (x.eB f).2.2).count a = x.all.count a + f.all.count a := by
 obtain ⟨h1, h2⟩ := hf
 have h3 := JT a f.l (x.ie f)
 have h4 := EV f a
 unfold Loc.eB
 split
 ·rename_i e
  by_cases hn : f.next = -1
  ·have : kN f.next = [] := by unfold kN; rw [if_neg (by omega)]
   dsimp only
   rw [this]; rw [if_pos hn] at h4; simp only [List.count_nil] at h4 ⊢; omega
  ·dsimp only; rw [jl (by omega)]; rw [if_neg hn] at h4; omega
 ·rename_i v out e
  rw [e] at h3
  rw [jl (h2 v (List.mem_of_mem_take (by rw [e]; simp)))]
  unfold Loc.all
  simp only [List.count_append, List.count_cons, List.count_nil] at h3 ⊢; omega
theorem Lg {x : Loc} (hx : x.Pos) : (x.next = -1 ∧ x.l = [] ∧ x.get.2 = -1) ∨ ((x.next ≠ -1 ∨ x.l ≠ []) ∧ 0 ≤ x.get.2) := by
 obtain ⟨h1, h2⟩ := hx
 unfold Loc.get
 split
 ·rename_i h; exact .inr ⟨.inl h, by dsimp only; omega⟩
 ·rename_i h
  split
  ·rename_i e; exact .inl ⟨by omega, e, rfl⟩
  ·rename_i v l e; exact .inr ⟨.inr (by rw [e]; simp), h2 v (by rw [e]; simp)⟩
theorem JU (x : Loc) (g : List Int) (p : Int) : 1 ≤ x.dX g p := by unfold Loc.dX; generalize g.length / p.toNat = q; split <;> omega
theorem DB {x : Loc} {g : List Int} (hg : ∀ v ∈ g, 0 ≤ v) (p : Int) : (g = [] ∧ (x.fH g p).2.2 = -1) ∨ (g ≠ [] ∧ 0 ≤ (x.fH g p).2.2) := by
 have hn := JU x g p
 unfold Loc.fH
 split
 ·rename_i e
  have := congrArg List.length e
  rw [List.length_take, List.length_nil] at this
  exact .inl ⟨List.length_eq_zero_iff.1 (by omega), rfl⟩
 ·rename_i v out e
  exact .inr ⟨by rintro rfl; simp at e, hg v (List.mem_of_mem_take (by rw [e]; simp))⟩
theorem Nl {x f : Loc} (hf : f.Pos) (hx : x.l.length ≤ x.room) : (f.l = [] ∧ (x.eB f).2.2 = f.next) ∨ (f.l ≠ [] ∧ 0 ≤ (x.eB f).2.2) := by
 obtain ⟨h1, h2⟩ := hf
 unfold Loc.eB
 split
 ·rename_i e
  have := congrArg List.length e
  rw [List.length_take, List.length_nil] at this
  unfold Loc.ie at this
  exact .inl ⟨List.length_eq_zero_iff.1 (by omega), rfl⟩
 ·rename_i v out e
  exact .inr ⟨by intro h; rw [h] at e; simp at e, h2 v (List.mem_of_mem_take (by rw [e]; simp))⟩
def tR (n : Nat) : List Int := (List.range n).map Int.ofNat
theorem QA {x : Loc} (h : x.l.length ≤ x.room ∧ x.room ≤ 1024 ∧ 0 < x.room) (v : Int) (g : List Int) : (x.put v g).1.l.length ≤ (x.put v g).1.room ∧ (x.put v g).1.room ≤ 1024 ∧ 0 < (x.put v g).1.room := by
 unfold Loc.put; split
 ·dsimp only; simp only [List.length_append, List.length_singleton]; omega
 ·dsimp only; simp only [List.length_drop]; omega
theorem QB {x : Loc} (h : x.l.length ≤ x.room ∧ x.room ≤ 1024 ∧ 0 < x.room) (v : Int) (g : List Int) : (x.ready v g).1.l.length ≤ (x.ready v g).1.room ∧ (x.ready v g).1.room ≤ 1024 ∧ 0 < (x.ready v g).1.room := by
 unfold Loc.ready; split
 ·exact h
 ·exact QA (x := { x with next := v }) h _ _
theorem Ts {x : Loc} (h : x.l.length ≤ x.room ∧ x.room ≤ 1024 ∧ 0 < x.room) (g : List Int) : (x.hH g).1.l.length ≤ (x.hH g).1.room ∧ (x.hH g).1.room ≤ 1024 ∧ 0 < (x.hH g).1.room := by
 unfold Loc.hH; split
 ·exact h
 ·exact QA (x := { x with next := -1 }) h _ _
theorem QC {x : Loc} (h : x.l.length ≤ x.room ∧ x.room ≤ 1024 ∧ 0 < x.room) : x.get.1.l.length ≤ x.get.1.room ∧ x.get.1.room ≤ 1024 ∧ 0 < x.get.1.room := by
 unfold Loc.get; split
 ·exact h
 ·split
  ·exact h
  ·rename_i e; dsimp only; rw [e, List.length_cons] at h; omega
theorem QD {x : Loc} (h : x.l.length ≤ x.room ∧ x.room ≤ 1024 ∧ 0 < x.room) (g : List Int) (p : Int) : (x.fH g p).1.l.length ≤ (x.fH g p).1.room ∧ (x.fH g p).1.room ≤ 1024 ∧ 0 < (x.fH g p).1.room := by
 have Tq : x.l.length + (x.dX g p - 1) ≤ x.room := by unfold Loc.dX; generalize g.length / p.toNat = q; split <;> omega
 unfold Loc.fH; split
 ·exact h
 ·rename_i v out e
  have := congrArg List.length e
  rw [List.length_take, List.length_cons] at this
  dsimp only; simp only [List.length_append]; omega
theorem QE {x f : Loc} (h : x.l.length ≤ x.room ∧ x.room ≤ 1024 ∧ 0 < x.room) (hf : f.l.length ≤ f.room ∧ f.room ≤ 1024 ∧ 0 < f.room) :
  ((x.eB f).1.l.length ≤ (x.eB f).1.room ∧ (x.eB f).1.room ≤ 1024 ∧ 0 < (x.eB f).1.room) ∧ ((x.eB f).2.1.l.length ≤ (x.eB f).2.1.room ∧ (x.eB f).2.1.room ≤ 1024 ∧ 0 < (x.eB f).2.1.room) := by
 have Tq : x.l.length + (x.ie f - 1) ≤ x.room := by unfold Loc.ie; omega
 unfold Loc.eB; split
 ·exact ⟨h, hf⟩
 ·rename_i v out e
  have := congrArg List.length e
  rw [List.length_take, List.length_cons] at this
  dsimp only; simp only [List.length_append, List.length_drop]; omega
end Go.Proofs
namespace Go.Proofs
open Go.AF
set_option maxRecDepth 100000
set_option maxHeartbeats 1000000
attribute [local irreducible] aK dH fa cw az fk aE aP aX be bK aS
section
variable {R : Mem} {L L' nY : List HP} {M : Mem} {K : Value → Mem → Prop} {Kp : List PanicEntry → Mem → Prop} {x f : Loc} {g : List Int}
theorem DC {room : Int} (h : Hp R L M) (k : ∀ M', Hp R L M' → K (.agg #[.int .i64 (-1), .slice none 0 0, .int .i64 (fx room : Nat)]) M') : aa Tryz.prog 124 #[.int .i64 room] M K Kp := by
 refine tr ?_
 have e : (if (if (1024 : Int) < room then 1024 else room) > 1 then (if (1024 : Int) < room then 1024 else room) else 1) = ((fx room : Nat) : Int) := by unfold fx; split <;> split <;> omega
 rw [e]
 repeat (first|(refine ae h ?_;clear h;intro kb M h)|(refine au h ?_;clear h;intro M h)|refine St.to h ?_|(apply Exists.intro;(repeat apply Exists.intro);refine And.intro rfl ?_)|refine av ?_|refine ai ?_|refine aj ?_)
 exact k _ h.oy
end
end Go.Proofs
namespace Go.AF
def bytesOf (s : ByteArray) : List Int := s.data.toList.map fun b => (b.toNat : Int)
def fW (s : ByteArray) : List Value := s.data.toList.map fun b => .int .u8 b.toNat
theorem yR (s : ByteArray) : fW s = Fl.cells (bytesOf s) := by
 unfold fW bytesOf fO.cells
 rw [List.flatMap_map]
 show _ = s.data.toList.flatMap fun b => [Value.int .u8 (b.toNat : Int)]
 induction s.data.toList with
 | nil => rfl
 | cons a l ih => simp only [List.map_cons, List.flatMap_cons, ih]; rfl
theorem wL (s : ByteArray) : (fW s).length = s.size := by simp [fW]
theorem Bg (s : ByteArray) : ∀ v ∈ fW s, Value.plainCell v = true := fun v hv => by
 obtain ⟨b, _, rfl⟩ := List.mem_map.1 hv; rfl
theorem mL (s : ByteArray) : (bytesOf s).length = s.size := by simp [bytesOf]
def strOf (l : List Int) : ByteArray := ⟨(l.map fun n => UInt8.ofNat n.toNat).toArray⟩
theorem JV (l : List Int) : (strOf l).size = l.length := by simp [strOf, ByteArray.size]
theorem tY {l : List Int} (h : ∀ n ∈ l, 0 ≤ n ∧ n < 256) : bytesOf (strOf l) = l := by
 unfold bytesOf strOf
 simp only [List.map_map]
 conv => rhs; rw [← List.map_id l]
 refine List.map_congr_left fun n hn => ?_
 obtain ⟨h1, h2⟩ := h n hn
 obtain ⟨k, rfl⟩ := Int.eq_ofNat_of_zero_le h1
 simp only [Function.comp, Int.toNat_natCast, id]
 rw [UInt8.toNat_ofNat']
 have : k % 256 = k := Nat.mod_eq_of_lt (by omega)
 exact congrArg _ this
theorem Bh {P : Program} {t t' e ty : TypeId} {i : TypeInfo} {zv : Value} {A : Option Addr} {n c : Nat} {l : List Value} {s : ByteArray} {M : Mem} {K : Value → Mem → Prop} {Kp : List PanicEntry → Mem → Prop}
  (hu : P.underlying t = some (.slice e)) (RD : P.underlying t' = some .string) (hi : P.info? e = some i) (hz : i.zero = some zv) (hs : zv.cells.size = i.size)
  (ho : sC M i.size e A n c l) (hsz : i.size = 1) (hb : (n + s.size) * i.bytes ≤ 140737488355328) (hby : 0 < i.bytes)
  (h : ∀ A' c' M', sC M' i.size e A' (n + s.size) c' (l ++ fW s) → mT (yA A) M M' → KJ M A A' → K (.slice A' (n + s.size) c') M') :
  be P (Builtin.append_ #[t, t'] ty #[.slice A n c, .string s]) M K Kp := by
 have hr : ∀ M : Mem, bQ P (Builtin.firstCells i.size s.size (.string s)) M = some (fW s).toArray := fun M => by
  unfold Builtin.firstCells fW
  have e : s.extract 0 s.size = s := ByteArray.extract_zero_size
  simp only [e, bJ, Option.some.injEq]
  apply Array.ext'; simp
 have jv : (fW s).length = s.size * i.size := by rw [hsz, Nat.mul_one, wL]
 have hp : ∀ v ∈ fW s, Value.plainCell v = true := Bg s
 generalize hm : s.size = m at *
 generalize fW s = r at *
 unfold be Builtin.append_
 simp only [List.getElem?_toArray, List.getElem?_cons_zero, List.getElem?_cons_succ]
 refine aW (aH hu M) ?_
 simp only
 refine aW (fC hi M) ?_
 refine aW (aH RD M) ?_
 refine aW (x := false) rfl ?_
 refine aW (x := m) (by rw [← hm]; rfl) ?_
 simp only [Bool.not_false, if_true]
 obtain ⟨hl, hA⟩ := ho
 split
 ·rename_i hle
  refine aW (hr _) ?_
  rcases hA with ⟨rfl, rfl, rfl⟩ | ⟨b, cs, rfl, hM, hcs, hnc, hc⟩
  ·have hm : m = 0 := by omega
   subst hm
   have : r = [] := by simpa using jv
   subst this
   refine h none 0 M ⟨by simpa using hl, .inl ⟨rfl, rfl, rfl⟩⟩ (mT.refl _ _) (.inl rfl)
  ·have hroom : n * i.size + 0 + r.length ≤ cs.size := by
    rw [hcs, jv, Nat.add_zero, ← Nat.add_mul]; exact Nat.mul_le_mul_right _ hle
   refine eK P _ _ ?_
   rw [add_eq, Nat.zero_add]
   refine ql r (n * i.size) 0 M cs _ hM hroom hp fun cs' h1 h2 => ?_
   refine h (some ⟨b, 0, none⟩) c _ ⟨?_, .inr ⟨b, cs', rfl, dI, by rw [h1, hcs], hle, fun j hj => ?_⟩⟩ ((mT.refl _ _).set (.inl (by simp [yA]))) (.inl rfl)
   ·rw [List.length_append, hl, jv, Nat.add_mul]
   ·rw [h2 j]
    rw [Nat.add_mul] at hj
    by_cases KI : j < n * i.size
    ·rw [if_neg (by omega), hc j KI, List.getElem?_append_left (by omega)]
    ·rw [if_pos (by omega), List.getElem?_append_right (by omega), hl]; rfl
 ·rename_i hle
  refine aW (b7 hi M) ?_
  rw [if_neg (by simp; omega)]
  refine aW (b7 hi M) ?_
  rw [if_neg (by have := growslice_fits (need := n + m) (old := c) (bytes := i.bytes) (by omega) hb; omega)]
  show ∀ q, _
  intro q
  have hcap : n + m ≤ Question.cut (.appendCap (n + m) c e) q := by simp only [Question.cut]; omega
  generalize Question.cut (.appendCap (n + m) c e) q = nc at hcap
  refine aW (x := nc) rfl ?_
  refine aW (b7 hi M) ?_
  refine eK P _ _ ?_
  have room : ∀ (X : Prop) , X → ee P (askRoom (nc * i.bytes)) M (fun _ M' => M' = M) (fun _ _ => False) := by
   intro X _
   unfold askRoom
   split
   ·exact rfl
   ·exact rfl
  refine ir P _ (room True trivial) (fun _ M' hM' => ?_) (fun _ _ hf => hf.elim)
  subst hM'
  have UE : Sl M' A l := sC.sl ⟨hl, hA⟩
  refine aW (fE UE hl) ?_
  refine aW (hr _) ?_
  refine aW (x := zv) (by rw [jS]; simp [zeroOf, hi, hz]) ?_
  intro k hk
  refine h (some ⟨k, 0, none⟩) nc _ ⟨by rw [List.length_append, hl, jv, Nat.add_mul], .inr ⟨k, _, rfl, dI, ?_, hcap, fun j hj => ?_⟩⟩ ((mT.refl _ _).set (.inr hk)) (.inr ⟨k, rfl, hk⟩)
  ·simp only [Array.size_append, List.size_toArray, hl, jv]
   have : (Builtin.zeroCells zv.cells (nc - (n + m))).size = (nc - (n + m)) * i.size := by simp [Builtin.zeroCells, hs]
   rw [this, ← Nat.add_mul, ← Nat.add_mul]; congr 1; omega
  ·rw [Nat.add_mul] at hj
   rw [Array.getElem?_append_left (by simp [hl, jv]; omega)]
   simp
theorem DD {P : Program} {M : Mem} : ∀ (l : List Int) (s0 : ByteArray), bQ P (forIn (Fl.cells l) s0 fun c r => match c with
  | .int .u8 n => (pure (ForInStep.yield (r.push (UInt8.ofNat n.toNat))) : Sem (ForInStep ByteArray))
  | _ => (do stuck "bytesToString: byte expected"; pure (ForInStep.yield r))) M = some (s0 ++ strOf l)
 | [], s0 => by
  have e : s0 ++ strOf [] = s0 := by apply ByteArray.ext; simp [strOf]
  rw [e]; rfl
 | n :: l, s0 => by
  have e : s0 ++ strOf (n :: l) = s0.push (UInt8.ofNat n.toNat) ++ strOf l := by apply ByteArray.ext; simp [strOf]
  rw [e, fO.bZ]
  show bQ P (forIn (Value.int .u8 n :: Fl.cells l) s0 _) M = _
  rw [List.forIn_cons]
  exact DD l (s0.push (UInt8.ofNat n.toNat))
theorem tZ {P : Program} {st bt e : TypeId} {A : Option Addr} {n c : Nat} {l : List Int} {M : Mem} {K : Value → Mem → Prop} {Kp : List PanicEntry → Mem → Prop}
  (h1 : P.underlying bt = some (.slice e)) (h2 : P.underlying st = some .string) (h3 : P.underlying e = some (.int .u8)) (hs : Sl M A (Fl.cells l)) (hn : n = l.length) (k : K (.string (strOf l)) M) :
  be P (convert bt st (.slice A n c)) M K Kp := by
 subst hn
 unfold be
 refine gJ P _ (x := Value.string (strOf l)) ?_ k
 unfold convert
 simp only [aT, aH h1 M, aH h2 M, aH h3 M, Option.bind_some]
 unfold Conv.bytesToString
 match A, hs with
 | none, hs =>
  have : l = [] := by
   have := congrArg List.length (show Fl.cells l = [] from hs)
   rw [fO.cj] at this
   cases l with
   | nil => rfl
   | cons a l => simp [Fl] at this
  subst this; rfl
 | some ⟨b, o, none⟩, hs =>
  have hl : (Fl.cells l).length = l.length * 1 := fO.cj
  have hr := fE (P := P) (M := M) (A := some ⟨b, o, none⟩) (n := l.length) (c := c) (z := 1) (m := l.length) hs hl
  unfold Builtin.firstCells at hr
  rw [Nat.mul_one] at hr
  simp only [aT, hr, Option.bind_some]
  have hp := DD (P := P) (M := M) l ByteArray.empty
  have e : ByteArray.empty ++ strOf l = strOf l := ByteArray.ext (by rw [ByteArray.data_append]; exact Array.empty_append)
  rw [e] at hp
  simp only [List.forIn_toArray]
  erw [hp]; rfl
theorem Hp.Tt {R : Mem} {L : List HP} {M : Mem} {P : Program} {st bt e : TypeId} {s : ByteArray} {K : Value → Mem → Prop} {Kp : List PanicEntry → Mem → Prop} (h : Hp R L M)
  (h1 : P.underlying bt = some (.slice e)) (h2 : P.underlying st = some .string) (h3 : P.underlying e = some (.int .u8))
  (k : ∀ R' A c M', R.le R' → RS Fl R' A c (bytesOf s) → Hp R' L M' → K (.slice A (bytesOf s).length c) M') :
  be P (convert st bt (.string s)) M K Kp := by
 unfold be convert
 refine aW (aH h2 M) ?_
 refine aW (aH h1 M) ?_
 simp only
 refine aW (aH h3 M) ?_
 simp only
 unfold Conv.stringToBytes
 show ∀ q, _
 intro q
 have hcap : s.size ≤ Question.cut (.appendCap s.size 0 e) q := by simp only [Question.cut]; omega
 generalize Question.cut (.appendCap s.size 0 e) q = nc at hcap
 intro b hb
 have hcs : ∀ j, j < (Fl.cells (bytesOf s)).length → (s.data.map (fun b => Value.int .u8 (b.toNat : Int)) ++ Array.replicate (nc - s.size) (Value.int .u8 0))[j]? = (Fl.cells (bytesOf s))[j]? := fun j hj => by
  rw [← yR] at hj ⊢
  rw [wL] at hj
  rw [Array.getElem?_append_left (by simpa using hj)]
  simp [fW]
 generalize hc0 : (s.data.map (fun b => Value.int .u8 (b.toNat : Int)) ++ Array.replicate (nc - s.size) (Value.int .u8 0)) = cs at hcs
 show ee P (markStringish ⟨b, 0, none⟩ >>= fun _ => pure (Value.slice (some ⟨b, 0, none⟩) s.size nc)) (M.set b (.cells cs e (0, 0))) K _
 unfold markStringish
 refine eK P _ _ ?_
 refine eK P _ _ ?_
 unfold shape
 simp only [ee, dI, freeze, pure]
 refine ⟨by decide, rfl, ?_⟩
 have hf : (M.set b (.cells cs e (0, 0))).freeze ⟨b, cs.size, none⟩ 1 = M.set b (.cells cs e (cs.size, cs.size + 1)) := by
  funext i
  simp only [Mem.freeze, Mem.set]
  by_cases hi : i = b
  ·simp [hi]
  ·simp [hi]
 show K _ ((M.set b (.cells cs e (0, 0))).freeze ⟨b, cs.size, none⟩ 1)
 rw [hf]
 have h4 : Hp R (ob b (.cells cs e (cs.size, cs.size + 1)) :: L) (M.set b (.cells cs e (cs.size, cs.size + 1))) := h.new hb (by unfold ob; show (single b _) b = _; simp [single])
 obtain ⟨R', X, hX, g1, g2, g3⟩ := h4.seal
 have := k R' (some ⟨b, 0, none⟩) nc _ g1 ⟨fun j hj => ?_, by rw [mL]; exact hcap⟩ g3
 ·rwa [mL] at this
 ·have N5 : R' b = some (.cells cs e (cs.size, cs.size + 1)) := g2 b _ (by unfold ob at hX; exact hX)
  rw [Nat.zero_add, ← hcs j hj]
  unfold Mem.ld
  simp only [N5]; simp
section
variable {R : Mem} {L L' nY : List HP} {M : Mem} {T : Nat} {A : Option Addr} {c : Nat} {l : List Int}
theorem Hp.EW {P : Program} {t t' ty : Nat} {s : ByteArray} {K : Value → Mem → Prop} {Kp : List PanicEntry → Mem → Prop}
  (h : Hp R L M) [ha : cJ A L Int Fl T c l L'] (El : aY P t T 1 1 [.int .u8 0]) (hu : P.underlying t' = some .string) (hb : l.length + s.size ≤ 140737488355328)
  (g : ∀ A' c' M', Hp R (bE Fl T A' c' (l ++ bytesOf s) :: L') M' → K (.slice A' (l ++ bytesOf s).length c') M') :
  be P (Builtin.append_ #[t, t'] ty #[.slice A l.length c, .string s]) M K Kp := by
 have h2 : Hp R (own 1 T A l.length c (Fl.cells l) :: L') M := by
  have := h.pick ha.pick; unfold bE at this; exact this
 obtain ⟨hu2, i, zv, hi, hs, hby, hz, hzz, hl, hpos⟩ := El
 have ho := h2.uk
 refine Bh hu2 hu hi hz (by rw [hs, ← hl, ← hzz]; simp) (by rw [hs]; exact ho) hs (by rw [hby]; simpa using hb) (by omega) fun A' c' M' h1 hc h3 => ?_
 have := g A' c' M' (by
  unfold bE
  rw [List.length_append, mL, fO.nt, ← yR]
  rw [hs] at h1
  refine h2.change (Q := own 1 T A' (l.length + s.size) c' (Fl.cells l ++ fW s)) (D := yA A) (D' := yA A') Hp.KL hc (fun x hx => ?_) (by unfold own; exact h1.HW)
  rcases h3 with rfl | ⟨b, rfl, hb⟩
  ·exact .inl hx
  ·simp only [yA, List.mem_singleton] at hx; subst hx; exact .inr hb)
 rwa [List.length_append, mL] at this
end
end Go.AF
namespace Go.AF
set_option maxRecDepth 100000
def pT (n : Nat) : List Int := if h : n < 128 then [(n : Int)] else ((n % 128 + 128 : Nat) : Int) :: pT (n / 128)
termination_by n
decreasing_by omega
theorem wM {n : Nat} (h : n < 128) : pT n = [(n : Int)] := by rw [pT, dif_pos h]
theorem EX {n : Nat} (h : ¬ n < 128) : pT n = ((n % 128 + 128 : Nat) : Int) :: pT (n / 128) := by rw [pT, dif_neg h]
theorem Lh : ∀ (n : Nat), ∀ x ∈ pT n, 0 ≤ x ∧ x < 256 := by
 intro n
 induction n using Nat.strongRecOn with
 | ind n ih =>
  intro x hx
  by_cases h : n < 128
  ·rw [wM h] at hx; simp only [List.mem_singleton] at hx; subst hx; omega
  ·rw [EX h] at hx
   rcases List.mem_cons.1 hx with rfl | hx
   ·omega
   ·exact ih (n / 128) (by omega) x hx
theorem wN : ∀ (k n : Nat), n < 128 ^ (k + 1) → (pT n).length ≤ k + 1
 | 0, n, h => by rw [wM (by simpa using h)]; simp
 | k + 1, n, h => by
  by_cases hn : n < 128
  ·rw [wM hn]; simp
  ·rw [EX hn, List.length_cons]
   have := wN k (n / 128) (by rw [Nat.pow_succ] at h; exact Nat.div_lt_of_lt_mul (by rw [Nat.mul_comm]; exact h))
   omega
def u6 (n : Int) : Nat := if 0 ≤ n then (2 * n).toNat else (-2 * n - 1).toNat
theorem or128 {n : Nat} : (n % 256) ||| 128 = n % 128 + 128 := by
 have : ∀ k : Fin 256, k.val ||| 128 = k.val % 128 + 128 := by decide
 have h := this ⟨n % 256, Nat.mod_lt _ (by omega)⟩
 simp only at h
 rw [h]; omega
def Tu : Nat := 3988292384
def Bi (x : Nat) : Nat := if x % 2 = 1 then (x / 2) ^^^ Tu else x / 2
def jm : Nat → Nat → Nat
 | 0, x => x
 | k + 1, x => Bi (jm k x)
def Nm (x b : Nat) : Nat := jm 8 (x ^^^ b)
theorem QF (a b : Nat) : (a ^^^ b) / 2 = (a / 2) ^^^ (b / 2) := by
 have := Nat.xor_div_two_pow (a := a) (b := b) (n := 1)
 simpa using this
theorem Tv (a b : Nat) : (a ^^^ b) % 2 = (a + b) % 2 := by
 have := Nat.xor_mod_two_pow (a := a) (b := b) (n := 1)
 rw [Nat.pow_one] at this
 rw [this]
 have ha := Nat.mod_lt a (show 2 > 0 by omega)
 have hb := Nat.mod_lt b (show 2 > 0 by omega)
 rw [Nat.add_mod]
 generalize a % 2 = x at *
 generalize b % 2 = y at *
 obtain rfl | rfl : x = 0 ∨ x = 1 := by omega
 ·obtain rfl | rfl : y = 0 ∨ y = 1 := by omega
  ·rfl
  ·rfl
 ·obtain rfl | rfl : y = 0 ∨ y = 1 := by omega
  ·rfl
  ·rfl
theorem QG (a b : Nat) : Bi (a ^^^ b) = Bi a ^^^ Bi b := by
 unfold Bi
 rw [QF]
 have := Tv a b
 by_cases ha : a % 2 = 1
 ·by_cases hb : b % 2 = 1
  ·rw [if_neg (by omega), if_pos ha, if_pos hb]
   rw [Nat.xor_comm (b / 2) Tu, Nat.xor_assoc, ← Nat.xor_assoc Tu Tu, Nat.xor_self, Nat.zero_xor]
  ·rw [if_pos (by omega), if_pos ha, if_neg hb]
   rw [Nat.xor_assoc, Nat.xor_comm (b / 2), ← Nat.xor_assoc]
 ·by_cases hb : b % 2 = 1
  ·rw [if_pos (by omega), if_neg ha, if_pos hb, Nat.xor_assoc]
  ·rw [if_neg (by omega), if_neg ha, if_neg hb]
theorem G8 (a b : Nat) : ∀ k, jm k (a ^^^ b) = jm k a ^^^ jm k b
 | 0 => rfl
 | k + 1 => by rw [jm, G8 a b k, QG]; rfl
theorem DE {w : Nat} : ∀ k, w % 2 ^ k = 0 → jm k w = w / 2 ^ k
 | 0, _ => by simp [jm]
 | k + 1, h => by
  have h1 : w % 2 ^ k = 0 := by
   have : 2 ^ k ∣ w := Nat.dvd_trans ⟨2, by rw [Nat.pow_succ]⟩ (Nat.dvd_of_mod_eq_zero h)
   exact Nat.mod_eq_zero_of_dvd this
  rw [jm, DE k h1, Bi]
  have h2 : w / 2 ^ k % 2 = 0 := by
   obtain ⟨q, rfl⟩ := Nat.dvd_of_mod_eq_zero h
   rw [Nat.pow_succ, Nat.mul_assoc, Nat.mul_div_cancel_left _ (Nat.two_pow_pos k)]
   exact Nat.mul_mod_right ..
  rw [if_neg (by omega), Nat.div_div_eq_div_mul, ← Nat.pow_succ]
theorem JW {x b : Nat} (hb : b < 256) : (x / 256) ^^^ jm 8 ((x ^^^ b) % 256) = Nm x b := by
 unfold Nm
 generalize hz : x ^^^ b = z
 have h1 : z / 256 = x / 256 := by
  have := Nat.xor_div_two_pow (a := x) (b := b) (n := 8)
  rw [hz, show (2 : Nat) ^ 8 = 256 from rfl, show b / 256 = 0 from by omega, Nat.xor_zero] at this
  exact this
 have h2 : (z ^^^ (z % 256)) % 2 ^ 8 = 0 := by
  rw [Nat.xor_mod_two_pow, show (2 : Nat) ^ 8 = 256 from rfl, Nat.mod_mod, Nat.xor_self]
 have h3 : (z ^^^ (z % 256)) / 2 ^ 8 = z / 256 := by
  rw [Nat.xor_div_two_pow, show (2 : Nat) ^ 8 = 256 from rfl, show z % 256 / 256 = 0 from by omega, Nat.xor_zero]
 have h4 : z = (z ^^^ (z % 256)) ^^^ (z % 256) := by rw [Nat.xor_assoc, Nat.xor_self, Nat.xor_zero]
 have h5 : jm 8 z = jm 8 (z ^^^ (z % 256)) ^^^ jm 8 (z % 256) := by
  conv => lhs; rw [h4]
  exact G8 _ _ 8
 rw [h5, DE 8 h2, h3, h1]
theorem Tw {x : Nat} (h : x < 4294967296) : Bi x < 4294967296 := by
 unfold Bi
 split
 ·exact Nat.xor_lt_two_pow (n := 32) (by omega) (by decide)
 ·omega
theorem zS {x : Nat} (h : x < 4294967296) : ∀ k, jm k x < 4294967296
 | 0 => h
 | k + 1 => Tw (zS h k)
theorem Tx {x b : Nat} (h : x < 4294967296) (hb : b < 256) : Nm x b < 4294967296 := zS (Nat.xor_lt_two_pow (n := 32) h (by omega)) 8
def Bj (x : Nat) (l : List Int) : Nat := l.foldl (fun x b => Nm x b.toNat) x
def G9 (l : List Int) : Nat := 4294967295 - Bj 4294967295 l
theorem Li : ∀ {l : List Int} {x : Nat}, (∀ n ∈ l, 0 ≤ n ∧ n < 256) → x < 4294967296 → Bj x l < 4294967296
 | [], x, _, h => h
 | b :: l, x, hl, h => Li (l := l) (fun n hn => hl n (List.mem_cons_of_mem _ hn)) (Tx h (by have := hl b (List.mem_cons_self ..); omega))
theorem Nn (x : Nat) (l : List Int) (b : Int) : Bj x (l ++ [b]) = Nm (Bj x l) b.toNat := by simp [Bj]
def qX (l : List Int) : List Int := l.flatMap fun n => pT (u6 n)
theorem No (l : List Int) (n : Int) : qX (l ++ [n]) = qX l ++ pT (u6 n) := by simp [qX]
theorem Ty (l : List Int) : ∀ n ∈ qX l, 0 ≤ n ∧ n < 256 := fun n hn => by
 obtain ⟨m, _, h⟩ := List.mem_flatMap.1 hn; exact Lh _ n h
theorem w32 {n : Nat} (h : n < 4294967296) : IntKind.wrap .u32 (n : Int) = n := by rw [IntKind.wrap_u32]; omega
theorem w64 {n : Nat} (h : n < 18446744073709551616) : IntKind.wrap .u64 (n : Int) = n := by rw [IntKind.wrap_u64]; omega
theorem ofInt32 {n : Nat} (h : n < 4294967296) : (BitVec.ofInt IntKind.u32.bits (n : Int)).toNat = n := by
 have : IntKind.u32.bits = 32 := rfl
 rw [this]; simp only [BitVec.ofInt_natCast, BitVec.toNat_ofNat]; exact Nat.mod_eq_of_lt (by omega)
theorem Ve {a b : Nat} (ha : a < 4294967296) (hb : b < 4294967296) : IntKind.wrap .u32 (((Nat.bitwise bne (BitVec.ofInt IntKind.u32.bits (a : Int)).toNat (BitVec.ofInt IntKind.u32.bits (b : Int)).toNat) : Nat) : Int) = ((a ^^^ b : Nat) : Int) := by
 rw [ofInt32 ha, ofInt32 hb]
 exact w32 (Nat.xor_lt_two_pow (n := 32) ha hb)
theorem not32 {a : Nat} (ha : a < 4294967296) : (4294967295 ^^^ a : Nat) = 4294967295 - a := by
 have h1 : BitVec.allOnes 32 ^^^ BitVec.ofNat 32 a = ~~~ (BitVec.ofNat 32 a) := BitVec.allOnes_xor
 have h2 := congrArg BitVec.toNat h1
 rw [BitVec.toNat_xor, BitVec.toNat_not, BitVec.toNat_allOnes, BitVec.toNat_ofNat, Nat.mod_eq_of_lt (by omega)] at h2
 exact h2
end Go.AF
namespace Go.Proofs
open Go.AF
set_option maxRecDepth 100000
set_option maxHeartbeats 1000000
attribute [local irreducible] aK dH fa cw az fk aE aP aX be bK aS
theorem QH : aY Tryz.prog 212 5 1 1 [.int .u8 0] := aY.mk' (zv := .int .u8 0) (by kernel_rfl) (by kernel_rfl) rfl (by omega)
theorem Bk : Tryz.prog.underlying 212 = some (.slice 5) := by kernel_rfl
theorem EY : Tryz.prog.underlying 5 = some (.int .u8) := by kernel_rfl
theorem sk : Tryz.prog.underlying 9 = some .string := by kernel_rfl
section
variable {R : Mem} {L L' : List HP} {M : Mem} {K : Value → Mem → Prop} {Kp : List PanicEntry → Mem → Prop}
theorem w8 {n : Nat} : IntKind.wrap .u8 (n : Int) = ((n % 256 : Nat) : Int) := by
 unfold IntKind.wrap
 simp only [IntKind.signed, Bool.false_and, Bool.false_eq_true, if_false, IntKind.bits]
 omega
theorem ofInt8 {n : Nat} (h : n < 256) : (BitVec.ofInt IntKind.u8.bits (n : Int)).toNat = n := by
 have : IntKind.u8.bits = 8 := rfl
 rw [this]; simp only [BitVec.ofInt_natCast, BitVec.toNat_ofNat]; exact Nat.mod_eq_of_lt (by omega)
theorem Tz {n : Nat} (h : Hp R L M) (hn : n < 18446744073709551616) (k : ∀ M', Hp R L M' → K (.string (strOf (pT n))) M') : aa Tryz.prog 100 #[.int .u64 (n : Int)] M K Kp := by
 refine Jz ⟨fun d ws M => ∃ (m : Nat) (A : Option Addr) (c : Nat) (l : List Int), ws = [.int .u64 (m : Int), .slice A l.length c] ∧ d = m ∧ m < 18446744073709551616 ∧ l ++ pT m = pT n ∧ l.length ≤ 100 ∧
  Hp R (bE Fl 5 A c l :: L) M, ⟨_, n, none, 0, [], rfl, rfl, hn, rfl, by simp, h.bP _ _⟩, ?_⟩
 clear h
 rintro d _ _ A _ c M ⟨m, _, _, l, he, hd, hm, hl, hll, h⟩
 simp only [List.cons.injEq, Value.int.injEq, Value.slice.injEq, and_true, true_and] at he
 obtain ⟨rfl, rfl, rfl, rfl⟩ := he
 have hlen : (pT n).length ≤ 10 := wN 9 n (by have : (128 : Nat) ^ (9 + 1) = 1180591620717411303424 := rfl; omega)
 refine aJ.2 ⟨fun hge => ?_, fun hlt => ?_⟩
 ·have e := EX (n := m) (by omega)
  have e1 : IntKind.wrap .u8 (((Nat.bitwise or (BitVec.ofInt IntKind.u8.bits (IntKind.u8.wrap (m : Int))).toNat (BitVec.ofInt IntKind.u8.bits 128).toNat) : Nat) : Int) = ((m % 128 + 128 : Nat) : Int) := by
   rw [show IntKind.u8.wrap (m : Int) = ((m % 256 : Nat) : Int) from w8, ofInt8 (Nat.mod_lt _ (by omega))]
   have : (BitVec.ofInt IntKind.u8.bits 128).toNat = 128 := rfl
   rw [this]
   have h2 : Nat.bitwise or (m % 256) 128 = m % 128 + 128 := or128
   rw [h2, w8]
   exact congrArg _ (by omega)
  rw [e1]
  have kM : l.length < 10 := by
   have := congrArg List.length hl
   rw [List.length_append] at this
   have hp : 0 < (pT m).length := by rw [e]; simp
   omega
  have e2 : Int.fdiv (m : Int) 128 = ((m / 128 : Nat) : Int) := by rw [Int.fdiv_eq_ediv_of_nonneg _ (by omega)]; omega
  rw [e2]
  repeat (first|(refine ae h ?_;clear h;intro kb M h)|(refine au h ?_;clear h;intro M h)|refine St.to h ?_|(apply Exists.intro;(repeat apply Exists.intro);refine And.intro rfl ?_)|refine av ?_|refine ai ?_|refine aj ?_)
  refine h.bL QH [((m % 128 + 128 : Nat) : Int)] rfl rfl (by simp; omega) ?_
  clear h
  intro A' c' M h
  repeat (first|(refine ae h ?_;clear h;intro kb M h)|(refine au h ?_;clear h;intro M h)|refine St.to h ?_|(apply Exists.intro;(repeat apply Exists.intro);refine And.intro rfl ?_)|refine av ?_|refine ai ?_|refine aj ?_)
  refine ⟨m / 128, by omega, m / 128, A', c', _, rfl, rfl, by omega, ?_, by simp; omega, h.ck⟩
  rw [← hl, e]; simp
 ·have e := wM (n := m) (by omega)
  have e1 : IntKind.wrap .u8 (m : Int) = (m : Int) := by rw [w8]; exact congrArg _ (by omega)
  rw [e1]
  repeat (first|(refine ae h ?_;clear h;intro kb M h)|(refine au h ?_;clear h;intro M h)|refine St.to h ?_|(apply Exists.intro;(repeat apply Exists.intro);refine And.intro rfl ?_)|refine av ?_|refine ai ?_|refine aj ?_)
  refine h.bL QH [(m : Int)] rfl rfl (by simp; omega) ?_
  clear h
  intro A' c' M h
  repeat (first|(refine ae h ?_;clear h;intro kb M h)|(refine au h ?_;clear h;intro M h)|refine St.to h ?_|(apply Exists.intro;(repeat apply Exists.intro);refine And.intro rfl ?_)|refine av ?_|refine ai ?_|refine aj ?_)
  rw [e] at hl
  rw [hl] at h ⊢
  refine tZ Bk sk EY (h.src (A := A') M h) rfl ?_
  exact KM (k _ h.oy)
theorem TA {x : Int} (hx : -9223372036854775808 ≤ x ∧ x < 9223372036854775808) (h : Hp R L M) (k : K (.int .u64 (u6 x : Nat)) M) : aa Tryz.prog 101 #[.int .i64 x] M K Kp := by
 refine JA ?_
 have : IntKind.wrap .u64 (((Nat.bitwise bne
  (BitVec.ofInt IntKind.u64.bits (IntKind.u64.wrap (IntKind.i64.wrap (x * 2 ^ min (Int.toNat 1) IntKind.i64.bits)))).toNat
  (BitVec.ofInt IntKind.u64.bits (IntKind.u64.wrap (x.fdiv (2 ^ min (Int.toNat 63) IntKind.i64.bits)))).toNat) : Nat) : Int) = (u6 x : Nat) := by
  have p1 : (2 : Int) ^ min (Int.toNat 1) IntKind.i64.bits = 2 := rfl
  have p2 : (2 : Int) ^ min (Int.toNat 63) IntKind.i64.bits = 9223372036854775808 := rfl
  have hb : IntKind.u64.bits = 64 := rfl
  rw [p1, p2, hb]
  have o64 : ∀ n : Nat, n < 18446744073709551616 → (BitVec.ofInt 64 (n : Int)).toNat = n := fun n hn => by
   simp only [BitVec.ofInt_natCast, BitVec.toNat_ofNat]; exact Nat.mod_eq_of_lt (by omega)
  by_cases h0 : 0 ≤ x
  ·have a1 : IntKind.u64.wrap (IntKind.i64.wrap (x * 2)) = ((2 * x.toNat : Nat) : Int) := by rw [IntKind.wrap_u64, IntKind.wrap_i64]; omega
   have a2 : IntKind.u64.wrap (x.fdiv 9223372036854775808) = ((0 : Nat) : Int) := by rw [Int.fdiv_eq_ediv_of_nonneg _ (by omega), IntKind.wrap_u64]; omega
   rw [a1, a2, o64 _ (by omega), o64 _ (by omega)]
   have a3 : Nat.bitwise bne (2 * x.toNat) 0 = 2 * x.toNat := Nat.xor_zero _
   rw [a3, w64 (by omega)]
   unfold u6; rw [if_pos h0]; omega
  ·have a1 : IntKind.u64.wrap (IntKind.i64.wrap (x * 2)) = ((18446744073709551616 + 2 * x).toNat : Int) := by rw [IntKind.wrap_u64, IntKind.wrap_i64]; omega
   have a2 : IntKind.u64.wrap (x.fdiv 9223372036854775808) = ((18446744073709551615 : Nat) : Int) := by rw [Int.fdiv_eq_ediv_of_nonneg _ (by omega), IntKind.wrap_u64]; omega
   rw [a1, a2, o64 _ (by omega), o64 _ (by omega)]
   generalize hz : (18446744073709551616 + 2 * x).toNat = z
   have hz2 : z < 18446744073709551616 := by omega
   have a3 : Nat.bitwise bne z 18446744073709551615 = 18446744073709551615 - z := by
    have h1 : BitVec.ofNat 64 z ^^^ BitVec.allOnes 64 = ~~~ (BitVec.ofNat 64 z) := BitVec.xor_allOnes
    have h2 := congrArg BitVec.toNat h1
    rw [BitVec.toNat_xor, BitVec.toNat_not, BitVec.toNat_allOnes, BitVec.toNat_ofNat, Nat.mod_eq_of_lt (by omega)] at h2
    exact h2
   rw [a3, w64 (by omega)]
   unfold u6; rw [if_neg h0]; omega
 rw [this]; exact k
theorem Lj {α : Type} {E : fO α} {T c : Nat} {b : Nat} {l : List α} {G : List Value → Prop} (h : Hp R L M) [hp : cJ (some ⟨b, 0, none⟩) L α E T c l L'] {n : Nat} (hn : l.length * E.z = n) (g : G (E.cells l)) : Ig (M.fN ⟨b, 0, none⟩ 0 n) G := by
 subst hn
 have hs := h.src (A := some ⟨b, 0, none⟩) M h
 have := rR (M := M) (b := b) (o := 0) (E.cells l) 0 (fun j hj => by rw [Nat.zero_add]; exact hs j hj)
 rw [fO.cj] at this
 rw [this]; exact g
theorem Ll : ∀ (vs cs : List Value) (o : Nat), o + vs.length ≤ cs.length → sw cs o vs = cs.take o ++ vs ++ cs.drop (o + vs.length)
 | [], cs, o, _ => by simp [sw]
 | v :: vs, cs, o, h => by
  rw [List.length_cons] at h
  rw [sw, Ll vs (cs.set o v) (o + 1) (by rw [List.length_set]; omega)]
  rw [List.length_cons, show o + 1 + vs.length = o + (vs.length + 1) from by omega, List.drop_set_of_lt (by omega)]
  have : (cs.set o v).take (o + 1) = cs.take o ++ [v] := by
   rw [List.take_add_one, List.getElem?_set_self (by omega), List.take_set_of_le (Nat.le_refl o)]; rfl
  rw [this, List.append_assoc, List.append_assoc, List.append_assoc]; rfl
theorem QI {cs vs : List Value} (h : vs.length = cs.length) : sw cs 0 vs = vs := by
 rw [Ll vs cs 0 (by omega)]; simp [h]
theorem Vf {b T n : Nat} {cs vs : List Value} {G : Mem → Prop} (h : Hp R L M) [hp : jV b L cs T L'] (hc : cs.length = n) (hv : vs.length = n) (Zo : ∀ v ∈ vs, Value.plainCell v = true) (k : ∀ M', Hp R (pt b vs T :: L') M' → G M') : Fz M b 0 vs n G := by
 have h2 := h.pick hp.pick
 have hb := h2.yB
 refine ⟨hv, Zo, ⟨cs.toArray, T, hb, by simp [hc]⟩, k _ ?_⟩
 have : M.Aa b 0 vs = M.set b (.cells vs.toArray T (0, 0)) := by
  funext i
  unfold Mem.Aa Mem.set
  by_cases hi : i = b
  ·subst hi
   rw [if_pos rfl, if_pos rfl, hb]
   have e : sw cs 0 vs = vs := QI (by omega)
   show some (Obj.cells (sw cs.toArray.toList 0 vs).toArray T (0, 0)) = _
   rw [show cs.toArray.toList = cs from rfl, e]
  ·rw [if_neg hi, if_neg hi]
 rw [this]
 exact h2.set (x := .cells cs.toArray T (0, 0)) (fun A ha => by unfold pt at ha; exact ha) fun A ha => by unfold pt; exact dI
theorem Np (h : Hp R L M) (k : ∀ M', Hp R L M' → K (.agg ⟨y9.cells ((List.range 256).map fun i => ((jm 8 i : Nat) : Int))⟩) M') : aa Tryz.prog 168 #[] M K Kp := by
 refine EO ?_
 refine ae h ?_
 clear h; intro k1 M h
 refine ae h ?_
 clear h; intro k3 M h
 replace h := (h.pt k3).fQ (E := y9) (l := (List.range 256).map fun _ => 0) rfl
 refine ⟨fun d ws M => ∃ i : Nat, ws = [.int .i64 (i : Int)] ∧ d = 256 - i ∧ i ≤ 256 ∧
  Hp R (bE y9 325 (some ⟨k3, 0, none⟩) 256 ((List.range 256).map fun j => if j < i then ((jm 8 j : Nat) : Int) else 0) :: pt k1 (y9.cells ((List.range 256).map fun _ => 0)) 325 :: L) M, ⟨_, 0, rfl, rfl, by omega, h⟩, ?_⟩
 clear h
 rintro d _ ii M ⟨i, he, hd, hi, h⟩
 simp only [List.cons.injEq, Value.int.injEq, and_true, true_and] at he
 subst he
 refine aJ.2 ⟨fun hlt => ?_, fun hge => ?_⟩
 ·rw [w32 (n := i) (by omega)]
  have hI : ∀ j, jm j i < 4294967296 := fun j => zS (by omega) j
  refine ⟨fun d2 ws M' => ∃ j : Nat, ws = [.int .u32 (jm j i : Nat), .int .i64 (j : Int)] ∧ d2 = 8 - j ∧ j ≤ 8 ∧ M' = M, ⟨_, 0, rfl, rfl, by omega, rfl⟩, ?_⟩
  rintro d2 _ _ jj M2 ⟨j, he, QJ, hj, rfl⟩
  simp only [List.cons.injEq, Value.int.injEq, and_true, true_and] at he
  obtain ⟨rfl, rfl⟩ := he
  refine aJ.2 ⟨fun hj8 => ?_, fun hj8 => ?_⟩
  ·have hT : jm (j + 1) i = Bi (jm j i) := rfl
   have hIj := hI j
   rw [aQ (by omega)]
   generalize jm j i = x at *
   have e1 : IntKind.wrap .u32 (((Nat.bitwise and (BitVec.ofInt IntKind.u32.bits (x : Int)).toNat (BitVec.ofInt IntKind.u32.bits 1).toNat) : Nat) : Int) = ((x % 2 : Nat) : Int) := by
    rw [ofInt32 hIj, show (BitVec.ofInt IntKind.u32.bits 1).toNat = 1 from rfl]
    have : Nat.bitwise and x 1 = x % 2 := Nat.and_one_is_mod x
    rw [this, w32 (by omega)]
   have p1 : (2 : Int) ^ min (Int.toNat 1) IntKind.u32.bits = 2 := rfl
   have e2 : Int.fdiv (x : Int) 2 = ((x / 2 : Nat) : Int) := by rw [Int.fdiv_eq_ediv_of_nonneg _ (by omega)]; omega
   rw [e1, p1, e2]
   refine bh.2 ⟨fun ho => ?_, fun ho => ?_⟩
   ·refine ⟨8 - (j + 1), by omega, j + 1, ?_, rfl, by omega, rfl⟩
    have e5 := Ve (a := x / 2) (b := 3988292384) (by omega) (by omega)
    rw [hT]
    refine congrArg (fun v => [Value.int .u32 v, Value.int .i64 ((j + 1 : Nat) : Int)]) (Eq.trans e5 (congrArg _ ?_))
    unfold Bi
    rw [if_pos (by omega)]; rfl
   ·refine ⟨8 - (j + 1), by omega, j + 1, ?_, rfl, by omega, rfl⟩
    rw [hT]
    unfold Bi
    rw [if_neg (by omega)]
  ·obtain rfl : j = 8 := by omega
   refine ⟨by omega, by omega, ?_⟩
   simp only [Int.toNat_natCast]
   refine iL (a' := ((jm 8 i : Nat) : Int)) i 0 h (Va (by omega)) (by decide) rfl (by simp [y9]) ?_
   clear h; intro M h
   rw [aQ (by omega)]
   refine ⟨256 - (i + 1), by omega, i + 1, rfl, rfl, by omega, ?_⟩
   rw [YB, GM (g := fun j => if j < i + 1 then ((jm 8 j : Nat) : Int) else 0)] at h
   ·exact h
   ·intro j _
    by_cases h1 : j = i
    ·subst h1; simp
    ·simp only [h1, if_false]
     by_cases h2 : j < i
     ·rw [if_pos h2, if_pos (by omega)]
     ·rw [if_neg h2, if_neg (by omega)]
 ·obtain rfl : i = 256 := by omega
  rw [GM (g := fun j => ((jm 8 j : Nat) : Int)) (fun j hj => by simp [hj])] at h
  generalize hl : (List.range 256).map (fun i => ((jm 8 i : Nat) : Int)) = l at *
  have hll : l.length = 256 := by rw [← hl]; simp
  refine Lj h (by rw [hll]; rfl) ?_
  refine Vf h (by rw [fO.cj]; simp; rfl) (by show (y9.cells l).length = 256; rw [fO.cj, hll]; rfl) (fun v hv => fO.iK v hv) ?_
  clear h; intro M h
  have h2 := (h.pt k1).fQ (E := y9) (l := l) rfl
  refine Lj h2 (by rw [hll]; rfl) ?_
  exact k _ h2.oy
end
section
variable {R : Mem} {L L' : List HP} {M : Mem} {K : Value → Mem → Prop} {Kp : List PanicEntry → Mem → Prop}
theorem YK : (BitVec.ofInt IntKind.u32.bits (if IntKind.u32.signed = true then -1 else IntKind.u32.max)).toNat = 4294967295 := by decide
theorem Vg {x : Nat} (h : x < 4294967296) : IntKind.wrap .u32 (((Nat.bitwise bne (BitVec.ofInt IntKind.u32.bits (if IntKind.u32.signed = true then -1 else IntKind.u32.max)).toNat (BitVec.ofInt IntKind.u32.bits (x : Int)).toNat) : Nat) : Int) = ((4294967295 - x : Nat) : Int) := by
 rw [YK, ofInt32 h]
 have : Nat.bitwise bne 4294967295 x = 4294967295 - x := not32 h
 rw [this, w32 (by omega)]
theorem TB {x : Nat} {l : List Int} (hx : x < 4294967296) (hl : ∀ n ∈ l, 0 ≤ n ∧ n < 256) (hs : l.length ≤ 100000000000000) (h : Hp R L M)
  (k : ∀ R' M', R.le R' → Hp R' L M' → K (.agg #[.int .u32 (4294967295 - Bj (4294967295 - x) l : Nat)]) M') : aa Tryz.prog 142 #[.agg #[.int .u32 (x : Int)], .string (strOf l)] M K Kp := by
 refine xO ?_
 refine ae h ?_
 clear h; intro k1 M h
 refine ae h ?_
 clear h; intro k3 M h
 refine Np h ?_
 clear h; intro M h
 refine ⟨_, by rw [fO.cj]; simp; rfl, rfl, ?_⟩
 refine ae h ?_
 clear h; intro k8 M h
 refine Vf h rfl (by show (y9.cells _).length = 256; rw [fO.cj]; simp; rfl) (fun v hv => fO.iK v hv) ?_
 clear h; intro M h
 refine aF h ?_
 refine h.Tt Bk sk EY fun R1 A c M' g1 hA h' => ?_
 clear h
 have h := h'
 clear h'
 rw [tY hl] at hA ⊢
 rw [Vg hx]
 refine aO ?_
 refine ⟨fun d ws M => ∃ i : Nat, ws = [.int .u32 (Bj (4294967295 - x) (l.take i) : Nat), .int .i64 (i : Int)] ∧ d = l.length - i ∧ i ≤ l.length ∧
  Hp R1 (pt k8 (y9.cells ((List.range 256).map fun i => ((jm 8 i : Nat) : Int))) 325 :: pt k3 [.int .u32 0] 287 :: L) M, ⟨_, 0, rfl, rfl, by omega, h.sub bu⟩, ?_⟩
 clear h
 rintro d _ _ ii M ⟨i, he, hd, hi, h⟩
 simp only [List.cons.injEq, Value.int.injEq, and_true, true_and] at he
 obtain ⟨rfl, rfl⟩ := he
 have hlt : Bj (4294967295 - x) (l.take i) < 4294967296 := Li (fun n hn => hl n (List.mem_of_mem_take hn)) (by omega)
 refine aJ.2 ⟨fun ZM => ?_, fun hge => ?_⟩
 ·obtain ⟨b, hb⟩ := aM (l := l) (i := i) (by omega)
  have N5 := hl b (List.mem_of_getElem? hb)
  obtain ⟨q, rfl⟩ := Int.eq_ofNat_of_zero_le N5.1
  have hstep : Bj (4294967295 - x) (l.take (i + 1)) = Nm (Bj (4294967295 - x) (l.take i)) q := by rw [bx hb, Nn, Int.toNat_natCast]
  generalize Bj (4294967295 - x) (l.take i) = y at *
  obtain ⟨b1, o1, rfl⟩ := hA.some (by omega) (by decide)
  refine ⟨by omega, ZM, ?_⟩
  refine bg ?_
  simp only [Int.toNat_natCast]
  refine aR (hA.src.at h (i := i) (j := 0) hb rfl (by simp [Fl])) ?_
  have e1 : IntKind.wrap .u8 (((Nat.bitwise bne (BitVec.ofInt IntKind.u8.bits (IntKind.u8.wrap (y : Int))).toNat (BitVec.ofInt IntKind.u8.bits (q : Int)).toNat) : Nat) : Int) = (((y ^^^ q) % 256 : Nat) : Int) := by
   rw [show IntKind.u8.wrap (y : Int) = ((y % 256 : Nat) : Int) from w8, ofInt8 (Nat.mod_lt _ (by omega)), ofInt8 (by omega), w8]
   have h1 := Nat.xor_mod_two_pow (a := y) (b := q) (n := 8)
   have h2 := Nat.xor_mod_two_pow (a := y % 256) (b := q) (n := 8)
   rw [show (2 : Nat) ^ 8 = 256 from rfl] at h1 h2
   have h3 : Nat.bitwise bne (y % 256) q = (y % 256) ^^^ q := rfl
   rw [h3, h1, h2, Nat.mod_mod]
  rw [e1]
  have hz := Nat.mod_lt (y ^^^ q) (show 256 > 0 by omega)
  have htab := JW (x := y) (b := q) (by omega)
  generalize (y ^^^ q) % 256 = z at *
  refine ⟨by omega, by omega, ?_⟩
  simp only [Int.toNat_natCast]
  have s8 : ∀ L', Src R1 (pt k8 (y9.cells ((List.range 256).map fun i => ((jm 8 i : Nat) : Int))) 325 :: L') (some ⟨k8, 0, none⟩) (y9.cells ((List.range 256).map fun i => ((jm 8 i : Nat) : Int))) := fun L' => Src.pt .here
  refine aR ((s8 _).at h (i := z) (j := 0) (Va hz) rfl (by simp [y9])) ?_
  have hzI : jm 8 z < 4294967296 := zS (by omega) 8
  have e2 : (y : Int).fdiv (2 ^ min (Int.toNat 8) IntKind.u32.bits) = ((y / 256 : Nat) : Int) := by
   rw [show (2 : Int) ^ min (Int.toNat 8) IntKind.u32.bits = 256 from rfl, Int.fdiv_eq_ediv_of_nonneg _ (by omega)]; omega
  rw [e2, Ve (by omega) hzI, htab, ← hstep, aQ (by omega)]
  exact ⟨l.length - (i + 1), by omega, i + 1, rfl, rfl, by omega, h⟩
 ·obtain rfl : i = l.length := by omega
  rw [List.take_length] at hlt ⊢
  rw [Vg hlt]
  repeat (first|(refine ae h ?_;clear h;intro kb M h)|(refine au h ?_;clear h;intro M h)|refine St.to h ?_|(apply Exists.intro;(repeat apply Exists.intro);refine And.intro rfl ?_)|refine av ?_|refine ai ?_|refine aj ?_)
  exact k R1 _ g1 h.oy
theorem YL {b c : Nat} {l : List Int} (hl : ∀ n ∈ l, 0 ≤ n ∧ n < 256) (hs : l.length ≤ 100000000000000) (h : Hp R L M) [o : nq b 0 L (.string (strOf l))]
  (k : ∀ R' M', R.le R' → Hp R' L M' → K (.int .u32 (G9 l : Nat)) M') : aa Tryz.prog 102 #[.slice (some ⟨b, 0, none⟩) 1 c] M K Kp := by
 refine Na ?_
 refine ae h ?_
 clear h; intro k1 M h
 refine ⟨fun d ws M => ∃ (i : Nat) (R' : Mem), ws = [.int .i64 (i : Int)] ∧ d = 1 - i ∧ i ≤ 1 ∧ R.le R' ∧ Hp R' (pt k1 [.int .u32 (if i = 0 then 0 else G9 l : Nat)] 287 :: L) M, ⟨_, 0, R, rfl, rfl, by omega, Mem.le_refl R, h⟩, ?_⟩
 clear h
 rintro d _ ii M ⟨i, R1, he, hd, hi, g1, h⟩
 simp only [List.cons.injEq, Value.int.injEq, and_true, true_and] at he
 subst he
 refine aJ.2 ⟨fun ZM => ?_, fun hge => ?_⟩
 ·obtain rfl : i = 0 := by omega
  refine ⟨by omega, ZM, bg ?_⟩
  have : (M.ld ⟨b, 0 + Int.toNat ((0 : Nat) : Int), none⟩) = some (.string (strOf l)) := o.ld R1 M h.drop
  refine v_exS this ?_
  refine aF h ?_
  refine TB (x := 0) (by omega) hl hs h fun R2 M' g2 h' => ?_
  clear h
  have h := h'
  clear h'
  refine ⟨_, rfl, ?_⟩
  refine au h ?_
  clear h; intro M h
  exact ⟨0, by omega, 1, R2, by rw [aQ (by omega)], rfl, by omega, Mem.le_trans g1 g2, h⟩
 ·obtain rfl : i = 1 := by omega
  refine aF h ?_
  refine xP ?_
  repeat (first|(refine ae h ?_;clear h;intro kb M h)|(refine au h ?_;clear h;intro M h)|refine St.to h ?_|(apply Exists.intro;(repeat apply Exists.intro);refine And.intro rfl ?_)|refine av ?_|refine ai ?_|refine aj ?_)
  exact k _ _ g1 h.oy
theorem QK {l : List Int} (hl : ∀ x ∈ l, -9223372036854775808 ≤ x ∧ x < 9223372036854775808) : (qX l).length ≤ 10 * l.length := by
 induction l with
 | nil => simp [qX]
 | cons a l ih =>
  have := ih fun x hx => hl x (List.mem_cons_of_mem _ hx)
  have h1 := hl a (List.mem_cons_self ..)
  have h2 : u6 a < 18446744073709551616 := by unfold u6; split <;> omega
  have h3 := wN 9 (u6 a) (by have : (128 : Nat) ^ (9 + 1) = 1180591620717411303424 := rfl; omega)
  have e : qX (a :: l) = pT (u6 a) ++ qX l := rfl
  rw [e, List.length_append, List.length_cons]; omega
theorem TC {a : Int} (h1 : -9223372036854775808 ≤ a ∧ a < 9223372036854775808) : u6 a < 18446744073709551616 := by unfold u6; split <;> omega
theorem yS {B : Option Addr} {n c : Nat} {l : List Int} (h : Hp R L M) (hB : 0 < l.length → Src R L B (aZ.cells l)) (hn : n = l.length) (hs : l.length ≤ 10000) (hl : ∀ x ∈ l, -9223372036854775808 ≤ x ∧ x < 9223372036854775808)
  (k : ∀ R' M', R.le R' → Hp R' L M' → K (.int .u32 (G9 (qX l) : Nat)) M') : aa Tryz.prog 46 #[.slice B n c] M K Kp := by
 subst hn
 refine AY ?_
 repeat (first|(refine ae h ?_;clear h;intro kb M h)|(refine au h ?_;clear h;intro M h)|refine St.to h ?_|(apply Exists.intro;(repeat apply Exists.intro);refine And.intro rfl ?_)|refine av ?_|refine ai ?_|refine aj ?_)
 replace h := (h.pt kb).fQ (E := Fl) (l := []) rfl
 refine ⟨fun d ws M => ∃ (i : Nat) (A : Option Addr) (c : Nat), ws = [.slice A (qX (l.take i)).length c, .int .i64 (i : Int)] ∧ d = l.length - i ∧ i ≤ l.length ∧
   Hp R (bE Fl 5 A c (qX (l.take i)) :: L) M, ⟨_, 0, _, _, rfl, rfl, by omega, h⟩, ?_⟩
 clear h
 rintro d _ A n c ii M ⟨i, _, _, he, hd, hi, h⟩
 simp only [List.cons.injEq, Value.int.injEq, Value.slice.injEq, and_true, true_and] at he
 obtain ⟨⟨rfl, rfl, rfl⟩, rfl⟩ := he
 have hlen := QK (l := l.take i) fun x hx => hl x (List.mem_of_mem_take hx)
 have htl : (l.take i).length ≤ l.length := List.length_take_le' ..
 refine aJ.2 ⟨fun hlt => ?_, fun hge => ?_⟩
 ·obtain ⟨a, ha⟩ := aM (l := l) (i := i) (by omega)
  have ha2 := hl a (List.mem_of_getElem? ha)
  have hz := TC ha2
  have hstep : qX (l.take (i + 1)) = qX (l.take i) ++ pT (u6 a) := by rw [bx ha, No]
  have h3 := wN 9 (u6 a) (by have : (128 : Nat) ^ (9 + 1) = 1180591620717411303424 := rfl; omega)
  have hB := hB (by omega)
  obtain ⟨b1, o1, rfl⟩ := hB.cons.gD h (by omega) (by decide)
  repeat (first|(refine ae h ?_;clear h;intro kb M h)|(refine au h ?_;clear h;intro M h)|refine St.to h ?_|(apply Exists.intro;(repeat apply Exists.intro);refine And.intro rfl ?_)|refine av ?_|refine ai ?_|refine aj ?_)
  simp only [Int.toNat_natCast]
  refine aR (hB.cons.at h (i := i) (j := 0) ha rfl (by simp [aZ])) ?_
  refine TA ha2 h ?_
  refine cz ?_
  refine Tz h hz ?_
  clear h; intro M h
  refine KM ?_
  refine Hp.EW h QH sk (by rw [JV]; omega) ?_
  clear h; intro A' c' M h
  rw [tY (Lh _), ← hstep] at h ⊢
  refine aO ?_
  rw [aQ (by omega)]
  exact ⟨l.length - (i + 1), by omega, i + 1, A', c', rfl, rfl, by omega, h⟩
 ·obtain rfl : i = l.length := by omega
  rw [List.take_length] at h hlen ⊢
  refine tZ Bk sk EY (h.src (A := A) M h) rfl ?_
  refine KM ?_
  refine ae h ?_
  clear h; intro mq M h
  refine YL (l := qX l) (Ty l) (by omega) h fun R' M' g h' => ?_
  exact cz (k R' M' g h'.oy)
theorem He (h : Hp R L M) (k : ∀ R' M', R.le R' → Hp R' L M' → K (.bool true) M') : aa Tryz.prog 38 #[] M K Kp := by
 refine pS ?_
 refine yS (l := []) h (fun _ => Src.nil R L) rfl (by simp) (by simp) fun R1 M' g1 h' => ?_
 clear h
 have h := h'
 clear h'
 have e : G9 (qX []) = 0 := by decide
 rw [e]
 repeat (first|(refine ae h ?_;clear h;intro kb M h)|(refine au h ?_;clear h;intro M h)|refine St.to h ?_|(apply Exists.intro;(repeat apply Exists.intro);refine And.intro rfl ?_)|refine av ?_|refine ai ?_|refine aj ?_)
 replace h := (h.pt kb).fQ (E := aZ) (l := [0]) rfl
 refine yS (l := [0]) h (fun _ => Src.row) rfl (by simp) (by simp) fun R2 M' g2 h' => ?_
 clear h
 have h := h'
 clear h'
 have e : G9 (qX [0]) = 3523407757 := by
  have e1 : qX [0] = [0] := by
   show pT (u6 0) ++ [] = [0]
   rw [List.append_nil, wM (by decide)]; rfl
  rw [e1]; decide
 rw [e]
 repeat (first|(refine ae h ?_;clear h;intro kb M h)|(refine au h ?_;clear h;intro M h)|refine St.to h ?_|(apply Exists.intro;(repeat apply Exists.intro);refine And.intro rfl ?_)|refine av ?_|refine ai ?_|refine aj ?_)
 exact k _ _ (Mem.le_trans g1 g2) h.oy
end
end Go.Proofs
