/- A part of proofs about one program. -/
import Derived.Test.YtfjgcljdnhkmaaaGreatZWorldEndsAgg
import Derived.Test.YtfjgcljdnhkmaaaGreatZWorldEnds1
set_option linter.unusedVariables false
namespace Go.AF
theorem N2 {p q : Prop} [Decidable p] [Decidable q] {X Y : Prop} (hy : Y) (hx : p → q → X) : aM (decide p) (aM (decide q) X Y) Y := by
 by_cases hp : p
 ·by_cases hq : q
  ·simp only [hp, hq, decide_true]; exact aq (aq (hx hp hq))
  ·simp only [hp, hq, decide_true, decide_false]; exact aq (au hy)
 ·simp only [hp, decide_false]; exact au hy
theorem wn {z : Int} {n : Nat} (e : z = (n : Int)) (h : n < 9223372036854775808) : IntKind.wrap .i64 z = (n : Int) := by rw [e]; exact nW h
theorem Src.row {α : Type} {E : jM α} {R : Mem} {L L' : List HP} {A : Option Addr} {T c : Nat} {l : List α} [hp : dF A L α E T c l L'] : Src R L A (E.cells l) := fun M h => h.src (A := A) M h
end Go.AF
namespace Go.AF
abbrev AL := List (Int × Value)
def eH : Nat → AL → List MapEntry
 | _, [] => []
 | i, (k, v) :: l => ⟨.int .i64 k, v, i⟩ :: eH (i + 1) l
def mR (l : AL) : Obj := .map (eH 0 l).toArray l.length
def xu (k : Int) : AL → Nat → Option (Nat × Value)
 | [], _ => none
 | (k', v) :: l, i => if k = k' then some (i, v) else xu k l (i + 1)
def Dt (l : AL) (k : Int) : Option Value := (xu k l 0).map (·.2)
def XO (l : AL) (k : Int) (v : Value) : AL := match xu k l 0 with
 | some (i, _) => l.set i (k, v)
 | none => l ++ [(k, v)]
theorem xw {kd : IntKind} (k : Int) : ∀ (l : AL) (i b : Nat), Instr.findNow (.int kd) (.int .i64 k) (eH b l) i = some (xu k l i)
 | [], _, _ => rfl
 | (k', v) :: l, i, b => by
  simp only [eH, Instr.findNow, Instr.sameNow, if_true, xu]
  by_cases h : k = k'
  ·simp [h]
  ·have : (k == k') = false := by simp [h]
   rw [this, if_neg h]
   exact xw k l (i + 1) (b + 1)
theorem N3 {k : Int} : ∀ {l : AL} {i j : Nat} {v : Value}, xu k l i = some (j, v) → i ≤ j ∧ l[j - i]? = some (k, v)
 | [], _, _, _, h => by simp [xu] at h
 | (k', v') :: l, i, j, v, h => by
  simp only [xu] at h
  split at h
  ·rename_i e; cases h; subst e; exact ⟨Nat.le_refl _, by simp⟩
  ·obtain ⟨h1, h2⟩ := N3 h
   refine ⟨by omega, ?_⟩
   rw [show j - i = (j - (i + 1)) + 1 from by omega, List.getElem?_cons_succ]; exact h2
theorem N4 : ∀ {l : AL} {i b : Nat} {k : Int} {v : Value}, l[i]? = some (k, v) → (eH b l)[i]? = some ⟨.int .i64 k, v, b + i⟩
 | [], _, _, _, _, h => by simp at h
 | (k', v') :: l, 0, b, k, v, h => by simp at h; obtain ⟨rfl, rfl⟩ := h; rfl
 | (k', v') :: l, i + 1, b, k, v, h => by
  have := N4 (b := b + 1) (show l[i]? = some (k, v) from by simpa using h)
  simp only [eH, List.getElem?_cons_succ, this]
  congr 2; omega
theorem IY : ∀ {l : AL} {i b : Nat} {k : Int} {v w : Value}, l[i]? = some (k, w) → (eH b l).modify i (fun e => { e with key := .int .i64 k, val := v }) = eH b (l.set i (k, v))
 | [], _, _, _, _, _, h => by simp at h
 | (k', v') :: l, 0, b, k, v, w, h => by simp at h; obtain ⟨rfl, rfl⟩ := h; rfl
 | (k', v') :: l, i + 1, b, k, v, w, h => by
  have := IY (b := b + 1) (v := v) (show l[i]? = some (k, w) from by simpa using h)
  simp only [eH, List.modify_succ_cons, List.set_cons_succ, this]
theorem IZ : ∀ (l m : AL) (b : Nat), eH b (l ++ m) = eH b l ++ eH (b + l.length) m
 | [], m, b => by simp [eH]
 | (k, v) :: l, m, b => by simp only [List.cons_append, eH, IZ l m (b + 1), List.length_cons]; congr 3; omega
def Cb : AL → Int → Option Value
 | [], _ => none
 | (k', v) :: l, k => if k = k' then some v else Cb l k
theorem I0 (k : Int) : ∀ (l : AL) (i : Nat), (xu k l i).map (·.2) = Cb l k
 | [], _ => rfl
 | (k', v) :: l, i => by
  simp only [xu, Cb]
  split
  ·rfl
  ·exact I0 k l (i + 1)
theorem XP (l : AL) (k : Int) : Dt l k = Cb l k := I0 k l 0
theorem Ea {k : Int} : ∀ {l : AL}, Cb l k = none ↔ k ∉ l.map (·.1)
 | [] => by simp [Cb]
 | (q, w) :: l => by
  have ih := Ea (k := k) (l := l)
  simp only [Cb, List.map_cons, List.mem_cons, not_or]
  by_cases h : k = q
  ·rw [if_pos h]; simp [h]
  ·rw [if_neg h]; simp [h, ih]
section
variable {R : Mem} {L L' : List HP} {M : Mem} {P : Program} {t kt et : TypeId} {r : Nat} {l : AL} {k : Int} {kd : IntKind}
class I2 (b : Nat) (L : List HP) (o : outParam Obj) (L' : outParam (List HP)) : Prop where
 pick : eB L (ob b o) L'
instance I2.here {b : Nat} {o : Obj} {L : List HP} : I2 b (ob b o :: L) o L := ⟨.here⟩
instance (priority := low) I2.there {b : Nat} {o : Obj} {Q : HP} {L L' : List HP} [h : I2 b L o L'] : I2 b (Q :: L) o (Q :: L') := ⟨.there h.pick⟩
theorem sH {P : Program} {M : Mem} {b : Bool} (hk : P.underlying kt = some (.int kd)) : bZ P (Instr.checkKey b 10000 kt (.int .i64 k)) M = some () := by
 unfold Instr.checkKey
 rw [be, aP hk]; rfl
theorem vP {P : Program} {M : Mem} (hk : P.underlying kt = some (.int kd)) : bZ P (Instr.findKey kt (.int .i64 k) (eH 0 l)) M = some (xu k l 0) := by
 unfold Instr.findKey
 rw [be, aP hk, Option.bind_some, xw]; rfl
theorem vQ {P : Program} {α : Type} {M : Mem} {r : Nat} {l : AL} {f : Obj → Sem α} {K : α → Mem → Prop} {Kp : Value → Mem → Prop} (hb : M r = some (mR l)) (h : eT P (f (mR l)) M K Kp) : eT P (getObj r >>= f) M K Kp := by
 refine gT P _ _ ?_
 unfold getObj
 simp only [eT, hb, mR]
 exact h
theorem UD {z : Value} {i : TypeInfo} {K : Value → Mem → Prop} {Kp : List PanicEntry → Mem → Prop} (h : Hp R L M) [p : I2 r L (mR l) L'] (hu : P.underlying t = some (.map kt et)) (hk : P.underlying kt = some (.int kd)) (hi : P.info? et = some i) (hz : i.zero = some z)
  (g : K ((Dt l k).getD z) M) : bj P (Instr.lookup t (.map (some r)) (.int .i64 k) false) M K Kp := by
 have hb : M r = some (mR l) := (h.pick p.pick).RA
 unfold bj Instr.lookup
 refine bD (aP hu M) ?_
 simp only
 refine gT P _ _ ?_
 refine vQ hb ?_
 simp only [mR]
 refine bD (x := ()) (sH hk) ?_
 refine bD (vP hk) ?_
 unfold Dt at g
 cases ha : xu k l 0 with
 | none =>
  rw [ha] at g
  simp only
  have hz0 : bZ P (zeroValue et) M = some z := by rw [lX]; simp [zeroOf, hi, hz]
  refine bD hz0 ?_
  refine bD (x := (z, false)) rfl ?_
  exact g
 | some x =>
  rw [ha] at g
  exact g
theorem zC {v : Value} {K : Mem → Prop} {Kp : List PanicEntry → Mem → Prop} (h : Hp R L M) [p : I2 r L (mR l) L'] (hu : P.underlying t = some (.map kt et)) (hk : P.underlying kt = some (.int kd))
  (g : ∀ M', Hp R (ob r (mR (XO l k v)) :: L') M' → K M') : bJ P (Instr.mapUpdate t (.map (some r)) (.int .i64 k) v) M K Kp := by
 have h1 := h.pick p.pick
 have hb : M r = some (mR l) := h1.RA
 have fin : ∀ o, o = mR (XO l k v) → K (M.set r o) := fun o e => by
  subst e
  exact g _ (h1.set (x := mR l) (fun A ha => by unfold ob at ha; exact ha) fun A ha => by unfold ob; exact fY)
 unfold bJ Instr.mapUpdate
 refine bD (aP hu M) ?_
 simp only
 refine vQ hb ?_
 simp only [mR]
 refine bD (x := ()) (sH hk) ?_
 refine bD (vP hk) ?_
 have hset : ∀ o : Obj, K (M.set r o) → eT P (setObj r o) M (fun _ => K) (fun v M' => Kp [{ v, recovered := false }] M') := fun o hK => by
  unfold setObj
  simp only [eT, hb, mR]
  exact hK
 cases ha : xu k l 0 with
 | none =>
  simp only
  refine hset _ (fin _ ?_)
  unfold XO mR
  rw [ha]
  simp only [List.push_toArray, List.length_append, List.length_singleton]
  rw [IZ]; simp [eH]
 | some x =>
  obtain ⟨i, w⟩ := x
  obtain ⟨_, hw⟩ := N3 ha
  rw [Nat.sub_zero] at hw
  simp only
  have he := N4 (b := 0) hw
  refine bD (x := Value.int .i64 k) ?_ ?_
  ·have : (((eH 0 l).toArray[i]?).map (·.key)).getD (.int .i64 k) = .int .i64 k := by simp [he]
   rw [this]
   unfold Instr.keyThatStays
   simp [Instr.sameBits]; rfl
  ·refine hset _ (fin _ ?_)
   unfold XO mR
   rw [ha]
   simp only [List.length_set]
   rw [← IY (v := v) hw]
   simp [List.modify_toArray]
end
end Go.AF
namespace Go.AF
theorem Gh {P : Program} {t t' e ty : TypeId} {i : TypeInfo} {zv : Value} {A B : Option Addr} {n c m d : Nat} {l r : List Value} {M : Mem} {K : Value → Mem → Prop} {Kp : List PanicEntry → Mem → Prop}
  (hu : P.underlying t = some (.slice e)) (YY : P.underlying t' = some (.slice e)) (hi : P.info? e = some i) (hz : i.zero = some zv) (hs : zv.cells.size = i.size)
  (hol : Sl M A l) (hl : l.length = n * i.size) (hr : Sl M B r) (mN : r.length = m * i.size) (hc : c < n + m) (hb : (n + m) * i.bytes ≤ 140737488355328) (hby : 0 < i.bytes)
  (h : ∀ k c' M', M k = none → wh M' i.size e (some ⟨k, 0, none⟩) (n + m) c' (l ++ r) → oX [] M M' → K (.slice (some ⟨k, 0, none⟩) (n + m) c') M') :
  bj P (Builtin.append_ #[t, t'] ty #[.slice A n c, .slice B m d]) M K Kp := by
 unfold bj Builtin.append_
 simp only [List.getElem?_toArray, List.getElem?_cons_zero, List.getElem?_cons_succ]
 refine bD (aP hu M) ?_
 simp only
 refine bD (gn hi M) ?_
 refine bD (aP YY M) ?_
 refine bD (x := false) rfl ?_
 refine bD (x := m) rfl ?_
 simp only [Bool.not_false, if_true]
 rw [if_neg (by omega)]
 refine bD (cY hi M) ?_
 rw [if_neg (by simp; omega)]
 refine bD (cY hi M) ?_
 rw [if_neg (by have := growslice_fits (need := n + m) (old := c) (bytes := i.bytes) (by omega) hb; omega)]
 show ∀ q, _
 intro q
 have hcap : n + m ≤ Question.cut (.appendCap (n + m) c e) q := by simp only [Question.cut]; omega
 generalize Question.cut (.appendCap (n + m) c e) q = nc at hcap
 refine bD (x := nc) rfl ?_
 refine bD (cY hi M) ?_
 refine gT P _ _ ?_
 have room : ∀ (X : Prop) , X → eT P (askRoom (nc * i.bytes)) M (fun _ M' => M' = M) (fun _ _ => False) := by
  intro X _
  unfold askRoom
  split
  ·exact rfl
  ·exact rfl
 refine jH P _ (room True trivial) (fun _ M' hM' => ?_) (fun _ _ hf => hf.elim)
 subst hM'
 refine bD (iJ hol hl) ?_
 refine bD (iJ hr mN) ?_
 refine bD (x := zv) (by rw [lX]; simp [zeroOf, hi, hz]) ?_
 intro k hk
 refine h k nc _ hk ⟨by rw [List.length_append, hl, mN, Nat.add_mul], .inr ⟨k, _, rfl, fY, ?_, hcap, fun j hj => ?_⟩⟩ ((oX.refl _ _).set (.inr hk))
 ·simp only [Array.size_append, List.size_toArray, hl, mN]
  have : (Builtin.zeroCells zv.cells (nc - (n + m))).size = (nc - (n + m)) * i.size := by simp [Builtin.zeroCells, hs]
  rw [this, ← Nat.add_mul, ← Nat.add_mul]; congr 1; omega
 ·rw [Nat.add_mul] at hj
  rw [Array.getElem?_append_left (by simp [hl, mN]; omega)]
  simp
theorem Hp.N5 {α : Type} {E : jM α} {R : Mem} {L L' : List HP} {M : Mem} {T : Nat} {P : Program} {t bytes ty d m k n c : Nat} {zero rc : List Value} {A : Option Addr} {l r : List α} {K : Value → Mem → Prop} {Kp : List PanicEntry → Mem → Prop}
  (h : Hp R L M) [hk : nv k L rc T L'] (hA : Src R L A (E.cells l)) (hn : n = l.length) (El : bE P t T E.z bytes zero) (he : rc = E.cells r) (hm : m = r.length) (hc : c < n + m) (hb : (l.length + r.length) * bytes ≤ 140737488355328)
  (g : ∀ b c' M', Hp R (cu E T (some ⟨b, 0, none⟩) c' (l ++ r) :: L') M' → K (.slice (some ⟨b, 0, none⟩) (l ++ r).length c') M') :
  bj P (Builtin.append_ #[t, t] ty #[.slice A n c, .slice (some ⟨k, 0, none⟩) m d]) M K Kp := by
 subst hm; subst he; subst hn
 have hB : Sl M (some ⟨k, 0, none⟩) (E.cells r) := h.RF hk.pick
 obtain ⟨hu, i, zv, hi, hs, hby, hz, rfl, hl, hpos⟩ := El
 refine Gh hu hu hi hz (by rw [hs, ← hl]; simp) (hA M h) (by rw [hs]; exact E.dX) hB (by rw [hs]; exact E.dX) hc (by rw [hby]; exact hb) (by omega) fun b c' M' hbn ho Ai => ?_
 have h2 : Hp R (cu E T (some ⟨b, 0, none⟩) c' (l ++ r) :: L) M' := by
  have h3 : Hp R (fact True :: L) M := Hp.kJ.2 ⟨trivial, h⟩
  refine h3.change (D := []) (D' := [b]) (fun A hA x hx => by cases hx) Ai (fun x hx => by simp only [List.mem_singleton] at hx; subst hx; exact .inr hbn) ?_
  unfold cu own
  rw [List.length_append, E.yf]
  rw [hs] at ho
  have := ho.oZ
  simpa [CU] using this
 have := g b c' M' (h2.map fun _ hs => hs.tail fun _ hx => (de.pick hk.pick hx).drop)
 rwa [List.length_append] at this
section
variable {R : Mem} {L L' : List HP} {M : Mem} {P : Program} {t kt et : TypeId} {r : Nat} {l : AL} {k : Int} {kd : IntKind}
theorem P1 {z : Value} {i : TypeInfo} {K : Value → Mem → Prop} {Kp : List PanicEntry → Mem → Prop} (h : Hp R L M) [p : I2 r L (mR l) L'] (hu : P.underlying t = some (.map kt et)) (hk : P.underlying kt = some (.int kd)) (hi : P.info? et = some i) (hz : i.zero = some z)
  (g : K (.tuple #[(Dt l k).getD z, .bool (Dt l k).isSome]) M) : bj P (Instr.lookup t (.map (some r)) (.int .i64 k) true) M K Kp := by
 have hb : M r = some (mR l) := (h.pick p.pick).RA
 unfold bj Instr.lookup
 refine bD (aP hu M) ?_
 simp only
 refine gT P _ _ ?_
 refine vQ hb ?_
 simp only [mR]
 refine bD (x := ()) (sH hk) ?_
 refine bD (vP hk) ?_
 unfold Dt at g
 cases ha : xu k l 0 with
 | none =>
  rw [ha] at g
  simp only
  have hz0 : bZ P (zeroValue et) M = some z := by rw [lX]; simp [zeroOf, hi, hz]
  refine bD hz0 ?_
  refine bD (x := (z, false)) rfl ?_
  exact g
 | some x =>
  rw [ha] at g
  exact g
end
theorem I7 {C : Ctx} {g : Nat} {args : List Value} {M : Mem} {K : Value → Mem → Prop} {Kp : List PanicEntry → Mem → Prop} (hg : 1 < g ∧ g < C.ok) (h : ae C.P g args.toArray M K Kp) : pU C (.func (.func g) #[] #[]) args M K Kp := by
 unfold pU
 simp only
 rw [if_pos hg]
 simpa using h
theorem jg {z : Int} (h0 : 0 ≤ z) (h : z < 9223372036854775807) : IntKind.wrap .i64 (z + 1) = z + 1 := by
 obtain ⟨n, rfl⟩ := Int.eq_ofNat_of_zero_le h0
 have := nW (n := n + 1) (by omega)
 exact_mod_cast this
theorem Hp.Cc {α : Type} {E : jM α} {R : Mem} {L : List HP} {M : Mem} {T c : Nat} {A : Option Addr} {l r : List α} {P : Program} {t bytes ty d m : Nat} {zero : List Value} {B : Option Addr} {K : Value → Mem → Prop} {Kp : List PanicEntry → Mem → Prop}
  (h : Hp R (cu E T A c l :: L) M) (El : bE P t T E.z bytes zero) (hr : Sl M B (E.cells r)) (hm : m = r.length) (hb : (l.length + r.length) * bytes ≤ 140737488355328)
  (g : ∀ A' c' M', Hp R (cu E T A' c' (l ++ r) :: L) M' → K (.slice A' (l ++ r).length c') M') :
  bj P (Builtin.append_ #[t, t] ty #[.slice A l.length c, .slice B m d]) M K Kp := by
 subst hm
 have h2 : Hp R (own E.z T A l.length c (E.cells l) :: L) M := by
  have := h; unfold cu at this; exact this
 refine h2.append El hr E.dX E.qX hb fun A' c' M' h => ?_
 have := g A' c' M' (by unfold cu; rw [List.length_append, E.yf]; exact h)
 rwa [List.length_append] at this
theorem Hp.jT {α : Type} {E : jM α} {R : Mem} {L L' HR : List HP} {M : Mem} {T c n : Nat} {A : Option Addr} {l : List α} {P : Program} {t bytes ty k d m : Nat} {zero rc : List Value} {K : Value → Mem → Prop} {Kp : List PanicEntry → Mem → Prop}
  (h : Hp R L M) [ha : dF A L α E T c l L'] [hk : nv k L' rc T HR] (El : bE P t T E.z bytes zero) (r : List α) (he : rc = E.cells r) (hn : n = l.length) (hm : m = r.length) (hb : (l.length + r.length) * bytes ≤ 140737488355328)
  (g : ∀ A' c' M', Hp R (cu E T A' c' (l ++ r) :: HR) M' → K (.slice A' (n + m) c') M') :
  bj P (Builtin.append_ #[t, t] ty #[.slice A n c, .slice (some ⟨k, 0, none⟩) m d]) M K Kp := by
 subst hn
 refine h.aZ (A := A) El r he hm hb fun A' c' M' h => ?_
 have := g A' c' M' h
 rwa [hm, ← List.length_append] at this
theorem P2 {C : Ctx} {g : Nat} {caps : Array Value} {args : List Value} {M : Mem} {K : Value → Mem → Prop} {Kp : List PanicEntry → Mem → Prop} (hg : 1 < g ∧ g < C.ok) (h : ae C.P g (args ++ caps.toList).toArray M K Kp) : pU C (.func (.func g) #[] caps) args M K Kp := by
 unfold pU
 simp only
 rw [if_pos hg]
 simpa using h
end Go.AF
namespace Go.Proofs
open Go.AF
set_option maxRecDepth 100000
set_option maxHeartbeats 1000000
attribute [local irreducible] bF dG fa dP aF eY aE b7 aO bj bJ aM
abbrev vR (A : Option Addr) (c : Nat) (l : List eJ) : HP := cu fV 234 A c l
theorem Ms : bE Tryz.prog 179 234 11 88 (fV.f ⟨0, 0, [], 0⟩) := bE.mk' (zv := .agg #[.int .i64 0, .int .i64 0, .int .i64 0, .int .i64 0, .int .i64 0, .int .i64 0, .int .i64 0, .int .i64 0, .int .i64 0, .int .i64 0, .int .i64 0]) (by kernel_rfl) (by kernel_rfl) rfl (by omega)
theorem eJ.set_set {f : eJ} {q u v : Int} : (f.set q u).set q v = f.set q v := by
 unfold eJ.set
 congr 1
 apply List.map_congr_left
 intro i hi
 by_cases h : i = q.toNat
 ·rw [if_pos h, if_pos h]
 ·rw [if_neg h, if_neg h]
  simp [List.mem_range.1 hi, h]
def insC (x : bY) : List Value := [.int .i64 x.op, .int .i64 x.a, .int .i64 x.b, .int .i64 x.c]
section
variable {R : Mem} {L L' : List HP} {M : Mem} {K : Value → Mem → Prop} {Kp : List PanicEntry → Mem → Prop} {b i c : Nat} {l : List eJ} {f : eJ} {x : bY}
theorem xx {q : Int} {o : Nat} {G : Int → Prop} (h : Hp R L M) [p : dF (some ⟨b, 0, none⟩) L eJ fV 234 c l L'] (hi : l[i]? = some f) (hq : aR q) (e : o = i * 11 + 2 + q.toNat) (g : G (f.bH q)) : bF (M.ld ⟨b, o, none⟩) .i64 G := by
 refine aj (Src.at (h.src (A := some ⟨b, 0, none⟩)) h (i := i) (j := 2 + q.toNat) hi (dL hq.1 hq.2) ?_) g
 show _ = 0 + (i * 11 + (2 + q.toNat)); omega
theorem yS {q v : Int} {o : Nat} {G : Mem → Prop} (h : Hp R L M) [p : dF (some ⟨b, 0, none⟩) L eJ fV 234 c l L'] (hi : l[i]? = some f) (hq : aR q) (e : o = i * 11 + 2 + q.toNat)
  (k : ∀ M', Hp R (vR (some ⟨b, 0, none⟩) c (l.set i (f.set q v)) :: L') M' → G M') : b7 M ⟨b, o, none⟩ (.int .i64 v) G := by
 obtain ⟨q0, q8⟩ := hq
 refine gK i (2 + q.toNat) h hi ?_ (kH q0 q8) ?_ k
 ·show _ < 11; omega
 ·show _ = i * 11 + (2 + q.toNat); omega
theorem Cd {o : Nat} {G : Int → Prop} (h : Hp R L M) [p : dF (some ⟨b, 0, none⟩) L eJ fV 234 c l L'] (hi : l[i]? = some f) (e : o = i * 11 + 1) (g : G f.pc) : bF (M.ld ⟨b, o, none⟩) .i64 G := by
 refine aj (Src.at (h.src (A := some ⟨b, 0, none⟩)) h (i := i) (j := 1) hi rfl ?_) g
 show _ = 0 + (i * 11 + 1); omega
theorem Ce {v : Int} {o : Nat} {G : Mem → Prop} (h : Hp R L M) [p : dF (some ⟨b, 0, none⟩) L eJ fV 234 c l L'] (hi : l[i]? = some f) (e : o = i * 11 + 1)
  (k : ∀ M', Hp R (vR (some ⟨b, 0, none⟩) c (l.set i { f with pc := v }) :: L') M' → G M') : b7 M ⟨b, o, none⟩ (.int .i64 v) G := by
 refine gK i 1 h hi (by show 1 < 11; omega) Su ?_ k
 show _ = i * 11 + 1; omega
theorem sI {α : Type} {l : List α} {i : Nat} {u v : α} : (l.set i u).set i v = l.set i v := by simp
def fOp : List Nat := [195, 196, 197, 198, 199, 200, 201, 202, 203]
theorem UE (h : Hp R L M) [p : dF (some ⟨b, 0, none⟩) L eJ fV 234 c l L'] (hi : l[i]? = some f) (hx : x.cM) (n : Nat) (hn : x.op = (n : Int)) (h8 : n ≤ 8)
  (k : ∀ M', Hp R (vR (some ⟨b, 0, none⟩) c (l.set i (f.pure x)) :: L') M' → K (.tuple #[]) M') :
  ae Tryz.prog (fOp.getD n 0) #[.pointer (some ⟨b, i * 11, none⟩), .agg #[.int .i64 x.op, .int .i64 x.a, .int .i64 x.b, .int .i64 x.c]] M K Kp := by
 obtain ⟨op, xa, xb, xc⟩ := x
 obtain ⟨o1, o2, o3⟩ := hx
 dsimp only at hn o1 o2 o3 k ⊢
 have hsame : l.set i f = l := by obtain ⟨hl, rfl⟩ := List.getElem?_eq_some_iff.1 hi; simp
 subst hn
 have hlt := (List.getElem?_eq_some_iff.1 hi).1
 obtain rfl | rfl | rfl | rfl | rfl | rfl | rfl | rfl | rfl : n = 0 ∨ n = 1 ∨ n = 2 ∨ n = 3 ∨ n = 4 ∨ n = 5 ∨ n = 6 ∨ n = 7 ∨ n = 8 := by omega
 ·refine vG ?_
  have e : f.pure ⟨((0 : Nat) : Int), xa, xb, xc⟩ = f := rfl
  rw [e, hsame] at k
  repeat (first|(refine ai h ?_;clear h;intro kb M h)|(refine ak h ?_;clear h;intro M h)|refine St.to h ?_|(apply Exists.intro;(repeat apply Exists.intro);refine And.intro rfl ?_)|refine ay ?_|refine aq ?_|refine au ?_)
  exact k _ ((h.row (some ⟨b, 0, none⟩)).cG)
 ·have ra : aR xa := o1 (by simp)
  refine ou ?_
  repeat (first|(refine ai h ?_;clear h;intro kb M h)|(refine ak h ?_;clear h;intro M h)|refine St.to h ?_|(apply Exists.intro;(repeat apply Exists.intro);refine And.intro rfl ?_)|refine ay ?_|refine aq ?_|refine au ?_)
  refine ⟨ra.1, ra.2, yS h hi ra rfl fun M h => ?_⟩
  exact k _ h.cG
 ·obtain ⟨ra, rb⟩ := o2 rfl
  refine uz ?_
  repeat (first|(refine ai h ?_;clear h;intro kb M h)|(refine ak h ?_;clear h;intro M h)|refine St.to h ?_|(apply Exists.intro;(repeat apply Exists.intro);refine And.intro rfl ?_)|refine ay ?_|refine aq ?_|refine au ?_)
  refine ⟨rb.1, rb.2, xx h hi rb rfl ?_⟩
  refine ⟨ra.1, ra.2, yS h hi ra rfl fun M h => ?_⟩
  exact k _ h.cG
 ·obtain ⟨ra, rb, rc⟩ := o3 (by simp)
  refine vH ?_
  repeat (first|(refine ai h ?_;clear h;intro kb M h)|(refine ak h ?_;clear h;intro M h)|refine St.to h ?_|(apply Exists.intro;(repeat apply Exists.intro);refine And.intro rfl ?_)|refine ay ?_|refine aq ?_|refine au ?_)
  refine ⟨rb.1, rb.2, xx h hi rb rfl ?_⟩
  repeat (first|(refine ai h ?_;clear h;intro kb M h)|(refine ak h ?_;clear h;intro M h)|refine St.to h ?_|(apply Exists.intro;(repeat apply Exists.intro);refine And.intro rfl ?_)|refine ay ?_|refine aq ?_|refine au ?_)
  refine ⟨rc.1, rc.2, xx h hi rc rfl ?_⟩
  refine ⟨ra.1, ra.2, yS h hi ra rfl fun M h => ?_⟩
  exact k _ h.cG
 ·obtain ⟨ra, rb, rc⟩ := o3 (by simp)
  refine vI ?_
  repeat (first|(refine ai h ?_;clear h;intro kb M h)|(refine ak h ?_;clear h;intro M h)|refine St.to h ?_|(apply Exists.intro;(repeat apply Exists.intro);refine And.intro rfl ?_)|refine ay ?_|refine aq ?_|refine au ?_)
  refine ⟨rb.1, rb.2, xx h hi rb rfl ?_⟩
  repeat (first|(refine ai h ?_;clear h;intro kb M h)|(refine ak h ?_;clear h;intro M h)|refine St.to h ?_|(apply Exists.intro;(repeat apply Exists.intro);refine And.intro rfl ?_)|refine ay ?_|refine aq ?_|refine au ?_)
  refine ⟨rc.1, rc.2, xx h hi rc rfl ?_⟩
  refine ⟨ra.1, ra.2, yS h hi ra rfl fun M h => ?_⟩
  exact k _ h.cG
 ·obtain ⟨ra, rb, rc⟩ := o3 (by simp)
  refine vJ ?_
  repeat (first|(refine ai h ?_;clear h;intro kb M h)|(refine ak h ?_;clear h;intro M h)|refine St.to h ?_|(apply Exists.intro;(repeat apply Exists.intro);refine And.intro rfl ?_)|refine ay ?_|refine aq ?_|refine au ?_)
  refine ⟨rb.1, rb.2, xx h hi rb rfl ?_⟩
  repeat (first|(refine ai h ?_;clear h;intro kb M h)|(refine ak h ?_;clear h;intro M h)|refine St.to h ?_|(apply Exists.intro;(repeat apply Exists.intro);refine And.intro rfl ?_)|refine ay ?_|refine aq ?_|refine au ?_)
  refine ⟨rc.1, rc.2, xx h hi rc rfl ?_⟩
  refine ⟨ra.1, ra.2, yS h hi ra rfl fun M h => ?_⟩
  exact k _ h.cG
 ·obtain ⟨ra, rb, rc⟩ := o3 (by simp)
  refine uA ?_
  repeat (first|(refine ai h ?_;clear h;intro kb M h)|(refine ak h ?_;clear h;intro M h)|refine St.to h ?_|(apply Exists.intro;(repeat apply Exists.intro);refine And.intro rfl ?_)|refine ay ?_|refine aq ?_|refine au ?_)
  refine ⟨rb.1, rb.2, xx h hi rb rfl ?_⟩
  repeat (first|(refine ai h ?_;clear h;intro kb M h)|(refine ak h ?_;clear h;intro M h)|refine St.to h ?_|(apply Exists.intro;(repeat apply Exists.intro);refine And.intro rfl ?_)|refine ay ?_|refine aq ?_|refine au ?_)
  refine ⟨rc.1, rc.2, xx h hi rc rfl ?_⟩
  repeat (first|(refine ai h ?_;clear h;intro kb M h)|(refine ak h ?_;clear h;intro M h)|refine St.to h ?_|(apply Exists.intro;(repeat apply Exists.intro);refine And.intro rfl ?_)|refine ay ?_|refine aq ?_|refine au ?_)
  refine ⟨ra.1, ra.2, yS h hi ra rfl fun M h => ?_⟩
  have e : f.pure ⟨((6 : Nat) : Int), xa, xb, xc⟩ = f.set xa (if f.bH xb < f.bH xc then 1 else 0) := rfl
  rw [e] at k
  refine aH.2 ⟨fun hl => ?_, fun hl => ?_⟩
  ·rw [if_pos hl] at k
   repeat (first|(refine ai h ?_;clear h;intro kb M h)|(refine ak h ?_;clear h;intro M h)|refine St.to h ?_|(apply Exists.intro;(repeat apply Exists.intro);refine And.intro rfl ?_)|refine ay ?_|refine aq ?_|refine au ?_)
   have hi2 : (l.set i (f.set xa 0))[i]? = some (f.set xa 0) := by simp [hlt]
   refine ⟨ra.1, ra.2, yS h hi2 ra rfl fun M h => ?_⟩
   rw [sI, eJ.set_set] at h
   exact k _ h.cG
  ·rw [if_neg hl] at k
   exact k _ h.cG
 ·refine uB ?_
  repeat (first|(refine ai h ?_;clear h;intro kb M h)|(refine ak h ?_;clear h;intro M h)|refine St.to h ?_|(apply Exists.intro;(repeat apply Exists.intro);refine And.intro rfl ?_)|refine ay ?_|refine aq ?_|refine au ?_)
  refine Ce h hi rfl fun M h => ?_
  exact k _ h.cG
 ·have ra : aR xa := o1 (by simp)
  refine qx ?_
  repeat (first|(refine ai h ?_;clear h;intro kb M h)|(refine ak h ?_;clear h;intro M h)|refine St.to h ?_|(apply Exists.intro;(repeat apply Exists.intro);refine And.intro rfl ?_)|refine ay ?_|refine aq ?_|refine au ?_)
  have e : f.pure ⟨((8 : Nat) : Int), xa, xb, xc⟩ = if f.bH xa ≠ 0 then { f with pc := xb } else f := rfl
  rw [e] at k
  refine ⟨ra.1, ra.2, xx h hi ra rfl ?_⟩
  refine dJ.2 ⟨fun hl => ?_, fun hl => ?_⟩
  ·rw [if_pos hl] at k
   repeat (first|(refine ai h ?_;clear h;intro kb M h)|(refine ak h ?_;clear h;intro M h)|refine St.to h ?_|(apply Exists.intro;(repeat apply Exists.intro);refine And.intro rfl ?_)|refine ay ?_|refine aq ?_|refine au ?_)
   refine Ce h hi rfl fun M h => ?_
   exact k _ h.cG
  ·rw [if_neg (by simpa using hl), hsame] at k
   exact k _ ((h.row (some ⟨b, 0, none⟩)).cG)
def XQ : AL := (List.range 9).map fun n : Nat => ((n : Int), .func (.func (fOp.getD n 0)) #[] #[])
theorem I8 (h : Hp R L M) (k : ∀ m M', Hp R (ob m (mR XQ) :: L) M' → K (.map (some m)) M') : ae Tryz.prog 153 #[] M K Kp := by
 refine BJ ?_
 refine Y4 h ?_
 clear h
 intro m M h
 replace h : Hp R (ob m (mR []) :: L) M := h
 have hu : Tryz.prog.underlying 302 = some (.map 32 300) := by kernel_rfl
 have hk : Tryz.prog.underlying 32 = some (.int .i64) := by kernel_rfl
 iterate 9
  refine zC h hu hk ?_
  clear h
  intro M h
 exact k _ _ h
theorem Mt (h : Hp R L M) [p : dF (some ⟨b, 0, none⟩) L eJ fV 234 c l L'] (hi : l[i]? = some f) (hx : x.cM) (h0 : 0 ≤ x.op) (hs : 0 ≤ f.pc ∧ f.pc < 1000000000)
  (k1 : x.op ≤ 8 → ∀ M', Hp R (vR (some ⟨b, 0, none⟩) c (l.set i (f.next.pure x)) :: L') M' → K (.bool true) M')
  (k2 : 8 < x.op → ∀ M', Hp R (vR (some ⟨b, 0, none⟩) c l :: L') M' → K (.bool false) M') :
  ae Tryz.prog 121 #[.pointer (some ⟨b, i * 11, none⟩), .agg #[.int .i64 x.op, .int .i64 x.a, .int .i64 x.b, .int .i64 x.c]] M K Kp := by
 have hlt := (List.getElem?_eq_some_iff.1 hi).1
 obtain ⟨q, hq⟩ := Int.eq_ofNat_of_zero_le h0
 refine uj ?_
 repeat (first|(refine ai h ?_;clear h;intro kb M h)|(refine ak h ?_;clear h;intro M h)|refine St.to h ?_|(apply Exists.intro;(repeat apply Exists.intro);refine And.intro rfl ?_)|refine ay ?_|refine aq ?_|refine au ?_)
 refine I8 h ?_
 clear h
 intro m M h
 repeat (first|(refine ai h ?_;clear h;intro kb M h)|(refine ak h ?_;clear h;intro M h)|refine St.to h ?_|(apply Exists.intro;(repeat apply Exists.intro);refine And.intro rfl ?_)|refine ay ?_|refine aq ?_|refine au ?_)
 have hu : Tryz.prog.underlying 302 = some (.map 32 300) := by kernel_rfl
 have hk : Tryz.prog.underlying 32 = some (.int .i64) := by kernel_rfl
 obtain ⟨ti, hti, htz⟩ : ∃ ti, Tryz.prog.info? 300 = some ti ∧ ti.zero = some .nilFunc := ⟨_, rfl, rfl⟩
 refine P1 h hu hk hti htz ?_
 refine ⟨_, _, rfl, cw h, ?_⟩
 by_cases h8 : x.op ≤ 8
 ·have hq8 : q ≤ 8 := by omega
  have hl : Dt XQ x.op = some (.func (.func (fOp.getD q 0)) #[] #[]) := by
   rw [hq]
   obtain rfl | rfl | rfl | rfl | rfl | rfl | rfl | rfl | rfl : q = 0 ∨ q = 1 ∨ q = 2 ∨ q = 3 ∨ q = 4 ∨ q = 5 ∨ q = 6 ∨ q = 7 ∨ q = 8 := by omega
   all_goals rfl
  rw [hl]
  refine aq ?_
  refine Cd h hi rfl ?_
  rw [jg (by omega) (by omega)]
  refine Ce h hi rfl ?_
  clear h
  intro M h
  have hi2 : (l.set i { f with pc := f.pc + 1 })[i]? = some f.next := by simp [hlt, eJ.next]
  repeat (first|(refine ai h ?_;clear h;intro kb M h)|(refine ak h ?_;clear h;intro M h)|refine St.to h ?_|(apply Exists.intro;(repeat apply Exists.intro);refine And.intro rfl ?_)|refine ay ?_|refine aq ?_|refine au ?_)
  have hg : 1 < fOp.getD q 0 ∧ fOp.getD q 0 < Cx.ok := by
   obtain rfl | rfl | rfl | rfl | rfl | rfl | rfl | rfl | rfl : q = 0 ∨ q = 1 ∨ q = 2 ∨ q = 3 ∨ q = 4 ∨ q = 5 ∨ q = 6 ∨ q = 7 ∨ q = 8 := by omega
   all_goals exact ⟨by decide, by show _ < 228; decide⟩
  refine I7 hg ?_
  refine UE (f := f.next) h hi2 hx q hq hq8 ?_
  clear h
  intro M h
  rw [sI] at h
  exact ⟨rfl, k1 h8 _ h.cG⟩
 ·have hl : Dt XQ x.op = none := by
   rw [XP, Ea]
   have : XQ.map (·.1) = [0, 1, 2, 3, 4, 5, 6, 7, 8] := by decide
   rw [this]; simp; omega
  rw [hl]
  refine au ?_
  exact k2 (by omega) _ ((h.row (some ⟨b, 0, none⟩)).cG)
end
section
variable {R : Mem} {L L' : List HP} {M : Mem} {K : Value → Mem → Prop} {Kp : List PanicEntry → Mem → Prop} {b i c : Nat} {l : List eJ} {f : eJ} {x : bY}
theorem oE {m : Nat} (hm : 0 < m) (h2 : m ≤ 1000000000) (k : K (.pointer (some ⟨b, (m - 1) * 11, none⟩)) M) : ae Tryz.prog 120 #[.slice (some ⟨b, 0, none⟩) m c] M K Kp := by
 refine vA ?_
 have e : IntKind.wrap .i64 ((m : Int) - 1) = ((m - 1 : Nat) : Int) := wn (by omega) (by omega)
 refine bh.2 ⟨fun h0 => by omega, fun _ => ?_⟩
 rw [e]
 refine ⟨by omega, by omega, aT ?_⟩
 simp only [Int.toNat_natCast, Nat.zero_add]
 exact k
theorem sJ {fn v : Int} (h : Hp R L M) (k : ∀ b M', Hp R (vR (some ⟨b, 0, none⟩) 1 [eJ.begin fn v] :: L) M' → K (.slice (some ⟨b, 0, none⟩) 1 1) M') : ae Tryz.prog 71 #[.int .i64 fn, .int .i64 v] M K Kp := by
 refine BG ?_
 refine ai h ?_
 clear h
 intro b M h
 exact k b M (h.gY (E := fV) (l := [eJ.begin fn v]) rfl)
theorem Mu {fn v mu : Int} {A : Option Addr} (h : Hp R L M) [p : dF A L eJ fV 234 c l L'] (hl : 0 < l.length)
  (k1 : 16 ≤ l.length → K (.tuple #[.slice A l.length c, .bool false]) M)
  (k2 : l.length < 16 → ∀ b c' M', Hp R (vR (some ⟨b, 0, none⟩) c' (l ++ [⟨fn, 0, [v, 0, 0, 0, 0, 0, 0, 0], mu⟩]) :: L) M' → K (.tuple #[.slice (some ⟨b, 0, none⟩) (l.length + 1) c', .bool true]) M') :
  ae Tryz.prog 211 #[.slice A l.length c, .int .i64 fn, .int .i64 v, .int .i64 mu] M K Kp := by
 refine uD ?_
 have hcap := h.nw A
 refine aH.2 ⟨fun mL => k1 (by omega), fun mL => ?_⟩
 refine ⟨by omega, by omega, by omega, by omega, by omega, by omega, ?_⟩
 refine ai h ?_
 clear h
 intro kb M h
 simp only [Int.toNat_natCast, Nat.sub_zero]
 have e : iZ A 0 l.length 11 = A := by
  obtain ⟨bb, rfl⟩ := h.bU (A := A) hl (by decide)
  unfold iZ
  rw [if_neg (by omega)]
  rfl
 rw [e]
 refine Hp.N5 (E := fV) (r := [⟨fn, 0, [v, 0, 0, 0, 0, 0, 0, 0], mu⟩]) h (h.src (A := A)) rfl Ms rfl rfl (by omega) (by simp; omega) ?_
 clear h
 intro b c' M h
 refine aU ?_
 have := k2 (by omega) b c' M h
 rwa [List.length_append]
theorem Gi {v : Int} {A : Option Addr} (h : Hp R L M) [p : dF A L eJ fV 234 c l L'] (hl : 0 < l.length) (hs : l.length ≤ 1000000)
  (UF : l[l.length - 1]? = some f) (hin : aR f.mu)
  (k1 : l.length < 2 → K (.tuple #[.slice none 0 0, .bool false]) M)
  (k2 : 2 ≤ l.length → ∀ b c' M', ∀ g, l[l.length - 2]? = some g → Hp R (vR (some ⟨b, 0, none⟩) c' ((l.take (l.length - 1)).set (l.length - 2) (g.set f.mu v)) :: L) M' → K (.tuple #[.slice (some ⟨b, 0, none⟩) (l.length - 1) c', .bool true]) M') :
  ae Tryz.prog 212 #[.slice A l.length c, .int .i64 v] M K Kp := by
 refine qy ?_
 have hcap := h.nw A
 refine aH.2 ⟨fun mL => k1 (by omega), fun mL => ?_⟩
 have e : IntKind.wrap .i64 ((l.length : Int) - 1) = ((l.length - 1 : Nat) : Int) := wn (by omega) (by omega)
 obtain ⟨ba, rfl⟩ := h.bU (A := A) hl (by decide)
 refine ai h ?_
 clear h
 intro kb M h
 rw [e]
 refine ⟨by omega, by omega, by omega, by omega, by omega, by omega, ?_⟩
 simp only [Int.toNat_natCast, Nat.sub_zero]
 have e2 : iZ (some ⟨ba, 0, none⟩) 0 c 11 = some ⟨ba, 0, none⟩ := by
  unfold iZ
  rw [if_neg (by omega)]
  rfl
 rw [e2]
 refine h.b6 fV Ms (l.take (l.length - 1)) ((h.src (A := some ⟨ba, 0, none⟩)).takeE _) (by simp) (by simp; omega) ?_
 clear h
 intro A' c' M h
 have hlen : (l.take (l.length - 1)).length = l.length - 1 := by simp
 obtain ⟨b', rfl⟩ := h.bU (A := A') (by omega) (by decide)
 refine aU ?_
 rw [hlen]
 refine oE (by omega) (by omega) ?_
 refine Bl (aT ?_)
 refine oE (by omega) (by omega) ?_
 refine Bl (aT ?_)
 refine aj (Src.at (h.src (A := some ⟨ba, 0, none⟩)) h (i := l.length - 1) (j := 10) UF rfl (by show _ = 0 + ((l.length - 1) * 11 + 10); omega)) ?_
 obtain ⟨g, hg⟩ := aL (l := l) (i := l.length - 2) (by omega)
 refine ⟨hin.1, hin.2, ?_⟩
 have P3 : (l.take (l.length - 1))[l.length - 2]? = some g := by rw [List.getElem?_take, if_pos (by omega)]; exact hg
 refine yS h P3 hin (by omega) ?_
 clear h
 intro M h
 exact k2 (by omega) b' c' M g hg h
abbrev vS (A : Option Addr) (c : Nat) (l : List Int) : HP := cu bR 3 A c l
def fh : xJ Lk := ⟨fun b x => exs fun A : Option Addr => exs fun c : Nat => sep [pt b [.int .i64 x.owner, .slice A x.waits.length c] 238, vS A c x.waits]⟩
def Lk.take (x : Lk) (g : Int) : Lk × Bool := if x.owner = -1 then (⟨g, x.waits⟩, true) else (⟨x.owner, x.waits ++ [g]⟩, false)
def Lk.gR (x : Lk) (g : Int) : Lk × Int × Int :=
 if x.owner = -1 ∨ x.owner ≠ g then (x, -1, 5) else (⟨x.waits.headD (-1), x.waits.tail⟩, x.waits.headD (-1), 0)
variable {y : Lk}
theorem tD (h : Hp R L M) [o : gk fh b L y L'] : ∃ A c, Hp R (pt b [.int .i64 y.owner, .slice A y.waits.length c] 238 :: vS A c y.waits :: L') M := by
 have := h.obj fh b
 simpa only [fh, Hp.oY, Hp.cW, List.cons_append, List.nil_append] using this
theorem g9 {A : Option Addr} {n c : Nat} {o : Int} {ws : List Int} {L1 L2 : List HP} (h : Hp R L M) (b : Nat) [p : nv b L [.int .i64 o, .slice A n c] 238 L1] [p1 : dF A L1 Int bR 3 c ws L2] (e : n = ws.length := by first | rfl | simp) : Hp R (bl fh b ⟨o, ws⟩ :: L2) M := by
 subst e
 refine Hp.RL ?_
 simp only [fh, Hp.oY, Hp.cW, List.cons_append, List.nil_append]
 exact ⟨_, _, h.sub (.cons p.pick (.cons p1.pick .refl))⟩
theorem Eb (h : Hp R L M) (k : ∀ b M', Hp R (bl fh b ⟨-1, []⟩ :: L) M' → K (.pointer (some ⟨b, 0, none⟩)) M') : ae Tryz.prog 73 #[] M K Kp := by
 refine Fs ?_
 refine ai h ?_
 clear h
 intro b M h
 have h := h.dz bR 3
 exact k b M (g9 h b)
theorem Mv {g : Int} (h : Hp R L M) [o : gk fh b L y L'] (hs : y.waits.length ≤ 1000000000) (k : ∀ M', Hp R (bl fh b (y.take g).1 :: L') M' → K (.bool (y.take g).2) M') :
  ae Tryz.prog 215 #[.pointer (some ⟨b, 0, none⟩), .int .i64 g] M K Kp := by
 refine vK ?_
 have h' := tD h (b := b)
 clear h
 obtain ⟨A, c, h⟩ := h'
 repeat (first|(refine ai h ?_;clear h;intro kb M h)|(refine ak h ?_;clear h;intro M h)|refine St.to h ?_|(apply Exists.intro;(repeat apply Exists.intro);refine And.intro rfl ?_)|refine ay ?_|refine aq ?_|refine au ?_)
 unfold Lk.take at k
 refine dJ.2 ⟨fun hn => ?_, fun hn => ?_⟩
 ·rw [if_neg hn] at k
  repeat (first|(refine ai h ?_;clear h;intro kb M h)|(refine ak h ?_;clear h;intro M h)|refine St.to h ?_|(apply Exists.intro;(repeat apply Exists.intro);refine And.intro rfl ?_)|refine ay ?_|refine aq ?_|refine au ?_)
  refine h.aZ jP [g] rfl rfl (by simp; omega) ?_
  clear h
  intro A' c' M h
  repeat (first|(refine ai h ?_;clear h;intro kb M h)|(refine ak h ?_;clear h;intro M h)|refine St.to h ?_|(apply Exists.intro;(repeat apply Exists.intro);refine And.intro rfl ?_)|refine ay ?_|refine aq ?_|refine au ?_)
  exact k _ (g9 h b).cG
 ·rw [if_pos hn] at k
  repeat (first|(refine ai h ?_;clear h;intro kb M h)|(refine ak h ?_;clear h;intro M h)|refine St.to h ?_|(apply Exists.intro;(repeat apply Exists.intro);refine And.intro rfl ?_)|refine ay ?_|refine aq ?_|refine au ?_)
  exact k _ (g9 h b).cG
theorem Mw {g : Int} (h : Hp R L M) [o : gk fh b L y L'] (hs : y.waits.length ≤ 1000000000) (k : ∀ M', Hp R (bl fh b (y.gR g).1 :: L') M' → K (.tuple #[.int .i64 (y.gR g).2.1, .int .i64 (y.gR g).2.2]) M') :
  ae Tryz.prog 216 #[.pointer (some ⟨b, 0, none⟩), .int .i64 g] M K Kp := by
 refine vL ?_
 obtain ⟨ow, ws⟩ := y
 have h' := tD h (b := b)
 clear h
 obtain ⟨A, c, h⟩ := h'
 dsimp only at h hs
 repeat (first|(refine ai h ?_;clear h;intro kb M h)|(refine ak h ?_;clear h;intro M h)|refine St.to h ?_|(apply Exists.intro;(repeat apply Exists.intro);refine And.intro rfl ?_)|refine ay ?_|refine aq ?_|refine au ?_)
 unfold Lk.gR at k
 refine bh.2 ⟨fun hn => ?_, fun hn => ?_⟩
 ·rw [if_pos (.inl hn)] at k
  exact k _ (g9 h b).cG
 repeat (first|(refine ai h ?_;clear h;intro kb M h)|(refine ak h ?_;clear h;intro M h)|refine St.to h ?_|(apply Exists.intro;(repeat apply Exists.intro);refine And.intro rfl ?_)|refine ay ?_|refine aq ?_|refine au ?_)
 refine dJ.2 ⟨fun td => ?_, fun td => ?_⟩
 ·rw [if_pos (.inr td)] at k
  exact k _ (g9 h b).cG
 rw [if_neg (by rintro (h | h) <;> contradiction)] at k
 repeat (first|(refine ai h ?_;clear h;intro kb M h)|(refine ak h ?_;clear h;intro M h)|refine St.to h ?_|(apply Exists.intro;(repeat apply Exists.intro);refine And.intro rfl ?_)|refine ay ?_|refine aq ?_|refine au ?_)
 refine aH.2 ⟨fun hr => ?_, fun hr => ?_⟩
 ·cases ws with
  | nil => simp at hr
  | cons w r =>
   repeat (first|(refine ai h ?_;clear h;intro kb M h)|(refine ak h ?_;clear h;intro M h)|refine St.to h ?_|(apply Exists.intro;(repeat apply Exists.intro);refine And.intro rfl ?_)|refine ay ?_|refine aq ?_|refine au ?_)
   obtain ⟨q, rfl⟩ := h.bU (A := A) (by simp) (by decide)
   repeat (first|(refine ai h ?_;clear h;intro kb M h)|(refine ak h ?_;clear h;intro M h)|refine St.to h ?_|(apply Exists.intro;(repeat apply Exists.intro);refine And.intro rfl ?_)|refine ay ?_|refine aq ?_|refine au ?_)
   refine aj (Src.at (h.src (A := some ⟨q, 0, none⟩)) h (i := 0) (j := 0) rfl rfl (by simp [bR])) ?_
   have hcap := h.nw (some ⟨q, 0, none⟩)
   have hlen : r.length + 1 ≤ 1000000000 := by simpa using hs
   repeat (first|(refine ai h ?_;clear h;intro kb M h)|(refine ak h ?_;clear h;intro M h)|refine St.to h ?_|(apply Exists.intro;(repeat apply Exists.intro);refine And.intro rfl ?_)|refine ay ?_|refine aq ?_|refine au ?_)
   simp only [Int.toNat_natCast]
   refine h.b6 bR jP r ((h.src (A := some ⟨q, 0, none⟩)).drop (m := 1) hcap) (by simp) (by omega) ?_
   clear h
   intro A' c' M h
   repeat (first|(refine ai h ?_;clear h;intro kb M h)|(refine ak h ?_;clear h;intro M h)|refine St.to h ?_|(apply Exists.intro;(repeat apply Exists.intro);refine And.intro rfl ?_)|refine ay ?_|refine aq ?_|refine au ?_)
   exact k _ (g9 h b).cG
 ·cases ws with
  | cons v l => simp at hr
  | nil =>
   repeat (first|(refine ai h ?_;clear h;intro kb M h)|(refine ak h ?_;clear h;intro M h)|refine St.to h ?_|(apply Exists.intro;(repeat apply Exists.intro);refine And.intro rfl ?_)|refine ay ?_|refine aq ?_|refine au ?_)
   exact k _ (g9 h b).cG
end
structure PA where
 f : Option Addr
 fc : Nat
 c : Option Addr
 cc : Nat
 k : Option Addr
 kc : Nat
abbrev GA := Option Addr × Nat
abbrev sK (y : gG) (A : Option Addr) (c : Nat) : List Value := [.int .i64 y.st, .slice A y.fs.length c, .int .i64 y.wt.op, .int .i64 y.wt.a, .int .i64 y.wt.b, .int .i64 y.wt.c]
def gj : xJ (gG × GA) := ⟨fun b x => sep [pt b (sK x.1 x.2.1 x.2.2) 182, vR x.2.1 x.2.2 x.1.fs]⟩
structure WA where
 ag : Option Addr
 cg : Nat
 gb : List Nat
 ac : Option Addr
 cc : Nat
 cb : List Nat
 al : Option Addr
 cl : Nat
 lb : List Nat
 ah : Option Addr
 ch : Nat
 ao : Option Addr
 co : Nat
 ar : Option Addr
 cr : Nat
abbrev nE (pa : PA) (p : cy) (dr : Value) (a : WA) (x : Wd) : List Value :=
 [.slice pa.f p.funcs.length pa.fc, .slice pa.c p.dB.length pa.cc, .int .i64 p.aC, .slice pa.k p.cases.length pa.kc, .slice a.ag a.gb.length a.cg, .int .u64 x.clock,
  .slice a.ac a.cb.length a.cc, .slice a.al a.lb.length a.cl, .slice a.ah x.hl.length a.ch, .int .u64 x.di, .slice a.ao x.out.length a.co, .int .i64 x.end_, .int .i64 x.code, .slice a.ar x.ready.length a.cr, dr]
abbrev zD (A : Option Addr) (c : Nat) (l : List Nat) : HP := cu nx 177 A c l
abbrev zE (A : Option Addr) (c : Nat) (l : List Nat) : HP := cu nx 183 A c l
abbrev zF (A : Option Addr) (c : Nat) (l : List Nat) : HP := cu nx 185 A c l
abbrev eV (A : Option Addr) (c : Nat) (l : List aN) : HP := cu g6 205 A c l
abbrev u9 (a : WA) (x : Wd) (L : List HP) : List HP :=
 zD a.ag a.cg a.gb :: zE a.ac a.cc a.cb :: cN bL a.cb x.av :: zF a.al a.cl a.lb :: cN fh a.lb x.aC :: eV a.ah a.ch x.hl :: rf a.ao a.co x.out :: vS a.ar a.cr x.ready :: L
def fS (gg : List GA) (a : WA) (x : Wd) : Prop := a.gb.length = x.gs.length ∧ gg.length = x.gs.length ∧ a.cb.length = x.av.length ∧ a.lb.length = x.aC.length
def bI (pa : PA) (p : cy) (gg : List GA) (dr : Value) : xJ Wd := ⟨fun b x => exs fun a : WA =>
 sep (pt b (nE pa p dr a x) 164 :: cN gj a.gb (x.gs.zip gg) :: fact (fS gg a x) :: u9 a x [])⟩
class yT (b : Nat) (L : List HP) (pa : outParam PA) (p : outParam cy) (gg : outParam (List GA)) (dr : outParam Value) (x : outParam Wd) (L' : outParam (List HP)) : Prop where
 pick : eB L (bl (bI pa p gg dr) b x) L'
instance yT.here {pa : PA} {p : cy} {gg : List GA} {dr : Value} {b : Nat} {x : Wd} {L : List HP} : yT b (bl (bI pa p gg dr) b x :: L) pa p gg dr x L := ⟨.here⟩
instance (priority := low) yT.there {pa : PA} {p : cy} {gg : List GA} {dr : Value} {b : Nat} {x : Wd} {Q : HP} {L L' : List HP} [h : yT b L pa p gg dr x L'] : yT b (Q :: L) pa p gg dr x (Q :: L') := ⟨.there h.pick⟩
section
variable {R : Mem} {L L' : List HP} {M : Mem} {K : Value → Mem → Prop} {Kp : List PanicEntry → Mem → Prop} {pa : PA} {p : cy} {gg : List GA} {dr : Value} {b : Nat} {x : Wd}
theorem cV (h : Hp R L M) [o : yT b L pa p gg dr x L'] : ∃ a : WA, fS gg a x ∧ Hp R (pt b (nE pa p dr a x) 164 :: cN gj a.gb (x.gs.zip gg) :: u9 a x L') M := by
 have := h.pick o.pick
 unfold bl at this
 simp only [bI, u9, Hp.oY, Hp.cW, List.cons_append, List.nil_append] at this
 obtain ⟨a, h⟩ := this
 have h2 := h.pick (P := fact (fS gg a x)) (.there (.there .here))
 exact ⟨a, (Hp.kJ.1 h2).1, (Hp.kJ.1 h2).2⟩
theorem kQ {a : WA} (hl : fS gg a x) (h : Hp R (pt b (nE pa p dr a x) 164 :: cN gj a.gb (x.gs.zip gg) :: u9 a x L) M) : Hp R (bl (bI pa p gg dr) b x :: L) M := by
 refine Hp.RL ?_
 simp only [bI, u9, Hp.oY, Hp.cW, List.cons_append, List.nil_append]
 refine ⟨a, ?_⟩
 have h2 : Hp R (fact (fS gg a x) :: pt b (nE pa p dr a x) 164 :: cN gj a.gb (x.gs.zip gg) :: u9 a x L) M := Hp.kJ.2 ⟨hl, h⟩
 exact h2.yd (.there (.there .here))
theorem bq {a : WA} {L0 L1 L2 L3 L4 L5 L6 L7 L8 L9 : List HP} (hl : fS gg a x) (h : Hp R L M) (b : Nat)
  [p0 : nv b L (nE pa p dr a x) 164 L0] [p1 : iE gj L0 a.gb (x.gs.zip gg) L1] [p2 : dF a.ag L1 Nat nx 177 a.cg a.gb L2] [p3 : dF a.ac L2 Nat nx 183 a.cc a.cb L3]
  [p4 : iE bL L3 a.cb x.av L4] [p5 : dF a.al L4 Nat nx 185 a.cl a.lb L5] [p6 : iE fh L5 a.lb x.aC L6] [p7 : dF a.ah L6 aN g6 205 a.ch x.hl L7] [p8 : dF a.ao L7 Int bR 2 a.co x.out L8]
  [p9 : dF a.ar L8 Int bR 3 a.cr x.ready L9] : Hp R (bl (bI pa p gg dr) b x :: L9) M :=
 kQ hl (h.sub (.cons p0.pick (.cons p1.pick (.cons p2.pick (.cons p3.pick (.cons p4.pick (.cons p5.pick (.cons p6.pick (.cons p7.pick (.cons p8.pick (.cons p9.pick .refl)))))))))))
theorem I9 {α β : Type} : ∀ {l : List α} {m : List β} {i : Nat} {u : α} {v : β}, m[i]? = some v → (l.zip m).set i (u, v) = (l.set i u).zip m
 | [], _, _, _, _, _ => by simp
 | a :: l, [], i, u, v, h => by simp at h
 | a :: l, w :: m, 0, u, v, h => by simp at h; subst h; rfl
 | a :: l, w :: m, i + 1, u, v, h => by
  have := I9 (l := l) (u := u) (show m[i]? = some v from by simpa using h)
  simp [this]
theorem m6 {α β : Type} : ∀ {l : List α} {m : List β} {i : Nat} {u : α} {v : β}, l[i]? = some u → m[i]? = some v → (l.zip m)[i]? = some (u, v)
 | [], _, _, _, _, h, _ => by simp at h
 | a :: l, [], i, u, v, _, h => by simp at h
 | a :: l, w :: m, 0, u, v, h, g => by simp at h g; subst h; subst g; rfl
 | a :: l, w :: m, i + 1, u, v, h, g => by simpa using m6 (show l[i]? = some u from by simpa using h) (show m[i]? = some v from by simpa using g)
theorem mz {c : Nat} {y : gG} {A : Option Addr} (h : Hp R L M) [o : gk gj b L (y, (A, c)) L'] : Hp R (pt b (sK y A c) 182 :: vR A c y.fs :: L') M := by
 have := h.obj gj b
 simpa only [gj, Hp.cW, List.cons_append, List.nil_append] using this
theorem oF {A : Option Addr} {n c : Nat} {st o1 o2 o3 o4 : Int} {fs : List eJ} {L1 L2 : List HP} (h : Hp R L M) (b : Nat) [p : nv b L [.int .i64 st, .slice A n c, .int .i64 o1, .int .i64 o2, .int .i64 o3, .int .i64 o4] 182 L1] [p1 : dF A L1 eJ fV 234 c fs L2]
  (e : n = fs.length := by first | rfl | simp) : Hp R (bl gj b (⟨st, fs, ⟨o1, o2, o3, o4⟩⟩, (A, c)) :: L2) M := by
 subst e
 refine Hp.RL ?_
 simp only [gj, Hp.cW, List.cons_append, List.nil_append]
 exact h.sub (.cons p.pick (.cons p1.pick .refl))
theorem kS {g : Int} (h : Hp R L M) [o : yT b L pa p gg dr x L'] (h0 : 0 ≤ g) (hg : g < x.gs.length) :
  ∃ (a : WA) (gb : Nat) (A : Option Addr) (c : Nat), fS gg a x ∧ a.gb[g.toNat]? = some gb ∧ gg[g.toNat]? = some (A, c) ∧
   Hp R (pt gb (sK (aa x g) A c) 182 :: vR A c (aa x g).fs :: pt b (nE pa p dr a x) 164 :: zx gj a.gb (x.gs.zip gg) g.toNat :: u9 a x L') M := by
 obtain ⟨a, hl, h1⟩ := cV h (b := b)
 obtain ⟨l1, l2, l3, l4⟩ := hl
 obtain ⟨gb, gm⟩ := aL (l := a.gb) (i := g.toNat) (by omega)
 obtain ⟨⟨A, c⟩, fN⟩ := aL (l := gg) (i := g.toNat) (by omega)
 obtain ⟨y, hy⟩ := aL (l := x.gs) (i := g.toNat) (by omega)
 have e : aa x g = y := by simp [aa, hy]
 rw [e]
 have h2 := h1.eG gj gm (m6 hy fN)
 have h3 := mz (b := gb) h2
 exact ⟨a, gb, A, c, ⟨l1, l2, l3, l4⟩, gm, fN, h3.sub bx⟩
theorem dx {a : WA} {A : Option Addr} {c n : Nat} {g : Int} {st o1 o2 o3 o4 : Int} {fs : List eJ} {L1 L2 L3 : List HP} (h : Hp R L M) (gb : Nat) (hl : fS gg a x) (gm : a.gb[g.toNat]? = some gb) (fN : gg[g.toNat]? = some (A, c))
  [p1 : nv gb L [.int .i64 st, .slice A n c, .int .i64 o1, .int .i64 o2, .int .i64 o3, .int .i64 o4] 182 L1] [p2 : dF A L1 eJ fV 234 c fs L2]
  [p3 : zy gj L2 a.gb (x.gs.zip gg) g.toNat L3] (e : n = fs.length := by first | rfl | simp) : Hp R (cN gj a.gb ((x.gs.set g.toNat ⟨st, fs, ⟨o1, o2, o3, o4⟩⟩).zip gg) :: L3) M := by
 have h1 := oF h gb e
 obtain ⟨l1, l2, l3, l4⟩ := hl
 have hi := (List.getElem?_eq_some_iff.1 gm).1
 have h2 := h1.gM gj gb gm (by rw [List.length_zip]; omega)
 rwa [I9 fN] at h2
end
section
variable {R : Mem} {L L' : List HP} {M : Mem} {K : Value → Mem → Prop} {Kp : List PanicEntry → Mem → Prop} {pa : PA} {p : cy} {gg : List GA} {dr : Value} {b : Nat} {x : Wd}
theorem UG {A : Option Addr} {l : List Nat} {T c q i bb : Nat} (h : Hp R L M) [r : dF A L Nat nx T c l L'] (hq : A = some ⟨q, 0, none⟩) (hb : l[i]? = some bb) : M.ld ⟨q, 0 + i, none⟩ = some (.pointer (some ⟨bb, 0, none⟩)) := by
 subst hq
 exact Src.at (h.src (A := some ⟨q, 0, none⟩)) h (i := i) (j := 0) hb rfl (by simp [nx])
theorem vT {A : Option Addr} {l : List Nat} {T c bb i : Nat} {G : Nat → Nat → Option Addr → Prop} (h : Hp R L M) [r : dF A L Nat nx T c l L'] (hb : l[i]? = some bb) (k : ∀ q, A = some ⟨q, 0, none⟩ → G q 0 (some ⟨bb, 0, none⟩)) :
  aE A fun k4 k5 => dP (M.ld ⟨k4, k5 + i, none⟩) fun A6 => G k4 k5 A6 := by
 obtain ⟨q, hq⟩ := h.bU (A := A) (by have := (List.getElem?_eq_some_iff.1 hb).1; omega) (by decide)
 have h2 := UG h hq hb
 subst hq
 refine aT ?_
 rw [h2]
 exact Bl (k q rfl)
theorem jh {g : Int} (h : Hp R L M) [o : yT b L pa p gg dr x L'] (h0 : 0 ≤ g) (hg : g < x.gs.length) (hr : x.ready.length ≤ 1000000000)
  (k : ∀ M', Hp R (bl (bI pa p gg dr) b (x.eU g) :: L') M' → K (.tuple #[]) M') : ae Tryz.prog 90 #[.pointer (some ⟨b, 0, none⟩), .int .i64 g] M K Kp := by
 refine uh ?_
 have h' := kS h (b := b) h0 hg
 clear h
 obtain ⟨a, gb, A, c, hl, gm, fN, h⟩ := h'
 have hl' := hl
 obtain ⟨l1, l2, l3, l4⟩ := hl'
 repeat (first|(refine ai h ?_;clear h;intro kb M h)|(refine ak h ?_;clear h;intro M h)|refine St.to h ?_|(apply Exists.intro;(repeat apply Exists.intro);refine And.intro rfl ?_)|refine ay ?_|refine aq ?_|refine au ?_)
 refine vT h gm fun q hq => ?_
 repeat (first|(refine ai h ?_;clear h;intro kb M h)|(refine ak h ?_;clear h;intro M h)|refine St.to h ?_|(apply Exists.intro;(repeat apply Exists.intro);refine And.intro rfl ?_)|refine ay ?_|refine aq ?_|refine au ?_)
 refine h.aZ jP [g] rfl rfl (by simp; omega) ?_
 clear h
 intro A' c' M h
 repeat (first|(refine ai h ?_;clear h;intro kb M h)|(refine ak h ?_;clear h;intro M h)|refine St.to h ?_|(apply Exists.intro;(repeat apply Exists.intro);refine And.intro rfl ?_)|refine ay ?_|refine aq ?_|refine au ?_)
 replace h := dx h gb hl gm fN
 exact k _ (kQ (a := { a with ar := A', cr := c' }) ⟨by simpa [Wd.eU, Wd.bp] using l1, by simpa [Wd.eU, Wd.bp] using l2, l3, l4⟩ (h.sub bx))
theorem bS {y : gG} (h : 0 < y.fs.length) : y.fs[y.fs.length - 1]? = some y.top := by
 unfold gG.top
 rw [List.getD_eq_getElem?_getD, List.getElem?_eq_getElem (by omega)]; rfl
theorem dV {a : WA} {g : Int} {y : gG} (hl : fS gg a x) : fS gg a (x.bp g y) := by
 obtain ⟨l1, l2, l3, l4⟩ := hl
 exact ⟨by simpa [Wd.bp] using l1, by simpa [Wd.bp] using l2, l3, l4⟩
theorem m7 {g : Int} {i : bY} (h : Hp R L M) [o : yT b L pa p gg dr x L'] (h0 : 0 ≤ g) (hg : g < x.gs.length)
  (k : ∀ M', Hp R (bl (bI pa p gg dr) b (x.block g i) :: L') M' → K (.tuple #[]) M') : ae Tryz.prog 158 #[.pointer (some ⟨b, 0, none⟩), .int .i64 g, .agg #[.int .i64 i.op, .int .i64 i.a, .int .i64 i.b, .int .i64 i.c]] M K Kp := by
 refine rG ?_
 have h' := kS h (b := b) h0 hg
 clear h
 obtain ⟨a, gb, A, c, hl, gm, fN, h⟩ := h'
 have hl' := hl
 obtain ⟨l1, l2, l3, l4⟩ := hl'
 repeat (first|(refine ai h ?_;clear h;intro kb M h)|(refine ak h ?_;clear h;intro M h)|refine St.to h ?_|(apply Exists.intro;(repeat apply Exists.intro);refine And.intro rfl ?_)|refine ay ?_|refine aq ?_|refine au ?_)
 refine vT h gm fun q hq => ?_
 repeat (first|(refine ai h ?_;clear h;intro kb M h)|(refine ak h ?_;clear h;intro M h)|refine St.to h ?_|(apply Exists.intro;(repeat apply Exists.intro);refine And.intro rfl ?_)|refine ay ?_|refine aq ?_|refine au ?_)
 refine vT h gm fun q2 Mx => ?_
 repeat (first|(refine ai h ?_;clear h;intro kb M h)|(refine ak h ?_;clear h;intro M h)|refine St.to h ?_|(apply Exists.intro;(repeat apply Exists.intro);refine And.intro rfl ?_)|refine ay ?_|refine aq ?_|refine au ?_)
 replace h := dx h gb hl gm fN
 exact k _ (kQ (a := a) (dV hl) (h.sub bx))
theorem xy {g kk : Int} (h : Hp R L M) [o : yT b L pa p gg dr x L'] (hg : aW x g) (hc : aR (aa x g).wt.c) (hs : x.Sm)
  (k : ∀ M', Hp R (bl (bI pa p gg dr) b (x.cU g kk) :: L') M' → K (.tuple #[]) M') : ae Tryz.prog 223 #[.pointer (some ⟨b, 0, none⟩), .int .i64 g, .int .i64 kk] M K Kp := by
 refine qz ?_
 obtain ⟨h0, h1, h2, h3⟩ := hg
 obtain ⟨s1, s2, s3, s4, s5, s6, s7, s8⟩ := hs
 have h' := kS h (b := b) h0 h1
 clear h
 obtain ⟨a, gb, A, c, hl, gm, fN, h⟩ := h'
 have hl' := hl
 obtain ⟨l1, l2, l3, l4⟩ := hl'
 repeat (first|(refine ai h ?_;clear h;intro kb M h)|(refine ak h ?_;clear h;intro M h)|refine St.to h ?_|(apply Exists.intro;(repeat apply Exists.intro);refine And.intro rfl ?_)|refine ay ?_|refine aq ?_|refine au ?_)
 refine vT h gm fun q hq => ?_
 repeat (first|(refine ai h ?_;clear h;intro kb M h)|(refine ak h ?_;clear h;intro M h)|refine St.to h ?_|(apply Exists.intro;(repeat apply Exists.intro);refine And.intro rfl ?_)|refine ay ?_|refine aq ?_|refine au ?_)
 refine vT h gm fun q2 Mx => ?_
 repeat (first|(refine ai h ?_;clear h;intro kb M h)|(refine ak h ?_;clear h;intro M h)|refine St.to h ?_|(apply Exists.intro;(repeat apply Exists.intro);refine And.intro rfl ?_)|refine ay ?_|refine aq ?_|refine au ?_)
 obtain ⟨bs, rfl⟩ := h.bU (A := A) h2 (by decide)
 refine oE h2 (by omega) ?_
 repeat (first|(refine ai h ?_;clear h;intro kb M h)|(refine ak h ?_;clear h;intro M h)|refine St.to h ?_|(apply Exists.intro;(repeat apply Exists.intro);refine And.intro rfl ?_)|refine ay ?_|refine aq ?_|refine au ?_)
 refine ⟨hc.1, hc.2, yS h (bS h2) hc rfl ?_⟩
 clear h
 intro M h
 repeat (first|(refine ai h ?_;clear h;intro kb M h)|(refine ak h ?_;clear h;intro M h)|refine St.to h ?_|(apply Exists.intro;(repeat apply Exists.intro);refine And.intro rfl ?_)|refine ay ?_|refine aq ?_|refine au ?_)
 refine Ih h (Src.row (A := a.ac)) rfl (by omega) l3 (fun c hc => (s1 c hc).mono (by omega)) ?_
 clear h
 intro M h
 refine ⟨rfl, ?_⟩
 replace h := dx h gb hl gm fN
 exact k _ (kQ (a := a) (x := x.cU g kk) ⟨by simpa [Wd.cU, Wd.leave, Wd.aV, Wd.bp] using l1, by simpa [Wd.cU, Wd.leave, Wd.aV, Wd.bp] using l2, by simpa [Wd.cU, Wd.leave, Wd.aV, Wd.bp] using l3, l4⟩ (h.sub bx))
end
theorem jU {x : Wd} {g q v : Int} (h : aW x g) : aa (x.aV g q v) g = (aa x g).bW ((aa x g).top.set q v) := iu h.1 h.2.1
theorem gv {x : Wd} {g q v : Int} (h : aW x g) : aW (x.aV g q v) g := by
 obtain ⟨h0, h1, h2, h3⟩ := h
 refine ⟨h0, by simpa [Wd.aV, Wd.bp] using h1, ?_, ?_⟩ <;> rw [jU ⟨h0, h1, h2, h3⟩] <;> simpa [gG.bW]
theorem Ec {x : Wd} {g q v : Int} (h : aW x g) : (aa (x.aV g q v) g).wt = (aa x g).wt := by rw [jU h]; rfl
theorem xz {x : Wd} {g k : Int} (h : aW x g) : aW (x.cU g k) g := gv h
theorem AD {x : Wd} {g : Int} {y : gG} (h : x.Sm) : (x.bp g y).Sm := by
 obtain ⟨s1, s2, s3, s4⟩ := h
 exact ⟨s1, s2, by simpa [Wd.bp] using s3, s4⟩
theorem dD {z : Int} (h0 : 0 ≤ z) (h : z < 9223372036854775808) : IntKind.wrap .i64 z = z := by
 obtain ⟨n, rfl⟩ := Int.eq_ofNat_of_zero_le h0
 exact nW (by omega)
section
variable {R : Mem} {L L' : List HP} {M : Mem} {K : Value → Mem → Prop} {Kp : List PanicEntry → Mem → Prop} {pa : PA} {p : cy} {gg : List GA} {dr : Value} {b : Nat} {x : Wd}
theorem cas_at {A : Option Addr} {c : Nat} {l : List m5} {q : Int} {G : Nat → Nat → Int → Prop} (h : Hp R L M) (hp : RS gP R A c l) (h0 : 0 ≤ q) (hq : q < l.length) (k : ∀ b o, G b o (l.getD q.toNat ⟨0, 0, 0⟩).bH) :
  aE A fun b o => bF (M.ld ⟨b, ((o + q.toNat * 3) + 2), none⟩) .i64 fun n => G b o n := by
 obtain ⟨bb, o, rfl⟩ := hp.some (by omega) (by decide)
 obtain ⟨y, hy⟩ := aL (l := l) (i := q.toNat) (by omega)
 have e : l.getD q.toNat ⟨0, 0, 0⟩ = y := by simp [hy]
 refine aT ?_
 refine aj (Src.at (hp.src (L := L)) h (i := q.toNat) (j := 2) hy rfl (by show _ = o + (q.toNat * 3 + 2); omega)) ?_
 have := k bb o
 rwa [e] at this
theorem sL {v : Wt} {some : Int} (h : Hp R L M) [o : yT b L pa p gg dr x L'] (hp : RS gP R pa.k pa.kc p.cases) (hv : lA p x v) (hs : x.Sm)
  (k : ∀ M', Hp R (bl (bI pa p gg dr) b (x.received p v some) :: L') M' → K (.tuple #[]) M') : ae Tryz.prog 208 #[.pointer (Option.some ⟨b, 0, none⟩), .agg #[.int .i64 v.g, .int .i64 v.cs, .int .i64 v.v], .int .i64 some] M K Kp := by
 refine ov ?_
 obtain ⟨hg, hv⟩ := hv
 have Gj := hg
 obtain ⟨h0, h1, h2, h3⟩ := Gj
 have hs' := hs
 obtain ⟨s1, s2, s3, s4, s5, s6, s7, s8⟩ := hs'
 have h' := kS h (b := b) h0 h1
 clear h
 obtain ⟨a, gb, A, c, hl, gm, fN, h⟩ := h'
 have hl' := hl
 obtain ⟨l1, l2, l3, l4⟩ := hl'
 repeat (first|(refine ai h ?_;clear h;intro kb M h)|(refine ak h ?_;clear h;intro M h)|refine St.to h ?_|(apply Exists.intro;(repeat apply Exists.intro);refine And.intro rfl ?_)|refine ay ?_|refine aq ?_|refine au ?_)
 refine vT h gm fun q hq => ?_
 repeat (first|(refine ai h ?_;clear h;intro kb M h)|(refine ak h ?_;clear h;intro M h)|refine St.to h ?_|(apply Exists.intro;(repeat apply Exists.intro);refine And.intro rfl ?_)|refine ay ?_|refine aq ?_|refine au ?_)
 refine vT h gm fun q2 Mx => ?_
 repeat (first|(refine ai h ?_;clear h;intro kb M h)|(refine ak h ?_;clear h;intro M h)|refine St.to h ?_|(apply Exists.intro;(repeat apply Exists.intro);refine And.intro rfl ?_)|refine ay ?_|refine aq ?_|refine au ?_)
 obtain ⟨bs, rfl⟩ := h.bU (A := A) h2 (by decide)
 refine oE h2 (by omega) ?_
 repeat (first|(refine ai h ?_;clear h;intro kb M h)|(refine ak h ?_;clear h;intro M h)|refine St.to h ?_|(apply Exists.intro;(repeat apply Exists.intro);refine And.intro rfl ?_)|refine ay ?_|refine aq ?_|refine au ?_)
 refine ⟨UG h Mx gm, ?_⟩
 repeat (first|(refine ai h ?_;clear h;intro kb M h)|(refine ak h ?_;clear h;intro M h)|refine St.to h ?_|(apply Exists.intro;(repeat apply Exists.intro);refine And.intro rfl ?_)|refine ay ?_|refine aq ?_|refine au ?_)
 refine ⟨UG h Mx gm, ?_⟩
 repeat (first|(refine ai h ?_;clear h;intro kb M h)|(refine ak h ?_;clear h;intro M h)|refine St.to h ?_|(apply Exists.intro;(repeat apply Exists.intro);refine And.intro rfl ?_)|refine ay ?_|refine aq ?_|refine au ?_)
 unfold Wd.received at k
 refine bh.2 ⟨fun Gk => ?_, fun Gk => ?_⟩
 ·simp only [Gk, if_true] at k hv
  obtain ⟨v1, v2, v3, v4, v5⟩ := hv
  repeat (first|(refine ai h ?_;clear h;intro kb M h)|(refine ak h ?_;clear h;intro M h)|refine St.to h ?_|(apply Exists.intro;(repeat apply Exists.intro);refine And.intro rfl ?_)|refine ay ?_|refine aq ?_|refine au ?_)
  rw [dD v1 (by omega)]
  refine ⟨v1, by omega, cas_at (q := (aa x v.g).wt.a + v.cs) h hp v1 v2 fun _ _ => ?_⟩
  repeat (first|(refine ai h ?_;clear h;intro kb M h)|(refine ak h ?_;clear h;intro M h)|refine St.to h ?_|(apply Exists.intro;(repeat apply Exists.intro);refine And.intro rfl ?_)|refine ay ?_|refine aq ?_|refine au ?_)
  refine ⟨v4.1, v4.2, yS h (bS h2) v4 rfl ?_⟩
  clear h
  intro M h
  repeat (first|(refine ai h ?_;clear h;intro kb M h)|(refine ak h ?_;clear h;intro M h)|refine St.to h ?_|(apply Exists.intro;(repeat apply Exists.intro);refine And.intro rfl ?_)|refine ay ?_|refine aq ?_|refine au ?_)
  replace h := dx h gb hl gm fN
  replace h := bq (a := a) (p := p) (pa := pa) (dr := dr) (gg := gg) (x := x.aV v.g (mw p ((aa x v.g).wt.a + v.cs)).bH v.v) (dV hl) h b
  have v5' := v5
  rw [← Ec (q := (mw p ((aa x v.g).wt.a + v.cs)).bH) (v := v.v) hg] at v5'
  refine xy (b := b) h (gv hg) v5' (AD hs) ?_
  clear h
  intro M h
  repeat (first|(refine ai h ?_;clear h;intro kb M h)|(refine ak h ?_;clear h;intro M h)|refine St.to h ?_|(apply Exists.intro;(repeat apply Exists.intro);refine And.intro rfl ?_)|refine ay ?_|refine aq ?_|refine au ?_)
  have P3 := xz (k := v.cs) (gv (q := (mw p ((aa x v.g).wt.a + v.cs)).bH) (v := v.v) hg)
  refine jh (b := b) h P3.1 P3.2.1 (by show x.ready.length ≤ _; omega) ?_
  clear h
  intro M h
  exact ⟨rfl, k _ h.cG⟩
 ·simp only [Gk, if_false] at k hv
  obtain ⟨v1, v2⟩ := hv
  repeat (first|(refine ai h ?_;clear h;intro kb M h)|(refine ak h ?_;clear h;intro M h)|refine St.to h ?_|(apply Exists.intro;(repeat apply Exists.intro);refine And.intro rfl ?_)|refine ay ?_|refine aq ?_|refine au ?_)
  refine ⟨v1.1, v1.2, ?_⟩
  repeat (first|(refine ai h ?_;clear h;intro kb M h)|(refine ak h ?_;clear h;intro M h)|refine St.to h ?_|(apply Exists.intro;(repeat apply Exists.intro);refine And.intro rfl ?_)|refine ay ?_|refine aq ?_|refine au ?_)
  refine yS h (bS h2) v1 rfl ?_
  clear h
  intro M h
  repeat (first|(refine ai h ?_;clear h;intro kb M h)|(refine ak h ?_;clear h;intro M h)|refine St.to h ?_|(apply Exists.intro;(repeat apply Exists.intro);refine And.intro rfl ?_)|refine ay ?_|refine aq ?_|refine au ?_)
  have hi2 : ((aa x v.g).fs.set ((aa x v.g).fs.length - 1) ((aa x v.g).top.set (aa x v.g).wt.b v.v))[(aa x v.g).fs.length - 1]? = Option.some ((aa x v.g).top.set (aa x v.g).wt.b v.v) := by
   rw [List.getElem?_set_self]; omega
  refine ⟨v2.1, v2.2, yS h hi2 v2 rfl ?_⟩
  clear h
  intro M h
  rw [sI] at h
  repeat (first|(refine ai h ?_;clear h;intro kb M h)|(refine ak h ?_;clear h;intro M h)|refine St.to h ?_|(apply Exists.intro;(repeat apply Exists.intro);refine And.intro rfl ?_)|refine ay ?_|refine aq ?_|refine au ?_)
  replace h := dx h gb hl gm fN (by simp)
  have ex : (x.aV v.g (aa x v.g).wt.b v.v).aV v.g (aa x v.g).wt.c some = x.bp v.g ((aa x v.g).bW (((aa x v.g).top.set (aa x v.g).wt.b v.v).set (aa x v.g).wt.c some)) := by
   have e1 := jU (q := (aa x v.g).wt.b) (v := v.v) hg
   have e2 : ∀ (z : Wd) (q u : Int), z.aV v.g q u = z.bp v.g ((aa z v.g).bW ((aa z v.g).top.set q u)) := fun _ _ _ => rfl
   rw [e2 (x.aV v.g (aa x v.g).wt.b v.v), e1]
   have e3 : ((aa x v.g).bW ((aa x v.g).top.set (aa x v.g).wt.b v.v)).top = (aa x v.g).top.set (aa x v.g).wt.b v.v := by
    unfold gG.top gG.bW
    dsimp only
    rw [List.length_set, List.getD_eq_getElem?_getD, List.getElem?_set_self (by omega)]; rfl
   rw [e3]
   simp [Wd.aV, Wd.bp, gG.bW]
  rw [ex] at k
  replace h := bq (a := a) (p := p) (pa := pa) (dr := dr) (gg := gg) (x := x.bp v.g ((aa x v.g).bW (((aa x v.g).top.set (aa x v.g).wt.b v.v).set (aa x v.g).wt.c some))) (dV hl) h b
  refine jh (b := b) h h0 (by simpa [Wd.bp] using h1) (by show x.ready.length ≤ _; omega) ?_
  clear h
  intro M h
  exact ⟨rfl, k _ h.cG⟩
theorem My {v : Wt} (h : Hp R L M) [o : yT b L pa p gg dr x L'] (hv : u5 x v) (hs : x.Sm)
  (k : ∀ M', Hp R (bl (bI pa p gg dr) b (x.sent v) :: L') M' → K (.tuple #[]) M') : ae Tryz.prog 210 #[.pointer (some ⟨b, 0, none⟩), .agg #[.int .i64 v.g, .int .i64 v.cs, .int .i64 v.v]] M K Kp := by
 refine uC ?_
 obtain ⟨hg, hv⟩ := hv
 have Gj := hg
 obtain ⟨h0, h1, h2, h3⟩ := Gj
 have hs' := hs
 obtain ⟨s1, s2, s3, s4, s5, s6, s7, s8⟩ := hs'
 have h' := kS h (b := b) h0 h1
 clear h
 obtain ⟨a, gb, A, c, hl, gm, fN, h⟩ := h'
 have hl' := hl
 obtain ⟨l1, l2, l3, l4⟩ := hl'
 repeat (first|(refine ai h ?_;clear h;intro kb M h)|(refine ak h ?_;clear h;intro M h)|refine St.to h ?_|(apply Exists.intro;(repeat apply Exists.intro);refine And.intro rfl ?_)|refine ay ?_|refine aq ?_|refine au ?_)
 refine vT h gm fun q hq => ?_
 repeat (first|(refine ai h ?_;clear h;intro kb M h)|(refine ak h ?_;clear h;intro M h)|refine St.to h ?_|(apply Exists.intro;(repeat apply Exists.intro);refine And.intro rfl ?_)|refine ay ?_|refine aq ?_|refine au ?_)
 unfold Wd.sent at k
 have ex : x.bp v.g (aa x v.g) = x := by
  obtain ⟨y, hy⟩ := aL (l := x.gs) (i := v.g.toNat) (by omega)
  have e : aa x v.g = y := by simp [aa, hy]
  rw [e]
  obtain ⟨hi, rfl⟩ := List.getElem?_eq_some_iff.1 hy
  simp [Wd.bp]
 refine bh.2 ⟨fun Gk => ?_, fun Gk => ?_⟩
 ·simp only [Gk, if_true] at k hv
  repeat (first|(refine ai h ?_;clear h;intro kb M h)|(refine ak h ?_;clear h;intro M h)|refine St.to h ?_|(apply Exists.intro;(repeat apply Exists.intro);refine And.intro rfl ?_)|refine ay ?_|refine aq ?_|refine au ?_)
  replace h := dx h gb hl gm fN
  replace h := bq (a := a) (p := p) (pa := pa) (dr := dr) (gg := gg) (x := x.bp v.g (aa x v.g)) (dV hl) h b
  rw [ex] at h
  refine xy (b := b) (x := x) h hg (hv trivial) hs ?_
  clear h
  intro M h
  repeat (first|(refine ai h ?_;clear h;intro kb M h)|(refine ak h ?_;clear h;intro M h)|refine St.to h ?_|(apply Exists.intro;(repeat apply Exists.intro);refine And.intro rfl ?_)|refine ay ?_|refine aq ?_|refine au ?_)
  have P3 := xz (k := v.cs) hg
  refine jh (b := b) h P3.1 P3.2.1 (by show x.ready.length ≤ _; omega) ?_
  clear h
  intro M h
  exact ⟨rfl, k _ h.cG⟩
 ·simp only [Gk, if_false] at k
  repeat (first|(refine ai h ?_;clear h;intro kb M h)|(refine ak h ?_;clear h;intro M h)|refine St.to h ?_|(apply Exists.intro;(repeat apply Exists.intro);refine And.intro rfl ?_)|refine ay ?_|refine aq ?_|refine au ?_)
  replace h := dx h gb hl gm fN
  replace h := bq (a := a) (p := p) (pa := pa) (dr := dr) (gg := gg) (x := x.bp v.g (aa x v.g)) (dV hl) h b
  rw [ex] at h
  refine jh (b := b) (x := x) h h0 h1 (by omega) ?_
  clear h
  intro M h
  exact ⟨rfl, k _ h.cG⟩
end
def nF (x : Wd) (k : Int) : Prop := 0 ≤ k ∧ k < x.av.length
instance (x : Wd) (k : Int) : Decidable (nF x k) := by unfold nF; infer_instance
def mA (p : cy) (x : Wd) (k v : Int) : Prop := nF x k ∧ (((aX x.av k).send v).2.2.1 = true → lA p x ((aX x.av k).send v).2.1) ∧ ((aX x.av k).send v).1.Small 1000000
instance (p : cy) (x : Wd) (k v : Int) : Decidable (mA p x k v) := by unfold mA; infer_instance
def pZ (x : Wd) (k : Int) : Prop := nF x k ∧ ((aX x.av k).recv.2.2.2.2.1 = true → u5 x (aX x.av k).recv.2.2.2.1) ∧ (aX x.av k).recv.1.Small 1000000
instance (x : Wd) (k : Int) : Decidable (pZ x k) := by unfold pZ; infer_instance
theorem Ja {x : Wd} {k : Int} {c : aQ} (h : x.Sm) (hc : c.Small 1000000) : (x.bg k c).Sm := by
 obtain ⟨s1, s2, s3⟩ := h
 refine ⟨fun d hd => ?_, by simpa [Wd.bg] using s2, s3⟩
 rcases mem_set hd with h | rfl
 ·exact s1 d h
 ·exact hc
section
variable {R : Mem} {L L' : List HP} {M : Mem} {K : Value → Mem → Prop} {Kp : List PanicEntry → Mem → Prop} {pa : PA} {p : cy} {gg : List GA} {dr : Value} {b : Nat} {x : Wd}
theorem tE {a : WA} {k : Int} {c : aQ} (hl : fS gg a x) : fS gg a (x.bg k c) := by
 obtain ⟨l1, l2, l3, l4⟩ := hl
 exact ⟨l1, l2, by simpa [Wd.bg] using l3, l4⟩
theorem UH {a : WA} {k : Int} (h : Hp R L M) [q : iE bL L a.cb x.av L'] (hl : fS gg a x) (hk : nF x k) : ∃ cb, a.cb[k.toNat]? = some cb ∧ x.av[k.toNat]? = some (aX x.av k) ∧ Hp R (bl bL cb (aX x.av k) :: zx bL a.cb x.av k.toNat :: L') M := by
 obtain ⟨l1, l2, l3, l4⟩ := hl
 obtain ⟨k0, k1⟩ := hk
 obtain ⟨cb, hcb⟩ := aL (l := a.cb) (i := k.toNat) (by omega)
 obtain ⟨y, hy⟩ := aL (l := x.av) (i := k.toNat) (by omega)
 have e : aX x.av k = y := by simp [aX, hy]
 rw [e]
 exact ⟨cb, hcb, hy, h.eG bL hcb hy⟩
theorem Ed {k v : Int} (h : Hp R L M) [o : yT b L pa p gg dr x L'] (hp : RS gP R pa.k pa.kc p.cases) (hk : mA p x k v) (hs : x.Sm)
  (k1 : ∀ y ok M', x.put p k v = .on (y, ok) → Hp R (bl (bI pa p gg dr) b y :: L') M' → K (.bool ok) M')
  (k2 : ∀ y n M', x.put p k v = .dg n y → Hp R (bl (bI pa p gg dr) b y :: L') M' → Kp [{ v := .iface 256 (.int .i64 n), recovered := false }] M') :
  ae Tryz.prog 159 #[.pointer (some ⟨b, 0, none⟩), .int .i64 k, .int .i64 v] M K Kp := by
 refine vE ?_
 obtain ⟨hc, hr, ry⟩ := hk
 have hs' := hs
 obtain ⟨s1, s2, s3, s4, s5, s6, s7, s8⟩ := hs'
 have h' := cV h (b := b)
 clear h
 obtain ⟨a, hl, h⟩ := h'
 have hl' := hl
 obtain ⟨l1, l2, l3, l4⟩ := hl'
 have wY := hc
 obtain ⟨c0, c1⟩ := wY
 have h' := UH h hl hc
 clear h
 obtain ⟨cb, hcb, Ai, h⟩ := h'
 repeat (first|(refine ai h ?_;clear h;intro kb M h)|(refine ak h ?_;clear h;intro M h)|refine St.to h ?_|(apply Exists.intro;(repeat apply Exists.intro);refine And.intro rfl ?_)|refine ay ?_|refine aq ?_|refine au ?_)
 refine vT h hcb fun q hq => ?_
 have hsc : (aX x.av k).Small 1000000 := s1 _ (wX c0 c1)
 refine KK h (hsc.mono (by omega)) ?_
 clear h
 intro M h
 replace h := h.gM bL cb hcb (by omega)
 unfold Wd.put at k1 k2
 dsimp only at k1 k2
 generalize (aX x.av k).send v = s at h k1 k2 hr ry
 obtain ⟨c', w, ok, e⟩ := s
 dsimp only [Y8] at h k1 k2 hr ry ⊢
 refine ⟨w.g, w.cs, w.v, ok, e, rfl, ?_⟩
 repeat (first|(refine ai h ?_;clear h;intro kb M h)|(refine ak h ?_;clear h;intro M h)|refine St.to h ?_|(apply Exists.intro;(repeat apply Exists.intro);refine And.intro rfl ?_)|refine ay ?_|refine aq ?_|refine au ?_)
 refine bh.2 ⟨fun PK => ?_, fun PK => ?_⟩
 ·rw [if_pos PK] at k2
  replace h := bq (a := a) (p := p) (pa := pa) (dr := dr) (gg := gg) (x := x.bg k c') (tE hl) h b
  exact k2 _ _ _ rfl h.cG
 ·rw [if_neg PK] at k1
  replace h := bq (a := a) (p := p) (pa := pa) (dr := dr) (gg := gg) (x := x.bg k c') (tE hl) h b
  refine fH.2 ⟨fun ht => ?_, fun ht => ?_⟩
  ·subst ht
   simp only [if_true] at k1
   repeat (first|(refine ai h ?_;clear h;intro kb M h)|(refine ak h ?_;clear h;intro M h)|refine St.to h ?_|(apply Exists.intro;(repeat apply Exists.intro);refine And.intro rfl ?_)|refine ay ?_|refine aq ?_|refine au ?_)
   refine sL (b := b) (v := w) h hp (show lA p (x.bg k c') w from hr rfl) (Ja hs ry) ?_
   clear h
   intro M h
   exact ⟨rfl, k1 _ _ _ rfl h.cG⟩
  ·subst ht
   simp only [Bool.false_eq_true, if_false] at k1
   exact k1 _ _ _ rfl h.cG
theorem Ee {k : Int} (h : Hp R L M) [o : yT b L pa p gg dr x L'] (hk : pZ x k) (hs : x.Sm)
  (k1 : ∀ M', Hp R (bl (bI pa p gg dr) b (x.get k).1 :: L') M' → K (.tuple #[.int .i64 (x.get k).2.1, .int .i64 (x.get k).2.2.1, .bool (x.get k).2.2.2]) M') :
  ae Tryz.prog 160 #[.pointer (some ⟨b, 0, none⟩), .int .i64 k] M K Kp := by
 refine vF ?_
 obtain ⟨hc, hr, ry⟩ := hk
 have hs' := hs
 obtain ⟨s1, s2, s3, s4, s5, s6, s7, s8⟩ := hs'
 have h' := cV h (b := b)
 clear h
 obtain ⟨a, hl, h⟩ := h'
 have hl' := hl
 obtain ⟨l1, l2, l3, l4⟩ := hl'
 have wY := hc
 obtain ⟨c0, c1⟩ := wY
 have h' := UH h hl hc
 clear h
 obtain ⟨cb, hcb, Ai, h⟩ := h'
 repeat (first|(refine ai h ?_;clear h;intro kb M h)|(refine ak h ?_;clear h;intro M h)|refine St.to h ?_|(apply Exists.intro;(repeat apply Exists.intro);refine And.intro rfl ?_)|refine ay ?_|refine aq ?_|refine au ?_)
 refine vT h hcb fun q hq => ?_
 have hsc : (aX x.av k).Small 1000000 := s1 _ (wX c0 c1)
 refine KL h (hsc.mono (by omega)) ?_
 clear h
 intro M h
 replace h := h.gM bL cb hcb (by omega)
 unfold Wd.get at k1
 dsimp only at k1
 generalize (aX x.av k).recv = s at h k1 hr ry
 obtain ⟨c', v, some, w, N6, e⟩ := s
 dsimp only [Y9] at h k1 hr ry ⊢
 refine ⟨v, some, w.g, w.cs, w.v, N6, e, rfl, ?_⟩
 repeat (first|(refine ai h ?_;clear h;intro kb M h)|(refine ak h ?_;clear h;intro M h)|refine St.to h ?_|(apply Exists.intro;(repeat apply Exists.intro);refine And.intro rfl ?_)|refine ay ?_|refine aq ?_|refine au ?_)
 replace h := bq (a := a) (p := p) (pa := pa) (dr := dr) (gg := gg) (x := x.bg k c') (tE hl) h b
 refine fH.2 ⟨fun ht => ?_, fun ht => ?_⟩
 ·subst ht
  simp only [if_true] at k1
  repeat (first|(refine ai h ?_;clear h;intro kb M h)|(refine ak h ?_;clear h;intro M h)|refine St.to h ?_|(apply Exists.intro;(repeat apply Exists.intro);refine And.intro rfl ?_)|refine ay ?_|refine aq ?_|refine au ?_)
  refine My (b := b) (v := w) h (show u5 (x.bg k c') w from hr rfl) (Ja hs ry) ?_
  clear h
  intro M h
  repeat (first|(refine ai h ?_;clear h;intro kb M h)|(refine ak h ?_;clear h;intro M h)|refine St.to h ?_|(apply Exists.intro;(repeat apply Exists.intro);refine And.intro rfl ?_)|refine ay ?_|refine aq ?_|refine au ?_)
  refine fH.2 ⟨fun hb => ?_, fun hb => ?_⟩
  ·subst hb
   repeat (first|(refine ai h ?_;clear h;intro kb M h)|(refine ak h ?_;clear h;intro M h)|refine St.to h ?_|(apply Exists.intro;(repeat apply Exists.intro);refine And.intro rfl ?_)|refine ay ?_|refine aq ?_|refine au ?_)
   exact k1 _ h.cG
  ·subst hb
   exact k1 _ h.cG
 ·subst ht
  simp only [Bool.false_eq_true, if_false] at k1
  repeat (first|(refine ai h ?_;clear h;intro kb M h)|(refine ak h ?_;clear h;intro M h)|refine St.to h ?_|(apply Exists.intro;(repeat apply Exists.intro);refine And.intro rfl ?_)|refine ay ?_|refine aq ?_|refine au ?_)
  refine fH.2 ⟨fun hb => ?_, fun hb => ?_⟩
  ·subst hb
   repeat (first|(refine ai h ?_;clear h;intro kb M h)|(refine ak h ?_;clear h;intro M h)|refine St.to h ?_|(apply Exists.intro;(repeat apply Exists.intro);refine And.intro rfl ?_)|refine ay ?_|refine aq ?_|refine au ?_)
   exact k1 _ h.cG
  ·subst hb
   exact k1 _ h.cG
end
end Go.Proofs
namespace Go.Proofs
open Go.AF
def aJ (x : Wd) (g q : Int) : Int := (aa x g).top.bH q
def Wd.N7 (x : Wd) (k g v : Int) : Wd := x.bg k { aX x.av k with snd := (aX x.av k).snd ++ [⟨g, 0, v⟩] }
def Wd.N8 (x : Wd) (k g : Int) : Wd := x.bg k { aX x.av k with cH := (aX x.av k).cH ++ [⟨g, 0, 0⟩] }
def Wd.send (p : cy) (x : Wd) (g : Int) (i : bY) : Out Wd := match x.put p i.a (aJ x g i.b) with
 | .dg n y => .dg n y
 | .fR l y => .fR l y
 | .on (y, true) => .on y
 | .on (y, false) => .on ((y.N7 i.a g (aJ y g i.b)).block g i)
def Wd.recv (x : Wd) (g : Int) (i : bY) : Wd :=
 if (x.get i.a).2.2.2 then ((x.get i.a).1.aV g i.b (x.get i.a).2.1).aV g i.c (x.get i.a).2.2.1
 else ((x.get i.a).1.N8 i.a g).block g i
def cJ (p : cy) (x : Wd) (v : Wt) : Wd := if (aa x v.g).st = 2 then x.received p { v with v := 0 } 0 else x
def Wd.shut (p : cy) (x : Wd) (i : bY) : Out Wd :=
 let s := (aX x.av i.a).close
 let y := x.bg i.a s.1
 if s.2.2.2 ≠ 0 then .dg (-2) y else if 0 < s.2.2.1.length then .dg (-1) y else .on (s.2.1.foldl (cJ p) y)
def sM (p : cy) (x : Wd) : List Wt → Prop
 | [] => True
 | v :: l => x.Sm ∧ 0 ≤ v.g ∧ v.g < x.gs.length ∧ ((aa x v.g).st = 2 → lA p x { v with v := 0 }) ∧ sM p (cJ p x v) l
instance Mz (p : cy) : ∀ (l : List Wt) (x : Wd), Decidable (sM p x l)
 | [], _ => isTrue trivial
 | v :: l, x => by
  have := Mz p l (cJ p x v)
  unfold sM; infer_instance
theorem Ef {p : cy} : ∀ {l : List Wt} {x : Wd} {i : Nat} {v : Wt}, sM p x l → l[i]? = some v →
  let y := (l.take i).foldl (cJ p) x
  y.Sm ∧ 0 ≤ v.g ∧ v.g < y.gs.length ∧ ((aa y v.g).st = 2 → lA p y { v with v := 0 })
 | [], _, _, _, _, h => by simp at h
 | w :: l, x, 0, v, h, hv => by simp at hv; subst hv; exact ⟨h.1, h.2.1, h.2.2.1, h.2.2.2.1⟩
 | w :: l, x, i + 1, v, h, hv => Ef (l := l) h.2.2.2.2 (by simpa using hv)
def Wd.emit (x : Wd) (g : Int) (i : bY) : Out Wd := if x.out.length ≥ 1000 then .dg (-6) x else .on { x with out := x.out ++ [aJ x g i.a] }
def Wd.spawn (x : Wd) (g : Int) (i : bY) : Out Wd := if x.gs.length ≥ 100 then .dg (-5) x else
 .on ((Wd.eU { x with gs := x.gs ++ [⟨0, [eJ.begin i.a (aJ x g i.b)], .zero⟩] } (x.gs.length : Int)).aV g i.c (x.gs.length : Int))
def Wd.call (x : Wd) (g : Int) (i : bY) : Out Wd := if (aa x g).fs.length ≥ 16 then .dg (-4) x else
 .on (x.bp g { aa x g with fs := (aa x g).fs ++ [⟨i.a, 0, [aJ x g i.b, 0, 0, 0, 0, 0, 0, 0], i.c⟩] })
def gG.back (y : gG) (v : Int) : gG := { y with fs := (y.fs.take (y.fs.length - 1)).set (y.fs.length - 2) ((y.fs.getD (y.fs.length - 2) ⟨0, 0, [], 0⟩).set y.top.mu v) }
def Wd.back (x : Wd) (g : Int) (i : bY) : Wd := if 2 ≤ (aa x g).fs.length then x.bp g ((aa x g).back (aJ x g i.a))
 else if g = 0 then { x.bp g { aa x g with st := 4 } with end_ := 1 } else x.bp g { aa x g with st := 4 }
end Go.Proofs
namespace Go.Proofs
open Go.AF
set_option maxRecDepth 100000
set_option maxHeartbeats 1000000
attribute [local irreducible] bF dG fa dP aF eY aE b7 aO bj bJ aM
section
variable {R : Mem} {L L' : List HP} {M : Mem} {K : Value → Mem → Prop} {Kp : List PanicEntry → Mem → Prop} {pa : PA} {p : cy} {gg : List GA} {dr : Value} {b : Nat} {x : Wd}
theorem iw {g : Int} {A : Option Addr} {c : Nat} (h : Hp R L M) [o : yT b L pa p gg dr x L'] (h0 : 0 ≤ g) (hg : g < x.gs.length) (fN : gg[g.toNat]? = some (A, c)) :
  ∃ (a : WA) (gb : Nat), fS gg a x ∧ a.gb[g.toNat]? = some gb ∧
   Hp R (pt gb (sK (aa x g) A c) 182 :: vR A c (aa x g).fs :: pt b (nE pa p dr a x) 164 :: zx gj a.gb (x.gs.zip gg) g.toNat :: u9 a x L') M := by
 obtain ⟨a, gb, A', c', hl, gm, hgg', h1⟩ := kS h (b := b) h0 hg
 rw [fN] at hgg'
 cases hgg'
 exact ⟨a, gb, hl, gm, h1⟩
theorem Jb {g q : Int} {bs c oo : Nat} {G : Int → Prop} (h : Hp R L M) [o : yT b L pa p gg dr x L'] (hg : aW x g) (fN : gg[g.toNat]? = some (some ⟨bs, 0, none⟩, c)) (hq : aR q) (e : oo = ((aa x g).fs.length - 1) * 11 + 2 + q.toNat)
  (k : G (aJ x g q)) : bF (M.ld ⟨bs, oo, none⟩) .i64 G := by
 obtain ⟨h0, h1, h2, h3⟩ := hg
 obtain ⟨a, gb, hl, gm, h4⟩ := iw h (b := b) h0 h1 fN
 exact xx h4 (bS h2) hq e k
theorem m8 {g q v : Int} {bs c oo : Nat} {G : Mem → Prop} (h : Hp R L M) [o : yT b L pa p gg dr x L'] (hg : aW x g) (fN : gg[g.toNat]? = some (some ⟨bs, 0, none⟩, c)) (hq : aR q) (e : oo = ((aa x g).fs.length - 1) * 11 + 2 + q.toNat)
  (k : ∀ M', Hp R (bl (bI pa p gg dr) b (x.aV g q v) :: L') M' → G M') : b7 M ⟨bs, oo, none⟩ (.int .i64 v) G := by
 obtain ⟨h0, h1, h2, h3⟩ := hg
 obtain ⟨a, gb, hl, gm, h4⟩ := iw h (b := b) h0 h1 fN
 refine yS h4 (bS h2) hq e fun M' h5 => ?_
 replace h5 := dx h5 gb hl gm fN (by simp)
 exact k M' (bq (a := a) (p := p) (pa := pa) (dr := dr) (gg := gg) (x := x.aV g q v) (dV hl) h5 b)
theorem Zj {G : Option Addr → Nat → Nat → Prop} (h : Hp R L M) [o : yT b L pa p gg dr x L'] (k1 : ∀ a : WA, fS gg a x → Hp R (pt b (nE pa p dr a x) 164 :: cN gj a.gb (x.gs.zip gg) :: u9 a x L') M → G a.ac a.cb.length a.cc) : aF (M.ld ⟨b, 0 + 6, none⟩) G := by
 obtain ⟨a, hl, h1⟩ := cV h (b := b)
 exact ax h1 (k1 a hl h1)
def Out.Ok {α : Type} (r : Out α) (k1 : α → Prop) (k2 : Int → Wd → Prop) (k3 : List PanicEntry → Wd → Prop := fun _ _ => True) : Prop := match r with
 | .on y => k1 y
 | .dg n y => k2 n y
 | .fR l y => k3 l y
def Cf (x : Wd) (k : Int) : Prop := nF x k ∧ (aX x.av k).Small 999999
instance (x : Wd) (k : Int) : Decidable (Cf x k) := by unfold Cf; infer_instance
def MA (p : cy) (x : Wd) (g : Int) (i : bY) : Prop := aW x g ∧ aR i.b ∧ mA p x i.a (aJ x g i.b) ∧
 match x.put p i.a (aJ x g i.b) with
 | .on (y, false) => aW y g ∧ (aa y g).fs.length = (aa x g).fs.length ∧ Cf y i.a
 | _ => True
theorem MB {g : Int} {i : bY} {bs c : Nat} (h : Hp R L M) [o : yT b L pa p gg dr x L'] (hp : RS gP R pa.k pa.kc p.cases) (fN : gg[g.toNat]? = some (some ⟨bs, 0, none⟩, c)) (hk : MA p x g i) (hs : x.Sm)
  (k : Out.Ok (x.send p g i) (fun y => ∀ M', Hp R (bl (bI pa p gg dr) b y :: L') M' → K (.tuple #[]) M')
   (fun n y => ∀ M', Hp R (bl (bI pa p gg dr) b y :: L') M' → Kp [{ v := .iface 256 (.int .i64 n), recovered := false }] M')) :
  ae Tryz.prog 165 #[.pointer (some ⟨b, 0, none⟩), .int .i64 g, .pointer (some ⟨bs, ((aa x g).fs.length - 1) * 11, none⟩), .agg #[.int .i64 i.op, .int .i64 i.a, .int .i64 i.b, .int .i64 i.c]] M K Kp := by
 refine ur ?_
 obtain ⟨hg, hb, hput, hw⟩ := hk
 repeat (first|(refine ai h ?_;clear h;intro kb M h)|(refine ak h ?_;clear h;intro M h)|refine St.to h ?_|(apply Exists.intro;(repeat apply Exists.intro);refine And.intro rfl ?_)|refine ay ?_|refine aq ?_|refine au ?_)
 refine ⟨hb.1, hb.2, Jb (b := b) h hg fN hb rfl ?_⟩
 unfold Wd.send at k
 refine Ed (b := b) h hp hput hs ?_ ?_
 ·intro y ok M' e h
  rw [e] at k hw
  cases ok with
  | true =>
   dsimp only at k
   refine mU (au ?_)
   exact k _ h.cG
  | false =>
   dsimp only at k hw
   obtain ⟨Jc, hfl, Ai, ry⟩ := hw
   refine mU (aq ?_)
   refine Zj h fun a hl h => ?_
   have hl' := hl
   obtain ⟨l1, l2, l3, l4⟩ := hl'
   have wY := Ai
   obtain ⟨c0, c1⟩ := wY
   have h' := UH h hl Ai
   clear h
   obtain ⟨cb, hcb, hchx, h⟩ := h'
   repeat (first|(refine ai h ?_;clear h;intro kb M h)|(refine ak h ?_;clear h;intro M h)|refine St.to h ?_|(apply Exists.intro;(repeat apply Exists.intro);refine And.intro rfl ?_)|refine ay ?_|refine aq ?_|refine au ?_)
   refine vT h hcb fun q hq => ?_
   repeat (first|(refine ai h ?_;clear h;intro kb M h)|(refine ak h ?_;clear h;intro M h)|refine St.to h ?_|(apply Exists.intro;(repeat apply Exists.intro);refine And.intro rfl ?_)|refine ay ?_|refine aq ?_|refine au ?_)
   refine ⟨hb.1, hb.2, ?_⟩
   have h2 := h.od bL cb hcb hchx
   have h3 := bq (a := a) (p := p) (pa := pa) (dr := dr) (gg := gg) (x := y) hl h2 b
   refine Jb (b := b) h3 Jc fN hb (by rw [hfl]) ?_
   clear h2 h3
   refine rh (w := ⟨g, 0, aJ y g i.b⟩) h (ry.mono (by omega)) ?_
   clear h
   intro M h
   replace h := h.gM bL cb hcb (by omega)
   replace h := bq (a := a) (p := p) (pa := pa) (dr := dr) (gg := gg) (x := y.N7 i.a g (aJ y g i.b)) (tE hl) h b
   repeat (first|(refine ai h ?_;clear h;intro kb M h)|(refine ak h ?_;clear h;intro M h)|refine St.to h ?_|(apply Exists.intro;(repeat apply Exists.intro);refine And.intro rfl ?_)|refine ay ?_|refine aq ?_|refine au ?_)
   refine m7 (b := b) (i := i) (x := y.N7 i.a g (aJ y g i.b)) h Jc.1 Jc.2.1 ?_
   clear h
   intro M h
   exact ⟨rfl, k _ h.cG⟩
 ·intro y n M' e h
  rw [e] at k
  exact k _ h.cG
def yU (x : Wd) (g : Int) (i : bY) : Prop := aW x g ∧ aR i.b ∧ aR i.c ∧ pZ x i.a ∧ aW (x.get i.a).1 g ∧ (aa (x.get i.a).1 g).fs.length = (aa x g).fs.length ∧ ((x.get i.a).2.2.2 = false → Cf (x.get i.a).1 i.a)
theorem MC {g : Int} {i : bY} {bs c : Nat} (h : Hp R L M) [o : yT b L pa p gg dr x L'] (fN : gg[g.toNat]? = some (some ⟨bs, 0, none⟩, c)) (hk : yU x g i) (hs : x.Sm)
  (k : ∀ M', Hp R (bl (bI pa p gg dr) b (x.recv g i) :: L') M' → K (.tuple #[]) M') :
  ae Tryz.prog 166 #[.pointer (some ⟨b, 0, none⟩), .int .i64 g, .pointer (some ⟨bs, ((aa x g).fs.length - 1) * 11, none⟩), .agg #[.int .i64 i.op, .int .i64 i.a, .int .i64 i.b, .int .i64 i.c]] M K Kp := by
 refine uu ?_
 obtain ⟨hg, hb, hc, Du, Jc, hfl, hw⟩ := hk
 repeat (first|(refine ai h ?_;clear h;intro kb M h)|(refine ak h ?_;clear h;intro M h)|refine St.to h ?_|(apply Exists.intro;(repeat apply Exists.intro);refine And.intro rfl ?_)|refine ay ?_|refine aq ?_|refine au ?_)
 refine Ee (b := b) h Du hs ?_
 clear h
 intro M h
 unfold Wd.recv at k
 generalize x.get i.a = r at h k Jc hfl hw
 obtain ⟨y, v, sm, ok⟩ := r
 dsimp only at h k Jc hfl hw ⊢
 refine ⟨v, sm, ok, rfl, ?_⟩
 cases ok with
 | true =>
  simp only [if_true] at k
  refine au ?_
  repeat (first|(refine ai h ?_;clear h;intro kb M h)|(refine ak h ?_;clear h;intro M h)|refine St.to h ?_|(apply Exists.intro;(repeat apply Exists.intro);refine And.intro rfl ?_)|refine ay ?_|refine aq ?_|refine au ?_)
  refine ⟨hb.1, hb.2, ?_⟩
  repeat (first|(refine ai h ?_;clear h;intro kb M h)|(refine ak h ?_;clear h;intro M h)|refine St.to h ?_|(apply Exists.intro;(repeat apply Exists.intro);refine And.intro rfl ?_)|refine ay ?_|refine aq ?_|refine au ?_)
  refine m8 (b := b) h Jc fN hb (by rw [hfl]) ?_
  clear h
  intro M h
  repeat (first|(refine ai h ?_;clear h;intro kb M h)|(refine ak h ?_;clear h;intro M h)|refine St.to h ?_|(apply Exists.intro;(repeat apply Exists.intro);refine And.intro rfl ?_)|refine ay ?_|refine aq ?_|refine au ?_)
  have P3 := gv (q := i.b) (v := v) Jc
  have HC : (aa (y.aV g i.b v) g).fs.length = (aa x g).fs.length := by rw [jU Jc]; simpa [gG.bW] using hfl
  refine ⟨hc.1, hc.2, m8 (b := b) h P3 fN hc (by rw [HC]) ?_⟩
  clear h
  intro M h
  repeat (first|(refine ai h ?_;clear h;intro kb M h)|(refine ak h ?_;clear h;intro M h)|refine St.to h ?_|(apply Exists.intro;(repeat apply Exists.intro);refine And.intro rfl ?_)|refine ay ?_|refine aq ?_|refine au ?_)
  exact k _ h.cG
 | false =>
  simp only [Bool.false_eq_true, if_false] at k
  refine aq ?_
  obtain ⟨Ai, ry⟩ := hw rfl
  refine Zj h fun a hl h => ?_
  have hl' := hl
  obtain ⟨l1, l2, l3, l4⟩ := hl'
  have wY := Ai
  obtain ⟨c0, c1⟩ := wY
  have h' := UH h hl Ai
  clear h
  obtain ⟨cb, hcb, hchx, h⟩ := h'
  repeat (first|(refine ai h ?_;clear h;intro kb M h)|(refine ak h ?_;clear h;intro M h)|refine St.to h ?_|(apply Exists.intro;(repeat apply Exists.intro);refine And.intro rfl ?_)|refine ay ?_|refine aq ?_|refine au ?_)
  refine vT h hcb fun q hq => ?_
  refine ri (w := ⟨g, 0, 0⟩) h (ry.mono (by omega)) ?_
  clear h
  intro M h
  replace h := h.gM bL cb hcb (by omega)
  replace h := bq (a := a) (p := p) (pa := pa) (dr := dr) (gg := gg) (x := y.N8 i.a g) (tE hl) h b
  repeat (first|(refine ai h ?_;clear h;intro kb M h)|(refine ak h ?_;clear h;intro M h)|refine St.to h ?_|(apply Exists.intro;(repeat apply Exists.intro);refine And.intro rfl ?_)|refine ay ?_|refine aq ?_|refine au ?_)
  refine m7 (b := b) (i := i) (x := y.N8 i.a g) h Jc.1 Jc.2.1 ?_
  clear h
  intro M h
  exact ⟨rfl, k _ h.cG⟩
theorem MD {g : Int} {i : bY} {bs c : Nat} (h : Hp R L M) [o : yT b L pa p gg dr x L'] (fN : gg[g.toNat]? = some (some ⟨bs, 0, none⟩, c)) (hg : aW x g) (ha : aR i.a) (hs : x.Sm)
  (k : Out.Ok (x.emit g i) (fun y => ∀ M', Hp R (bl (bI pa p gg dr) b y :: L') M' → K (.tuple #[]) M')
   (fun n y => ∀ M', Hp R (bl (bI pa p gg dr) b y :: L') M' → Kp [{ v := .iface 256 (.int .i64 n), recovered := false }] M')) :
  ae Tryz.prog 171 #[.pointer (some ⟨b, 0, none⟩), .int .i64 g, .pointer (some ⟨bs, ((aa x g).fs.length - 1) * 11, none⟩), .agg #[.int .i64 i.op, .int .i64 i.a, .int .i64 i.b, .int .i64 i.c]] M K Kp := by
 refine ux ?_
 obtain ⟨s1, s2, s3, s4, s5, s6, s7, s8⟩ := hs
 have Gj := hg
 obtain ⟨h0, h1, h2, h3⟩ := Gj
 unfold Wd.emit at k
 refine ai h ?_
 clear h
 intro kb M h
 have h' := iw h (b := b) h0 h1 fN
 clear h
 obtain ⟨a, gb, hl, gm, h⟩ := h'
 have hl' := hl
 obtain ⟨l1, l2, l3, l4⟩ := hl'
 have ex : x.bp g (aa x g) = x := by
  obtain ⟨y, hy⟩ := aL (l := x.gs) (i := g.toNat) (by omega)
  have e : aa x g = y := by simp [aa, hy]
  rw [e]
  obtain ⟨hi, rfl⟩ := List.getElem?_eq_some_iff.1 hy
  simp [Wd.bp]
 repeat (first|(refine ai h ?_;clear h;intro kb M h)|(refine ak h ?_;clear h;intro M h)|refine St.to h ?_|(apply Exists.intro;(repeat apply Exists.intro);refine And.intro rfl ?_)|refine ay ?_|refine aq ?_|refine au ?_)
 refine aH.2 ⟨fun hn => ?_, fun hn => ?_⟩
 ·rw [if_pos (by omega)] at k
  replace h := dx h gb hl gm fN
  have dU := dV (y := aa x g) (g := g) hl
  replace h := bq (a := a) (p := p) (pa := pa) (dr := dr) (gg := gg) (x := x.bp g (aa x g)) dU h b
  rw [ex] at h
  exact k _ h.cG
 ·rw [if_neg (by omega)] at k
  repeat (first|(refine ai h ?_;clear h;intro kb M h)|(refine ak h ?_;clear h;intro M h)|refine St.to h ?_|(apply Exists.intro;(repeat apply Exists.intro);refine And.intro rfl ?_)|refine ay ?_|refine aq ?_|refine au ?_)
  refine ⟨ha.1, ha.2, xx h (bS h2) ha rfl ?_⟩
  repeat (first|(refine ai h ?_;clear h;intro kb M h)|(refine ak h ?_;clear h;intro M h)|refine St.to h ?_|(apply Exists.intro;(repeat apply Exists.intro);refine And.intro rfl ?_)|refine ay ?_|refine aq ?_|refine au ?_)
  refine h.aZ lp [aJ x g i.a] rfl rfl (by simp; omega) ?_
  clear h
  intro A' c' M h
  repeat (first|(refine ai h ?_;clear h;intro kb M h)|(refine ak h ?_;clear h;intro M h)|refine St.to h ?_|(apply Exists.intro;(repeat apply Exists.intro);refine And.intro rfl ?_)|refine ay ?_|refine aq ?_|refine au ?_)
  replace h := dx h gb hl gm fN
  have dU := dV (y := aa x g) (g := g) hl
  have h5 := bq (a := { a with ao := A', co := c' }) (p := p) (pa := pa) (dr := dr) (gg := gg) (x := { x.bp g (aa x g) with out := x.out ++ [aJ x g i.a] }) dU h b
  rw [ex] at h5
  exact k _ h5.cG
end
theorem Zk : bE Tryz.prog 158 177 1 8 [.pointer none] := bE.mk' (zv := .pointer none) (by kernel_rfl) (by kernel_rfl) rfl (by omega)
section
variable {R : Mem} {L L' : List HP} {M : Mem} {K : Value → Mem → Prop} {Kp : List PanicEntry → Mem → Prop} {pa : PA} {p : cy} {gg : List GA} {dr : Value} {b : Nat} {x : Wd}
def yV (x : Wd) (fn v : Int) : Wd := { x with gs := x.gs ++ [⟨0, [eJ.begin fn v], .zero⟩] }
theorem UI {a : WA} {k bs : Nat} {A' : Option Addr} {c' : Nat} {fn v : Int} (hl : fS gg a x)
  (h : Hp R (pt b (nE pa p dr { a with ag := A', cg := c', gb := a.gb ++ [k] } x) 164 :: zD A' c' (a.gb ++ [k]) :: pt k [.int .i64 0, .slice (some ⟨bs, 0, none⟩) 1 1, .int .i64 0, .int .i64 0, .int .i64 0, .int .i64 0] 182 ::
   vR (some ⟨bs, 0, none⟩) 1 [eJ.begin fn v] :: cN gj a.gb (x.gs.zip gg) :: zE a.ac a.cc a.cb :: cN bL a.cb x.av :: zF a.al a.cl a.lb :: cN fh a.lb x.aC :: eV a.ah a.ch x.hl :: rf a.ao a.co x.out :: vS a.ar a.cr x.ready :: L) M) :
  Hp R (bl (bI pa p (gg ++ [(some ⟨bs, 0, none⟩, 1)]) dr) b (yV x fn v) :: L) M := by
 obtain ⟨l1, l2, l3, l4⟩ := hl
 have h1 := oF h k
 have h2 := h1.tx gj k (by rw [List.length_zip]; omega)
 have e : x.gs.zip gg ++ [(⟨0, [eJ.begin fn v], ⟨0, 0, 0, 0⟩⟩, (some ⟨bs, 0, none⟩, 1))] = (yV x fn v).gs.zip (gg ++ [(some ⟨bs, 0, none⟩, 1)]) := by
  unfold yV
  rw [List.zip_append (by omega)]; rfl
 rw [e] at h2
 exact bq (a := { a with ag := A', cg := c', gb := a.gb ++ [k] }) (p := p) (pa := pa) (dr := dr) (gg := gg ++ [(some ⟨bs, 0, none⟩, 1)]) (x := yV x fn v) ⟨by simp [yV, l1], by simp [yV, l2], l3, l4⟩ h2 b
theorem ME {g fn v : Int} (hg : aW x g) : aa (yV x fn v) g = aa x g := by
 obtain ⟨h0, h1, h2, h3⟩ := hg
 unfold aa yV
 dsimp only
 rw [List.getD_eq_getElem?_getD, List.getElem?_append_left (by omega), ← List.getD_eq_getElem?_getD]
theorem Jd {g : Int} {i : bY} {bs c : Nat} (h : Hp R L M) [o : yT b L pa p gg dr x L'] (fN : gg[g.toNat]? = some (some ⟨bs, 0, none⟩, c)) (hg : aW x g) (hb : aR i.b) (hc : aR i.c) (hs : x.Sm)
  (k : Out.Ok (x.spawn g i) (fun y => ∀ m9 M', Hp R (bl (bI pa p m9 dr) b y :: L') M' → K (.tuple #[]) M')
   (fun n y => ∀ M', Hp R (bl (bI pa p gg dr) b y :: L') M' → Kp [{ v := .iface 256 (.int .i64 n), recovered := false }] M')) :
  ae Tryz.prog 163 #[.pointer (some ⟨b, 0, none⟩), .int .i64 g, .pointer (some ⟨bs, ((aa x g).fs.length - 1) * 11, none⟩), .agg #[.int .i64 i.op, .int .i64 i.a, .int .i64 i.b, .int .i64 i.c]] M K Kp := by
 refine rH ?_
 obtain ⟨s1, s2, s3, s4, s5, s6, s7, s8⟩ := hs
 unfold Wd.spawn at k
 refine ai h ?_
 clear h
 intro kb M h
 have hC := h
 have h' := cV h (b := b)
 clear h
 obtain ⟨a, hl, h⟩ := h'
 have hl' := hl
 obtain ⟨l1, l2, l3, l4⟩ := hl'
 refine ax h ?_
 refine aH.2 ⟨fun hn => ?_, fun hn => ?_⟩
 ·rw [if_pos (by omega)] at k
  exact k _ (hC.drop.pick o.pick)
 rw [if_neg (by omega)] at k
 refine ax h ?_
 refine ⟨fun vs M => ∃ bs', Hp R (bl (bI pa p (gg ++ [(some ⟨bs', 0, none⟩, 1)]) dr) b (yV x i.a (aJ x g i.b)) :: pt kb [.int .i64 i.op, .int .i64 i.a, .int .i64 i.b, .int .i64 i.c] 34 :: L') M, ?_, ?_⟩
 ·repeat (first|(refine ai h ?_;clear h;intro kb M h)|(refine ak h ?_;clear h;intro M h)|refine St.to h ?_|(apply Exists.intro;(repeat apply Exists.intro);refine And.intro rfl ?_)|refine ay ?_|refine aq ?_|refine au ?_)
  refine ⟨hb.1, hb.2, Jb (b := b) hC hg fN hb rfl ?_⟩
  clear hC
  refine ⟨?_, ?_, trivial⟩
  ·repeat (first|(refine ai h ?_;clear h;intro kb M h)|(refine ak h ?_;clear h;intro M h)|refine St.to h ?_|(apply Exists.intro;(repeat apply Exists.intro);refine And.intro rfl ?_)|refine ay ?_|refine aq ?_|refine au ?_)
   refine sJ h ?_
   clear h
   intro bs' M h
   repeat (first|(refine ai h ?_;clear h;intro kb M h)|(refine ak h ?_;clear h;intro M h)|refine St.to h ?_|(apply Exists.intro;(repeat apply Exists.intro);refine And.intro rfl ?_)|refine ay ?_|refine aq ?_|refine au ?_)
   refine h.aZ Zk [_] rfl rfl (by simp; omega) ?_
   clear h
   intro A' c' M h
   repeat (first|(refine ai h ?_;clear h;intro kb M h)|(refine ak h ?_;clear h;intro M h)|refine St.to h ?_|(apply Exists.intro;(repeat apply Exists.intro);refine And.intro rfl ?_)|refine ay ?_|refine aq ?_|refine au ?_)
   exact ⟨bs', UI hl (h.sub bx)⟩
  ·refine sJ h ?_
   clear h
   intro bs' M h
   repeat (first|(refine ai h ?_;clear h;intro kb M h)|(refine ak h ?_;clear h;intro M h)|refine St.to h ?_|(apply Exists.intro;(repeat apply Exists.intro);refine And.intro rfl ?_)|refine ay ?_|refine aq ?_|refine au ?_)
   refine h.aZ Zk [_] rfl rfl (by simp; omega) ?_
   clear h
   intro A' c' M h
   repeat (first|(refine ai h ?_;clear h;intro kb M h)|(refine ak h ?_;clear h;intro M h)|refine St.to h ?_|(apply Exists.intro;(repeat apply Exists.intro);refine And.intro rfl ?_)|refine ay ?_|refine aq ?_|refine au ?_)
   exact ⟨bs', UI hl (h.sub bx)⟩
 ·clear h hC
  rintro _ M ⟨bs', h⟩
  have hlen : (yV x i.a (aJ x g i.b)).gs.length = x.gs.length + 1 := by simp [yV]
  have td : (x.gs.length : Int) = (a.gb.length : Int) := by omega
  rw [← td]
  refine jh (b := b) h (by omega) (by omega) (by show x.ready.length ≤ _; omega) ?_
  clear h
  intro M h
  repeat (first|(refine ai h ?_;clear h;intro kb M h)|(refine ak h ?_;clear h;intro M h)|refine St.to h ?_|(apply Exists.intro;(repeat apply Exists.intro);refine And.intro rfl ?_)|refine ay ?_|refine aq ?_|refine au ?_)
  have P3 : aa ((yV x i.a (aJ x g i.b)).eU (x.gs.length : Int)) g = aa x g := by
   rw [← ME (fn := i.a) (v := aJ x g i.b) hg]
   obtain ⟨h0, h1, _⟩ := hg
   have hne : x.gs.length ≠ g.toNat := by omega
   simp [aa, Wd.eU, Wd.bp, List.getElem?_set, hne]
  have hg3 : aW ((yV x i.a (aJ x g i.b)).eU (x.gs.length : Int)) g := by
   refine ⟨hg.1, ?_, ?_, ?_⟩
   ·have h1 := hg.2.1
    simp only [Wd.eU, Wd.bp, List.length_set, hlen]; omega
   ·rw [P3]; exact hg.2.2.1
   ·rw [P3]; exact hg.2.2.2
  have hgg2 : (gg ++ [(some (⟨bs', 0, none⟩ : Addr), 1)])[g.toNat]? = some (some ⟨bs, 0, none⟩, c) := by
   rw [List.getElem?_append_left (by have := hg.2.1; have := hg.1; omega)]; exact fN
  refine ⟨hc.1, hc.2, m8 (b := b) h hg3 hgg2 hc (by rw [P3]) ?_⟩
  clear h
  intro M h
  repeat (first|(refine ai h ?_;clear h;intro kb M h)|(refine ak h ?_;clear h;intro M h)|refine St.to h ?_|(apply Exists.intro;(repeat apply Exists.intro);refine And.intro rfl ?_)|refine ay ?_|refine aq ?_|refine au ?_)
  exact k _ _ h.cG
end
section
variable {R : Mem} {L L' : List HP} {M : Mem} {K : Value → Mem → Prop} {Kp : List PanicEntry → Mem → Prop} {pa : PA} {p : cy} {gg : List GA} {dr : Value} {b : Nat} {x : Wd}
def pI (p : cy) (x : Wd) (i : bY) : Prop := nF x i.a ∧ (aX x.av i.a).cH.length ≤ 1000000 ∧
 ((aX x.av i.a).close.2.2.2 = 0 → (aX x.av i.a).close.2.2.1 = [] → sM p (x.bg i.a (aX x.av i.a).close.1) (aX x.av i.a).close.2.1)
theorem MF {g : Int} {i : bY} {f : Value} {bf of' : Nat} (h : Hp R L M) [o : yT b L pa p gg dr x L'] (hp : RS gP R pa.k pa.kc p.cases) (hk : pI p x i) (hs : x.Sm)
  (k : Out.Ok (x.shut p i) (fun y => ∀ M', Hp R (bl (bI pa p gg dr) b y :: L') M' → K (.tuple #[]) M')
   (fun n y => ∀ M', Hp R (bl (bI pa p gg dr) b y :: L') M' → Kp [{ v := .iface 256 (.int .i64 n), recovered := false }] M')) :
  ae Tryz.prog 167 #[.pointer (some ⟨b, 0, none⟩), .int .i64 g, .pointer (some ⟨bf, of', none⟩), .agg #[.int .i64 i.op, .int .i64 i.a, .int .i64 i.b, .int .i64 i.c]] M K Kp := by
 refine uv ?_
 obtain ⟨Ai, hlen, hsh⟩ := hk
 obtain ⟨s1, s2, s3, s4, s5, s6, s7, s8⟩ := hs
 unfold Wd.shut at k
 dsimp only at k
 refine ai h ?_
 clear h
 intro kb M h
 have h' := cV h (b := b)
 clear h
 obtain ⟨a, hl, h⟩ := h'
 have hl' := hl
 obtain ⟨l1, l2, l3, l4⟩ := hl'
 have wY := Ai
 obtain ⟨c0, c1⟩ := wY
 have h' := UH h hl Ai
 clear h
 obtain ⟨cb, hcb, hchx, h⟩ := h'
 repeat (first|(refine ai h ?_;clear h;intro kb M h)|(refine ak h ?_;clear h;intro M h)|refine St.to h ?_|(apply Exists.intro;(repeat apply Exists.intro);refine And.intro rfl ?_)|refine ay ?_|refine aq ?_|refine au ?_)
 refine vT h hcb fun q hq => ?_
 have mN : (aX x.av i.a).close.2.1.length ≤ 1000000 := by
  unfold aQ.close; split <;> simp [hlen]
 refine HX h ?_
 clear h
 intro A ca B cb' M h
 replace h := h.gM bL cb hcb (by omega)
 generalize (aX x.av i.a).close = s at h k hsh mN
 obtain ⟨c', r, sn, e⟩ := s
 dsimp only at h k hsh mN ⊢
 refine ⟨A, _, ca, B, _, cb', e, rfl, ?_⟩
 replace h := bq (a := a) (p := p) (pa := pa) (dr := dr) (gg := gg) (x := x.bg i.a c') (tE hl) h b
 refine dJ.2 ⟨fun he => ?_, fun he => ?_⟩
 ·rw [if_pos he] at k
  exact k _ h.cG
 rw [if_neg (by simpa using he)] at k
 refine aH.2 ⟨fun hn => ?_, fun hn => ?_⟩
 ·rw [if_pos (by omega)] at k
  exact k _ h.cG
 rw [if_neg (by omega)] at k
 have hsn : sn = [] := by cases sn with
  | nil => rfl
  | cons _ _ => simp at hn
 have hok := hsh he hsn
 refine ⟨fun d vs M => ∃ (j : Nat), vs = [.int .i64 (j : Int)] ∧ d = r.length - j ∧ j ≤ r.length ∧ Hp R (bl (bI pa p gg dr) b ((r.take j).foldl (cJ p) (x.bg i.a c')) :: ql A ca r :: L') M, ⟨_, 0, rfl, rfl, by omega, h.sub bx⟩, ?_⟩
 clear h
 rintro d _ nn M ⟨j, Zl, hd, hj, h⟩
 simp only [List.cons.injEq, Value.int.injEq, and_true, true_and] at Zl
 subst Zl
 refine aH.2 ⟨fun hlt => ?_, fun hge => ?_⟩
 ·obtain ⟨w, hw⟩ := aL (l := r) (i := j) (by omega)
  obtain ⟨t1, t2, t3, t4⟩ := Ef hok hw
  have hstep : (r.take (j + 1)).foldl (cJ p) (x.bg i.a c') = cJ p ((r.take j).foldl (cJ p) (x.bg i.a c')) w := by
   rw [dw hw, List.foldl_append]; rfl
  generalize (r.take j).foldl (cJ p) (x.bg i.a c') = y at h t1 t3 t4 hstep
  obtain ⟨qa, rfl⟩ := h.bU (A := A) (by omega) (by decide)
  refine ⟨by omega, hlt, aT ?_⟩
  simp only [Int.toNat_natCast]
  refine aj (Src.at (h.src (A := some ⟨qa, 0, none⟩)) h (i := j) (j := 0) hw rfl (by simp [cC])) ?_
  refine aj (Src.at (h.src (A := some ⟨qa, 0, none⟩)) h (i := j) (j := 1) hw rfl (by simp [cC])) ?_
  refine aj (Src.at (h.src (A := some ⟨qa, 0, none⟩)) h (i := j) (j := 2) hw rfl (by simp [cC])) ?_
  refine ai h ?_
  clear h
  intro kw M h
  refine ak h ?_
  clear h; intro M h
  refine ak h ?_
  clear h; intro M h
  refine ak h ?_
  clear h; intro M h
  have hC := h
  have h' := kS h (b := b) t2 t3
  clear h
  obtain ⟨a2, gb, A2, c2, dU, gm, hgg2, h⟩ := h'
  have hl2' := dU
  obtain ⟨m1, m2, m3, m4⟩ := hl2'
  repeat (first|(refine ai h ?_;clear h;intro kb M h)|(refine ak h ?_;clear h;intro M h)|refine St.to h ?_|(apply Exists.intro;(repeat apply Exists.intro);refine And.intro rfl ?_)|refine ay ?_|refine aq ?_|refine au ?_)
  refine vT h gm fun q2 Mx => ?_
  repeat (first|(refine ai h ?_;clear h;intro kb M h)|(refine ak h ?_;clear h;intro M h)|refine St.to h ?_|(apply Exists.intro;(repeat apply Exists.intro);refine And.intro rfl ?_)|refine ay ?_|refine aq ?_|refine au ?_)
  clear h
  have h := hC
  clear hC
  rw [aS (by omega)]
  have hst : cJ p y w = if (aa y w.g).st = 2 then y.received p { w with v := 0 } 0 else y := rfl
  rw [hst] at hstep
  refine bh.2 ⟨fun e2 => ?_, fun e2 => ?_⟩
  ·rw [if_pos e2] at hstep
   refine ak h ?_
   clear h; intro M h
   repeat (first|(refine ai h ?_;clear h;intro kb M h)|(refine ak h ?_;clear h;intro M h)|refine St.to h ?_|(apply Exists.intro;(repeat apply Exists.intro);refine And.intro rfl ?_)|refine ay ?_|refine aq ?_|refine au ?_)
   refine sL (b := b) (v := { w with v := 0 }) h hp (t4 e2) t1 ?_
   clear h; intro M h
   refine ⟨rfl, r.length - (j + 1), by omega, j + 1, rfl, rfl, by omega, ?_⟩
   rw [hstep]
   exact h.cG
  ·rw [if_neg e2] at hstep
   refine ⟨r.length - (j + 1), by omega, j + 1, rfl, rfl, by omega, ?_⟩
   rw [hstep]
   exact h.sub bx
 ·obtain rfl : j = r.length := by omega
  rw [List.take_length] at h
  exact k _ h.cG
end
structure Rg where
 room : Nat
 l : List Int
def Rg.Ok (x : Rg) (head : Nat) (slots : List Int) : Prop := slots.length = x.room ∧ 0 < x.room ∧ x.room ≤ 1024 ∧ head < x.room ∧ x.l.length ≤ x.room ∧ ∀ i v, x.l[i]? = some v → slots[(head + i) % x.room]? = some v
def ringR : xJ Rg := ⟨fun b x => exs fun A : Option Addr => exs fun c : Nat => exs fun head : Nat => exs fun slots : List Int =>
 sep [fact (x.Ok head slots), pt b [.slice A x.room c, .int .i64 (head : Int), .int .i64 (x.l.length : Int)] 280, cu bR 3 A c slots]⟩
section
variable {R : Mem} {L L' : List HP} {M : Mem} {K : Value → Mem → Prop} {Kp : List PanicEntry → Mem → Prop} {b : Nat} {x : Rg}
def capR (n : Int) : Nat := (min (max n 1) 1024).toNat
end
structure Loc where
 next : Int
 room : Nat
 l : List Int
def Loc.put (x : Loc) (v : Int) (g : List Int) : Loc × List Int × Nat :=
 if x.l.length < x.room then ({ x with l := x.l ++ [v] }, g, 0) else ({ x with l := x.l.drop (x.l.length / 2) }, g ++ (x.l.take (x.l.length / 2) ++ [v]), x.l.length / 2 + 1)
def Loc.ready (x : Loc) (v : Int) (g : List Int) : Loc × List Int × Nat := if x.next = -1 then ({ x with next := v }, g, 0) else ({ x with next := v } : Loc).put x.next g
def Loc.get (x : Loc) : Loc × Int := if x.next ≠ -1 then ({ x with next := -1 }, x.next) else match x.l with
 | [] => (x, -1)
 | v :: l => ({ x with l := l }, v)
def Loc.turn (x : Loc) (g : List Int) : Loc × List Int × Nat := if x.next = -1 then (x, g, 0) else ({ x with next := -1 } : Loc).put x.next g
def Loc.UJ (x : Loc) (g : List Int) (p : Int) : Nat := if p < 1 then 1 else min (g.length / p.toNat + 1) (x.room - x.l.length + 1)
def Loc.UK (x : Loc) (g : List Int) (p : Int) : Loc × List Int × Int := match g.take (x.UJ g p) with
 | [] => (x, g, -1)
 | v :: out => ({ x with l := x.l ++ out }, g.drop (x.UJ g p), v)
def Loc.UL (x f : Loc) : Nat := min (f.l.length - f.l.length / 2) (x.room - x.l.length + 1)
def Loc.steal (x f : Loc) : Loc × Loc × Int := match f.l.take (x.UL f) with
 | [] => (x, { f with next := -1 }, f.next)
 | v :: out => ({ x with l := x.l ++ out }, { f with l := f.l.drop (x.UL f) }, v)
def Loc.Ok (x : Loc) : Prop := x.l.length ≤ x.room ∧ x.room ≤ 1024 ∧ 0 < x.room
def locR : xJ Loc := ⟨fun b x => exs fun rb : Nat => sep [pt b [.int .i64 x.next, .pointer (some ⟨rb, 0, none⟩)] 224, bl ringR rb ⟨x.room, x.l⟩]⟩
def glP (P : Option Addr → Nat → Nat → HP) (l : List Int) : HP := exs fun A : Option Addr => exs fun c : Nat => sep [P A l.length c, cu bR 3 A c l]
class UM (P : Option Addr → Nat → Nat → HP) (L : List HP) (g : outParam (List Int)) (L' : outParam (List HP)) : Prop where
 pick : eB L (glP P g) L'
instance UM.here {P : Option Addr → Nat → Nat → HP} {g : List Int} {L : List HP} : UM P (glP P g :: L) g L := ⟨.here⟩
instance (priority := low) UM.there {P : Option Addr → Nat → Nat → HP} {g : List Int} {Q : HP} {L L' : List HP} [h : UM P L g L'] : UM P (Q :: L) g (Q :: L') := ⟨.there h.pick⟩
end Go.Proofs
namespace Go.Proofs
def Loc.all (x : Loc) : List Int := (if x.next = -1 then [] else [x.next]) ++ x.l
end Go.Proofs
