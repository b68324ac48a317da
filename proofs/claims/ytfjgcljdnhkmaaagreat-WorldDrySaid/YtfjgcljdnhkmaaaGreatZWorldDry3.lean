/- A part of proofs about one program. -/
import Derived.Test.YtfjgcljdnhkmaaaGreatZWorldDryAgg
import Derived.Test.YtfjgcljdnhkmaaaGreatZWorldDry1
set_option linter.unusedVariables false
namespace Go.AF
theorem OI {p q : Prop} [Decidable p] [Decidable q] {X Y : Prop} (hy : Y) (hx : p → q → X) : aM (decide p) (aM (decide q) X Y) Y := by
 by_cases hp : p
 ·by_cases hq : q
  ·simp only [hp, hq, decide_true]; exact aq (aq (hx hp hq))
  ·simp only [hp, hq, decide_true, decide_false]; exact aq (au hy)
 ·simp only [hp, decide_false]; exact au hy
theorem wn {z : Int} {n : Nat} (e : z = (n : Int)) (h : n < 9223372036854775808) : IntKind.wrap .i64 z = (n : Int) := by rw [e]; exact oh h
theorem Src.row {α : Type} {E : jP α} {R : Mem} {L L' : List HP} {A : Option Addr} {T c : Nat} {l : List α} [hp : dG A L α E T c l L'] : Src R L A (E.cells l) := fun M h => h.src (A := A) M h
end Go.AF
namespace Go.AF
abbrev AL := List (Int × Value)
def eG : Nat → AL → List MapEntry
 | _, [] => []
 | i, (k, v) :: l => ⟨.int .i64 k, v, i⟩ :: eG (i + 1) l
def mY (l : AL) : Obj := .map (eG 0 l).toArray l.length
def xF (k : Int) : AL → Nat → Option (Nat × Value)
 | [], _ => none
 | (k', v) :: l, i => if k = k' then some (i, v) else xF k l (i + 1)
def DP (l : AL) (k : Int) : Option Value := (xF k l 0).map (·.2)
def Yr (l : AL) (k : Int) (v : Value) : AL := match xF k l 0 with
 | some (i, _) => l.set i (k, v)
 | none => l ++ [(k, v)]
theorem xG {kd : IntKind} (k : Int) : ∀ (l : AL) (i b : Nat), Instr.findNow (.int kd) (.int .i64 k) (eG b l) i = some (xF k l i)
 | [], _, _ => rfl
 | (k', v) :: l, i, b => by
  simp only [eG, Instr.findNow, Instr.sameNow, if_true, xF]
  by_cases h : k = k'
  ·simp [h]
  ·have : (k == k') = false := by simp [h]
   rw [this, if_neg h]
   exact xG k l (i + 1) (b + 1)
theorem OJ {k : Int} : ∀ {l : AL} {i j : Nat} {v : Value}, xF k l i = some (j, v) → i ≤ j ∧ l[j - i]? = some (k, v)
 | [], _, _, _, h => by simp [xF] at h
 | (k', v') :: l, i, j, v, h => by
  simp only [xF] at h
  split at h
  ·rename_i e; cases h; subst e; exact ⟨Nat.le_refl _, by simp⟩
  ·obtain ⟨h1, h2⟩ := OJ h
   refine ⟨by omega, ?_⟩
   rw [show j - i = (j - (i + 1)) + 1 from by omega, List.getElem?_cons_succ]; exact h2
theorem OK : ∀ {l : AL} {i b : Nat} {k : Int} {v : Value}, l[i]? = some (k, v) → (eG b l)[i]? = some ⟨.int .i64 k, v, b + i⟩
 | [], _, _, _, _, h => by simp at h
 | (k', v') :: l, 0, b, k, v, h => by simp at h; obtain ⟨rfl, rfl⟩ := h; rfl
 | (k', v') :: l, i + 1, b, k, v, h => by
  have := OK (b := b + 1) (show l[i]? = some (k, v) from by simpa using h)
  simp only [eG, List.getElem?_cons_succ, this]
  congr 2; omega
theorem Jr : ∀ {l : AL} {i b : Nat} {k : Int} {v w : Value}, l[i]? = some (k, w) → (eG b l).modify i (fun e => { e with key := .int .i64 k, val := v }) = eG b (l.set i (k, v))
 | [], _, _, _, _, _, h => by simp at h
 | (k', v') :: l, 0, b, k, v, w, h => by simp at h; obtain ⟨rfl, rfl⟩ := h; rfl
 | (k', v') :: l, i + 1, b, k, v, w, h => by
  have := Jr (b := b + 1) (v := v) (show l[i]? = some (k, w) from by simpa using h)
  simp only [eG, List.modify_succ_cons, List.set_cons_succ, this]
theorem Js : ∀ (l m : AL) (b : Nat), eG b (l ++ m) = eG b l ++ eG (b + l.length) m
 | [], m, b => by simp [eG]
 | (k, v) :: l, m, b => by simp only [List.cons_append, eG, Js l m (b + 1), List.length_cons]; congr 3; omega
def Cm : AL → Int → Option Value
 | [], _ => none
 | (k', v) :: l, k => if k = k' then some v else Cm l k
theorem Jt (k : Int) : ∀ (l : AL) (i : Nat), (xF k l i).map (·.2) = Cm l k
 | [], _ => rfl
 | (k', v) :: l, i => by
  simp only [xF, Cm]
  split
  ·rfl
  ·exact Jt k l (i + 1)
theorem Ys (l : AL) (k : Int) : DP l k = Cm l k := Jt k l 0
theorem Ez {k : Int} : ∀ {l : AL}, Cm l k = none ↔ k ∉ l.map (·.1)
 | [] => by simp [Cm]
 | (q, w) :: l => by
  have ih := Ez (k := k) (l := l)
  simp only [Cm, List.map_cons, List.mem_cons, not_or]
  by_cases h : k = q
  ·rw [if_pos h]; simp [h]
  ·rw [if_neg h]; simp [h, ih]
section
variable {R : Mem} {L L' : List HP} {M : Mem} {P : Program} {t kt et : TypeId} {r : Nat} {l : AL} {k : Int} {kd : IntKind}
class Ju (b : Nat) (L : List HP) (o : outParam Obj) (L' : outParam (List HP)) : Prop where
 pick : eA L (ob b o) L'
instance Ju.here {b : Nat} {o : Obj} {L : List HP} : Ju b (ob b o :: L) o L := ⟨.here⟩
instance (priority := low) Ju.there {b : Nat} {o : Obj} {Q : HP} {L L' : List HP} [h : Ju b L o L'] : Ju b (Q :: L) o (Q :: L') := ⟨.there h.pick⟩
theorem sM {P : Program} {M : Mem} {b : Bool} (hk : P.underlying kt = some (.int kd)) : bV P (Instr.checkKey b 10000 kt (.int .i64 k)) M = some () := by
 unfold Instr.checkKey
 rw [aZ, aP hk]; rfl
theorem vZ {P : Program} {M : Mem} (hk : P.underlying kt = some (.int kd)) : bV P (Instr.findKey kt (.int .i64 k) (eG 0 l)) M = some (xF k l 0) := by
 unfold Instr.findKey
 rw [aZ, aP hk, Option.bind_some, xG]; rfl
theorem wc {P : Program} {α : Type} {M : Mem} {r : Nat} {l : AL} {f : Obj → Sem α} {K : α → Mem → Prop} {Kp : Value → Mem → Prop} (hb : M r = some (mY l)) (h : eU P (f (mY l)) M K Kp) : eU P (getObj r >>= f) M K Kp := by
 refine gW P _ _ ?_
 unfold getObj
 simp only [eU, hb, mY]
 exact h
theorem Vh {z : Value} {i : TypeInfo} {K : Value → Mem → Prop} {Kp : List PanicEntry → Mem → Prop} (h : Hp R L M) [p : Ju r L (mY l) L'] (hu : P.underlying t = some (.map kt et)) (hk : P.underlying kt = some (.int kd)) (hi : P.info? et = some i) (hz : i.zero = some z)
  (g : K ((DP l k).getD z) M) : bk P (Instr.lookup t (.map (some r)) (.int .i64 k) false) M K Kp := by
 have hb : M r = some (mY l) := (h.pick p.pick).Su
 unfold bk Instr.lookup
 refine bE (aP hu M) ?_
 simp only
 refine gW P _ _ ?_
 refine wc hb ?_
 simp only [mY]
 refine bE (x := ()) (sM hk) ?_
 refine bE (vZ hk) ?_
 unfold DP at g
 cases ha : xF k l 0 with
 | none =>
  rw [ha] at g
  simp only
  have hz0 : bV P (zeroValue et) M = some z := by rw [mq]; simp [zeroOf, hi, hz]
  refine bE hz0 ?_
  refine bE (x := (z, false)) rfl ?_
  exact g
 | some x =>
  rw [ha] at g
  exact g
theorem zI {v : Value} {K : Mem → Prop} {Kp : List PanicEntry → Mem → Prop} (h : Hp R L M) [p : Ju r L (mY l) L'] (hu : P.underlying t = some (.map kt et)) (hk : P.underlying kt = some (.int kd))
  (g : ∀ M', Hp R (ob r (mY (Yr l k v)) :: L') M' → K M') : bJ P (Instr.mapUpdate t (.map (some r)) (.int .i64 k) v) M K Kp := by
 have h1 := h.pick p.pick
 have hb : M r = some (mY l) := h1.Su
 have fin : ∀ o, o = mY (Yr l k v) → K (M.set r o) := fun o e => by
  subst e
  exact g _ (h1.set (x := mY l) (fun A ha => by unfold ob at ha; exact ha) fun A ha => by unfold ob; exact gf)
 unfold bJ Instr.mapUpdate
 refine bE (aP hu M) ?_
 simp only
 refine wc hb ?_
 simp only [mY]
 refine bE (x := ()) (sM hk) ?_
 refine bE (vZ hk) ?_
 have hset : ∀ o : Obj, K (M.set r o) → eU P (setObj r o) M (fun _ => K) (fun v M' => Kp [{ v, recovered := false }] M') := fun o hK => by
  unfold setObj
  simp only [eU, hb, mY]
  exact hK
 cases ha : xF k l 0 with
 | none =>
  simp only
  refine hset _ (fin _ ?_)
  unfold Yr mY
  rw [ha]
  simp only [List.push_toArray, List.length_append, List.length_singleton]
  rw [Js]; simp [eG]
 | some x =>
  obtain ⟨i, w⟩ := x
  obtain ⟨_, hw⟩ := OJ ha
  rw [Nat.sub_zero] at hw
  simp only
  have he := OK (b := 0) hw
  refine bE (x := Value.int .i64 k) ?_ ?_
  ·have : (((eG 0 l).toArray[i]?).map (·.key)).getD (.int .i64 k) = .int .i64 k := by simp [he]
   rw [this]
   unfold Instr.keyThatStays
   simp [Instr.sameBits]; rfl
  ·refine hset _ (fin _ ?_)
   unfold Yr mY
   rw [ha]
   simp only [List.length_set]
   rw [← Jr (v := v) hw]
   simp [List.modify_toArray]
end
end Go.AF
namespace Go.AF
theorem GM {P : Program} {t t' e ty : TypeId} {i : TypeInfo} {zv : Value} {A B : Option Addr} {n c m d : Nat} {l r : List Value} {M : Mem} {K : Value → Mem → Prop} {Kp : List PanicEntry → Mem → Prop}
  (hu : P.underlying t = some (.slice e)) (Wp : P.underlying t' = some (.slice e)) (hi : P.info? e = some i) (hz : i.zero = some zv) (hs : zv.cells.size = i.size)
  (hol : Sl M A l) (hl : l.length = n * i.size) (hr : Sl M B r) (mU : r.length = m * i.size) (hc : c < n + m) (hb : (n + m) * i.bytes ≤ 140737488355328) (hby : 0 < i.bytes)
  (h : ∀ k c' M', M k = none → wG M' i.size e (some ⟨k, 0, none⟩) (n + m) c' (l ++ r) → pn [] M M' → K (.slice (some ⟨k, 0, none⟩) (n + m) c') M') :
  bk P (Builtin.append_ #[t, t'] ty #[.slice A n c, .slice B m d]) M K Kp := by
 unfold bk Builtin.append_
 simp only [List.getElem?_toArray, List.getElem?_cons_zero, List.getElem?_cons_succ]
 refine bE (aP hu M) ?_
 simp only
 refine bE (gu hi M) ?_
 refine bE (aP Wp M) ?_
 refine bE (x := false) rfl ?_
 refine bE (x := m) rfl ?_
 simp only [Bool.not_false, if_true]
 rw [if_neg (by omega)]
 refine bE (cZ hi M) ?_
 rw [if_neg (by simp; omega)]
 refine bE (cZ hi M) ?_
 rw [if_neg (by have := growslice_fits (need := n + m) (old := c) (bytes := i.bytes) (by omega) hb; omega)]
 show ∀ q, _
 intro q
 have hcap : n + m ≤ Question.cut (.appendCap (n + m) c e) q := by simp only [Question.cut]; omega
 generalize Question.cut (.appendCap (n + m) c e) q = nc at hcap
 refine bE (x := nc) rfl ?_
 refine bE (cZ hi M) ?_
 refine gW P _ _ ?_
 have room : ∀ (X : Prop) , X → eU P (askRoom (nc * i.bytes)) M (fun _ M' => M' = M) (fun _ _ => False) := by
  intro X _
  unfold askRoom
  split
  ·exact rfl
  ·exact rfl
 refine jM P _ (room True trivial) (fun _ M' hM' => ?_) (fun _ _ hf => hf.elim)
 subst hM'
 refine bE (iO hol hl) ?_
 refine bE (iO hr mU) ?_
 refine bE (x := zv) (by rw [mq]; simp [zeroOf, hi, hz]) ?_
 intro k hk
 refine h k nc _ hk ⟨by rw [List.length_append, hl, mU, Nat.add_mul], .inr ⟨k, _, rfl, gf, ?_, hcap, fun j hj => ?_⟩⟩ ((pn.refl _ _).set (.inr hk))
 ·simp only [Array.size_append, List.size_toArray, hl, mU]
  have : (Builtin.zeroCells zv.cells (nc - (n + m))).size = (nc - (n + m)) * i.size := by simp [Builtin.zeroCells, hs]
  rw [this, ← Nat.add_mul, ← Nat.add_mul]; congr 1; omega
 ·rw [Nat.add_mul] at hj
  rw [Array.getElem?_append_left (by simp [hl, mU]; omega)]
  simp
theorem Hp.Yt {α : Type} {E : jP α} {R : Mem} {L L' : List HP} {M : Mem} {T : Nat} {P : Program} {t bytes ty d m k n c : Nat} {zero rc : List Value} {A : Option Addr} {l r : List α} {K : Value → Mem → Prop} {Kp : List PanicEntry → Mem → Prop}
  (h : Hp R L M) [hk : nE k L rc T L'] (hA : Src R L A (E.cells l)) (hn : n = l.length) (El : bF P t T E.z bytes zero) (he : rc = E.cells r) (hm : m = r.length) (hc : c < n + m) (hb : (l.length + r.length) * bytes ≤ 140737488355328)
  (g : ∀ b c' M', Hp R (cw E T (some ⟨b, 0, none⟩) c' (l ++ r) :: L') M' → K (.slice (some ⟨b, 0, none⟩) (l ++ r).length c') M') :
  bk P (Builtin.append_ #[t, t] ty #[.slice A n c, .slice (some ⟨k, 0, none⟩) m d]) M K Kp := by
 subst hm; subst he; subst hn
 have hB : Sl M (some ⟨k, 0, none⟩) (E.cells r) := h.Sy hk.pick
 obtain ⟨hu, i, zv, hi, hs, hby, hz, rfl, hl, hpos⟩ := El
 refine GM hu hu hi hz (by rw [hs, ← hl]; simp) (hA M h) (by rw [hs]; exact E.dW) hB (by rw [hs]; exact E.dW) hc (by rw [hby]; exact hb) (by omega) fun b c' M' hbn ho Ao => ?_
 have h2 : Hp R (cw E T (some ⟨b, 0, none⟩) c' (l ++ r) :: L) M' := by
  have h3 : Hp R (fact True :: L) M := Hp.kO.2 ⟨trivial, h⟩
  refine h3.change (D := []) (D' := [b]) (fun A hA x hx => by cases hx) Ao (fun x hx => by simp only [List.mem_singleton] at hx; subst hx; exact .inr hbn) ?_
  unfold cw own
  rw [List.length_append, E.yu]
  rw [hs] at ho
  have := ho.oV
  simpa [Dd] using this
 have := g b c' M' (h2.map fun _ hs => hs.tail fun _ hx => (de.pick hk.pick hx).drop)
 rwa [List.length_append] at this
section
variable {R : Mem} {L L' : List HP} {M : Mem} {P : Program} {t kt et : TypeId} {r : Nat} {l : AL} {k : Int} {kd : IntKind}
theorem QE {z : Value} {i : TypeInfo} {K : Value → Mem → Prop} {Kp : List PanicEntry → Mem → Prop} (h : Hp R L M) [p : Ju r L (mY l) L'] (hu : P.underlying t = some (.map kt et)) (hk : P.underlying kt = some (.int kd)) (hi : P.info? et = some i) (hz : i.zero = some z)
  (g : K (.tuple #[(DP l k).getD z, .bool (DP l k).isSome]) M) : bk P (Instr.lookup t (.map (some r)) (.int .i64 k) true) M K Kp := by
 have hb : M r = some (mY l) := (h.pick p.pick).Su
 unfold bk Instr.lookup
 refine bE (aP hu M) ?_
 simp only
 refine gW P _ _ ?_
 refine wc hb ?_
 simp only [mY]
 refine bE (x := ()) (sM hk) ?_
 refine bE (vZ hk) ?_
 unfold DP at g
 cases ha : xF k l 0 with
 | none =>
  rw [ha] at g
  simp only
  have hz0 : bV P (zeroValue et) M = some z := by rw [mq]; simp [zeroOf, hi, hz]
  refine bE hz0 ?_
  refine bE (x := (z, false)) rfl ?_
  exact g
 | some x =>
  rw [ha] at g
  exact g
end
theorem Jv {C : Ctx} {g : Nat} {args : List Value} {M : Mem} {K : Value → Mem → Prop} {Kp : List PanicEntry → Mem → Prop} (hg : 1 < g ∧ g < C.ok) (h : ae C.P g args.toArray M K Kp) : qc C (.func (.func g) #[] #[]) args M K Kp := by
 unfold qc
 simp only
 rw [if_pos hg]
 simpa using h
theorem ji {z : Int} (h0 : 0 ≤ z) (h : z < 9223372036854775807) : IntKind.wrap .i64 (z + 1) = z + 1 := by
 obtain ⟨n, rfl⟩ := Int.eq_ofNat_of_zero_le h0
 have := oh (n := n + 1) (by omega)
 exact_mod_cast this
theorem Hp.Cn {α : Type} {E : jP α} {R : Mem} {L : List HP} {M : Mem} {T c : Nat} {A : Option Addr} {l r : List α} {P : Program} {t bytes ty d m : Nat} {zero : List Value} {B : Option Addr} {K : Value → Mem → Prop} {Kp : List PanicEntry → Mem → Prop}
  (h : Hp R (cw E T A c l :: L) M) (El : bF P t T E.z bytes zero) (hr : Sl M B (E.cells r)) (hm : m = r.length) (hb : (l.length + r.length) * bytes ≤ 140737488355328)
  (g : ∀ A' c' M', Hp R (cw E T A' c' (l ++ r) :: L) M' → K (.slice A' (l ++ r).length c') M') :
  bk P (Builtin.append_ #[t, t] ty #[.slice A l.length c, .slice B m d]) M K Kp := by
 subst hm
 have h2 : Hp R (own E.z T A l.length c (E.cells l) :: L) M := by
  have := h; unfold cw at this; exact this
 refine h2.append El hr E.dW E.rm hb fun A' c' M' h => ?_
 have := g A' c' M' (by unfold cw; rw [List.length_append, E.yu]; exact h)
 rwa [List.length_append] at this
theorem Hp.jV {α : Type} {E : jP α} {R : Mem} {L L' Il : List HP} {M : Mem} {T c n : Nat} {A : Option Addr} {l : List α} {P : Program} {t bytes ty k d m : Nat} {zero rc : List Value} {K : Value → Mem → Prop} {Kp : List PanicEntry → Mem → Prop}
  (h : Hp R L M) [ha : dG A L α E T c l L'] [hk : nE k L' rc T Il] (El : bF P t T E.z bytes zero) (r : List α) (he : rc = E.cells r) (hn : n = l.length) (hm : m = r.length) (hb : (l.length + r.length) * bytes ≤ 140737488355328)
  (g : ∀ A' c' M', Hp R (cw E T A' c' (l ++ r) :: Il) M' → K (.slice A' (n + m) c') M') :
  bk P (Builtin.append_ #[t, t] ty #[.slice A n c, .slice (some ⟨k, 0, none⟩) m d]) M K Kp := by
 subst hn
 refine h.be (A := A) El r he hm hb fun A' c' M' h => ?_
 have := g A' c' M' h
 rwa [hm, ← List.length_append] at this
theorem EA {C : Ctx} {g : Nat} {caps : Array Value} {args : List Value} {M : Mem} {K : Value → Mem → Prop} {Kp : List PanicEntry → Mem → Prop} (hg : 1 < g ∧ g < C.ok) (h : ae C.P g (args ++ caps.toList).toArray M K Kp) : qc C (.func (.func g) #[] caps) args M K Kp := by
 unfold qc
 simp only
 rw [if_pos hg]
 simpa using h
end Go.AF
namespace Go.Proofs
open Go.AF
set_option maxRecDepth 100000
set_option maxHeartbeats 1000000
attribute [local irreducible] bG dF ff dP aF fa aE b7 aO bk bJ aM
abbrev we (A : Option Addr) (c : Nat) (l : List eH) : HP := cw fZ 234 A c l
theorem Na : bF Tryz.prog 179 234 11 88 (fZ.f ⟨0, 0, [], 0⟩) := bF.mk' (zv := .agg #[.int .i64 0, .int .i64 0, .int .i64 0, .int .i64 0, .int .i64 0, .int .i64 0, .int .i64 0, .int .i64 0, .int .i64 0, .int .i64 0, .int .i64 0]) (by kernel_rfl) (by kernel_rfl) rfl (by omega)
theorem eH.set_set {f : eH} {q u v : Int} : (f.set q u).set q v = f.set q v := by
 unfold eH.set
 congr 1
 apply List.map_congr_left
 intro i hi
 by_cases h : i = q.toNat
 ·rw [if_pos h, if_pos h]
 ·rw [if_neg h, if_neg h]
  simp [List.mem_range.1 hi, h]
def insC (x : bZ) : List Value := [.int .i64 x.op, .int .i64 x.a, .int .i64 x.b, .int .i64 x.c]
section
variable {R : Mem} {L L' : List HP} {M : Mem} {K : Value → Mem → Prop} {Kp : List PanicEntry → Mem → Prop} {b i c : Nat} {l : List eH} {f : eH} {x : bZ}
theorem xH {q : Int} {o : Nat} {G : Int → Prop} (h : Hp R L M) [p : dG (some ⟨b, 0, none⟩) L eH fZ 234 c l L'] (hi : l[i]? = some f) (hq : aR q) (e : o = i * 11 + 2 + q.toNat) (g : G (f.bH q)) : bG (M.ld ⟨b, o, none⟩) .i64 G := by
 refine aj (Src.at (h.src (A := some ⟨b, 0, none⟩)) h (i := i) (j := 2 + q.toNat) hi (dL hq.1 hq.2) ?_) g
 show _ = 0 + (i * 11 + (2 + q.toNat)); omega
theorem y7 {q v : Int} {o : Nat} {G : Mem → Prop} (h : Hp R L M) [p : dG (some ⟨b, 0, none⟩) L eH fZ 234 c l L'] (hi : l[i]? = some f) (hq : aR q) (e : o = i * 11 + 2 + q.toNat)
  (k : ∀ M', Hp R (we (some ⟨b, 0, none⟩) c (l.set i (f.set q v)) :: L') M' → G M') : b7 M ⟨b, o, none⟩ (.int .i64 v) G := by
 obtain ⟨q0, q8⟩ := hq
 refine g9 i (2 + q.toNat) h hi ?_ (kM q0 q8) ?_ k
 ·show _ < 11; omega
 ·show _ = i * 11 + (2 + q.toNat); omega
theorem Co {o : Nat} {G : Int → Prop} (h : Hp R L M) [p : dG (some ⟨b, 0, none⟩) L eH fZ 234 c l L'] (hi : l[i]? = some f) (e : o = i * 11 + 1) (g : G f.pc) : bG (M.ld ⟨b, o, none⟩) .i64 G := by
 refine aj (Src.at (h.src (A := some ⟨b, 0, none⟩)) h (i := i) (j := 1) hi rfl ?_) g
 show _ = 0 + (i * 11 + 1); omega
theorem Cp {v : Int} {o : Nat} {G : Mem → Prop} (h : Hp R L M) [p : dG (some ⟨b, 0, none⟩) L eH fZ 234 c l L'] (hi : l[i]? = some f) (e : o = i * 11 + 1)
  (k : ∀ M', Hp R (we (some ⟨b, 0, none⟩) c (l.set i { f with pc := v }) :: L') M' → G M') : b7 M ⟨b, o, none⟩ (.int .i64 v) G := by
 refine g9 i 1 h hi (by show 1 < 11; omega) S7 ?_ k
 show _ = i * 11 + 1; omega
theorem sN {α : Type} {l : List α} {i : Nat} {u v : α} : (l.set i u).set i v = l.set i v := by simp
def fOp : List Nat := [195, 196, 197, 198, 199, 200, 201, 202, 203]
theorem Vi (h : Hp R L M) [p : dG (some ⟨b, 0, none⟩) L eH fZ 234 c l L'] (hi : l[i]? = some f) (hx : x.cO) (n : Nat) (hn : x.op = (n : Int)) (h8 : n ≤ 8)
  (k : ∀ M', Hp R (we (some ⟨b, 0, none⟩) c (l.set i (f.pure x)) :: L') M' → K (.tuple #[]) M') :
  ae Tryz.prog (fOp.getD n 0) #[.pointer (some ⟨b, i * 11, none⟩), .agg #[.int .i64 x.op, .int .i64 x.a, .int .i64 x.b, .int .i64 x.c]] M K Kp := by
 obtain ⟨op, xa, xb, xc⟩ := x
 obtain ⟨o1, o2, o3⟩ := hx
 dsimp only at hn o1 o2 o3 k ⊢
 have hsame : l.set i f = l := by obtain ⟨hl, rfl⟩ := List.getElem?_eq_some_iff.1 hi; simp
 subst hn
 have hlt := (List.getElem?_eq_some_iff.1 hi).1
 obtain rfl | rfl | rfl | rfl | rfl | rfl | rfl | rfl | rfl : n = 0 ∨ n = 1 ∨ n = 2 ∨ n = 3 ∨ n = 4 ∨ n = 5 ∨ n = 6 ∨ n = 7 ∨ n = 8 := by omega
 ·refine vP ?_
  have e : f.pure ⟨((0 : Nat) : Int), xa, xb, xc⟩ = f := rfl
  rw [e, hsame] at k
  repeat (first|(refine ai h ?_;clear h;intro kb M h)|(refine ak h ?_;clear h;intro M h)|refine St.to h ?_|(apply Exists.intro;(repeat apply Exists.intro);refine And.intro rfl ?_)|refine ay ?_|refine aq ?_|refine au ?_)
  exact k _ ((h.row (some ⟨b, 0, none⟩)).cG)
 ·have ra : aR xa := o1 (by simp)
  refine oF ?_
  repeat (first|(refine ai h ?_;clear h;intro kb M h)|(refine ak h ?_;clear h;intro M h)|refine St.to h ?_|(apply Exists.intro;(repeat apply Exists.intro);refine And.intro rfl ?_)|refine ay ?_|refine aq ?_|refine au ?_)
  refine ⟨ra.1, ra.2, y7 h hi ra rfl fun M h => ?_⟩
  exact k _ h.cG
 ·obtain ⟨ra, rb⟩ := o2 rfl
  refine uE ?_
  repeat (first|(refine ai h ?_;clear h;intro kb M h)|(refine ak h ?_;clear h;intro M h)|refine St.to h ?_|(apply Exists.intro;(repeat apply Exists.intro);refine And.intro rfl ?_)|refine ay ?_|refine aq ?_|refine au ?_)
  refine ⟨rb.1, rb.2, xH h hi rb rfl ?_⟩
  refine ⟨ra.1, ra.2, y7 h hi ra rfl fun M h => ?_⟩
  exact k _ h.cG
 ·obtain ⟨ra, rb, rc⟩ := o3 (by simp)
  refine vQ ?_
  repeat (first|(refine ai h ?_;clear h;intro kb M h)|(refine ak h ?_;clear h;intro M h)|refine St.to h ?_|(apply Exists.intro;(repeat apply Exists.intro);refine And.intro rfl ?_)|refine ay ?_|refine aq ?_|refine au ?_)
  refine ⟨rb.1, rb.2, xH h hi rb rfl ?_⟩
  repeat (first|(refine ai h ?_;clear h;intro kb M h)|(refine ak h ?_;clear h;intro M h)|refine St.to h ?_|(apply Exists.intro;(repeat apply Exists.intro);refine And.intro rfl ?_)|refine ay ?_|refine aq ?_|refine au ?_)
  refine ⟨rc.1, rc.2, xH h hi rc rfl ?_⟩
  refine ⟨ra.1, ra.2, y7 h hi ra rfl fun M h => ?_⟩
  exact k _ h.cG
 ·obtain ⟨ra, rb, rc⟩ := o3 (by simp)
  refine vR ?_
  repeat (first|(refine ai h ?_;clear h;intro kb M h)|(refine ak h ?_;clear h;intro M h)|refine St.to h ?_|(apply Exists.intro;(repeat apply Exists.intro);refine And.intro rfl ?_)|refine ay ?_|refine aq ?_|refine au ?_)
  refine ⟨rb.1, rb.2, xH h hi rb rfl ?_⟩
  repeat (first|(refine ai h ?_;clear h;intro kb M h)|(refine ak h ?_;clear h;intro M h)|refine St.to h ?_|(apply Exists.intro;(repeat apply Exists.intro);refine And.intro rfl ?_)|refine ay ?_|refine aq ?_|refine au ?_)
  refine ⟨rc.1, rc.2, xH h hi rc rfl ?_⟩
  refine ⟨ra.1, ra.2, y7 h hi ra rfl fun M h => ?_⟩
  exact k _ h.cG
 ·obtain ⟨ra, rb, rc⟩ := o3 (by simp)
  refine vS ?_
  repeat (first|(refine ai h ?_;clear h;intro kb M h)|(refine ak h ?_;clear h;intro M h)|refine St.to h ?_|(apply Exists.intro;(repeat apply Exists.intro);refine And.intro rfl ?_)|refine ay ?_|refine aq ?_|refine au ?_)
  refine ⟨rb.1, rb.2, xH h hi rb rfl ?_⟩
  repeat (first|(refine ai h ?_;clear h;intro kb M h)|(refine ak h ?_;clear h;intro M h)|refine St.to h ?_|(apply Exists.intro;(repeat apply Exists.intro);refine And.intro rfl ?_)|refine ay ?_|refine aq ?_|refine au ?_)
  refine ⟨rc.1, rc.2, xH h hi rc rfl ?_⟩
  refine ⟨ra.1, ra.2, y7 h hi ra rfl fun M h => ?_⟩
  exact k _ h.cG
 ·obtain ⟨ra, rb, rc⟩ := o3 (by simp)
  refine uF ?_
  repeat (first|(refine ai h ?_;clear h;intro kb M h)|(refine ak h ?_;clear h;intro M h)|refine St.to h ?_|(apply Exists.intro;(repeat apply Exists.intro);refine And.intro rfl ?_)|refine ay ?_|refine aq ?_|refine au ?_)
  refine ⟨rb.1, rb.2, xH h hi rb rfl ?_⟩
  repeat (first|(refine ai h ?_;clear h;intro kb M h)|(refine ak h ?_;clear h;intro M h)|refine St.to h ?_|(apply Exists.intro;(repeat apply Exists.intro);refine And.intro rfl ?_)|refine ay ?_|refine aq ?_|refine au ?_)
  refine ⟨rc.1, rc.2, xH h hi rc rfl ?_⟩
  repeat (first|(refine ai h ?_;clear h;intro kb M h)|(refine ak h ?_;clear h;intro M h)|refine St.to h ?_|(apply Exists.intro;(repeat apply Exists.intro);refine And.intro rfl ?_)|refine ay ?_|refine aq ?_|refine au ?_)
  refine ⟨ra.1, ra.2, y7 h hi ra rfl fun M h => ?_⟩
  have e : f.pure ⟨((6 : Nat) : Int), xa, xb, xc⟩ = f.set xa (if f.bH xb < f.bH xc then 1 else 0) := rfl
  rw [e] at k
  refine aH.2 ⟨fun hl => ?_, fun hl => ?_⟩
  ·rw [if_pos hl] at k
   repeat (first|(refine ai h ?_;clear h;intro kb M h)|(refine ak h ?_;clear h;intro M h)|refine St.to h ?_|(apply Exists.intro;(repeat apply Exists.intro);refine And.intro rfl ?_)|refine ay ?_|refine aq ?_|refine au ?_)
   have hi2 : (l.set i (f.set xa 0))[i]? = some (f.set xa 0) := by simp [hlt]
   refine ⟨ra.1, ra.2, y7 h hi2 ra rfl fun M h => ?_⟩
   rw [sN, eH.set_set] at h
   exact k _ h.cG
  ·rw [if_neg hl] at k
   exact k _ h.cG
 ·refine uG ?_
  repeat (first|(refine ai h ?_;clear h;intro kb M h)|(refine ak h ?_;clear h;intro M h)|refine St.to h ?_|(apply Exists.intro;(repeat apply Exists.intro);refine And.intro rfl ?_)|refine ay ?_|refine aq ?_|refine au ?_)
  refine Cp h hi rfl fun M h => ?_
  exact k _ h.cG
 ·have ra : aR xa := o1 (by simp)
  refine qA ?_
  repeat (first|(refine ai h ?_;clear h;intro kb M h)|(refine ak h ?_;clear h;intro M h)|refine St.to h ?_|(apply Exists.intro;(repeat apply Exists.intro);refine And.intro rfl ?_)|refine ay ?_|refine aq ?_|refine au ?_)
  have e : f.pure ⟨((8 : Nat) : Int), xa, xb, xc⟩ = if f.bH xa ≠ 0 then { f with pc := xb } else f := rfl
  rw [e] at k
  refine ⟨ra.1, ra.2, xH h hi ra rfl ?_⟩
  refine cY.2 ⟨fun hl => ?_, fun hl => ?_⟩
  ·rw [if_pos hl] at k
   repeat (first|(refine ai h ?_;clear h;intro kb M h)|(refine ak h ?_;clear h;intro M h)|refine St.to h ?_|(apply Exists.intro;(repeat apply Exists.intro);refine And.intro rfl ?_)|refine ay ?_|refine aq ?_|refine au ?_)
   refine Cp h hi rfl fun M h => ?_
   exact k _ h.cG
  ·rw [if_neg (by simpa using hl), hsame] at k
   exact k _ ((h.row (some ⟨b, 0, none⟩)).cG)
def Yu : AL := (List.range 9).map fun n : Nat => ((n : Int), .func (.func (fOp.getD n 0)) #[] #[])
theorem Jw (h : Hp R L M) (k : ∀ m M', Hp R (ob m (mY Yu) :: L) M' → K (.map (some m)) M') : ae Tryz.prog 153 #[] M K Kp := by
 refine BN ?_
 refine ZI h ?_
 clear h
 intro m M h
 replace h : Hp R (ob m (mY []) :: L) M := h
 have hu : Tryz.prog.underlying 302 = some (.map 32 300) := by kernel_rfl
 have hk : Tryz.prog.underlying 32 = some (.int .i64) := by kernel_rfl
 iterate 9
  refine zI h hu hk ?_
  clear h
  intro M h
 exact k _ _ h
theorem Nb (h : Hp R L M) [p : dG (some ⟨b, 0, none⟩) L eH fZ 234 c l L'] (hi : l[i]? = some f) (hx : x.cO) (h0 : 0 ≤ x.op) (hs : 0 ≤ f.pc ∧ f.pc < 1000000000)
  (k1 : x.op ≤ 8 → ∀ M', Hp R (we (some ⟨b, 0, none⟩) c (l.set i (f.next.pure x)) :: L') M' → K (.bool true) M')
  (k2 : 8 < x.op → ∀ M', Hp R (we (some ⟨b, 0, none⟩) c l :: L') M' → K (.bool false) M') :
  ae Tryz.prog 121 #[.pointer (some ⟨b, i * 11, none⟩), .agg #[.int .i64 x.op, .int .i64 x.a, .int .i64 x.b, .int .i64 x.c]] M K Kp := by
 have hlt := (List.getElem?_eq_some_iff.1 hi).1
 obtain ⟨q, hq⟩ := Int.eq_ofNat_of_zero_le h0
 refine ur ?_
 repeat (first|(refine ai h ?_;clear h;intro kb M h)|(refine ak h ?_;clear h;intro M h)|refine St.to h ?_|(apply Exists.intro;(repeat apply Exists.intro);refine And.intro rfl ?_)|refine ay ?_|refine aq ?_|refine au ?_)
 refine Jw h ?_
 clear h
 intro m M h
 repeat (first|(refine ai h ?_;clear h;intro kb M h)|(refine ak h ?_;clear h;intro M h)|refine St.to h ?_|(apply Exists.intro;(repeat apply Exists.intro);refine And.intro rfl ?_)|refine ay ?_|refine aq ?_|refine au ?_)
 have hu : Tryz.prog.underlying 302 = some (.map 32 300) := by kernel_rfl
 have hk : Tryz.prog.underlying 32 = some (.int .i64) := by kernel_rfl
 obtain ⟨ti, hti, htz⟩ : ∃ ti, Tryz.prog.info? 300 = some ti ∧ ti.zero = some .nilFunc := ⟨_, rfl, rfl⟩
 refine QE h hu hk hti htz ?_
 refine ⟨_, _, rfl, cv h, ?_⟩
 by_cases h8 : x.op ≤ 8
 ·have hq8 : q ≤ 8 := by omega
  have hl : DP Yu x.op = some (.func (.func (fOp.getD q 0)) #[] #[]) := by
   rw [hq]
   obtain rfl | rfl | rfl | rfl | rfl | rfl | rfl | rfl | rfl : q = 0 ∨ q = 1 ∨ q = 2 ∨ q = 3 ∨ q = 4 ∨ q = 5 ∨ q = 6 ∨ q = 7 ∨ q = 8 := by omega
   all_goals rfl
  rw [hl]
  refine aq ?_
  refine Co h hi rfl ?_
  rw [ji (by omega) (by omega)]
  refine Cp h hi rfl ?_
  clear h
  intro M h
  have hi2 : (l.set i { f with pc := f.pc + 1 })[i]? = some f.next := by simp [hlt, eH.next]
  repeat (first|(refine ai h ?_;clear h;intro kb M h)|(refine ak h ?_;clear h;intro M h)|refine St.to h ?_|(apply Exists.intro;(repeat apply Exists.intro);refine And.intro rfl ?_)|refine ay ?_|refine aq ?_|refine au ?_)
  have hg : 1 < fOp.getD q 0 ∧ fOp.getD q 0 < Cx.ok := by
   obtain rfl | rfl | rfl | rfl | rfl | rfl | rfl | rfl | rfl : q = 0 ∨ q = 1 ∨ q = 2 ∨ q = 3 ∨ q = 4 ∨ q = 5 ∨ q = 6 ∨ q = 7 ∨ q = 8 := by omega
   all_goals exact ⟨by decide, by show _ < 228; decide⟩
  refine Jv hg ?_
  refine Vi (f := f.next) h hi2 hx q hq hq8 ?_
  clear h
  intro M h
  rw [sN] at h
  exact ⟨rfl, k1 h8 _ h.cG⟩
 ·have hl : DP Yu x.op = none := by
   rw [Ys, Ez]
   have : Yu.map (·.1) = [0, 1, 2, 3, 4, 5, 6, 7, 8] := by decide
   rw [this]; simp; omega
  rw [hl]
  refine au ?_
  exact k2 (by omega) _ ((h.row (some ⟨b, 0, none⟩)).cG)
end
section
variable {R : Mem} {L L' : List HP} {M : Mem} {K : Value → Mem → Prop} {Kp : List PanicEntry → Mem → Prop} {b i c : Nat} {l : List eH} {f : eH} {x : bZ}
theorem oK {m : Nat} (hm : 0 < m) (h2 : m ≤ 1000000000) (k : K (.pointer (some ⟨b, (m - 1) * 11, none⟩)) M) : ae Tryz.prog 120 #[.slice (some ⟨b, 0, none⟩) m c] M K Kp := by
 refine vJ ?_
 have e : IntKind.wrap .i64 ((m : Int) - 1) = ((m - 1 : Nat) : Int) := wn (by omega) (by omega)
 refine bh.2 ⟨fun h0 => by omega, fun _ => ?_⟩
 rw [e]
 refine ⟨by omega, by omega, aV ?_⟩
 simp only [Int.toNat_natCast, Nat.zero_add]
 exact k
theorem sO {fn v : Int} (h : Hp R L M) (k : ∀ b M', Hp R (we (some ⟨b, 0, none⟩) 1 [eH.begin fn v] :: L) M' → K (.slice (some ⟨b, 0, none⟩) 1 1) M') : ae Tryz.prog 71 #[.int .i64 fn, .int .i64 v] M K Kp := by
 refine BK ?_
 refine ai h ?_
 clear h
 intro b M h
 exact k b M (h.g8 (E := fZ) (l := [eH.begin fn v]) rfl)
theorem Nc {fn v mF : Int} {A : Option Addr} (h : Hp R L M) [p : dG A L eH fZ 234 c l L'] (hl : 0 < l.length)
  (k1 : 16 ≤ l.length → K (.tuple #[.slice A l.length c, .bool false]) M)
  (k2 : l.length < 16 → ∀ b c' M', Hp R (we (some ⟨b, 0, none⟩) c' (l ++ [⟨fn, 0, [v, 0, 0, 0, 0, 0, 0, 0], mF⟩]) :: L) M' → K (.tuple #[.slice (some ⟨b, 0, none⟩) (l.length + 1) c', .bool true]) M') :
  ae Tryz.prog 211 #[.slice A l.length c, .int .i64 fn, .int .i64 v, .int .i64 mF] M K Kp := by
 refine uI ?_
 have hcap := h.nF A
 refine aH.2 ⟨fun mh => k1 (by omega), fun mh => ?_⟩
 refine ⟨by omega, by omega, by omega, by omega, by omega, by omega, ?_⟩
 refine ai h ?_
 clear h
 intro kb M h
 simp only [Int.toNat_natCast, Nat.sub_zero]
 have e : jt A 0 l.length 11 = A := by
  obtain ⟨bb, rfl⟩ := h.bU (A := A) hl (by decide)
  unfold jt
  rw [if_neg (by omega)]
  rfl
 rw [e]
 refine Hp.Yt (E := fZ) (r := [⟨fn, 0, [v, 0, 0, 0, 0, 0, 0, 0], mF⟩]) h (h.src (A := A)) rfl Na rfl rfl (by omega) (by simp; omega) ?_
 clear h
 intro b c' M h
 refine aY ?_
 have := k2 (by omega) b c' M h
 rwa [List.length_append]
theorem GN {v : Int} {A : Option Addr} (h : Hp R L M) [p : dG A L eH fZ 234 c l L'] (hl : 0 < l.length) (hs : l.length ≤ 1000000)
  (Vj : l[l.length - 1]? = some f) (hin : aR f.mF)
  (k1 : l.length < 2 → K (.tuple #[.slice none 0 0, .bool false]) M)
  (k2 : 2 ≤ l.length → ∀ b c' M', ∀ g, l[l.length - 2]? = some g → Hp R (we (some ⟨b, 0, none⟩) c' ((l.take (l.length - 1)).set (l.length - 2) (g.set f.mF v)) :: L) M' → K (.tuple #[.slice (some ⟨b, 0, none⟩) (l.length - 1) c', .bool true]) M') :
  ae Tryz.prog 212 #[.slice A l.length c, .int .i64 v] M K Kp := by
 refine qB ?_
 have hcap := h.nF A
 refine aH.2 ⟨fun mh => k1 (by omega), fun mh => ?_⟩
 have e : IntKind.wrap .i64 ((l.length : Int) - 1) = ((l.length - 1 : Nat) : Int) := wn (by omega) (by omega)
 obtain ⟨ba, rfl⟩ := h.bU (A := A) hl (by decide)
 refine ai h ?_
 clear h
 intro kb M h
 rw [e]
 refine ⟨by omega, by omega, by omega, by omega, by omega, by omega, ?_⟩
 simp only [Int.toNat_natCast, Nat.sub_zero]
 have e2 : jt (some ⟨ba, 0, none⟩) 0 c 11 = some ⟨ba, 0, none⟩ := by
  unfold jt
  rw [if_neg (by omega)]
  rfl
 rw [e2]
 refine h.b6 fZ Na (l.take (l.length - 1)) ((h.src (A := some ⟨ba, 0, none⟩)).takeE _) (by simp) (by simp; omega) ?_
 clear h
 intro A' c' M h
 have hlen : (l.take (l.length - 1)).length = l.length - 1 := by simp
 obtain ⟨b', rfl⟩ := h.bU (A := A') (by omega) (by decide)
 refine aY ?_
 rw [hlen]
 refine oK (by omega) (by omega) ?_
 refine Bq (aV ?_)
 refine oK (by omega) (by omega) ?_
 refine Bq (aV ?_)
 refine aj (Src.at (h.src (A := some ⟨ba, 0, none⟩)) h (i := l.length - 1) (j := 10) Vj rfl (by show _ = 0 + ((l.length - 1) * 11 + 10); omega)) ?_
 obtain ⟨g, hg⟩ := aJ (l := l) (i := l.length - 2) (by omega)
 refine ⟨hin.1, hin.2, ?_⟩
 have QF : (l.take (l.length - 1))[l.length - 2]? = some g := by rw [List.getElem?_take, if_pos (by omega)]; exact hg
 refine y7 h QF hin (by omega) ?_
 clear h
 intro M h
 exact k2 (by omega) b' c' M g hg h
abbrev wg (A : Option Addr) (c : Nat) (l : List Int) : HP := cw bS 3 A c l
def fh : xT Lk := ⟨fun b x => exs fun A : Option Addr => exs fun c : Nat => sep [pt b [.int .i64 x.owner, .slice A x.waits.length c] 238, wg A c x.waits]⟩
def Lk.take (x : Lk) (g : Int) : Lk × Bool := if x.owner = -1 then (⟨g, x.waits⟩, true) else (⟨x.owner, x.waits ++ [g]⟩, false)
def Lk.gU (x : Lk) (g : Int) : Lk × Int × Int :=
 if x.owner = -1 ∨ x.owner ≠ g then (x, -1, 5) else (⟨x.waits.headD (-1), x.waits.tail⟩, x.waits.headD (-1), 0)
variable {y : Lk}
theorem tJ (h : Hp R L M) [o : gn fh b L y L'] : ∃ A c, Hp R (pt b [.int .i64 y.owner, .slice A y.waits.length c] 238 :: wg A c y.waits :: L') M := by
 have := h.obj fh b
 simpa only [fh, Hp.po, Hp.cW, List.cons_append, List.nil_append] using this
theorem ia {A : Option Addr} {n c : Nat} {o : Int} {ws : List Int} {L1 L2 : List HP} (h : Hp R L M) (b : Nat) [p : nE b L [.int .i64 o, .slice A n c] 238 L1] [p1 : dG A L1 Int bS 3 c ws L2] (e : n = ws.length := by first | rfl | simp) : Hp R (bj fh b ⟨o, ws⟩ :: L2) M := by
 subst e
 refine Hp.SE ?_
 simp only [fh, Hp.po, Hp.cW, List.cons_append, List.nil_append]
 exact ⟨_, _, h.sub (.cons p.pick (.cons p1.pick .refl))⟩
theorem EB (h : Hp R L M) (k : ∀ b M', Hp R (bj fh b ⟨-1, []⟩ :: L) M' → K (.pointer (some ⟨b, 0, none⟩)) M') : ae Tryz.prog 73 #[] M K Kp := by
 refine FN ?_
 refine ai h ?_
 clear h
 intro b M h
 have h := h.dz bS 3
 exact k b M (ia h b)
theorem Nd {g : Int} (h : Hp R L M) [o : gn fh b L y L'] (hs : y.waits.length ≤ 1000000000) (k : ∀ M', Hp R (bj fh b (y.take g).1 :: L') M' → K (.bool (y.take g).2) M') :
  ae Tryz.prog 215 #[.pointer (some ⟨b, 0, none⟩), .int .i64 g] M K Kp := by
 refine vT ?_
 have h' := tJ h (b := b)
 clear h
 obtain ⟨A, c, h⟩ := h'
 repeat (first|(refine ai h ?_;clear h;intro kb M h)|(refine ak h ?_;clear h;intro M h)|refine St.to h ?_|(apply Exists.intro;(repeat apply Exists.intro);refine And.intro rfl ?_)|refine ay ?_|refine aq ?_|refine au ?_)
 unfold Lk.take at k
 refine cY.2 ⟨fun hn => ?_, fun hn => ?_⟩
 ·rw [if_neg hn] at k
  repeat (first|(refine ai h ?_;clear h;intro kb M h)|(refine ak h ?_;clear h;intro M h)|refine St.to h ?_|(apply Exists.intro;(repeat apply Exists.intro);refine And.intro rfl ?_)|refine ay ?_|refine aq ?_|refine au ?_)
  refine h.be jR [g] rfl rfl (by simp; omega) ?_
  clear h
  intro A' c' M h
  repeat (first|(refine ai h ?_;clear h;intro kb M h)|(refine ak h ?_;clear h;intro M h)|refine St.to h ?_|(apply Exists.intro;(repeat apply Exists.intro);refine And.intro rfl ?_)|refine ay ?_|refine aq ?_|refine au ?_)
  exact k _ (ia h b).cG
 ·rw [if_pos hn] at k
  repeat (first|(refine ai h ?_;clear h;intro kb M h)|(refine ak h ?_;clear h;intro M h)|refine St.to h ?_|(apply Exists.intro;(repeat apply Exists.intro);refine And.intro rfl ?_)|refine ay ?_|refine aq ?_|refine au ?_)
  exact k _ (ia h b).cG
theorem Nf {g : Int} (h : Hp R L M) [o : gn fh b L y L'] (hs : y.waits.length ≤ 1000000000) (k : ∀ M', Hp R (bj fh b (y.gU g).1 :: L') M' → K (.tuple #[.int .i64 (y.gU g).2.1, .int .i64 (y.gU g).2.2]) M') :
  ae Tryz.prog 216 #[.pointer (some ⟨b, 0, none⟩), .int .i64 g] M K Kp := by
 refine vU ?_
 obtain ⟨ow, ws⟩ := y
 have h' := tJ h (b := b)
 clear h
 obtain ⟨A, c, h⟩ := h'
 dsimp only at h hs
 repeat (first|(refine ai h ?_;clear h;intro kb M h)|(refine ak h ?_;clear h;intro M h)|refine St.to h ?_|(apply Exists.intro;(repeat apply Exists.intro);refine And.intro rfl ?_)|refine ay ?_|refine aq ?_|refine au ?_)
 unfold Lk.gU at k
 refine bh.2 ⟨fun hn => ?_, fun hn => ?_⟩
 ·rw [if_pos (.inl hn)] at k
  exact k _ (ia h b).cG
 repeat (first|(refine ai h ?_;clear h;intro kb M h)|(refine ak h ?_;clear h;intro M h)|refine St.to h ?_|(apply Exists.intro;(repeat apply Exists.intro);refine And.intro rfl ?_)|refine ay ?_|refine aq ?_|refine au ?_)
 refine cY.2 ⟨fun qZ => ?_, fun qZ => ?_⟩
 ·rw [if_pos (.inr qZ)] at k
  exact k _ (ia h b).cG
 rw [if_neg (by rintro (h | h) <;> contradiction)] at k
 repeat (first|(refine ai h ?_;clear h;intro kb M h)|(refine ak h ?_;clear h;intro M h)|refine St.to h ?_|(apply Exists.intro;(repeat apply Exists.intro);refine And.intro rfl ?_)|refine ay ?_|refine aq ?_|refine au ?_)
 refine aH.2 ⟨fun hr => ?_, fun hr => ?_⟩
 ·cases ws with
  | nil => simp at hr
  | cons w r =>
   repeat (first|(refine ai h ?_;clear h;intro kb M h)|(refine ak h ?_;clear h;intro M h)|refine St.to h ?_|(apply Exists.intro;(repeat apply Exists.intro);refine And.intro rfl ?_)|refine ay ?_|refine aq ?_|refine au ?_)
   obtain ⟨q, rfl⟩ := h.bU (A := A) (by simp) (by decide)
   repeat (first|(refine ai h ?_;clear h;intro kb M h)|(refine ak h ?_;clear h;intro M h)|refine St.to h ?_|(apply Exists.intro;(repeat apply Exists.intro);refine And.intro rfl ?_)|refine ay ?_|refine aq ?_|refine au ?_)
   refine aj (Src.at (h.src (A := some ⟨q, 0, none⟩)) h (i := 0) (j := 0) rfl rfl (by simp [bS])) ?_
   have hcap := h.nF (some ⟨q, 0, none⟩)
   have hlen : r.length + 1 ≤ 1000000000 := by simpa using hs
   repeat (first|(refine ai h ?_;clear h;intro kb M h)|(refine ak h ?_;clear h;intro M h)|refine St.to h ?_|(apply Exists.intro;(repeat apply Exists.intro);refine And.intro rfl ?_)|refine ay ?_|refine aq ?_|refine au ?_)
   simp only [Int.toNat_natCast]
   refine h.b6 bS jR r ((h.src (A := some ⟨q, 0, none⟩)).drop (m := 1) hcap) (by simp) (by omega) ?_
   clear h
   intro A' c' M h
   repeat (first|(refine ai h ?_;clear h;intro kb M h)|(refine ak h ?_;clear h;intro M h)|refine St.to h ?_|(apply Exists.intro;(repeat apply Exists.intro);refine And.intro rfl ?_)|refine ay ?_|refine aq ?_|refine au ?_)
   exact k _ (ia h b).cG
 ·cases ws with
  | cons v l => simp at hr
  | nil =>
   repeat (first|(refine ai h ?_;clear h;intro kb M h)|(refine ak h ?_;clear h;intro M h)|refine St.to h ?_|(apply Exists.intro;(repeat apply Exists.intro);refine And.intro rfl ?_)|refine ay ?_|refine aq ?_|refine au ?_)
   exact k _ (ia h b).cG
end
structure PA where
 f : Option Addr
 fc : Nat
 c : Option Addr
 cc : Nat
 k : Option Addr
 kc : Nat
abbrev GA := Option Addr × Nat
abbrev sP (y : gK) (A : Option Addr) (c : Nat) : List Value := [.int .i64 y.st, .slice A y.fs.length c, .int .i64 y.wt.op, .int .i64 y.wt.a, .int .i64 y.wt.b, .int .i64 y.wt.c]
def gm : xT (gK × GA) := ⟨fun b x => sep [pt b (sP x.1 x.2.1 x.2.2) 182, we x.2.1 x.2.2 x.1.fs]⟩
structure WA where
 ag : Option Addr
 cg : Nat
 gb : List Nat
 ac : Option Addr
 cc : Nat
 cb : List Nat
 al : Option Addr
 cl : Nat
 lb : List Nat
 ah : Option Addr
 ch : Nat
 ao : Option Addr
 co : Nat
 ar : Option Addr
 cr : Nat
abbrev nO (pa : PA) (p : cy) (dr : Value) (a : WA) (x : Wd) : List Value :=
 [.slice pa.f p.funcs.length pa.fc, .slice pa.c p.dB.length pa.cc, .int .i64 p.aC, .slice pa.k p.cases.length pa.kc, .slice a.ag a.gb.length a.cg, .int .u64 x.clock,
  .slice a.ac a.cb.length a.cc, .slice a.al a.lb.length a.cl, .slice a.ah x.hl.length a.ch, .int .u64 x.dk, .slice a.ao x.out.length a.co, .int .i64 x.end_, .int .i64 x.code, .slice a.ar x.ready.length a.cr, dr]
abbrev zJ (A : Option Addr) (c : Nat) (l : List Nat) : HP := cw nG 177 A c l
abbrev zK (A : Option Addr) (c : Nat) (l : List Nat) : HP := cw nG 183 A c l
abbrev zL (A : Option Addr) (c : Nat) (l : List Nat) : HP := cw nG 185 A c l
abbrev eX (A : Option Addr) (c : Nat) (l : List aN) : HP := cw hH 205 A c l
abbrev vk (a : WA) (x : Wd) (L : List HP) : List HP :=
 zJ a.ag a.cg a.gb :: zK a.ac a.cc a.cb :: cN bL a.cb x.av :: zL a.al a.cl a.lb :: cN fh a.lb x.aC :: eX a.ah a.ch x.hl :: rz a.ao a.co x.out :: wg a.ar a.cr x.ready :: L
def fW (gg : List GA) (a : WA) (x : Wd) : Prop := a.gb.length = x.gs.length ∧ gg.length = x.gs.length ∧ a.cb.length = x.av.length ∧ a.lb.length = x.aC.length
def bI (pa : PA) (p : cy) (gg : List GA) (dr : Value) : xT Wd := ⟨fun b x => exs fun a : WA =>
 sep (pt b (nO pa p dr a x) 164 :: cN gm a.gb (x.gs.zip gg) :: fact (fW gg a x) :: vk a x [])⟩
class y8 (b : Nat) (L : List HP) (pa : outParam PA) (p : outParam cy) (gg : outParam (List GA)) (dr : outParam Value) (x : outParam Wd) (L' : outParam (List HP)) : Prop where
 pick : eA L (bj (bI pa p gg dr) b x) L'
instance y8.here {pa : PA} {p : cy} {gg : List GA} {dr : Value} {b : Nat} {x : Wd} {L : List HP} : y8 b (bj (bI pa p gg dr) b x :: L) pa p gg dr x L := ⟨.here⟩
instance (priority := low) y8.there {pa : PA} {p : cy} {gg : List GA} {dr : Value} {b : Nat} {x : Wd} {Q : HP} {L L' : List HP} [h : y8 b L pa p gg dr x L'] : y8 b (Q :: L) pa p gg dr x (Q :: L') := ⟨.there h.pick⟩
section
variable {R : Mem} {L L' : List HP} {M : Mem} {K : Value → Mem → Prop} {Kp : List PanicEntry → Mem → Prop} {pa : PA} {p : cy} {gg : List GA} {dr : Value} {b : Nat} {x : Wd}
theorem cV (h : Hp R L M) [o : y8 b L pa p gg dr x L'] : ∃ a : WA, fW gg a x ∧ Hp R (pt b (nO pa p dr a x) 164 :: cN gm a.gb (x.gs.zip gg) :: vk a x L') M := by
 have := h.pick o.pick
 unfold bj at this
 simp only [bI, vk, Hp.po, Hp.cW, List.cons_append, List.nil_append] at this
 obtain ⟨a, h⟩ := this
 have h2 := h.pick (P := fact (fW gg a x)) (.there (.there .here))
 exact ⟨a, (Hp.kO.1 h2).1, (Hp.kO.1 h2).2⟩
theorem kV {a : WA} (hl : fW gg a x) (h : Hp R (pt b (nO pa p dr a x) 164 :: cN gm a.gb (x.gs.zip gg) :: vk a x L) M) : Hp R (bj (bI pa p gg dr) b x :: L) M := by
 refine Hp.SE ?_
 simp only [bI, vk, Hp.po, Hp.cW, List.cons_append, List.nil_append]
 refine ⟨a, ?_⟩
 have h2 : Hp R (fact (fW gg a x) :: pt b (nO pa p dr a x) 164 :: cN gm a.gb (x.gs.zip gg) :: vk a x L) M := Hp.kO.2 ⟨hl, h⟩
 exact h2.yp (.there (.there .here))
theorem br {a : WA} {L0 L1 L2 L3 L4 L5 L6 L7 L8 L9 : List HP} (hl : fW gg a x) (h : Hp R L M) (b : Nat)
  [p0 : nE b L (nO pa p dr a x) 164 L0] [p1 : iL gm L0 a.gb (x.gs.zip gg) L1] [p2 : dG a.ag L1 Nat nG 177 a.cg a.gb L2] [p3 : dG a.ac L2 Nat nG 183 a.cc a.cb L3]
  [p4 : iL bL L3 a.cb x.av L4] [p5 : dG a.al L4 Nat nG 185 a.cl a.lb L5] [p6 : iL fh L5 a.lb x.aC L6] [p7 : dG a.ah L6 aN hH 205 a.ch x.hl L7] [p8 : dG a.ao L7 Int bS 2 a.co x.out L8]
  [p9 : dG a.ar L8 Int bS 3 a.cr x.ready L9] : Hp R (bj (bI pa p gg dr) b x :: L9) M :=
 kV hl (h.sub (.cons p0.pick (.cons p1.pick (.cons p2.pick (.cons p3.pick (.cons p4.pick (.cons p5.pick (.cons p6.pick (.cons p7.pick (.cons p8.pick (.cons p9.pick .refl)))))))))))
theorem Jx {α β : Type} : ∀ {l : List α} {m : List β} {i : Nat} {u : α} {v : β}, m[i]? = some v → (l.zip m).set i (u, v) = (l.set i u).zip m
 | [], _, _, _, _, _ => by simp
 | a :: l, [], i, u, v, h => by simp at h
 | a :: l, w :: m, 0, u, v, h => by simp at h; subst h; rfl
 | a :: l, w :: m, i + 1, u, v, h => by
  have := Jx (l := l) (u := u) (show m[i]? = some v from by simpa using h)
  simp [this]
theorem nj {α β : Type} : ∀ {l : List α} {m : List β} {i : Nat} {u : α} {v : β}, l[i]? = some u → m[i]? = some v → (l.zip m)[i]? = some (u, v)
 | [], _, _, _, _, h, _ => by simp at h
 | a :: l, [], i, u, v, _, h => by simp at h
 | a :: l, w :: m, 0, u, v, h, g => by simp at h g; subst h; subst g; rfl
 | a :: l, w :: m, i + 1, u, v, h, g => by simpa using nj (show l[i]? = some u from by simpa using h) (show m[i]? = some v from by simpa using g)
theorem mH {c : Nat} {y : gK} {A : Option Addr} (h : Hp R L M) [o : gn gm b L (y, (A, c)) L'] : Hp R (pt b (sP y A c) 182 :: we A c y.fs :: L') M := by
 have := h.obj gm b
 simpa only [gm, Hp.cW, List.cons_append, List.nil_append] using this
theorem oL {A : Option Addr} {n c : Nat} {st o1 o2 o3 o4 : Int} {fs : List eH} {L1 L2 : List HP} (h : Hp R L M) (b : Nat) [p : nE b L [.int .i64 st, .slice A n c, .int .i64 o1, .int .i64 o2, .int .i64 o3, .int .i64 o4] 182 L1] [p1 : dG A L1 eH fZ 234 c fs L2]
  (e : n = fs.length := by first | rfl | simp) : Hp R (bj gm b (⟨st, fs, ⟨o1, o2, o3, o4⟩⟩, (A, c)) :: L2) M := by
 subst e
 refine Hp.SE ?_
 simp only [gm, Hp.cW, List.cons_append, List.nil_append]
 exact h.sub (.cons p.pick (.cons p1.pick .refl))
theorem kW {g : Int} (h : Hp R L M) [o : y8 b L pa p gg dr x L'] (h0 : 0 ≤ g) (hg : g < x.gs.length) :
  ∃ (a : WA) (gb : Nat) (A : Option Addr) (c : Nat), fW gg a x ∧ a.gb[g.toNat]? = some gb ∧ gg[g.toNat]? = some (A, c) ∧
   Hp R (pt gb (sP (aa x g) A c) 182 :: we A c (aa x g).fs :: pt b (nO pa p dr a x) 164 :: zD gm a.gb (x.gs.zip gg) g.toNat :: vk a x L') M := by
 obtain ⟨a, hl, h1⟩ := cV h (b := b)
 obtain ⟨l1, l2, l3, l4⟩ := hl
 obtain ⟨gb, gp⟩ := aJ (l := a.gb) (i := g.toNat) (by omega)
 obtain ⟨⟨A, c⟩, fS⟩ := aJ (l := gg) (i := g.toNat) (by omega)
 obtain ⟨y, hy⟩ := aJ (l := x.gs) (i := g.toNat) (by omega)
 have e : aa x g = y := by simp [aa, hy]
 rw [e]
 have h2 := h1.eF gm gp (nj hy fS)
 have h3 := mH (b := gb) h2
 exact ⟨a, gb, A, c, ⟨l1, l2, l3, l4⟩, gp, fS, h3.sub bz⟩
theorem dx {a : WA} {A : Option Addr} {c n : Nat} {g : Int} {st o1 o2 o3 o4 : Int} {fs : List eH} {L1 L2 L3 : List HP} (h : Hp R L M) (gb : Nat) (hl : fW gg a x) (gp : a.gb[g.toNat]? = some gb) (fS : gg[g.toNat]? = some (A, c))
  [p1 : nE gb L [.int .i64 st, .slice A n c, .int .i64 o1, .int .i64 o2, .int .i64 o3, .int .i64 o4] 182 L1] [p2 : dG A L1 eH fZ 234 c fs L2]
  [p3 : zE gm L2 a.gb (x.gs.zip gg) g.toNat L3] (e : n = fs.length := by first | rfl | simp) : Hp R (cN gm a.gb ((x.gs.set g.toNat ⟨st, fs, ⟨o1, o2, o3, o4⟩⟩).zip gg) :: L3) M := by
 have h1 := oL h gb e
 obtain ⟨l1, l2, l3, l4⟩ := hl
 have hi := (List.getElem?_eq_some_iff.1 gp).1
 have h2 := h1.gP gm gb gp (by rw [List.length_zip]; omega)
 rwa [Jx fS] at h2
end
section
variable {R : Mem} {L L' : List HP} {M : Mem} {K : Value → Mem → Prop} {Kp : List PanicEntry → Mem → Prop} {pa : PA} {p : cy} {gg : List GA} {dr : Value} {b : Nat} {x : Wd}
theorem Vk {A : Option Addr} {l : List Nat} {T c q i bb : Nat} (h : Hp R L M) [r : dG A L Nat nG T c l L'] (hq : A = some ⟨q, 0, none⟩) (hb : l[i]? = some bb) : M.ld ⟨q, 0 + i, none⟩ = some (.pointer (some ⟨bb, 0, none⟩)) := by
 subst hq
 exact Src.at (h.src (A := some ⟨q, 0, none⟩)) h (i := i) (j := 0) hb rfl (by simp [nG])
theorem wh {A : Option Addr} {l : List Nat} {T c bb i : Nat} {G : Nat → Nat → Option Addr → Prop} (h : Hp R L M) [r : dG A L Nat nG T c l L'] (hb : l[i]? = some bb) (k : ∀ q, A = some ⟨q, 0, none⟩ → G q 0 (some ⟨bb, 0, none⟩)) :
  aE A fun k4 k5 => dP (M.ld ⟨k4, k5 + i, none⟩) fun A6 => G k4 k5 A6 := by
 obtain ⟨q, hq⟩ := h.bU (A := A) (by have := (List.getElem?_eq_some_iff.1 hb).1; omega) (by decide)
 have h2 := Vk h hq hb
 subst hq
 refine aV ?_
 rw [h2]
 exact Bq (k q rfl)
theorem jk {g : Int} (h : Hp R L M) [o : y8 b L pa p gg dr x L'] (h0 : 0 ≤ g) (hg : g < x.gs.length) (hr : x.ready.length ≤ 1000000000)
  (k : ∀ M', Hp R (bj (bI pa p gg dr) b (x.eV g) :: L') M' → K (.tuple #[]) M') : ae Tryz.prog 90 #[.pointer (some ⟨b, 0, none⟩), .int .i64 g] M K Kp := by
 refine uq ?_
 have h' := kW h (b := b) h0 hg
 clear h
 obtain ⟨a, gb, A, c, hl, gp, fS, h⟩ := h'
 have hl' := hl
 obtain ⟨l1, l2, l3, l4⟩ := hl'
 repeat (first|(refine ai h ?_;clear h;intro kb M h)|(refine ak h ?_;clear h;intro M h)|refine St.to h ?_|(apply Exists.intro;(repeat apply Exists.intro);refine And.intro rfl ?_)|refine ay ?_|refine aq ?_|refine au ?_)
 refine wh h gp fun q hq => ?_
 repeat (first|(refine ai h ?_;clear h;intro kb M h)|(refine ak h ?_;clear h;intro M h)|refine St.to h ?_|(apply Exists.intro;(repeat apply Exists.intro);refine And.intro rfl ?_)|refine ay ?_|refine aq ?_|refine au ?_)
 refine h.be jR [g] rfl rfl (by simp; omega) ?_
 clear h
 intro A' c' M h
 repeat (first|(refine ai h ?_;clear h;intro kb M h)|(refine ak h ?_;clear h;intro M h)|refine St.to h ?_|(apply Exists.intro;(repeat apply Exists.intro);refine And.intro rfl ?_)|refine ay ?_|refine aq ?_|refine au ?_)
 replace h := dx h gb hl gp fS
 exact k _ (kV (a := { a with ar := A', cr := c' }) ⟨by simpa [Wd.eV, Wd.bp] using l1, by simpa [Wd.eV, Wd.bp] using l2, l3, l4⟩ (h.sub bz))
theorem bR {y : gK} (h : 0 < y.fs.length) : y.fs[y.fs.length - 1]? = some y.top := by
 unfold gK.top
 rw [List.getD_eq_getElem?_getD, List.getElem?_eq_getElem (by omega)]; rfl
theorem dU {a : WA} {g : Int} {y : gK} (hl : fW gg a x) : fW gg a (x.bp g y) := by
 obtain ⟨l1, l2, l3, l4⟩ := hl
 exact ⟨by simpa [Wd.bp] using l1, by simpa [Wd.bp] using l2, l3, l4⟩
theorem nk {g : Int} {i : bZ} (h : Hp R L M) [o : y8 b L pa p gg dr x L'] (h0 : 0 ≤ g) (hg : g < x.gs.length)
  (k : ∀ M', Hp R (bj (bI pa p gg dr) b (x.block g i) :: L') M' → K (.tuple #[]) M') : ae Tryz.prog 158 #[.pointer (some ⟨b, 0, none⟩), .int .i64 g, .agg #[.int .i64 i.op, .int .i64 i.a, .int .i64 i.b, .int .i64 i.c]] M K Kp := by
 refine rO ?_
 have h' := kW h (b := b) h0 hg
 clear h
 obtain ⟨a, gb, A, c, hl, gp, fS, h⟩ := h'
 have hl' := hl
 obtain ⟨l1, l2, l3, l4⟩ := hl'
 repeat (first|(refine ai h ?_;clear h;intro kb M h)|(refine ak h ?_;clear h;intro M h)|refine St.to h ?_|(apply Exists.intro;(repeat apply Exists.intro);refine And.intro rfl ?_)|refine ay ?_|refine aq ?_|refine au ?_)
 refine wh h gp fun q hq => ?_
 repeat (first|(refine ai h ?_;clear h;intro kb M h)|(refine ak h ?_;clear h;intro M h)|refine St.to h ?_|(apply Exists.intro;(repeat apply Exists.intro);refine And.intro rfl ?_)|refine ay ?_|refine aq ?_|refine au ?_)
 refine wh h gp fun q2 Ng => ?_
 repeat (first|(refine ai h ?_;clear h;intro kb M h)|(refine ak h ?_;clear h;intro M h)|refine St.to h ?_|(apply Exists.intro;(repeat apply Exists.intro);refine And.intro rfl ?_)|refine ay ?_|refine aq ?_|refine au ?_)
 replace h := dx h gb hl gp fS
 exact k _ (kV (a := a) (dU hl) (h.sub bz))
theorem xI {g kk : Int} (h : Hp R L M) [o : y8 b L pa p gg dr x L'] (hg : aT x g) (hc : aR (aa x g).wt.c) (hs : x.Sm)
  (k : ∀ M', Hp R (bj (bI pa p gg dr) b (x.cU g kk) :: L') M' → K (.tuple #[]) M') : ae Tryz.prog 223 #[.pointer (some ⟨b, 0, none⟩), .int .i64 g, .int .i64 kk] M K Kp := by
 refine qC ?_
 obtain ⟨h0, h1, h2, h3⟩ := hg
 obtain ⟨s1, s2, s3, s4, s5, s6, s7, s8⟩ := hs
 have h' := kW h (b := b) h0 h1
 clear h
 obtain ⟨a, gb, A, c, hl, gp, fS, h⟩ := h'
 have hl' := hl
 obtain ⟨l1, l2, l3, l4⟩ := hl'
 repeat (first|(refine ai h ?_;clear h;intro kb M h)|(refine ak h ?_;clear h;intro M h)|refine St.to h ?_|(apply Exists.intro;(repeat apply Exists.intro);refine And.intro rfl ?_)|refine ay ?_|refine aq ?_|refine au ?_)
 refine wh h gp fun q hq => ?_
 repeat (first|(refine ai h ?_;clear h;intro kb M h)|(refine ak h ?_;clear h;intro M h)|refine St.to h ?_|(apply Exists.intro;(repeat apply Exists.intro);refine And.intro rfl ?_)|refine ay ?_|refine aq ?_|refine au ?_)
 refine wh h gp fun q2 Ng => ?_
 repeat (first|(refine ai h ?_;clear h;intro kb M h)|(refine ak h ?_;clear h;intro M h)|refine St.to h ?_|(apply Exists.intro;(repeat apply Exists.intro);refine And.intro rfl ?_)|refine ay ?_|refine aq ?_|refine au ?_)
 obtain ⟨bs, rfl⟩ := h.bU (A := A) h2 (by decide)
 refine oK h2 (by omega) ?_
 repeat (first|(refine ai h ?_;clear h;intro kb M h)|(refine ak h ?_;clear h;intro M h)|refine St.to h ?_|(apply Exists.intro;(repeat apply Exists.intro);refine And.intro rfl ?_)|refine ay ?_|refine aq ?_|refine au ?_)
 refine ⟨hc.1, hc.2, y7 h (bR h2) hc rfl ?_⟩
 clear h
 intro M h
 repeat (first|(refine ai h ?_;clear h;intro kb M h)|(refine ak h ?_;clear h;intro M h)|refine St.to h ?_|(apply Exists.intro;(repeat apply Exists.intro);refine And.intro rfl ?_)|refine ay ?_|refine aq ?_|refine au ?_)
 refine IB h (Src.row (A := a.ac)) rfl (by omega) l3 (fun c hc => (s1 c hc).mono (by omega)) ?_
 clear h
 intro M h
 refine ⟨rfl, ?_⟩
 replace h := dx h gb hl gp fS
 exact k _ (kV (a := a) (x := x.cU g kk) ⟨by simpa [Wd.cU, Wd.leave, Wd.aW, Wd.bp] using l1, by simpa [Wd.cU, Wd.leave, Wd.aW, Wd.bp] using l2, by simpa [Wd.cU, Wd.leave, Wd.aW, Wd.bp] using l3, l4⟩ (h.sub bz))
end
theorem jW {x : Wd} {g q v : Int} (h : aT x g) : aa (x.aW g q v) g = (aa x g).bW ((aa x g).top.set q v) := iE h.1 h.2.1
theorem gz {x : Wd} {g q v : Int} (h : aT x g) : aT (x.aW g q v) g := by
 obtain ⟨h0, h1, h2, h3⟩ := h
 refine ⟨h0, by simpa [Wd.aW, Wd.bp] using h1, ?_, ?_⟩ <;> rw [jW ⟨h0, h1, h2, h3⟩] <;> simpa [gK.bW]
theorem EC {x : Wd} {g q v : Int} (h : aT x g) : (aa (x.aW g q v) g).wt = (aa x g).wt := by rw [jW h]; rfl
theorem xJ {x : Wd} {g k : Int} (h : aT x g) : aT (x.cU g k) g := gz h
theorem AM {x : Wd} {g : Int} {y : gK} (h : x.Sm) : (x.bp g y).Sm := by
 obtain ⟨s1, s2, s3, s4⟩ := h
 exact ⟨s1, s2, by simpa [Wd.bp] using s3, s4⟩
theorem dD {z : Int} (h0 : 0 ≤ z) (h : z < 9223372036854775808) : IntKind.wrap .i64 z = z := by
 obtain ⟨n, rfl⟩ := Int.eq_ofNat_of_zero_le h0
 exact oh (by omega)
section
variable {R : Mem} {L L' : List HP} {M : Mem} {K : Value → Mem → Prop} {Kp : List PanicEntry → Mem → Prop} {pa : PA} {p : cy} {gg : List GA} {dr : Value} {b : Nat} {x : Wd}
theorem cas_at {A : Option Addr} {c : Nat} {l : List nh} {q : Int} {G : Nat → Nat → Int → Prop} (h : Hp R L M) (hp : RS gT R A c l) (h0 : 0 ≤ q) (hq : q < l.length) (k : ∀ b o, G b o (l.getD q.toNat ⟨0, 0, 0⟩).bH) :
  aE A fun b o => bG (M.ld ⟨b, ((o + q.toNat * 3) + 2), none⟩) .i64 fun n => G b o n := by
 obtain ⟨bb, o, rfl⟩ := hp.some (by omega) (by decide)
 obtain ⟨y, hy⟩ := aJ (l := l) (i := q.toNat) (by omega)
 have e : l.getD q.toNat ⟨0, 0, 0⟩ = y := by simp [hy]
 refine aV ?_
 refine aj (Src.at (hp.src (L := L)) h (i := q.toNat) (j := 2) hy rfl (by show _ = o + (q.toNat * 3 + 2); omega)) ?_
 have := k bb o
 rwa [e] at this
theorem sQ {v : Wt} {some : Int} (h : Hp R L M) [o : y8 b L pa p gg dr x L'] (hp : RS gT R pa.k pa.kc p.cases) (hv : lI p x v) (hs : x.Sm)
  (k : ∀ M', Hp R (bj (bI pa p gg dr) b (x.received p v some) :: L') M' → K (.tuple #[]) M') : ae Tryz.prog 208 #[.pointer (Option.some ⟨b, 0, none⟩), .agg #[.int .i64 v.g, .int .i64 v.cs, .int .i64 v.v], .int .i64 some] M K Kp := by
 refine oG ?_
 obtain ⟨hg, hv⟩ := hv
 have GO := hg
 obtain ⟨h0, h1, h2, h3⟩ := GO
 have hs' := hs
 obtain ⟨s1, s2, s3, s4, s5, s6, s7, s8⟩ := hs'
 have h' := kW h (b := b) h0 h1
 clear h
 obtain ⟨a, gb, A, c, hl, gp, fS, h⟩ := h'
 have hl' := hl
 obtain ⟨l1, l2, l3, l4⟩ := hl'
 repeat (first|(refine ai h ?_;clear h;intro kb M h)|(refine ak h ?_;clear h;intro M h)|refine St.to h ?_|(apply Exists.intro;(repeat apply Exists.intro);refine And.intro rfl ?_)|refine ay ?_|refine aq ?_|refine au ?_)
 refine wh h gp fun q hq => ?_
 repeat (first|(refine ai h ?_;clear h;intro kb M h)|(refine ak h ?_;clear h;intro M h)|refine St.to h ?_|(apply Exists.intro;(repeat apply Exists.intro);refine And.intro rfl ?_)|refine ay ?_|refine aq ?_|refine au ?_)
 refine wh h gp fun q2 Ng => ?_
 repeat (first|(refine ai h ?_;clear h;intro kb M h)|(refine ak h ?_;clear h;intro M h)|refine St.to h ?_|(apply Exists.intro;(repeat apply Exists.intro);refine And.intro rfl ?_)|refine ay ?_|refine aq ?_|refine au ?_)
 obtain ⟨bs, rfl⟩ := h.bU (A := A) h2 (by decide)
 refine oK h2 (by omega) ?_
 repeat (first|(refine ai h ?_;clear h;intro kb M h)|(refine ak h ?_;clear h;intro M h)|refine St.to h ?_|(apply Exists.intro;(repeat apply Exists.intro);refine And.intro rfl ?_)|refine ay ?_|refine aq ?_|refine au ?_)
 refine ⟨Vk h Ng gp, ?_⟩
 repeat (first|(refine ai h ?_;clear h;intro kb M h)|(refine ak h ?_;clear h;intro M h)|refine St.to h ?_|(apply Exists.intro;(repeat apply Exists.intro);refine And.intro rfl ?_)|refine ay ?_|refine aq ?_|refine au ?_)
 refine ⟨Vk h Ng gp, ?_⟩
 repeat (first|(refine ai h ?_;clear h;intro kb M h)|(refine ak h ?_;clear h;intro M h)|refine St.to h ?_|(apply Exists.intro;(repeat apply Exists.intro);refine And.intro rfl ?_)|refine ay ?_|refine aq ?_|refine au ?_)
 unfold Wd.received at k
 refine bh.2 ⟨fun C5 => ?_, fun C5 => ?_⟩
 ·simp only [C5, if_true] at k hv
  obtain ⟨v1, v2, v3, v4, v5⟩ := hv
  repeat (first|(refine ai h ?_;clear h;intro kb M h)|(refine ak h ?_;clear h;intro M h)|refine St.to h ?_|(apply Exists.intro;(repeat apply Exists.intro);refine And.intro rfl ?_)|refine ay ?_|refine aq ?_|refine au ?_)
  rw [dD v1 (by omega)]
  refine ⟨v1, by omega, cas_at (q := (aa x v.g).wt.a + v.cs) h hp v1 v2 fun _ _ => ?_⟩
  repeat (first|(refine ai h ?_;clear h;intro kb M h)|(refine ak h ?_;clear h;intro M h)|refine St.to h ?_|(apply Exists.intro;(repeat apply Exists.intro);refine And.intro rfl ?_)|refine ay ?_|refine aq ?_|refine au ?_)
  refine ⟨v4.1, v4.2, y7 h (bR h2) v4 rfl ?_⟩
  clear h
  intro M h
  repeat (first|(refine ai h ?_;clear h;intro kb M h)|(refine ak h ?_;clear h;intro M h)|refine St.to h ?_|(apply Exists.intro;(repeat apply Exists.intro);refine And.intro rfl ?_)|refine ay ?_|refine aq ?_|refine au ?_)
  replace h := dx h gb hl gp fS
  replace h := br (a := a) (p := p) (pa := pa) (dr := dr) (gg := gg) (x := x.aW v.g (mG p ((aa x v.g).wt.a + v.cs)).bH v.v) (dU hl) h b
  have v5' := v5
  rw [← EC (q := (mG p ((aa x v.g).wt.a + v.cs)).bH) (v := v.v) hg] at v5'
  refine xI (b := b) h (gz hg) v5' (AM hs) ?_
  clear h
  intro M h
  repeat (first|(refine ai h ?_;clear h;intro kb M h)|(refine ak h ?_;clear h;intro M h)|refine St.to h ?_|(apply Exists.intro;(repeat apply Exists.intro);refine And.intro rfl ?_)|refine ay ?_|refine aq ?_|refine au ?_)
  have QF := xJ (k := v.cs) (gz (q := (mG p ((aa x v.g).wt.a + v.cs)).bH) (v := v.v) hg)
  refine jk (b := b) h QF.1 QF.2.1 (by show x.ready.length ≤ _; omega) ?_
  clear h
  intro M h
  exact ⟨rfl, k _ h.cG⟩
 ·simp only [C5, if_false] at k hv
  obtain ⟨v1, v2⟩ := hv
  repeat (first|(refine ai h ?_;clear h;intro kb M h)|(refine ak h ?_;clear h;intro M h)|refine St.to h ?_|(apply Exists.intro;(repeat apply Exists.intro);refine And.intro rfl ?_)|refine ay ?_|refine aq ?_|refine au ?_)
  refine ⟨v1.1, v1.2, ?_⟩
  repeat (first|(refine ai h ?_;clear h;intro kb M h)|(refine ak h ?_;clear h;intro M h)|refine St.to h ?_|(apply Exists.intro;(repeat apply Exists.intro);refine And.intro rfl ?_)|refine ay ?_|refine aq ?_|refine au ?_)
  refine y7 h (bR h2) v1 rfl ?_
  clear h
  intro M h
  repeat (first|(refine ai h ?_;clear h;intro kb M h)|(refine ak h ?_;clear h;intro M h)|refine St.to h ?_|(apply Exists.intro;(repeat apply Exists.intro);refine And.intro rfl ?_)|refine ay ?_|refine aq ?_|refine au ?_)
  have hi2 : ((aa x v.g).fs.set ((aa x v.g).fs.length - 1) ((aa x v.g).top.set (aa x v.g).wt.b v.v))[(aa x v.g).fs.length - 1]? = Option.some ((aa x v.g).top.set (aa x v.g).wt.b v.v) := by
   rw [List.getElem?_set_self]; omega
  refine ⟨v2.1, v2.2, y7 h hi2 v2 rfl ?_⟩
  clear h
  intro M h
  rw [sN] at h
  repeat (first|(refine ai h ?_;clear h;intro kb M h)|(refine ak h ?_;clear h;intro M h)|refine St.to h ?_|(apply Exists.intro;(repeat apply Exists.intro);refine And.intro rfl ?_)|refine ay ?_|refine aq ?_|refine au ?_)
  replace h := dx h gb hl gp fS (by simp)
  have ex : (x.aW v.g (aa x v.g).wt.b v.v).aW v.g (aa x v.g).wt.c some = x.bp v.g ((aa x v.g).bW (((aa x v.g).top.set (aa x v.g).wt.b v.v).set (aa x v.g).wt.c some)) := by
   have e1 := jW (q := (aa x v.g).wt.b) (v := v.v) hg
   have e2 : ∀ (z : Wd) (q u : Int), z.aW v.g q u = z.bp v.g ((aa z v.g).bW ((aa z v.g).top.set q u)) := fun _ _ _ => rfl
   rw [e2 (x.aW v.g (aa x v.g).wt.b v.v), e1]
   have e3 : ((aa x v.g).bW ((aa x v.g).top.set (aa x v.g).wt.b v.v)).top = (aa x v.g).top.set (aa x v.g).wt.b v.v := by
    unfold gK.top gK.bW
    dsimp only
    rw [List.length_set, List.getD_eq_getElem?_getD, List.getElem?_set_self (by omega)]; rfl
   rw [e3]
   simp [Wd.aW, Wd.bp, gK.bW]
  rw [ex] at k
  replace h := br (a := a) (p := p) (pa := pa) (dr := dr) (gg := gg) (x := x.bp v.g ((aa x v.g).bW (((aa x v.g).top.set (aa x v.g).wt.b v.v).set (aa x v.g).wt.c some))) (dU hl) h b
  refine jk (b := b) h h0 (by simpa [Wd.bp] using h1) (by show x.ready.length ≤ _; omega) ?_
  clear h
  intro M h
  exact ⟨rfl, k _ h.cG⟩
theorem Nh {v : Wt} (h : Hp R L M) [o : y8 b L pa p gg dr x L'] (hv : vf x v) (hs : x.Sm)
  (k : ∀ M', Hp R (bj (bI pa p gg dr) b (x.sent v) :: L') M' → K (.tuple #[]) M') : ae Tryz.prog 210 #[.pointer (some ⟨b, 0, none⟩), .agg #[.int .i64 v.g, .int .i64 v.cs, .int .i64 v.v]] M K Kp := by
 refine uH ?_
 obtain ⟨hg, hv⟩ := hv
 have GO := hg
 obtain ⟨h0, h1, h2, h3⟩ := GO
 have hs' := hs
 obtain ⟨s1, s2, s3, s4, s5, s6, s7, s8⟩ := hs'
 have h' := kW h (b := b) h0 h1
 clear h
 obtain ⟨a, gb, A, c, hl, gp, fS, h⟩ := h'
 have hl' := hl
 obtain ⟨l1, l2, l3, l4⟩ := hl'
 repeat (first|(refine ai h ?_;clear h;intro kb M h)|(refine ak h ?_;clear h;intro M h)|refine St.to h ?_|(apply Exists.intro;(repeat apply Exists.intro);refine And.intro rfl ?_)|refine ay ?_|refine aq ?_|refine au ?_)
 refine wh h gp fun q hq => ?_
 repeat (first|(refine ai h ?_;clear h;intro kb M h)|(refine ak h ?_;clear h;intro M h)|refine St.to h ?_|(apply Exists.intro;(repeat apply Exists.intro);refine And.intro rfl ?_)|refine ay ?_|refine aq ?_|refine au ?_)
 unfold Wd.sent at k
 have ex : x.bp v.g (aa x v.g) = x := by
  obtain ⟨y, hy⟩ := aJ (l := x.gs) (i := v.g.toNat) (by omega)
  have e : aa x v.g = y := by simp [aa, hy]
  rw [e]
  obtain ⟨hi, rfl⟩ := List.getElem?_eq_some_iff.1 hy
  simp [Wd.bp]
 refine bh.2 ⟨fun C5 => ?_, fun C5 => ?_⟩
 ·simp only [C5, if_true] at k hv
  repeat (first|(refine ai h ?_;clear h;intro kb M h)|(refine ak h ?_;clear h;intro M h)|refine St.to h ?_|(apply Exists.intro;(repeat apply Exists.intro);refine And.intro rfl ?_)|refine ay ?_|refine aq ?_|refine au ?_)
  replace h := dx h gb hl gp fS
  replace h := br (a := a) (p := p) (pa := pa) (dr := dr) (gg := gg) (x := x.bp v.g (aa x v.g)) (dU hl) h b
  rw [ex] at h
  refine xI (b := b) (x := x) h hg (hv trivial) hs ?_
  clear h
  intro M h
  repeat (first|(refine ai h ?_;clear h;intro kb M h)|(refine ak h ?_;clear h;intro M h)|refine St.to h ?_|(apply Exists.intro;(repeat apply Exists.intro);refine And.intro rfl ?_)|refine ay ?_|refine aq ?_|refine au ?_)
  have QF := xJ (k := v.cs) hg
  refine jk (b := b) h QF.1 QF.2.1 (by show x.ready.length ≤ _; omega) ?_
  clear h
  intro M h
  exact ⟨rfl, k _ h.cG⟩
 ·simp only [C5, if_false] at k
  repeat (first|(refine ai h ?_;clear h;intro kb M h)|(refine ak h ?_;clear h;intro M h)|refine St.to h ?_|(apply Exists.intro;(repeat apply Exists.intro);refine And.intro rfl ?_)|refine ay ?_|refine aq ?_|refine au ?_)
  replace h := dx h gb hl gp fS
  replace h := br (a := a) (p := p) (pa := pa) (dr := dr) (gg := gg) (x := x.bp v.g (aa x v.g)) (dU hl) h b
  rw [ex] at h
  refine jk (b := b) (x := x) h h0 h1 (by omega) ?_
  clear h
  intro M h
  exact ⟨rfl, k _ h.cG⟩
end
def nP (x : Wd) (k : Int) : Prop := 0 ≤ k ∧ k < x.av.length
instance (x : Wd) (k : Int) : Decidable (nP x k) := by unfold nP; infer_instance
def mI (p : cy) (x : Wd) (k v : Int) : Prop := nP x k ∧ (((aX x.av k).send v).2.2.1 = true → lI p x ((aX x.av k).send v).2.1) ∧ ((aX x.av k).send v).1.Small 1000000
instance (p : cy) (x : Wd) (k v : Int) : Decidable (mI p x k v) := by unfold mI; infer_instance
def qh (x : Wd) (k : Int) : Prop := nP x k ∧ ((aX x.av k).recv.2.2.2.2.1 = true → vf x (aX x.av k).recv.2.2.2.1) ∧ (aX x.av k).recv.1.Small 1000000
instance (x : Wd) (k : Int) : Decidable (qh x k) := by unfold qh; infer_instance
theorem Jy {x : Wd} {k : Int} {c : aQ} (h : x.Sm) (hc : c.Small 1000000) : (x.bg k c).Sm := by
 obtain ⟨s1, s2, s3⟩ := h
 refine ⟨fun d hd => ?_, by simpa [Wd.bg] using s2, s3⟩
 rcases mem_set hd with h | rfl
 ·exact s1 d h
 ·exact hc
section
variable {R : Mem} {L L' : List HP} {M : Mem} {K : Value → Mem → Prop} {Kp : List PanicEntry → Mem → Prop} {pa : PA} {p : cy} {gg : List GA} {dr : Value} {b : Nat} {x : Wd}
theorem tK {a : WA} {k : Int} {c : aQ} (hl : fW gg a x) : fW gg a (x.bg k c) := by
 obtain ⟨l1, l2, l3, l4⟩ := hl
 exact ⟨l1, l2, by simpa [Wd.bg] using l3, l4⟩
theorem Vl {a : WA} {k : Int} (h : Hp R L M) [q : iL bL L a.cb x.av L'] (hl : fW gg a x) (hk : nP x k) : ∃ cb, a.cb[k.toNat]? = some cb ∧ x.av[k.toNat]? = some (aX x.av k) ∧ Hp R (bj bL cb (aX x.av k) :: zD bL a.cb x.av k.toNat :: L') M := by
 obtain ⟨l1, l2, l3, l4⟩ := hl
 obtain ⟨k0, k1⟩ := hk
 obtain ⟨cb, hcb⟩ := aJ (l := a.cb) (i := k.toNat) (by omega)
 obtain ⟨y, hy⟩ := aJ (l := x.av) (i := k.toNat) (by omega)
 have e : aX x.av k = y := by simp [aX, hy]
 rw [e]
 exact ⟨cb, hcb, hy, h.eF bL hcb hy⟩
theorem ED {k v : Int} (h : Hp R L M) [o : y8 b L pa p gg dr x L'] (hp : RS gT R pa.k pa.kc p.cases) (hk : mI p x k v) (hs : x.Sm)
  (k1 : ∀ y ok M', x.put p k v = .on (y, ok) → Hp R (bj (bI pa p gg dr) b y :: L') M' → K (.bool ok) M')
  (k2 : ∀ y n M', x.put p k v = .dg n y → Hp R (bj (bI pa p gg dr) b y :: L') M' → Kp [{ v := .iface 256 (.int .i64 n), recovered := false }] M') :
  ae Tryz.prog 159 #[.pointer (some ⟨b, 0, none⟩), .int .i64 k, .int .i64 v] M K Kp := by
 refine vN ?_
 obtain ⟨hc, hr, rK⟩ := hk
 have hs' := hs
 obtain ⟨s1, s2, s3, s4, s5, s6, s7, s8⟩ := hs'
 have h' := cV h (b := b)
 clear h
 obtain ⟨a, hl, h⟩ := h'
 have hl' := hl
 obtain ⟨l1, l2, l3, l4⟩ := hl'
 have xh := hc
 obtain ⟨c0, c1⟩ := xh
 have h' := Vl h hl hc
 clear h
 obtain ⟨cb, hcb, Ao, h⟩ := h'
 repeat (first|(refine ai h ?_;clear h;intro kb M h)|(refine ak h ?_;clear h;intro M h)|refine St.to h ?_|(apply Exists.intro;(repeat apply Exists.intro);refine And.intro rfl ?_)|refine ay ?_|refine aq ?_|refine au ?_)
 refine wh h hcb fun q hq => ?_
 have hsc : (aX x.av k).Small 1000000 := s1 _ (xg c0 c1)
 refine Lh h (hsc.mono (by omega)) ?_
 clear h
 intro M h
 replace h := h.gP bL cb hcb (by omega)
 unfold Wd.put at k1 k2
 dsimp only at k1 k2
 generalize (aX x.av k).send v = s at h k1 k2 hr rK
 obtain ⟨c', w, ok, e⟩ := s
 dsimp only [ZM] at h k1 k2 hr rK ⊢
 refine ⟨w.g, w.cs, w.v, ok, e, rfl, ?_⟩
 repeat (first|(refine ai h ?_;clear h;intro kb M h)|(refine ak h ?_;clear h;intro M h)|refine St.to h ?_|(apply Exists.intro;(repeat apply Exists.intro);refine And.intro rfl ?_)|refine ay ?_|refine aq ?_|refine au ?_)
 refine bh.2 ⟨fun Qk => ?_, fun Qk => ?_⟩
 ·rw [if_pos Qk] at k2
  replace h := br (a := a) (p := p) (pa := pa) (dr := dr) (gg := gg) (x := x.bg k c') (tK hl) h b
  exact k2 _ _ _ rfl h.cG
 ·rw [if_neg Qk] at k1
  replace h := br (a := a) (p := p) (pa := pa) (dr := dr) (gg := gg) (x := x.bg k c') (tK hl) h b
  refine fL.2 ⟨fun ht => ?_, fun ht => ?_⟩
  ·subst ht
   simp only [if_true] at k1
   repeat (first|(refine ai h ?_;clear h;intro kb M h)|(refine ak h ?_;clear h;intro M h)|refine St.to h ?_|(apply Exists.intro;(repeat apply Exists.intro);refine And.intro rfl ?_)|refine ay ?_|refine aq ?_|refine au ?_)
   refine sQ (b := b) (v := w) h hp (show lI p (x.bg k c') w from hr rfl) (Jy hs rK) ?_
   clear h
   intro M h
   exact ⟨rfl, k1 _ _ _ rfl h.cG⟩
  ·subst ht
   simp only [Bool.false_eq_true, if_false] at k1
   exact k1 _ _ _ rfl h.cG
theorem EE {k : Int} (h : Hp R L M) [o : y8 b L pa p gg dr x L'] (hk : qh x k) (hs : x.Sm)
  (k1 : ∀ M', Hp R (bj (bI pa p gg dr) b (x.get k).1 :: L') M' → K (.tuple #[.int .i64 (x.get k).2.1, .int .i64 (x.get k).2.2.1, .bool (x.get k).2.2.2]) M') :
  ae Tryz.prog 160 #[.pointer (some ⟨b, 0, none⟩), .int .i64 k] M K Kp := by
 refine vO ?_
 obtain ⟨hc, hr, rK⟩ := hk
 have hs' := hs
 obtain ⟨s1, s2, s3, s4, s5, s6, s7, s8⟩ := hs'
 have h' := cV h (b := b)
 clear h
 obtain ⟨a, hl, h⟩ := h'
 have hl' := hl
 obtain ⟨l1, l2, l3, l4⟩ := hl'
 have xh := hc
 obtain ⟨c0, c1⟩ := xh
 have h' := Vl h hl hc
 clear h
 obtain ⟨cb, hcb, Ao, h⟩ := h'
 repeat (first|(refine ai h ?_;clear h;intro kb M h)|(refine ak h ?_;clear h;intro M h)|refine St.to h ?_|(apply Exists.intro;(repeat apply Exists.intro);refine And.intro rfl ?_)|refine ay ?_|refine aq ?_|refine au ?_)
 refine wh h hcb fun q hq => ?_
 have hsc : (aX x.av k).Small 1000000 := s1 _ (xg c0 c1)
 refine Li h (hsc.mono (by omega)) ?_
 clear h
 intro M h
 replace h := h.gP bL cb hcb (by omega)
 unfold Wd.get at k1
 dsimp only at k1
 generalize (aX x.av k).recv = s at h k1 hr rK
 obtain ⟨c', v, some, w, OL, e⟩ := s
 dsimp only [ZN] at h k1 hr rK ⊢
 refine ⟨v, some, w.g, w.cs, w.v, OL, e, rfl, ?_⟩
 repeat (first|(refine ai h ?_;clear h;intro kb M h)|(refine ak h ?_;clear h;intro M h)|refine St.to h ?_|(apply Exists.intro;(repeat apply Exists.intro);refine And.intro rfl ?_)|refine ay ?_|refine aq ?_|refine au ?_)
 replace h := br (a := a) (p := p) (pa := pa) (dr := dr) (gg := gg) (x := x.bg k c') (tK hl) h b
 refine fL.2 ⟨fun ht => ?_, fun ht => ?_⟩
 ·subst ht
  simp only [if_true] at k1
  repeat (first|(refine ai h ?_;clear h;intro kb M h)|(refine ak h ?_;clear h;intro M h)|refine St.to h ?_|(apply Exists.intro;(repeat apply Exists.intro);refine And.intro rfl ?_)|refine ay ?_|refine aq ?_|refine au ?_)
  refine Nh (b := b) (v := w) h (show vf (x.bg k c') w from hr rfl) (Jy hs rK) ?_
  clear h
  intro M h
  repeat (first|(refine ai h ?_;clear h;intro kb M h)|(refine ak h ?_;clear h;intro M h)|refine St.to h ?_|(apply Exists.intro;(repeat apply Exists.intro);refine And.intro rfl ?_)|refine ay ?_|refine aq ?_|refine au ?_)
  refine fL.2 ⟨fun hb => ?_, fun hb => ?_⟩
  ·subst hb
   repeat (first|(refine ai h ?_;clear h;intro kb M h)|(refine ak h ?_;clear h;intro M h)|refine St.to h ?_|(apply Exists.intro;(repeat apply Exists.intro);refine And.intro rfl ?_)|refine ay ?_|refine aq ?_|refine au ?_)
   exact k1 _ h.cG
  ·subst hb
   exact k1 _ h.cG
 ·subst ht
  simp only [Bool.false_eq_true, if_false] at k1
  repeat (first|(refine ai h ?_;clear h;intro kb M h)|(refine ak h ?_;clear h;intro M h)|refine St.to h ?_|(apply Exists.intro;(repeat apply Exists.intro);refine And.intro rfl ?_)|refine ay ?_|refine aq ?_|refine au ?_)
  refine fL.2 ⟨fun hb => ?_, fun hb => ?_⟩
  ·subst hb
   repeat (first|(refine ai h ?_;clear h;intro kb M h)|(refine ak h ?_;clear h;intro M h)|refine St.to h ?_|(apply Exists.intro;(repeat apply Exists.intro);refine And.intro rfl ?_)|refine ay ?_|refine aq ?_|refine au ?_)
   exact k1 _ h.cG
  ·subst hb
   exact k1 _ h.cG
end
end Go.Proofs
namespace Go.Proofs
open Go.AF
def aK (x : Wd) (g q : Int) : Int := (aa x g).top.bH q
def Wd.OM (x : Wd) (k g v : Int) : Wd := x.bg k { aX x.av k with snd := (aX x.av k).snd ++ [⟨g, 0, v⟩] }
def Wd.ON (x : Wd) (k g : Int) : Wd := x.bg k { aX x.av k with cH := (aX x.av k).cH ++ [⟨g, 0, 0⟩] }
def Wd.send (p : cy) (x : Wd) (g : Int) (i : bZ) : Out Wd := match x.put p i.a (aK x g i.b) with
 | .dg n y => .dg n y
 | .fF l y => .fF l y
 | .on (y, true) => .on y
 | .on (y, false) => .on ((y.OM i.a g (aK y g i.b)).block g i)
def Wd.recv (x : Wd) (g : Int) (i : bZ) : Wd :=
 if (x.get i.a).2.2.2 then ((x.get i.a).1.aW g i.b (x.get i.a).2.1).aW g i.c (x.get i.a).2.2.1
 else ((x.get i.a).1.ON i.a g).block g i
def cJ (p : cy) (x : Wd) (v : Wt) : Wd := if (aa x v.g).st = 2 then x.received p { v with v := 0 } 0 else x
def Wd.shut (p : cy) (x : Wd) (i : bZ) : Out Wd :=
 let s := (aX x.av i.a).close
 let y := x.bg i.a s.1
 if s.2.2.2 ≠ 0 then .dg (-2) y else if 0 < s.2.2.1.length then .dg (-1) y else .on (s.2.1.foldl (cJ p) y)
def sR (p : cy) (x : Wd) : List Wt → Prop
 | [] => True
 | v :: l => x.Sm ∧ 0 ≤ v.g ∧ v.g < x.gs.length ∧ ((aa x v.g).st = 2 → lI p x { v with v := 0 }) ∧ sR p (cJ p x v) l
instance Ni (p : cy) : ∀ (l : List Wt) (x : Wd), Decidable (sR p x l)
 | [], _ => isTrue trivial
 | v :: l, x => by
  have := Ni p l (cJ p x v)
  unfold sR; infer_instance
theorem EF {p : cy} : ∀ {l : List Wt} {x : Wd} {i : Nat} {v : Wt}, sR p x l → l[i]? = some v →
  let y := (l.take i).foldl (cJ p) x
  y.Sm ∧ 0 ≤ v.g ∧ v.g < y.gs.length ∧ ((aa y v.g).st = 2 → lI p y { v with v := 0 })
 | [], _, _, _, _, h => by simp at h
 | w :: l, x, 0, v, h, hv => by simp at hv; subst hv; exact ⟨h.1, h.2.1, h.2.2.1, h.2.2.2.1⟩
 | w :: l, x, i + 1, v, h, hv => EF (l := l) h.2.2.2.2 (by simpa using hv)
def Wd.emit (x : Wd) (g : Int) (i : bZ) : Out Wd := if x.out.length ≥ 1000 then .dg (-6) x else .on { x with out := x.out ++ [aK x g i.a] }
def Wd.spawn (x : Wd) (g : Int) (i : bZ) : Out Wd := if x.gs.length ≥ 100 then .dg (-5) x else
 .on ((Wd.eV { x with gs := x.gs ++ [⟨0, [eH.begin i.a (aK x g i.b)], .zero⟩] } (x.gs.length : Int)).aW g i.c (x.gs.length : Int))
def Wd.call (x : Wd) (g : Int) (i : bZ) : Out Wd := if (aa x g).fs.length ≥ 16 then .dg (-4) x else
 .on (x.bp g { aa x g with fs := (aa x g).fs ++ [⟨i.a, 0, [aK x g i.b, 0, 0, 0, 0, 0, 0, 0], i.c⟩] })
def gK.back (y : gK) (v : Int) : gK := { y with fs := (y.fs.take (y.fs.length - 1)).set (y.fs.length - 2) ((y.fs.getD (y.fs.length - 2) ⟨0, 0, [], 0⟩).set y.top.mF v) }
def Wd.back (x : Wd) (g : Int) (i : bZ) : Wd := if 2 ≤ (aa x g).fs.length then x.bp g ((aa x g).back (aK x g i.a))
 else if g = 0 then { x.bp g { aa x g with st := 4 } with end_ := 1 } else x.bp g { aa x g with st := 4 }
end Go.Proofs
namespace Go.Proofs
open Go.AF
set_option maxRecDepth 100000
set_option maxHeartbeats 1000000
attribute [local irreducible] bG dF ff dP aF fa aE b7 aO bk bJ aM
section
variable {R : Mem} {L L' : List HP} {M : Mem} {K : Value → Mem → Prop} {Kp : List PanicEntry → Mem → Prop} {pa : PA} {p : cy} {gg : List GA} {dr : Value} {b : Nat} {x : Wd}
theorem iF {g : Int} {A : Option Addr} {c : Nat} (h : Hp R L M) [o : y8 b L pa p gg dr x L'] (h0 : 0 ≤ g) (hg : g < x.gs.length) (fS : gg[g.toNat]? = some (A, c)) :
  ∃ (a : WA) (gb : Nat), fW gg a x ∧ a.gb[g.toNat]? = some gb ∧
   Hp R (pt gb (sP (aa x g) A c) 182 :: we A c (aa x g).fs :: pt b (nO pa p dr a x) 164 :: zD gm a.gb (x.gs.zip gg) g.toNat :: vk a x L') M := by
 obtain ⟨a, gb, A', c', hl, gp, hgg', h1⟩ := kW h (b := b) h0 hg
 rw [fS] at hgg'
 cases hgg'
 exact ⟨a, gb, hl, gp, h1⟩
theorem Jz {g q : Int} {bs c oo : Nat} {G : Int → Prop} (h : Hp R L M) [o : y8 b L pa p gg dr x L'] (hg : aT x g) (fS : gg[g.toNat]? = some (some ⟨bs, 0, none⟩, c)) (hq : aR q) (e : oo = ((aa x g).fs.length - 1) * 11 + 2 + q.toNat)
  (k : G (aK x g q)) : bG (M.ld ⟨bs, oo, none⟩) .i64 G := by
 obtain ⟨h0, h1, h2, h3⟩ := hg
 obtain ⟨a, gb, hl, gp, h4⟩ := iF h (b := b) h0 h1 fS
 exact xH h4 (bR h2) hq e k
theorem nm {g q v : Int} {bs c oo : Nat} {G : Mem → Prop} (h : Hp R L M) [o : y8 b L pa p gg dr x L'] (hg : aT x g) (fS : gg[g.toNat]? = some (some ⟨bs, 0, none⟩, c)) (hq : aR q) (e : oo = ((aa x g).fs.length - 1) * 11 + 2 + q.toNat)
  (k : ∀ M', Hp R (bj (bI pa p gg dr) b (x.aW g q v) :: L') M' → G M') : b7 M ⟨bs, oo, none⟩ (.int .i64 v) G := by
 obtain ⟨h0, h1, h2, h3⟩ := hg
 obtain ⟨a, gb, hl, gp, h4⟩ := iF h (b := b) h0 h1 fS
 refine y7 h4 (bR h2) hq e fun M' h5 => ?_
 replace h5 := dx h5 gb hl gp fS (by simp)
 exact k M' (br (a := a) (p := p) (pa := pa) (dr := dr) (gg := gg) (x := x.aW g q v) (dU hl) h5 b)
theorem Z0 {G : Option Addr → Nat → Nat → Prop} (h : Hp R L M) [o : y8 b L pa p gg dr x L'] (k1 : ∀ a : WA, fW gg a x → Hp R (pt b (nO pa p dr a x) 164 :: cN gm a.gb (x.gs.zip gg) :: vk a x L') M → G a.ac a.cb.length a.cc) : aF (M.ld ⟨b, 0 + 6, none⟩) G := by
 obtain ⟨a, hl, h1⟩ := cV h (b := b)
 exact ax h1 (k1 a hl h1)
def Out.Ok {α : Type} (r : Out α) (k1 : α → Prop) (k2 : Int → Wd → Prop) (k3 : List PanicEntry → Wd → Prop := fun _ _ => True) : Prop := match r with
 | .on y => k1 y
 | .dg n y => k2 n y
 | .fF l y => k3 l y
def Cq (x : Wd) (k : Int) : Prop := nP x k ∧ (aX x.av k).Small 999999
instance (x : Wd) (k : Int) : Decidable (Cq x k) := by unfold Cq; infer_instance
def Nj (p : cy) (x : Wd) (g : Int) (i : bZ) : Prop := aT x g ∧ aR i.b ∧ mI p x i.a (aK x g i.b) ∧
 match x.put p i.a (aK x g i.b) with
 | .on (y, false) => aT y g ∧ (aa y g).fs.length = (aa x g).fs.length ∧ Cq y i.a
 | _ => True
theorem Nk {g : Int} {i : bZ} {bs c : Nat} (h : Hp R L M) [o : y8 b L pa p gg dr x L'] (hp : RS gT R pa.k pa.kc p.cases) (fS : gg[g.toNat]? = some (some ⟨bs, 0, none⟩, c)) (hk : Nj p x g i) (hs : x.Sm)
  (k : Out.Ok (x.send p g i) (fun y => ∀ M', Hp R (bj (bI pa p gg dr) b y :: L') M' → K (.tuple #[]) M')
   (fun n y => ∀ M', Hp R (bj (bI pa p gg dr) b y :: L') M' → Kp [{ v := .iface 256 (.int .i64 n), recovered := false }] M')) :
  ae Tryz.prog 165 #[.pointer (some ⟨b, 0, none⟩), .int .i64 g, .pointer (some ⟨bs, ((aa x g).fs.length - 1) * 11, none⟩), .agg #[.int .i64 i.op, .int .i64 i.a, .int .i64 i.b, .int .i64 i.c]] M K Kp := by
 refine uy ?_
 obtain ⟨hg, hb, hput, hw⟩ := hk
 repeat (first|(refine ai h ?_;clear h;intro kb M h)|(refine ak h ?_;clear h;intro M h)|refine St.to h ?_|(apply Exists.intro;(repeat apply Exists.intro);refine And.intro rfl ?_)|refine ay ?_|refine aq ?_|refine au ?_)
 refine ⟨hb.1, hb.2, Jz (b := b) h hg fS hb rfl ?_⟩
 unfold Wd.send at k
 refine ED (b := b) h hp hput hs ?_ ?_
 ·intro y ok M' e h
  rw [e] at k hw
  cases ok with
  | true =>
   dsimp only at k
   refine lF (au ?_)
   exact k _ h.cG
  | false =>
   dsimp only at k hw
   obtain ⟨JA, hfl, Ao, rK⟩ := hw
   refine lF (aq ?_)
   refine Z0 h fun a hl h => ?_
   have hl' := hl
   obtain ⟨l1, l2, l3, l4⟩ := hl'
   have xh := Ao
   obtain ⟨c0, c1⟩ := xh
   have h' := Vl h hl Ao
   clear h
   obtain ⟨cb, hcb, hchx, h⟩ := h'
   repeat (first|(refine ai h ?_;clear h;intro kb M h)|(refine ak h ?_;clear h;intro M h)|refine St.to h ?_|(apply Exists.intro;(repeat apply Exists.intro);refine And.intro rfl ?_)|refine ay ?_|refine aq ?_|refine au ?_)
   refine wh h hcb fun q hq => ?_
   repeat (first|(refine ai h ?_;clear h;intro kb M h)|(refine ak h ?_;clear h;intro M h)|refine St.to h ?_|(apply Exists.intro;(repeat apply Exists.intro);refine And.intro rfl ?_)|refine ay ?_|refine aq ?_|refine au ?_)
   refine ⟨hb.1, hb.2, ?_⟩
   have h2 := h.ox bL cb hcb hchx
   have h3 := br (a := a) (p := p) (pa := pa) (dr := dr) (gg := gg) (x := y) hl h2 b
   refine Jz (b := b) h3 JA fS hb (by rw [hfl]) ?_
   clear h2 h3
   refine rD (w := ⟨g, 0, aK y g i.b⟩) h (rK.mono (by omega)) ?_
   clear h
   intro M h
   replace h := h.gP bL cb hcb (by omega)
   replace h := br (a := a) (p := p) (pa := pa) (dr := dr) (gg := gg) (x := y.OM i.a g (aK y g i.b)) (tK hl) h b
   repeat (first|(refine ai h ?_;clear h;intro kb M h)|(refine ak h ?_;clear h;intro M h)|refine St.to h ?_|(apply Exists.intro;(repeat apply Exists.intro);refine And.intro rfl ?_)|refine ay ?_|refine aq ?_|refine au ?_)
   refine nk (b := b) (i := i) (x := y.OM i.a g (aK y g i.b)) h JA.1 JA.2.1 ?_
   clear h
   intro M h
   exact ⟨rfl, k _ h.cG⟩
 ·intro y n M' e h
  rw [e] at k
  exact k _ h.cG
def y9 (x : Wd) (g : Int) (i : bZ) : Prop := aT x g ∧ aR i.b ∧ aR i.c ∧ qh x i.a ∧ aT (x.get i.a).1 g ∧ (aa (x.get i.a).1 g).fs.length = (aa x g).fs.length ∧ ((x.get i.a).2.2.2 = false → Cq (x.get i.a).1 i.a)
theorem Nl {g : Int} {i : bZ} {bs c : Nat} (h : Hp R L M) [o : y8 b L pa p gg dr x L'] (fS : gg[g.toNat]? = some (some ⟨bs, 0, none⟩, c)) (hk : y9 x g i) (hs : x.Sm)
  (k : ∀ M', Hp R (bj (bI pa p gg dr) b (x.recv g i) :: L') M' → K (.tuple #[]) M') :
  ae Tryz.prog 166 #[.pointer (some ⟨b, 0, none⟩), .int .i64 g, .pointer (some ⟨bs, ((aa x g).fs.length - 1) * 11, none⟩), .agg #[.int .i64 i.op, .int .i64 i.a, .int .i64 i.b, .int .i64 i.c]] M K Kp := by
 refine uz ?_
 obtain ⟨hg, hb, hc, DQ, JA, hfl, hw⟩ := hk
 repeat (first|(refine ai h ?_;clear h;intro kb M h)|(refine ak h ?_;clear h;intro M h)|refine St.to h ?_|(apply Exists.intro;(repeat apply Exists.intro);refine And.intro rfl ?_)|refine ay ?_|refine aq ?_|refine au ?_)
 refine EE (b := b) h DQ hs ?_
 clear h
 intro M h
 unfold Wd.recv at k
 generalize x.get i.a = r at h k JA hfl hw
 obtain ⟨y, v, sm, ok⟩ := r
 dsimp only at h k JA hfl hw ⊢
 refine ⟨v, sm, ok, rfl, ?_⟩
 cases ok with
 | true =>
  simp only [if_true] at k
  refine au ?_
  repeat (first|(refine ai h ?_;clear h;intro kb M h)|(refine ak h ?_;clear h;intro M h)|refine St.to h ?_|(apply Exists.intro;(repeat apply Exists.intro);refine And.intro rfl ?_)|refine ay ?_|refine aq ?_|refine au ?_)
  refine ⟨hb.1, hb.2, ?_⟩
  repeat (first|(refine ai h ?_;clear h;intro kb M h)|(refine ak h ?_;clear h;intro M h)|refine St.to h ?_|(apply Exists.intro;(repeat apply Exists.intro);refine And.intro rfl ?_)|refine ay ?_|refine aq ?_|refine au ?_)
  refine nm (b := b) h JA fS hb (by rw [hfl]) ?_
  clear h
  intro M h
  repeat (first|(refine ai h ?_;clear h;intro kb M h)|(refine ak h ?_;clear h;intro M h)|refine St.to h ?_|(apply Exists.intro;(repeat apply Exists.intro);refine And.intro rfl ?_)|refine ay ?_|refine aq ?_|refine au ?_)
  have QF := gz (q := i.b) (v := v) JA
  have HZ : (aa (y.aW g i.b v) g).fs.length = (aa x g).fs.length := by rw [jW JA]; simpa [gK.bW] using hfl
  refine ⟨hc.1, hc.2, nm (b := b) h QF fS hc (by rw [HZ]) ?_⟩
  clear h
  intro M h
  repeat (first|(refine ai h ?_;clear h;intro kb M h)|(refine ak h ?_;clear h;intro M h)|refine St.to h ?_|(apply Exists.intro;(repeat apply Exists.intro);refine And.intro rfl ?_)|refine ay ?_|refine aq ?_|refine au ?_)
  exact k _ h.cG
 | false =>
  simp only [Bool.false_eq_true, if_false] at k
  refine aq ?_
  obtain ⟨Ao, rK⟩ := hw rfl
  refine Z0 h fun a hl h => ?_
  have hl' := hl
  obtain ⟨l1, l2, l3, l4⟩ := hl'
  have xh := Ao
  obtain ⟨c0, c1⟩ := xh
  have h' := Vl h hl Ao
  clear h
  obtain ⟨cb, hcb, hchx, h⟩ := h'
  repeat (first|(refine ai h ?_;clear h;intro kb M h)|(refine ak h ?_;clear h;intro M h)|refine St.to h ?_|(apply Exists.intro;(repeat apply Exists.intro);refine And.intro rfl ?_)|refine ay ?_|refine aq ?_|refine au ?_)
  refine wh h hcb fun q hq => ?_
  refine rE (w := ⟨g, 0, 0⟩) h (rK.mono (by omega)) ?_
  clear h
  intro M h
  replace h := h.gP bL cb hcb (by omega)
  replace h := br (a := a) (p := p) (pa := pa) (dr := dr) (gg := gg) (x := y.ON i.a g) (tK hl) h b
  repeat (first|(refine ai h ?_;clear h;intro kb M h)|(refine ak h ?_;clear h;intro M h)|refine St.to h ?_|(apply Exists.intro;(repeat apply Exists.intro);refine And.intro rfl ?_)|refine ay ?_|refine aq ?_|refine au ?_)
  refine nk (b := b) (i := i) (x := y.ON i.a g) h JA.1 JA.2.1 ?_
  clear h
  intro M h
  exact ⟨rfl, k _ h.cG⟩
theorem Nm {g : Int} {i : bZ} {bs c : Nat} (h : Hp R L M) [o : y8 b L pa p gg dr x L'] (fS : gg[g.toNat]? = some (some ⟨bs, 0, none⟩, c)) (hg : aT x g) (ha : aR i.a) (hs : x.Sm)
  (k : Out.Ok (x.emit g i) (fun y => ∀ M', Hp R (bj (bI pa p gg dr) b y :: L') M' → K (.tuple #[]) M')
   (fun n y => ∀ M', Hp R (bj (bI pa p gg dr) b y :: L') M' → Kp [{ v := .iface 256 (.int .i64 n), recovered := false }] M')) :
  ae Tryz.prog 171 #[.pointer (some ⟨b, 0, none⟩), .int .i64 g, .pointer (some ⟨bs, ((aa x g).fs.length - 1) * 11, none⟩), .agg #[.int .i64 i.op, .int .i64 i.a, .int .i64 i.b, .int .i64 i.c]] M K Kp := by
 refine uC ?_
 obtain ⟨s1, s2, s3, s4, s5, s6, s7, s8⟩ := hs
 have GO := hg
 obtain ⟨h0, h1, h2, h3⟩ := GO
 unfold Wd.emit at k
 refine ai h ?_
 clear h
 intro kb M h
 have h' := iF h (b := b) h0 h1 fS
 clear h
 obtain ⟨a, gb, hl, gp, h⟩ := h'
 have hl' := hl
 obtain ⟨l1, l2, l3, l4⟩ := hl'
 have ex : x.bp g (aa x g) = x := by
  obtain ⟨y, hy⟩ := aJ (l := x.gs) (i := g.toNat) (by omega)
  have e : aa x g = y := by simp [aa, hy]
  rw [e]
  obtain ⟨hi, rfl⟩ := List.getElem?_eq_some_iff.1 hy
  simp [Wd.bp]
 repeat (first|(refine ai h ?_;clear h;intro kb M h)|(refine ak h ?_;clear h;intro M h)|refine St.to h ?_|(apply Exists.intro;(repeat apply Exists.intro);refine And.intro rfl ?_)|refine ay ?_|refine aq ?_|refine au ?_)
 refine aH.2 ⟨fun hn => ?_, fun hn => ?_⟩
 ·rw [if_pos (by omega)] at k
  replace h := dx h gb hl gp fS
  have dQ := dU (y := aa x g) (g := g) hl
  replace h := br (a := a) (p := p) (pa := pa) (dr := dr) (gg := gg) (x := x.bp g (aa x g)) dQ h b
  rw [ex] at h
  exact k _ h.cG
 ·rw [if_neg (by omega)] at k
  repeat (first|(refine ai h ?_;clear h;intro kb M h)|(refine ak h ?_;clear h;intro M h)|refine St.to h ?_|(apply Exists.intro;(repeat apply Exists.intro);refine And.intro rfl ?_)|refine ay ?_|refine aq ?_|refine au ?_)
  refine ⟨ha.1, ha.2, xH h (bR h2) ha rfl ?_⟩
  repeat (first|(refine ai h ?_;clear h;intro kb M h)|(refine ak h ?_;clear h;intro M h)|refine St.to h ?_|(apply Exists.intro;(repeat apply Exists.intro);refine And.intro rfl ?_)|refine ay ?_|refine aq ?_|refine au ?_)
  refine h.be lC [aK x g i.a] rfl rfl (by simp; omega) ?_
  clear h
  intro A' c' M h
  repeat (first|(refine ai h ?_;clear h;intro kb M h)|(refine ak h ?_;clear h;intro M h)|refine St.to h ?_|(apply Exists.intro;(repeat apply Exists.intro);refine And.intro rfl ?_)|refine ay ?_|refine aq ?_|refine au ?_)
  replace h := dx h gb hl gp fS
  have dQ := dU (y := aa x g) (g := g) hl
  have h5 := br (a := { a with ao := A', co := c' }) (p := p) (pa := pa) (dr := dr) (gg := gg) (x := { x.bp g (aa x g) with out := x.out ++ [aK x g i.a] }) dQ h b
  rw [ex] at h5
  exact k _ h5.cG
end
theorem Z1 : bF Tryz.prog 158 177 1 8 [.pointer none] := bF.mk' (zv := .pointer none) (by kernel_rfl) (by kernel_rfl) rfl (by omega)
section
variable {R : Mem} {L L' : List HP} {M : Mem} {K : Value → Mem → Prop} {Kp : List PanicEntry → Mem → Prop} {pa : PA} {p : cy} {gg : List GA} {dr : Value} {b : Nat} {x : Wd}
def za (x : Wd) (fn v : Int) : Wd := { x with gs := x.gs ++ [⟨0, [eH.begin fn v], .zero⟩] }
theorem Vm {a : WA} {k bs : Nat} {A' : Option Addr} {c' : Nat} {fn v : Int} (hl : fW gg a x)
  (h : Hp R (pt b (nO pa p dr { a with ag := A', cg := c', gb := a.gb ++ [k] } x) 164 :: zJ A' c' (a.gb ++ [k]) :: pt k [.int .i64 0, .slice (some ⟨bs, 0, none⟩) 1 1, .int .i64 0, .int .i64 0, .int .i64 0, .int .i64 0] 182 ::
   we (some ⟨bs, 0, none⟩) 1 [eH.begin fn v] :: cN gm a.gb (x.gs.zip gg) :: zK a.ac a.cc a.cb :: cN bL a.cb x.av :: zL a.al a.cl a.lb :: cN fh a.lb x.aC :: eX a.ah a.ch x.hl :: rz a.ao a.co x.out :: wg a.ar a.cr x.ready :: L) M) :
  Hp R (bj (bI pa p (gg ++ [(some ⟨bs, 0, none⟩, 1)]) dr) b (za x fn v) :: L) M := by
 obtain ⟨l1, l2, l3, l4⟩ := hl
 have h1 := oL h k
 have h2 := h1.tE gm k (by rw [List.length_zip]; omega)
 have e : x.gs.zip gg ++ [(⟨0, [eH.begin fn v], ⟨0, 0, 0, 0⟩⟩, (some ⟨bs, 0, none⟩, 1))] = (za x fn v).gs.zip (gg ++ [(some ⟨bs, 0, none⟩, 1)]) := by
  unfold za
  rw [List.zip_append (by omega)]; rfl
 rw [e] at h2
 exact br (a := { a with ag := A', cg := c', gb := a.gb ++ [k] }) (p := p) (pa := pa) (dr := dr) (gg := gg ++ [(some ⟨bs, 0, none⟩, 1)]) (x := za x fn v) ⟨by simp [za, l1], by simp [za, l2], l3, l4⟩ h2 b
theorem Nn {g fn v : Int} (hg : aT x g) : aa (za x fn v) g = aa x g := by
 obtain ⟨h0, h1, h2, h3⟩ := hg
 unfold aa za
 dsimp only
 rw [List.getD_eq_getElem?_getD, List.getElem?_append_left (by omega), ← List.getD_eq_getElem?_getD]
theorem JB {g : Int} {i : bZ} {bs c : Nat} (h : Hp R L M) [o : y8 b L pa p gg dr x L'] (fS : gg[g.toNat]? = some (some ⟨bs, 0, none⟩, c)) (hg : aT x g) (hb : aR i.b) (hc : aR i.c) (hs : x.Sm)
  (k : Out.Ok (x.spawn g i) (fun y => ∀ nq M', Hp R (bj (bI pa p nq dr) b y :: L') M' → K (.tuple #[]) M')
   (fun n y => ∀ M', Hp R (bj (bI pa p gg dr) b y :: L') M' → Kp [{ v := .iface 256 (.int .i64 n), recovered := false }] M')) :
  ae Tryz.prog 163 #[.pointer (some ⟨b, 0, none⟩), .int .i64 g, .pointer (some ⟨bs, ((aa x g).fs.length - 1) * 11, none⟩), .agg #[.int .i64 i.op, .int .i64 i.a, .int .i64 i.b, .int .i64 i.c]] M K Kp := by
 refine rQ ?_
 obtain ⟨s1, s2, s3, s4, s5, s6, s7, s8⟩ := hs
 unfold Wd.spawn at k
 refine ai h ?_
 clear h
 intro kb M h
 have hC := h
 have h' := cV h (b := b)
 clear h
 obtain ⟨a, hl, h⟩ := h'
 have hl' := hl
 obtain ⟨l1, l2, l3, l4⟩ := hl'
 refine ax h ?_
 refine aH.2 ⟨fun hn => ?_, fun hn => ?_⟩
 ·rw [if_pos (by omega)] at k
  exact k _ (hC.drop.pick o.pick)
 rw [if_neg (by omega)] at k
 refine ax h ?_
 refine ⟨fun vs M => ∃ bs', Hp R (bj (bI pa p (gg ++ [(some ⟨bs', 0, none⟩, 1)]) dr) b (za x i.a (aK x g i.b)) :: pt kb [.int .i64 i.op, .int .i64 i.a, .int .i64 i.b, .int .i64 i.c] 34 :: L') M, ?_, ?_⟩
 ·repeat (first|(refine ai h ?_;clear h;intro kb M h)|(refine ak h ?_;clear h;intro M h)|refine St.to h ?_|(apply Exists.intro;(repeat apply Exists.intro);refine And.intro rfl ?_)|refine ay ?_|refine aq ?_|refine au ?_)
  refine ⟨hb.1, hb.2, Jz (b := b) hC hg fS hb rfl ?_⟩
  clear hC
  refine ⟨?_, ?_, trivial⟩
  ·repeat (first|(refine ai h ?_;clear h;intro kb M h)|(refine ak h ?_;clear h;intro M h)|refine St.to h ?_|(apply Exists.intro;(repeat apply Exists.intro);refine And.intro rfl ?_)|refine ay ?_|refine aq ?_|refine au ?_)
   refine sO h ?_
   clear h
   intro bs' M h
   repeat (first|(refine ai h ?_;clear h;intro kb M h)|(refine ak h ?_;clear h;intro M h)|refine St.to h ?_|(apply Exists.intro;(repeat apply Exists.intro);refine And.intro rfl ?_)|refine ay ?_|refine aq ?_|refine au ?_)
   refine h.be Z1 [_] rfl rfl (by simp; omega) ?_
   clear h
   intro A' c' M h
   repeat (first|(refine ai h ?_;clear h;intro kb M h)|(refine ak h ?_;clear h;intro M h)|refine St.to h ?_|(apply Exists.intro;(repeat apply Exists.intro);refine And.intro rfl ?_)|refine ay ?_|refine aq ?_|refine au ?_)
   exact ⟨bs', Vm hl (h.sub bz)⟩
  ·refine sO h ?_
   clear h
   intro bs' M h
   repeat (first|(refine ai h ?_;clear h;intro kb M h)|(refine ak h ?_;clear h;intro M h)|refine St.to h ?_|(apply Exists.intro;(repeat apply Exists.intro);refine And.intro rfl ?_)|refine ay ?_|refine aq ?_|refine au ?_)
   refine h.be Z1 [_] rfl rfl (by simp; omega) ?_
   clear h
   intro A' c' M h
   repeat (first|(refine ai h ?_;clear h;intro kb M h)|(refine ak h ?_;clear h;intro M h)|refine St.to h ?_|(apply Exists.intro;(repeat apply Exists.intro);refine And.intro rfl ?_)|refine ay ?_|refine aq ?_|refine au ?_)
   exact ⟨bs', Vm hl (h.sub bz)⟩
 ·clear h hC
  rintro _ M ⟨bs', h⟩
  have hlen : (za x i.a (aK x g i.b)).gs.length = x.gs.length + 1 := by simp [za]
  have qZ : (x.gs.length : Int) = (a.gb.length : Int) := by omega
  rw [← qZ]
  refine jk (b := b) h (by omega) (by omega) (by show x.ready.length ≤ _; omega) ?_
  clear h
  intro M h
  repeat (first|(refine ai h ?_;clear h;intro kb M h)|(refine ak h ?_;clear h;intro M h)|refine St.to h ?_|(apply Exists.intro;(repeat apply Exists.intro);refine And.intro rfl ?_)|refine ay ?_|refine aq ?_|refine au ?_)
  have QF : aa ((za x i.a (aK x g i.b)).eV (x.gs.length : Int)) g = aa x g := by
   rw [← Nn (fn := i.a) (v := aK x g i.b) hg]
   obtain ⟨h0, h1, _⟩ := hg
   have hne : x.gs.length ≠ g.toNat := by omega
   simp [aa, Wd.eV, Wd.bp, List.getElem?_set, hne]
  have hg3 : aT ((za x i.a (aK x g i.b)).eV (x.gs.length : Int)) g := by
   refine ⟨hg.1, ?_, ?_, ?_⟩
   ·have h1 := hg.2.1
    simp only [Wd.eV, Wd.bp, List.length_set, hlen]; omega
   ·rw [QF]; exact hg.2.2.1
   ·rw [QF]; exact hg.2.2.2
  have hgg2 : (gg ++ [(some (⟨bs', 0, none⟩ : Addr), 1)])[g.toNat]? = some (some ⟨bs, 0, none⟩, c) := by
   rw [List.getElem?_append_left (by have := hg.2.1; have := hg.1; omega)]; exact fS
  refine ⟨hc.1, hc.2, nm (b := b) h hg3 hgg2 hc (by rw [QF]) ?_⟩
  clear h
  intro M h
  repeat (first|(refine ai h ?_;clear h;intro kb M h)|(refine ak h ?_;clear h;intro M h)|refine St.to h ?_|(apply Exists.intro;(repeat apply Exists.intro);refine And.intro rfl ?_)|refine ay ?_|refine aq ?_|refine au ?_)
  exact k _ _ h.cG
end
section
variable {R : Mem} {L L' : List HP} {M : Mem} {K : Value → Mem → Prop} {Kp : List PanicEntry → Mem → Prop} {pa : PA} {p : cy} {gg : List GA} {dr : Value} {b : Nat} {x : Wd}
def pP (p : cy) (x : Wd) (i : bZ) : Prop := nP x i.a ∧ (aX x.av i.a).cH.length ≤ 1000000 ∧
 ((aX x.av i.a).close.2.2.2 = 0 → (aX x.av i.a).close.2.2.1 = [] → sR p (x.bg i.a (aX x.av i.a).close.1) (aX x.av i.a).close.2.1)
theorem No {g : Int} {i : bZ} {f : Value} {bf of' : Nat} (h : Hp R L M) [o : y8 b L pa p gg dr x L'] (hp : RS gT R pa.k pa.kc p.cases) (hk : pP p x i) (hs : x.Sm)
  (k : Out.Ok (x.shut p i) (fun y => ∀ M', Hp R (bj (bI pa p gg dr) b y :: L') M' → K (.tuple #[]) M')
   (fun n y => ∀ M', Hp R (bj (bI pa p gg dr) b y :: L') M' → Kp [{ v := .iface 256 (.int .i64 n), recovered := false }] M')) :
  ae Tryz.prog 167 #[.pointer (some ⟨b, 0, none⟩), .int .i64 g, .pointer (some ⟨bf, of', none⟩), .agg #[.int .i64 i.op, .int .i64 i.a, .int .i64 i.b, .int .i64 i.c]] M K Kp := by
 refine uA ?_
 obtain ⟨Ao, hlen, hsh⟩ := hk
 obtain ⟨s1, s2, s3, s4, s5, s6, s7, s8⟩ := hs
 unfold Wd.shut at k
 dsimp only at k
 refine ai h ?_
 clear h
 intro kb M h
 have h' := cV h (b := b)
 clear h
 obtain ⟨a, hl, h⟩ := h'
 have hl' := hl
 obtain ⟨l1, l2, l3, l4⟩ := hl'
 have xh := Ao
 obtain ⟨c0, c1⟩ := xh
 have h' := Vl h hl Ao
 clear h
 obtain ⟨cb, hcb, hchx, h⟩ := h'
 repeat (first|(refine ai h ?_;clear h;intro kb M h)|(refine ak h ?_;clear h;intro M h)|refine St.to h ?_|(apply Exists.intro;(repeat apply Exists.intro);refine And.intro rfl ?_)|refine ay ?_|refine aq ?_|refine au ?_)
 refine wh h hcb fun q hq => ?_
 have mU : (aX x.av i.a).close.2.1.length ≤ 1000000 := by
  unfold aQ.close; split <;> simp [hlen]
 refine It h ?_
 clear h
 intro A ca B cb' M h
 replace h := h.gP bL cb hcb (by omega)
 generalize (aX x.av i.a).close = s at h k hsh mU
 obtain ⟨c', r, sn, e⟩ := s
 dsimp only at h k hsh mU ⊢
 refine ⟨A, _, ca, B, _, cb', e, rfl, ?_⟩
 replace h := br (a := a) (p := p) (pa := pa) (dr := dr) (gg := gg) (x := x.bg i.a c') (tK hl) h b
 refine cY.2 ⟨fun he => ?_, fun he => ?_⟩
 ·rw [if_pos he] at k
  exact k _ h.cG
 rw [if_neg (by simpa using he)] at k
 refine aH.2 ⟨fun hn => ?_, fun hn => ?_⟩
 ·rw [if_pos (by omega)] at k
  exact k _ h.cG
 rw [if_neg (by omega)] at k
 have hsn : sn = [] := by cases sn with
  | nil => rfl
  | cons _ _ => simp at hn
 have hok := hsh he hsn
 refine ⟨fun d vs M => ∃ (j : Nat), vs = [.int .i64 (j : Int)] ∧ d = r.length - j ∧ j ≤ r.length ∧ Hp R (bj (bI pa p gg dr) b ((r.take j).foldl (cJ p) (x.bg i.a c')) :: qp A ca r :: L') M, ⟨_, 0, rfl, rfl, by omega, h.sub bz⟩, ?_⟩
 clear h
 rintro d _ nn M ⟨j, Z2, hd, hj, h⟩
 simp only [List.cons.injEq, Value.int.injEq, and_true, true_and] at Z2
 subst Z2
 refine aH.2 ⟨fun hlt => ?_, fun hge => ?_⟩
 ·obtain ⟨w, hw⟩ := aJ (l := r) (i := j) (by omega)
  obtain ⟨t1, t2, t3, t4⟩ := EF hok hw
  have hstep : (r.take (j + 1)).foldl (cJ p) (x.bg i.a c') = cJ p ((r.take j).foldl (cJ p) (x.bg i.a c')) w := by
   rw [dw hw, List.foldl_append]; rfl
  generalize (r.take j).foldl (cJ p) (x.bg i.a c') = y at h t1 t3 t4 hstep
  obtain ⟨qa, rfl⟩ := h.bU (A := A) (by omega) (by decide)
  refine ⟨by omega, hlt, aV ?_⟩
  simp only [Int.toNat_natCast]
  refine aj (Src.at (h.src (A := some ⟨qa, 0, none⟩)) h (i := j) (j := 0) hw rfl (by simp [cC])) ?_
  refine aj (Src.at (h.src (A := some ⟨qa, 0, none⟩)) h (i := j) (j := 1) hw rfl (by simp [cC])) ?_
  refine aj (Src.at (h.src (A := some ⟨qa, 0, none⟩)) h (i := j) (j := 2) hw rfl (by simp [cC])) ?_
  refine ai h ?_
  clear h
  intro kw M h
  refine ak h ?_
  clear h; intro M h
  refine ak h ?_
  clear h; intro M h
  refine ak h ?_
  clear h; intro M h
  have hC := h
  have h' := kW h (b := b) t2 t3
  clear h
  obtain ⟨a2, gb, A2, c2, dQ, gp, hgg2, h⟩ := h'
  have hl2' := dQ
  obtain ⟨m1, m2, m3, m4⟩ := hl2'
  repeat (first|(refine ai h ?_;clear h;intro kb M h)|(refine ak h ?_;clear h;intro M h)|refine St.to h ?_|(apply Exists.intro;(repeat apply Exists.intro);refine And.intro rfl ?_)|refine ay ?_|refine aq ?_|refine au ?_)
  refine wh h gp fun q2 Ng => ?_
  repeat (first|(refine ai h ?_;clear h;intro kb M h)|(refine ak h ?_;clear h;intro M h)|refine St.to h ?_|(apply Exists.intro;(repeat apply Exists.intro);refine And.intro rfl ?_)|refine ay ?_|refine aq ?_|refine au ?_)
  clear h
  have h := hC
  clear hC
  rw [aS (by omega)]
  have hst : cJ p y w = if (aa y w.g).st = 2 then y.received p { w with v := 0 } 0 else y := rfl
  rw [hst] at hstep
  refine bh.2 ⟨fun e2 => ?_, fun e2 => ?_⟩
  ·rw [if_pos e2] at hstep
   refine ak h ?_
   clear h; intro M h
   repeat (first|(refine ai h ?_;clear h;intro kb M h)|(refine ak h ?_;clear h;intro M h)|refine St.to h ?_|(apply Exists.intro;(repeat apply Exists.intro);refine And.intro rfl ?_)|refine ay ?_|refine aq ?_|refine au ?_)
   refine sQ (b := b) (v := { w with v := 0 }) h hp (t4 e2) t1 ?_
   clear h; intro M h
   refine ⟨rfl, r.length - (j + 1), by omega, j + 1, rfl, rfl, by omega, ?_⟩
   rw [hstep]
   exact h.cG
  ·rw [if_neg e2] at hstep
   refine ⟨r.length - (j + 1), by omega, j + 1, rfl, rfl, by omega, ?_⟩
   rw [hstep]
   exact h.sub bz
 ·obtain rfl : j = r.length := by omega
  rw [List.take_length] at h
  exact k _ h.cG
end
structure Rg where
 room : Nat
 l : List Int
def Rg.Ok (x : Rg) (head : Nat) (slots : List Int) : Prop := slots.length = x.room ∧ 0 < x.room ∧ x.room ≤ 1024 ∧ head < x.room ∧ x.l.length ≤ x.room ∧ ∀ i v, x.l[i]? = some v → slots[(head + i) % x.room]? = some v
def ringR : xT Rg := ⟨fun b x => exs fun A : Option Addr => exs fun c : Nat => exs fun head : Nat => exs fun slots : List Int =>
 sep [fact (x.Ok head slots), pt b [.slice A x.room c, .int .i64 (head : Int), .int .i64 (x.l.length : Int)] 280, cw bS 3 A c slots]⟩
section
variable {R : Mem} {L L' : List HP} {M : Mem} {K : Value → Mem → Prop} {Kp : List PanicEntry → Mem → Prop} {b : Nat} {x : Rg}
def capR (n : Int) : Nat := (min (max n 1) 1024).toNat
end
structure Loc where
 next : Int
 room : Nat
 l : List Int
def Loc.put (x : Loc) (v : Int) (g : List Int) : Loc × List Int × Nat :=
 if x.l.length < x.room then ({ x with l := x.l ++ [v] }, g, 0) else ({ x with l := x.l.drop (x.l.length / 2) }, g ++ (x.l.take (x.l.length / 2) ++ [v]), x.l.length / 2 + 1)
def Loc.ready (x : Loc) (v : Int) (g : List Int) : Loc × List Int × Nat := if x.next = -1 then ({ x with next := v }, g, 0) else ({ x with next := v } : Loc).put x.next g
def Loc.get (x : Loc) : Loc × Int := if x.next ≠ -1 then ({ x with next := -1 }, x.next) else match x.l with
 | [] => (x, -1)
 | v :: l => ({ x with l := l }, v)
def Loc.turn (x : Loc) (g : List Int) : Loc × List Int × Nat := if x.next = -1 then (x, g, 0) else ({ x with next := -1 } : Loc).put x.next g
def Loc.Vn (x : Loc) (g : List Int) (p : Int) : Nat := if p < 1 then 1 else min (g.length / p.toNat + 1) (x.room - x.l.length + 1)
def Loc.Vo (x : Loc) (g : List Int) (p : Int) : Loc × List Int × Int := match g.take (x.Vn g p) with
 | [] => (x, g, -1)
 | v :: out => ({ x with l := x.l ++ out }, g.drop (x.Vn g p), v)
def Loc.Vp (x f : Loc) : Nat := min (f.l.length - f.l.length / 2) (x.room - x.l.length + 1)
def Loc.steal (x f : Loc) : Loc × Loc × Int := match f.l.take (x.Vp f) with
 | [] => (x, { f with next := -1 }, f.next)
 | v :: out => ({ x with l := x.l ++ out }, { f with l := f.l.drop (x.Vp f) }, v)
def Loc.Ok (x : Loc) : Prop := x.l.length ≤ x.room ∧ x.room ≤ 1024 ∧ 0 < x.room
def locR : xT Loc := ⟨fun b x => exs fun rb : Nat => sep [pt b [.int .i64 x.next, .pointer (some ⟨rb, 0, none⟩)] 224, bj ringR rb ⟨x.room, x.l⟩]⟩
def glP (P : Option Addr → Nat → Nat → HP) (l : List Int) : HP := exs fun A : Option Addr => exs fun c : Nat => sep [P A l.length c, cw bS 3 A c l]
class Vq (P : Option Addr → Nat → Nat → HP) (L : List HP) (g : outParam (List Int)) (L' : outParam (List HP)) : Prop where
 pick : eA L (glP P g) L'
instance Vq.here {P : Option Addr → Nat → Nat → HP} {g : List Int} {L : List HP} : Vq P (glP P g :: L) g L := ⟨.here⟩
instance (priority := low) Vq.there {P : Option Addr → Nat → Nat → HP} {g : List Int} {Q : HP} {L L' : List HP} [h : Vq P L g L'] : Vq P (Q :: L) g (Q :: L') := ⟨.there h.pick⟩
end Go.Proofs
namespace Go.Proofs
def Loc.all (x : Loc) : List Int := (if x.next = -1 then [] else [x.next]) ++ x.l
end Go.Proofs
