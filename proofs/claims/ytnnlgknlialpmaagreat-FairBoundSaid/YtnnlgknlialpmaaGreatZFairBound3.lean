/- A part of proofs about one program. -/
import Derived.Test.YtnnlgknlialpmaaGreatZFairBoundAgg
import Derived.Test.YtnnlgknlialpmaaGreatZFairBound1
set_option linter.unusedVariables false
namespace Go.AF
theorem IN {p q : Prop} [Decidable p] [Decidable q] {X Y : Prop} (hy : Y) (hx : p → q → X) : aO (decide p) (aO (decide q) X Y) Y := by
 by_cases hp : p
 ·by_cases hq : q
  ·simp only [hp, hq, decide_true]; exact ae (ae (hx hp hq))
  ·simp only [hp, hq, decide_true, decide_false]; exact ae (ai hy)
 ·simp only [hp, decide_false]; exact ai hy
theorem G5 {α : Type} {f : Nat → α} {q m : Nat} {v : α} : ((List.range m).map f).set q v = (List.range m).map (fun j => if j = q then v else f j) := by
 apply List.ext_getElem
 ·simp
 ·intro j h1 h2
  simp only [List.getElem_set, List.getElem_map, List.getElem_range]
  by_cases hj : q = j
  ·rw [if_pos hj, if_pos hj.symm]
  ·rw [if_neg hj, if_neg (Ne.symm hj)]
theorem B4 {α : Type} {f : Nat → α} {q m : Nat} (h : q < m) : ((List.range m).map f)[q]? = some (f q) := by simp [h]
theorem Ob {α : Type} {a : α} {m : Nat} : List.replicate m a = (List.range m).map (fun _ => a) := by
 induction m with
 | zero => rfl
 | succ m ih => rw [List.replicate_succ', ih, List.range_succ, List.map_append]; rfl
theorem EU {α : Type} {f g : Nat → α} {m : Nat} (h : ∀ j, j < m → f j = g j) : (List.range m).map f = (List.range m).map g := List.map_congr_left fun j hj => h j (List.mem_range.1 hj)
theorem wn {z : Int} {n : Nat} (e : z = (n : Int)) (h : n < 9223372036854775808) : IntKind.wrap .i64 z = (n : Int) := by rw [e]; exact mG h
theorem Src.row {α : Type} {E : iY α} {R : Mem} {L L' : List HP} {A : Option Addr} {T c : Nat} {l : List α} [hp : cG A L α E T c l L'] : Src R L A (E.cells l) := fun M h => h.src (A := A) M h
theorem Src.pre1 {R : Mem} {L : List HP} {A : Option Addr} {c : Nat} {l : List Int} (hs : Src R L A (bB.cells l)) (hc : l.length ≤ c) (q : Nat) : Src R L (lF A 0 c 1) (bB.cells (l.take q)) := by
 have := (hs.drop (m := 0) (c := c) hc).Sr q
 rw [List.drop_zero] at this
 exact this
theorem Src.Q5 {R : Mem} {L : List HP} {A : Option Addr} {c : Nat} {l : List Int} (hs : Src R L A (bB.cells l)) (hc : l.length ≤ c) (q : Nat) : Src R L (lF A q c 1) (bB.cells (l.drop q)) := hs.drop hc
end Go.AF
namespace Go.AF
abbrev AL := List (Int × Value)
def dk : Nat → AL → List MapEntry
 | _, [] => []
 | i, (k, v) :: l => ⟨.int .i64 k, v, i⟩ :: dk (i + 1) l
def lC (l : AL) : Obj := .map (dk 0 l).toArray l.length
def uO (k : Int) : AL → Nat → Option (Nat × Value)
 | [], _ => none
 | (k', v) :: l, i => if k = k' then some (i, v) else uO k l (i + 1)
def Bk (l : AL) (k : Int) : Option Value := (uO k l 0).map (·.2)
def Q6 (l : AL) (k : Int) (v : Value) : AL := match uO k l 0 with
 | some (i, _) => l.set i (k, v)
 | none => l ++ [(k, v)]
theorem uP {kd : IntKind} (k : Int) : ∀ (l : AL) (i b : Nat), Instr.findNow (.int kd) (.int .i64 k) (dk b l) i = some (uO k l i)
 | [], _, _ => rfl
 | (k', v) :: l, i, b => by
  simp only [dk, Instr.findNow, Instr.sameNow, if_true, uO]
  by_cases h : k = k'
  ·simp [h]
  ·have : (k == k') = false := by simp [h]
   rw [this, if_neg h]
   exact uP k l (i + 1) (b + 1)
theorem IP {k : Int} : ∀ {l : AL} {i j : Nat} {v : Value}, uO k l i = some (j, v) → i ≤ j ∧ l[j - i]? = some (k, v)
 | [], _, _, _, h => by simp [uO] at h
 | (k', v') :: l, i, j, v, h => by
  simp only [uO] at h
  split at h
  ·rename_i e; cases h; subst e; exact ⟨Nat.le_refl _, by simp⟩
  ·obtain ⟨h1, h2⟩ := IP h
   refine ⟨by omega, ?_⟩
   rw [show j - i = (j - (i + 1)) + 1 from by omega, List.getElem?_cons_succ]; exact h2
theorem IQ : ∀ {l : AL} {i b : Nat} {k : Int} {v : Value}, l[i]? = some (k, v) → (dk b l)[i]? = some ⟨.int .i64 k, v, b + i⟩
 | [], _, _, _, _, h => by simp at h
 | (k', v') :: l, 0, b, k, v, h => by simp at h; obtain ⟨rfl, rfl⟩ := h; rfl
 | (k', v') :: l, i + 1, b, k, v, h => by
  have := IQ (b := b + 1) (show l[i]? = some (k, v) from by simpa using h)
  simp only [dk, List.getElem?_cons_succ, this]
  congr 2; omega
theorem EV : ∀ {l : AL} {i b : Nat} {k : Int} {v w : Value}, l[i]? = some (k, w) → (dk b l).modify i (fun e => { e with key := .int .i64 k, val := v }) = dk b (l.set i (k, v))
 | [], _, _, _, _, _, h => by simp at h
 | (k', v') :: l, 0, b, k, v, w, h => by simp at h; obtain ⟨rfl, rfl⟩ := h; rfl
 | (k', v') :: l, i + 1, b, k, v, w, h => by
  have := EV (b := b + 1) (v := v) (show l[i]? = some (k, w) from by simpa using h)
  simp only [dk, List.modify_succ_cons, List.set_cons_succ, this]
theorem EW : ∀ (l m : AL) (b : Nat), dk b (l ++ m) = dk b l ++ dk (b + l.length) m
 | [], m, b => by simp [dk]
 | (k, v) :: l, m, b => by simp only [List.cons_append, dk, EW l m (b + 1), List.length_cons]; congr 3; omega
def zh : AL → Int → Option Value
 | [], _ => none
 | (k', v) :: l, k => if k = k' then some v else zh l k
theorem EX (k : Int) : ∀ (l : AL) (i : Nat), (uO k l i).map (·.2) = zh l k
 | [], _ => rfl
 | (k', v) :: l, i => by
  simp only [uO, zh]
  split
  ·rfl
  ·exact EX k l (i + 1)
theorem Q7 (l : AL) (k : Int) : Bk l k = zh l k := EX k l 0
theorem B5 {k : Int} : ∀ {l : AL}, zh l k = none ↔ k ∉ l.map (·.1)
 | [] => by simp [zh]
 | (q, w) :: l => by
  have ih := B5 (k := k) (l := l)
  simp only [zh, List.map_cons, List.mem_cons, not_or]
  by_cases h : k = q
  ·rw [if_pos h]; simp [h]
  ·rw [if_neg h]; simp [h, ih]
section
variable {R : Mem} {L L' : List HP} {M : Mem} {P : Program} {t kt et : TypeId} {r : Nat} {l : AL} {k : Int} {kd : IntKind}
class zk (b : Nat) (L : List HP) (o : outParam Obj) (L' : outParam (List HP)) : Prop where
 pick : cY L (ob b o) L'
instance zk.here {b : Nat} {o : Obj} {L : List HP} : zk b (ob b o :: L) o L := ⟨.here⟩
instance (priority := low) zk.there {b : Nat} {o : Obj} {Q : HP} {L L' : List HP} [h : zk b L o L'] : zk b (Q :: L) o (Q :: L') := ⟨.there h.pick⟩
theorem iB {P : Program} {M : Mem} {b : Bool} (hk : P.underlying kt = some (.int kd)) : bL P (Instr.checkKey b 10000 kt (.int .i64 k)) M = some () := by
 unfold Instr.checkKey
 rw [aN, aI hk]; rfl
theorem tx {P : Program} {M : Mem} (hk : P.underlying kt = some (.int kd)) : bL P (Instr.findKey kt (.int .i64 k) (dk 0 l)) M = some (uO k l 0) := by
 unfold Instr.findKey
 rw [aN, aI hk, Option.bind_some, uP]; rfl
theorem tB {P : Program} {α : Type} {M : Mem} {r : Nat} {l : AL} {f : Obj → Sem α} {K : α → Mem → Prop} {Kp : Value → Mem → Prop} (hb : M r = some (lC l)) (h : dy P (f (lC l)) M K Kp) : dy P (getObj r >>= f) M K Kp := by
 refine dF P _ _ ?_
 unfold getObj
 simp only [dy, hb, lC]
 exact h
theorem Oc {z : Value} {i : TypeInfo} {K : Value → Mem → Prop} {Kp : List PanicEntry → Mem → Prop} (h : Hp R L M) [p : zk r L (lC l) L'] (hu : P.underlying t = some (.map kt et)) (hk : P.underlying kt = some (.int kd)) (hi : P.info? et = some i) (hz : i.zero = some z)
  (g : K ((Bk l k).getD z) M) : aY P (Instr.lookup t (.map (some r)) (.int .i64 k) false) M K Kp := by
 have hb : M r = some (lC l) := (h.pick p.pick).BN
 unfold aY Instr.lookup
 refine aQ (aI hu M) ?_
 simp only
 refine dF P _ _ ?_
 refine tB hb ?_
 simp only [lC]
 refine aQ (x := ()) (iB hk) ?_
 refine aQ (tx hk) ?_
 unfold Bk at g
 cases ha : uO k l 0 with
 | none =>
  rw [ha] at g
  simp only
  have Zy : bL P (zeroValue et) M = some z := by rw [jt]; simp [zeroOf, hi, hz]
  refine aQ Zy ?_
  refine aQ (x := (z, false)) rfl ?_
  exact g
 | some x =>
  rw [ha] at g
  exact g
theorem w9 {v : Value} {K : Mem → Prop} {Kp : List PanicEntry → Mem → Prop} (h : Hp R L M) [p : zk r L (lC l) L'] (hu : P.underlying t = some (.map kt et)) (hk : P.underlying kt = some (.int kd))
  (g : ∀ M', Hp R (ob r (lC (Q6 l k v)) :: L') M' → K M') : bA P (Instr.mapUpdate t (.map (some r)) (.int .i64 k) v) M K Kp := by
 have h1 := h.pick p.pick
 have hb : M r = some (lC l) := h1.BN
 have fin : ∀ o, o = lC (Q6 l k v) → K (M.set r o) := fun o e => by
  subst e
  exact g _ (h1.set (x := lC l) (fun A ha => by unfold ob at ha; exact ha) fun A ha => by unfold ob; exact eB)
 unfold bA Instr.mapUpdate
 refine aQ (aI hu M) ?_
 simp only
 refine tB hb ?_
 simp only [lC]
 refine aQ (x := ()) (iB hk) ?_
 refine aQ (tx hk) ?_
 have zl : ∀ o : Obj, K (M.set r o) → dy P (setObj r o) M (fun _ => K) (fun v M' => Kp [{ v, recovered := false }] M') := fun o hK => by
  unfold setObj
  simp only [dy, hb, lC]
  exact hK
 cases ha : uO k l 0 with
 | none =>
  simp only
  refine zl _ (fin _ ?_)
  unfold Q6 lC
  rw [ha]
  simp only [List.push_toArray, List.length_append, List.length_singleton]
  rw [EW]; simp [dk]
 | some x =>
  obtain ⟨i, w⟩ := x
  obtain ⟨_, hw⟩ := IP ha
  rw [Nat.sub_zero] at hw
  simp only
  have he := IQ (b := 0) hw
  refine aQ (x := Value.int .i64 k) ?_ ?_
  ·have : (((dk 0 l).toArray[i]?).map (·.key)).getD (.int .i64 k) = .int .i64 k := by simp [he]
   rw [this]
   unfold Instr.keyThatStays
   simp [Instr.sameBits]; rfl
  ·refine zl _ (fin _ ?_)
   unfold Q6 lC
   rw [ha]
   simp only [List.length_set]
   rw [← EV (v := v) hw]
   simp [List.modify_toArray]
end
end Go.AF
namespace Go.AF
theorem Dg {P : Program} {t t' e ty : TypeId} {i : TypeInfo} {zv : Value} {A B : Option Addr} {n c m d : Nat} {l r : List Value} {M : Mem} {K : Value → Mem → Prop} {Kp : List PanicEntry → Mem → Prop}
  (hu : P.underlying t = some (.slice e)) (Sj : P.underlying t' = some (.slice e)) (hi : P.info? e = some i) (hz : i.zero = some zv) (hs : zv.cells.size = i.size)
  (WZ : Sl M A l) (hl : l.length = n * i.size) (hr : Sl M B r) (jT : r.length = m * i.size) (hc : c < n + m) (hb : (n + m) * i.bytes ≤ 140737488355328) (hby : 0 < i.bytes)
  (h : ∀ k c' M', M k = none → tN M' i.size e (some ⟨k, 0, none⟩) (n + m) c' (l ++ r) → nA [] M M' → K (.slice (some ⟨k, 0, none⟩) (n + m) c') M') :
  aY P (Builtin.append_ #[t, t'] ty #[.slice A n c, .slice B m d]) M K Kp := by
 unfold aY Builtin.append_
 simp only [List.getElem?_toArray, List.getElem?_cons_zero, List.getElem?_cons_succ]
 refine aQ (aI hu M) ?_
 simp only
 refine aQ (fC hi M) ?_
 refine aQ (aI Sj M) ?_
 refine aQ (x := false) rfl ?_
 refine aQ (x := m) rfl ?_
 simp only [Bool.not_false, if_true]
 rw [if_neg (by omega)]
 refine aQ (cy hi M) ?_
 rw [if_neg (by simp; omega)]
 refine aQ (cy hi M) ?_
 rw [if_neg (by have := growslice_fits (need := n + m) (old := c) (bytes := i.bytes) (by omega) hb; omega)]
 show ∀ q, _
 intro q
 have hcap : n + m ≤ Question.cut (.appendCap (n + m) c e) q := by simp only [Question.cut]; omega
 generalize Question.cut (.appendCap (n + m) c e) q = nc at hcap
 refine aQ (x := nc) rfl ?_
 refine aQ (cy hi M) ?_
 refine dF P _ _ ?_
 have room : ∀ (X : Prop) , X → dy P (askRoom (nc * i.bytes)) M (fun _ M' => M' = M) (fun _ _ => False) := by
  intro X _
  unfold askRoom
  split
  ·exact rfl
  ·exact rfl
 refine iE P _ (room True trivial) (fun _ M' hM' => ?_) (fun _ _ hf => hf.elim)
 subst hM'
 refine aQ (gT WZ hl) ?_
 refine aQ (gT hr jT) ?_
 refine aQ (x := zv) (by rw [jt]; simp [zeroOf, hi, hz]) ?_
 intro k hk
 refine h k nc _ hk ⟨by rw [List.length_append, hl, jT, Nat.add_mul], .inr ⟨k, _, rfl, eB, ?_, hcap, fun j hj => ?_⟩⟩ ((nA.refl _ _).set (.inr hk))
 ·simp only [Array.size_append, List.size_toArray, hl, jT]
  have : (Builtin.zeroCells zv.cells (nc - (n + m))).size = (nc - (n + m)) * i.size := by simp [Builtin.zeroCells, hs]
  rw [this, ← Nat.add_mul, ← Nat.add_mul]; congr 1; omega
 ·rw [Nat.add_mul] at hj
  rw [Array.getElem?_append_left (by simp [hl, jT]; omega)]
  simp
theorem Hp.Q8 {α : Type} {E : iY α} {R : Mem} {L L' : List HP} {M : Mem} {T : Nat} {P : Program} {t bytes ty d m k n c : Nat} {zero rc : List Value} {A : Option Addr} {l r : List α} {K : Value → Mem → Prop} {Kp : List PanicEntry → Mem → Prop}
  (h : Hp R L M) [hk : kU k L rc T L'] (hA : Src R L A (E.cells l)) (hn : n = l.length) (El : bn P t T E.z bytes zero) (he : rc = E.cells r) (hm : m = r.length) (hc : c < n + m) (hb : (l.length + r.length) * bytes ≤ 140737488355328)
  (g : ∀ b c' M', Hp R (bO E T (some ⟨b, 0, none⟩) c' (l ++ r) :: L') M' → K (.slice (some ⟨b, 0, none⟩) (l ++ r).length c') M') :
  aY P (Builtin.append_ #[t, t] ty #[.slice A n c, .slice (some ⟨k, 0, none⟩) m d]) M K Kp := by
 subst hm; subst he; subst hn
 have hB : Sl M (some ⟨k, 0, none⟩) (E.cells r) := h.My hk.pick
 obtain ⟨hu, i, zv, hi, hs, hby, hz, rfl, hl, hpos⟩ := El
 refine Dg hu hu hi hz (by rw [hs, ← hl]; simp) (hA M h) (by rw [hs]; exact E.dB) hB (by rw [hs]; exact E.dB) hc (by rw [hby]; exact hb) (by omega) fun b c' M' hbn ho ye => ?_
 have h2 : Hp R (bO E T (some ⟨b, 0, none⟩) c' (l ++ r) :: L) M' := by
  have h3 : Hp R (fact True :: L) M := Hp.fO.2 ⟨trivial, h⟩
  refine h3.change (D := []) (D' := [b]) (fun A hA x hx => by cases hx) ye (fun x hx => by simp only [List.mem_singleton] at hx; subst hx; exact .inr hbn) ?_
  unfold bO own
  rw [List.length_append, E.vK]
  rw [hs] at ho
  have := ho.Gp
  simpa [AM] using this
 have := g b c' M' (h2.map fun _ hs => hs.tail fun _ hx => (bU.pick hk.pick hx).drop)
 rwa [List.length_append] at this
section
variable {R : Mem} {L L' : List HP} {M : Mem} {P : Program} {t kt et : TypeId} {r : Nat} {l : AL} {k : Int} {kd : IntKind}
theorem KG {z : Value} {i : TypeInfo} {K : Value → Mem → Prop} {Kp : List PanicEntry → Mem → Prop} (h : Hp R L M) [p : zk r L (lC l) L'] (hu : P.underlying t = some (.map kt et)) (hk : P.underlying kt = some (.int kd)) (hi : P.info? et = some i) (hz : i.zero = some z)
  (g : K (.tuple #[(Bk l k).getD z, .bool (Bk l k).isSome]) M) : aY P (Instr.lookup t (.map (some r)) (.int .i64 k) true) M K Kp := by
 have hb : M r = some (lC l) := (h.pick p.pick).BN
 unfold aY Instr.lookup
 refine aQ (aI hu M) ?_
 simp only
 refine dF P _ _ ?_
 refine tB hb ?_
 simp only [lC]
 refine aQ (x := ()) (iB hk) ?_
 refine aQ (tx hk) ?_
 unfold Bk at g
 cases ha : uO k l 0 with
 | none =>
  rw [ha] at g
  simp only
  have Zy : bL P (zeroValue et) M = some z := by rw [jt]; simp [zeroOf, hi, hz]
  refine aQ Zy ?_
  refine aQ (x := (z, false)) rfl ?_
  exact g
 | some x =>
  rw [ha] at g
  exact g
end
theorem EY {C : Ctx} {g : Nat} {args : List Value} {M : Mem} {K : Value → Mem → Prop} {Kp : List PanicEntry → Mem → Prop} (hg : 1 < g ∧ g < C.ok) (h : aa C.P g args.toArray M K Kp) : iF C (.func (.func g) #[] #[]) args M K Kp := by
 unfold iF
 simp only
 rw [if_pos hg]
 simpa using h
theorem jk {z : Int} (h0 : 0 ≤ z) (h : z < 9223372036854775807) : IntKind.wrap .i64 (z + 1) = z + 1 := by
 obtain ⟨n, rfl⟩ := Int.eq_ofNat_of_zero_le h0
 have := mG (n := n + 1) (by omega)
 exact_mod_cast this
theorem Hp.gW {α : Type} {E : iY α} {R : Mem} {L L' ou : List HP} {M : Mem} {T c n : Nat} {A : Option Addr} {l : List α} {P : Program} {t bytes ty k d m : Nat} {zero rc : List Value} {K : Value → Mem → Prop} {Kp : List PanicEntry → Mem → Prop}
  (h : Hp R L M) [ha : cG A L α E T c l L'] [hk : kU k L' rc T ou] (El : bn P t T E.z bytes zero) (r : List α) (he : rc = E.cells r) (hn : n = l.length) (hm : m = r.length) (hb : (l.length + r.length) * bytes ≤ 140737488355328)
  (g : ∀ A' c' M', Hp R (bO E T A' c' (l ++ r) :: ou) M' → K (.slice A' (n + m) c') M') :
  aY P (Builtin.append_ #[t, t] ty #[.slice A n c, .slice (some ⟨k, 0, none⟩) m d]) M K Kp := by
 subst hn
 refine h.bJ (A := A) El r he hm hb fun A' c' M' h => ?_
 have := g A' c' M' h
 rwa [hm, ← List.length_append] at this
theorem KH {C : Ctx} {g : Nat} {caps : Array Value} {args : List Value} {M : Mem} {K : Value → Mem → Prop} {Kp : List PanicEntry → Mem → Prop} (hg : 1 < g ∧ g < C.ok) (h : aa C.P g (args ++ caps.toList).toArray M K Kp) : iF C (.func (.func g) #[] caps) args M K Kp := by
 unfold iF
 simp only
 rw [if_pos hg]
 simpa using h
end Go.AF
namespace Go.Proofs
open Go.AF
set_option maxRecDepth 100000
set_option maxHeartbeats 1000000
attribute [local irreducible] aJ de fA cw aB dZ aF aK bh aY bA aO
abbrev uQ (A : Option Addr) (c : Nat) (l : List gQ) : HP := bO ke 275 A c l
theorem Od : bn Tryz.prog 226 275 11 88 (ke.f ⟨0, 0, [], 0⟩) := bn.mk' (zv := .agg #[.int .i64 0, .int .i64 0, .int .i64 0, .int .i64 0, .int .i64 0, .int .i64 0, .int .i64 0, .int .i64 0, .int .i64 0, .int .i64 0, .int .i64 0]) (by kernel_rfl) (by kernel_rfl) rfl (by omega)
theorem gQ.set_set {f : gQ} {q u v : Int} : (f.set q u).set q v = f.set q v := by
 unfold gQ.set
 congr 1
 apply List.map_congr_left
 intro i hi
 by_cases h : i = q.toNat
 ·rw [if_pos h, if_pos h]
 ·rw [if_neg h, if_neg h]
  simp [List.mem_range.1 hi, h]
section
variable {R : Mem} {L L' : List HP} {M : Mem} {K : Value → Mem → Prop} {Kp : List PanicEntry → Mem → Prop} {b i c : Nat} {l : List gQ} {f : gQ} {x : cH}
theorem uR {q : Int} {o : Nat} {G : Int → Prop} (h : Hp R L M) [p : cG (some ⟨b, 0, none⟩) L gQ ke 275 c l L'] (hi : l[i]? = some f) (hq : aU q) (e : o = i * 11 + 2 + q.toNat) (g : G (f.bR q)) : aJ (M.ld ⟨b, o, none⟩) .i64 G := by
 refine aZ (Src.at (h.src (A := some ⟨b, 0, none⟩)) h (i := i) (j := 2 + q.toNat) hi (TY hq.1 hq.2) ?_) g
 show _ = 0 + (i * 11 + (2 + q.toNat)); omega
theorem we {q v : Int} {o : Nat} {G : Mem → Prop} (h : Hp R L M) [p : cG (some ⟨b, 0, none⟩) L gQ ke 275 c l L'] (hi : l[i]? = some f) (hq : aU q) (e : o = i * 11 + 2 + q.toNat)
  (k : ∀ M', Hp R (uQ (some ⟨b, 0, none⟩) c (l.set i (f.set q v)) :: L') M' → G M') : aK M ⟨b, o, none⟩ (.int .i64 v) G := by
 obtain ⟨q0, q8⟩ := hq
 refine gK i (2 + q.toNat) h hi ?_ (Qw q0 q8) ?_ k
 ·show _ < 11; omega
 ·show _ = i * 11 + (2 + q.toNat); omega
theorem zm {o : Nat} {G : Int → Prop} (h : Hp R L M) [p : cG (some ⟨b, 0, none⟩) L gQ ke 275 c l L'] (hi : l[i]? = some f) (e : o = i * 11 + 1) (g : G f.pc) : aJ (M.ld ⟨b, o, none⟩) .i64 G := by
 refine aZ (Src.at (h.src (A := some ⟨b, 0, none⟩)) h (i := i) (j := 1) hi rfl ?_) g
 show _ = 0 + (i * 11 + 1); omega
theorem zn {v : Int} {o : Nat} {G : Mem → Prop} (h : Hp R L M) [p : cG (some ⟨b, 0, none⟩) L gQ ke 275 c l L'] (hi : l[i]? = some f) (e : o = i * 11 + 1)
  (k : ∀ M', Hp R (uQ (some ⟨b, 0, none⟩) c (l.set i { f with pc := v }) :: L') M' → G M') : aK M ⟨b, o, none⟩ (.int .i64 v) G := by
 refine gK i 1 h hi (by show 1 < 11; omega) TZ ?_ k
 show _ = i * 11 + 1; omega
theorem iO {α : Type} {l : List α} {i : Nat} {u v : α} : (l.set i u).set i v = l.set i v := by simp
def Zz : List Nat := [225, 226, 227, 228, 229, 230, 231, 232, 233]
theorem Oe (h : Hp R L M) [p : cG (some ⟨b, 0, none⟩) L gQ ke 275 c l L'] (hi : l[i]? = some f) (hx : x.cv) (n : Nat) (hn : x.op = (n : Int)) (h8 : n ≤ 8)
  (k : ∀ M', Hp R (uQ (some ⟨b, 0, none⟩) c (l.set i (f.pure x)) :: L') M' → K (.tuple #[]) M') :
  aa Tryz.prog (Zz.getD n 0) #[.pointer (some ⟨b, i * 11, none⟩), .agg #[.int .i64 x.op, .int .i64 x.a, .int .i64 x.b, .int .i64 x.c]] M K Kp := by
 obtain ⟨op, xa, xb, xc⟩ := x
 obtain ⟨o1, o2, o3⟩ := hx
 dsimp only at hn o1 o2 o3 k ⊢
 have hsame : l.set i f = l := by obtain ⟨hl, rfl⟩ := List.getElem?_eq_some_iff.1 hi; simp
 subst hn
 have hlt := (List.getElem?_eq_some_iff.1 hi).1
 obtain rfl | rfl | rfl | rfl | rfl | rfl | rfl | rfl | rfl : n = 0 ∨ n = 1 ∨ n = 2 ∨ n = 3 ∨ n = 4 ∨ n = 5 ∨ n = 6 ∨ n = 7 ∨ n = 8 := by omega
 ·refine sZ ?_
  have e : f.pure ⟨((0 : Nat) : Int), xa, xb, xc⟩ = f := rfl
  rw [e, hsame] at k
  repeat (first|(refine aq h ?_;clear h;intro kb M h)|(refine au h ?_;clear h;intro M h)|refine St.to h ?_|(apply Exists.intro;(repeat apply Exists.intro);refine And.intro rfl ?_)|refine av ?_|refine ae ?_|refine ai ?_)
  exact k _ ((h.row (some ⟨b, 0, none⟩)).bV)
 ·have ra : aU xa := o1 (by simp)
  refine mP ?_
  repeat (first|(refine aq h ?_;clear h;intro kb M h)|(refine au h ?_;clear h;intro M h)|refine St.to h ?_|(apply Exists.intro;(repeat apply Exists.intro);refine And.intro rfl ?_)|refine av ?_|refine ae ?_|refine ai ?_)
  refine ⟨ra.1, ra.2, we h hi ra rfl fun M h => ?_⟩
  exact k _ h.bV
 ·obtain ⟨ra, rb⟩ := o2 rfl
  refine rD ?_
  repeat (first|(refine aq h ?_;clear h;intro kb M h)|(refine au h ?_;clear h;intro M h)|refine St.to h ?_|(apply Exists.intro;(repeat apply Exists.intro);refine And.intro rfl ?_)|refine av ?_|refine ae ?_|refine ai ?_)
  refine ⟨rb.1, rb.2, uR h hi rb rfl ?_⟩
  refine ⟨ra.1, ra.2, we h hi ra rfl fun M h => ?_⟩
  exact k _ h.bV
 ·obtain ⟨ra, rb, rc⟩ := o3 (by simp)
  refine s9 ?_
  repeat (first|(refine aq h ?_;clear h;intro kb M h)|(refine au h ?_;clear h;intro M h)|refine St.to h ?_|(apply Exists.intro;(repeat apply Exists.intro);refine And.intro rfl ?_)|refine av ?_|refine ae ?_|refine ai ?_)
  refine ⟨rb.1, rb.2, uR h hi rb rfl ?_⟩
  repeat (first|(refine aq h ?_;clear h;intro kb M h)|(refine au h ?_;clear h;intro M h)|refine St.to h ?_|(apply Exists.intro;(repeat apply Exists.intro);refine And.intro rfl ?_)|refine av ?_|refine ae ?_|refine ai ?_)
  refine ⟨rc.1, rc.2, uR h hi rc rfl ?_⟩
  refine ⟨ra.1, ra.2, we h hi ra rfl fun M h => ?_⟩
  exact k _ h.bV
 ·obtain ⟨ra, rb, rc⟩ := o3 (by simp)
  refine td ?_
  repeat (first|(refine aq h ?_;clear h;intro kb M h)|(refine au h ?_;clear h;intro M h)|refine St.to h ?_|(apply Exists.intro;(repeat apply Exists.intro);refine And.intro rfl ?_)|refine av ?_|refine ae ?_|refine ai ?_)
  refine ⟨rb.1, rb.2, uR h hi rb rfl ?_⟩
  repeat (first|(refine aq h ?_;clear h;intro kb M h)|(refine au h ?_;clear h;intro M h)|refine St.to h ?_|(apply Exists.intro;(repeat apply Exists.intro);refine And.intro rfl ?_)|refine av ?_|refine ae ?_|refine ai ?_)
  refine ⟨rc.1, rc.2, uR h hi rc rfl ?_⟩
  refine ⟨ra.1, ra.2, we h hi ra rfl fun M h => ?_⟩
  exact k _ h.bV
 ·obtain ⟨ra, rb, rc⟩ := o3 (by simp)
  refine tf ?_
  repeat (first|(refine aq h ?_;clear h;intro kb M h)|(refine au h ?_;clear h;intro M h)|refine St.to h ?_|(apply Exists.intro;(repeat apply Exists.intro);refine And.intro rfl ?_)|refine av ?_|refine ae ?_|refine ai ?_)
  refine ⟨rb.1, rb.2, uR h hi rb rfl ?_⟩
  repeat (first|(refine aq h ?_;clear h;intro kb M h)|(refine au h ?_;clear h;intro M h)|refine St.to h ?_|(apply Exists.intro;(repeat apply Exists.intro);refine And.intro rfl ?_)|refine av ?_|refine ae ?_|refine ai ?_)
  refine ⟨rc.1, rc.2, uR h hi rc rfl ?_⟩
  refine ⟨ra.1, ra.2, we h hi ra rfl fun M h => ?_⟩
  exact k _ h.bV
 ·obtain ⟨ra, rb, rc⟩ := o3 (by simp)
  refine rE ?_
  repeat (first|(refine aq h ?_;clear h;intro kb M h)|(refine au h ?_;clear h;intro M h)|refine St.to h ?_|(apply Exists.intro;(repeat apply Exists.intro);refine And.intro rfl ?_)|refine av ?_|refine ae ?_|refine ai ?_)
  refine ⟨rb.1, rb.2, uR h hi rb rfl ?_⟩
  repeat (first|(refine aq h ?_;clear h;intro kb M h)|(refine au h ?_;clear h;intro M h)|refine St.to h ?_|(apply Exists.intro;(repeat apply Exists.intro);refine And.intro rfl ?_)|refine av ?_|refine ae ?_|refine ai ?_)
  refine ⟨rc.1, rc.2, uR h hi rc rfl ?_⟩
  repeat (first|(refine aq h ?_;clear h;intro kb M h)|(refine au h ?_;clear h;intro M h)|refine St.to h ?_|(apply Exists.intro;(repeat apply Exists.intro);refine And.intro rfl ?_)|refine av ?_|refine ae ?_|refine ai ?_)
  refine ⟨ra.1, ra.2, we h hi ra rfl fun M h => ?_⟩
  have e : f.pure ⟨((6 : Nat) : Int), xa, xb, xc⟩ = f.set xa (if f.bR xb < f.bR xc then 1 else 0) := rfl
  rw [e] at k
  refine aM.2 ⟨fun hl => ?_, fun hl => ?_⟩
  ·rw [if_pos hl] at k
   repeat (first|(refine aq h ?_;clear h;intro kb M h)|(refine au h ?_;clear h;intro M h)|refine St.to h ?_|(apply Exists.intro;(repeat apply Exists.intro);refine And.intro rfl ?_)|refine av ?_|refine ae ?_|refine ai ?_)
   have KB : (l.set i (f.set xa 0))[i]? = some (f.set xa 0) := by simp [hlt]
   refine ⟨ra.1, ra.2, we h KB ra rfl fun M h => ?_⟩
   rw [iO, gQ.set_set] at h
   exact k _ h.bV
  ·rw [if_neg hl] at k
   exact k _ h.bV
 ·refine rF ?_
  repeat (first|(refine aq h ?_;clear h;intro kb M h)|(refine au h ?_;clear h;intro M h)|refine St.to h ?_|(apply Exists.intro;(repeat apply Exists.intro);refine And.intro rfl ?_)|refine av ?_|refine ae ?_|refine ai ?_)
  refine zn h hi rfl fun M h => ?_
  exact k _ h.bV
 ·have ra : aU xa := o1 (by simp)
  refine oJ ?_
  repeat (first|(refine aq h ?_;clear h;intro kb M h)|(refine au h ?_;clear h;intro M h)|refine St.to h ?_|(apply Exists.intro;(repeat apply Exists.intro);refine And.intro rfl ?_)|refine av ?_|refine ae ?_|refine ai ?_)
  have e : f.pure ⟨((8 : Nat) : Int), xa, xb, xc⟩ = if f.bR xa ≠ 0 then { f with pc := xb } else f := rfl
  rw [e] at k
  refine ⟨ra.1, ra.2, uR h hi ra rfl ?_⟩
  refine eL.2 ⟨fun hl => ?_, fun hl => ?_⟩
  ·rw [if_pos hl] at k
   repeat (first|(refine aq h ?_;clear h;intro kb M h)|(refine au h ?_;clear h;intro M h)|refine St.to h ?_|(apply Exists.intro;(repeat apply Exists.intro);refine And.intro rfl ?_)|refine av ?_|refine ae ?_|refine ai ?_)
   refine zn h hi rfl fun M h => ?_
   exact k _ h.bV
  ·rw [if_neg (by simpa using hl), hsame] at k
   exact k _ ((h.row (some ⟨b, 0, none⟩)).bV)
def Q9 : AL := (List.range 9).map fun n : Nat => ((n : Int), .func (.func (Zz.getD n 0)) #[] #[])
theorem EZ (h : Hp R L M) (k : ∀ m M', Hp R (ob m (lC Q9) :: L) M' → K (.map (some m)) M') : aa Tryz.prog 203 #[] M K Kp := by
 refine y5 ?_
 refine Mu h ?_
 clear h
 intro m M h
 replace h : Hp R (ob m (lC []) :: L) M := h
 have hu : Tryz.prog.underlying 361 = some (.map 25 359) := by kernel_rfl
 have hk : Tryz.prog.underlying 25 = some (.int .i64) := by kernel_rfl
 iterate 9
  refine w9 h hu hk ?_
  clear h
  intro M h
 exact k _ _ h
theorem G6 (h : Hp R L M) [p : cG (some ⟨b, 0, none⟩) L gQ ke 275 c l L'] (hi : l[i]? = some f) (hx : x.cv) (h0 : 0 ≤ x.op) (hs : 0 ≤ f.pc ∧ f.pc < 1000000000)
  (k1 : x.op ≤ 8 → ∀ M', Hp R (uQ (some ⟨b, 0, none⟩) c (l.set i (f.next.pure x)) :: L') M' → K (.bool true) M')
  (k2 : 8 < x.op → ∀ M', Hp R (uQ (some ⟨b, 0, none⟩) c l :: L') M' → K (.bool false) M') :
  aa Tryz.prog 190 #[.pointer (some ⟨b, i * 11, none⟩), .agg #[.int .i64 x.op, .int .i64 x.a, .int .i64 x.b, .int .i64 x.c]] M K Kp := by
 have hlt := (List.getElem?_eq_some_iff.1 hi).1
 obtain ⟨q, hq⟩ := Int.eq_ofNat_of_zero_le h0
 refine qX ?_
 repeat (first|(refine aq h ?_;clear h;intro kb M h)|(refine au h ?_;clear h;intro M h)|refine St.to h ?_|(apply Exists.intro;(repeat apply Exists.intro);refine And.intro rfl ?_)|refine av ?_|refine ae ?_|refine ai ?_)
 refine EZ h ?_
 clear h
 intro m M h
 repeat (first|(refine aq h ?_;clear h;intro kb M h)|(refine au h ?_;clear h;intro M h)|refine St.to h ?_|(apply Exists.intro;(repeat apply Exists.intro);refine And.intro rfl ?_)|refine av ?_|refine ae ?_|refine ai ?_)
 have hu : Tryz.prog.underlying 361 = some (.map 25 359) := by kernel_rfl
 have hk : Tryz.prog.underlying 25 = some (.int .i64) := by kernel_rfl
 obtain ⟨ti, PR, htz⟩ : ∃ ti, Tryz.prog.info? 359 = some ti ∧ ti.zero = some .nilFunc := ⟨_, rfl, rfl⟩
 refine KG h hu hk PR htz ?_
 refine ⟨_, _, rfl, bN h, ?_⟩
 by_cases h8 : x.op ≤ 8
 ·have hq8 : q ≤ 8 := by omega
  have hl : Bk Q9 x.op = some (.func (.func (Zz.getD q 0)) #[] #[]) := by
   rw [hq]
   obtain rfl | rfl | rfl | rfl | rfl | rfl | rfl | rfl | rfl : q = 0 ∨ q = 1 ∨ q = 2 ∨ q = 3 ∨ q = 4 ∨ q = 5 ∨ q = 6 ∨ q = 7 ∨ q = 8 := by omega
   all_goals rfl
  rw [hl]
  refine ae ?_
  refine zm h hi rfl ?_
  rw [jk (by omega) (by omega)]
  refine zn h hi rfl ?_
  clear h
  intro M h
  have KB : (l.set i { f with pc := f.pc + 1 })[i]? = some f.next := by simp [hlt, gQ.next]
  repeat (first|(refine aq h ?_;clear h;intro kb M h)|(refine au h ?_;clear h;intro M h)|refine St.to h ?_|(apply Exists.intro;(repeat apply Exists.intro);refine And.intro rfl ?_)|refine av ?_|refine ae ?_|refine ai ?_)
  have hg : 1 < Zz.getD q 0 ∧ Zz.getD q 0 < Cx.ok := by
   obtain rfl | rfl | rfl | rfl | rfl | rfl | rfl | rfl | rfl : q = 0 ∨ q = 1 ∨ q = 2 ∨ q = 3 ∨ q = 4 ∨ q = 5 ∨ q = 6 ∨ q = 7 ∨ q = 8 := by omega
   all_goals exact ⟨by decide, by show _ < 255; decide⟩
  refine EY hg ?_
  refine Oe (f := f.next) h KB hx q hq hq8 ?_
  clear h
  intro M h
  rw [iO] at h
  exact ⟨rfl, k1 h8 _ h.bV⟩
 ·have hl : Bk Q9 x.op = none := by
   rw [Q7, B5]
   have : Q9.map (·.1) = [0, 1, 2, 3, 4, 5, 6, 7, 8] := by decide
   rw [this]; simp; omega
  rw [hl]
  refine ai ?_
  exact k2 (by omega) _ ((h.row (some ⟨b, 0, none⟩)).bV)
end
section
variable {R : Mem} {L L' : List HP} {M : Mem} {K : Value → Mem → Prop} {Kp : List PanicEntry → Mem → Prop} {b i c : Nat} {l : List gQ} {f : gQ} {x : cH}
theorem m6 {m : Nat} (hm : 0 < m) (h2 : m ≤ 1000000000) (k : K (.pointer (some ⟨b, (m - 1) * 11, none⟩)) M) : aa Tryz.prog 189 #[.slice (some ⟨b, 0, none⟩) m c] M K Kp := by
 refine sU ?_
 have e : IntKind.wrap .i64 ((m : Int) - 1) = ((m - 1 : Nat) : Int) := wn (by omega) (by omega)
 refine aR.2 ⟨fun h0 => by omega, fun _ => ?_⟩
 rw [e]
 refine ⟨by omega, by omega, bp ?_⟩
 simp only [Int.toNat_natCast, Nat.zero_add]
 exact k
theorem qd {fn v : Int} (h : Hp R L M) (k : ∀ b M', Hp R (uQ (some ⟨b, 0, none⟩) 1 [gQ.begin fn v] :: L) M' → K (.slice (some ⟨b, 0, none⟩) 1 1) M') : aa Tryz.prog 112 #[.int .i64 fn, .int .i64 v] M K Kp := by
 refine yY ?_
 refine aq h ?_
 clear h
 intro b M h
 exact k b M (h.kT (E := ke) (l := [gQ.begin fn v]) rfl)
theorem G7 {fn v qU : Int} {A : Option Addr} (h : Hp R L M) [p : cG A L gQ ke 275 c l L'] (hl : 0 < l.length)
  (k1 : 16 ≤ l.length → K (.tuple #[.slice A l.length c, .bool false]) M)
  (k2 : l.length < 16 → ∀ b c' M', Hp R (uQ (some ⟨b, 0, none⟩) c' (l ++ [⟨fn, 0, [v, 0, 0, 0, 0, 0, 0, 0], qU⟩]) :: L) M' → K (.tuple #[.slice (some ⟨b, 0, none⟩) (l.length + 1) c', .bool true]) M') :
  aa Tryz.prog 241 #[.slice A l.length c, .int .i64 fn, .int .i64 v, .int .i64 qU] M K Kp := by
 refine rH ?_
 have hcap := h.jH A
 refine aM.2 ⟨fun uS => k1 (by omega), fun uS => ?_⟩
 refine ⟨by omega, by omega, by omega, by omega, by omega, by omega, ?_⟩
 refine aq h ?_
 clear h
 intro kb M h
 simp only [Int.toNat_natCast, Nat.sub_zero]
 have e : lF A 0 l.length 11 = A := by
  obtain ⟨bb, rfl⟩ := h.bF (A := A) hl (by decide)
  unfold lF
  rw [if_neg (by omega)]
  rfl
 rw [e]
 refine Hp.Q8 (E := ke) (r := [⟨fn, 0, [v, 0, 0, 0, 0, 0, 0, 0], qU⟩]) h (h.src (A := A)) rfl Od rfl rfl (by omega) (by simp; omega) ?_
 clear h
 intro b c' M h
 refine be ?_
 have := k2 (by omega) b c' M h
 rwa [List.length_append]
theorem Dh {v : Int} {A : Option Addr} (h : Hp R L M) [p : cG A L gQ ke 275 c l L'] (hl : 0 < l.length) (hs : l.length ≤ 1000000)
  (IS : l[l.length - 1]? = some f) (hin : aU f.qU)
  (k1 : l.length < 2 → K (.tuple #[.slice none 0 0, .bool false]) M)
  (k2 : 2 ≤ l.length → ∀ b c' M', ∀ g, l[l.length - 2]? = some g → Hp R (uQ (some ⟨b, 0, none⟩) c' ((l.take (l.length - 1)).set (l.length - 2) (g.set f.qU v)) :: L) M' → K (.tuple #[.slice (some ⟨b, 0, none⟩) (l.length - 1) c', .bool true]) M') :
  aa Tryz.prog 242 #[.slice A l.length c, .int .i64 v] M K Kp := by
 refine oK ?_
 have hcap := h.jH A
 refine aM.2 ⟨fun uS => k1 (by omega), fun uS => ?_⟩
 have e : IntKind.wrap .i64 ((l.length : Int) - 1) = ((l.length - 1 : Nat) : Int) := wn (by omega) (by omega)
 obtain ⟨ba, rfl⟩ := h.bF (A := A) hl (by decide)
 refine aq h ?_
 clear h
 intro kb M h
 rw [e]
 refine ⟨by omega, by omega, by omega, by omega, by omega, by omega, ?_⟩
 simp only [Int.toNat_natCast, Nat.sub_zero]
 have e2 : lF (some ⟨ba, 0, none⟩) 0 c 11 = some ⟨ba, 0, none⟩ := by
  unfold lF
  rw [if_neg (by omega)]
  rfl
 rw [e2]
 refine h.j7 ke Od (l.take (l.length - 1)) ((h.src (A := some ⟨ba, 0, none⟩)).Sr _) (by simp) (by simp; omega) ?_
 clear h
 intro A' c' M h
 have hlen : (l.take (l.length - 1)).length = l.length - 1 := by simp
 obtain ⟨b', rfl⟩ := h.bF (A := A') (by omega) (by decide)
 refine be ?_
 rw [hlen]
 refine m6 (by omega) (by omega) ?_
 refine ju (bp ?_)
 refine m6 (by omega) (by omega) ?_
 refine ju (bp ?_)
 refine aZ (Src.at (h.src (A := some ⟨ba, 0, none⟩)) h (i := l.length - 1) (j := 10) IS rfl (by show _ = 0 + ((l.length - 1) * 11 + 10); omega)) ?_
 obtain ⟨g, hg⟩ := aP (l := l) (i := l.length - 2) (by omega)
 refine ⟨hin.1, hin.2, ?_⟩
 have Di : (l.take (l.length - 1))[l.length - 2]? = some g := by rw [List.getElem?_take, if_pos (by omega)]; exact hg
 refine we h Di hin (by omega) ?_
 clear h
 intro M h
 exact k2 (by omega) b' c' M g hg h
abbrev lD (A : Option Addr) (c : Nat) (l : List Int) : HP := bO bB 3 A c l
def fP : sH Lk := ⟨fun b x => exs fun A : Option Addr => exs fun c : Nat => sep [pt b [.int .i64 x.owner, .slice A x.waits.length c] 307, lD A c x.waits]⟩
def Lk.take (x : Lk) (g : Int) : Lk × Bool := if x.owner = -1 then (⟨g, x.waits⟩, true) else (⟨x.owner, x.waits ++ [g]⟩, false)
def Lk.r8 (x : Lk) (g : Int) : Lk × Int × Int :=
 if x.owner = -1 ∨ x.owner ≠ g then (x, -1, 5) else (⟨x.waits.headD (-1), x.waits.tail⟩, x.waits.headD (-1), 0)
variable {y : Lk}
theorem B6 (h : Hp R L M) [o : bY fP b L y L'] : ∃ A c, Hp R (pt b [.int .i64 y.owner, .slice A y.waits.length c] 307 :: lD A c y.waits :: L') M := by
 have := h.obj fP b
 simpa only [fP, Hp.di, Hp.aX, List.cons_append, List.nil_append] using this
theorem hJ {A : Option Addr} {n c : Nat} {o : Int} {ws : List Int} {L1 L2 : List HP} (h : Hp R L M) (b : Nat) [p : kU b L [.int .i64 o, .slice A n c] 307 L1] [p1 : cG A L1 Int bB 3 c ws L2] (e : n = ws.length := by first | rfl | simp) : Hp R (az fP b ⟨o, ws⟩ :: L2) M := by
 subst e
 refine Hp.vL ?_
 simp only [fP, Hp.di, Hp.aX, List.cons_append, List.nil_append]
 exact ⟨_, _, h.sub (.cons p.pick (.cons p1.pick .refl))⟩
theorem B7 (h : Hp R L M) (k : ∀ b M', Hp R (az fP b ⟨-1, []⟩ :: L) M' → K (.pointer (some ⟨b, 0, none⟩)) M') : aa Tryz.prog 114 #[] M K Kp := by
 refine C3 ?_
 refine aq h ?_
 clear h
 intro b M h
 have h := h.cz bB 3
 exact k b M (hJ h b)
theorem G8 {g : Int} (h : Hp R L M) [o : bY fP b L y L'] (hs : y.waits.length ≤ 1000000000) (k : ∀ M', Hp R (az fP b (y.take g).1 :: L') M' → K (.bool (y.take g).2) M') :
  aa Tryz.prog 245 #[.pointer (some ⟨b, 0, none⟩), .int .i64 g] M K Kp := by
 refine tg ?_
 have h' := B6 h (b := b)
 clear h
 obtain ⟨A, c, h⟩ := h'
 repeat (first|(refine aq h ?_;clear h;intro kb M h)|(refine au h ?_;clear h;intro M h)|refine St.to h ?_|(apply Exists.intro;(repeat apply Exists.intro);refine And.intro rfl ?_)|refine av ?_|refine ae ?_|refine ai ?_)
 unfold Lk.take at k
 refine eL.2 ⟨fun hn => ?_, fun hn => ?_⟩
 ·rw [if_neg hn] at k
  repeat (first|(refine aq h ?_;clear h;intro kb M h)|(refine au h ?_;clear h;intro M h)|refine St.to h ?_|(apply Exists.intro;(repeat apply Exists.intro);refine And.intro rfl ?_)|refine av ?_|refine ae ?_|refine ai ?_)
  refine h.bJ pL [g] rfl rfl (by simp; omega) ?_
  clear h
  intro A' c' M h
  repeat (first|(refine aq h ?_;clear h;intro kb M h)|(refine au h ?_;clear h;intro M h)|refine St.to h ?_|(apply Exists.intro;(repeat apply Exists.intro);refine And.intro rfl ?_)|refine av ?_|refine ae ?_|refine ai ?_)
  exact k _ (hJ h b).bV
 ·rw [if_pos hn] at k
  repeat (first|(refine aq h ?_;clear h;intro kb M h)|(refine au h ?_;clear h;intro M h)|refine St.to h ?_|(apply Exists.intro;(repeat apply Exists.intro);refine And.intro rfl ?_)|refine av ?_|refine ae ?_|refine ai ?_)
  exact k _ (hJ h b).bV
theorem G9 {g : Int} (h : Hp R L M) [o : bY fP b L y L'] (hs : y.waits.length ≤ 1000000000) (k : ∀ M', Hp R (az fP b (y.r8 g).1 :: L') M' → K (.tuple #[.int .i64 (y.r8 g).2.1, .int .i64 (y.r8 g).2.2]) M') :
  aa Tryz.prog 246 #[.pointer (some ⟨b, 0, none⟩), .int .i64 g] M K Kp := by
 refine th ?_
 obtain ⟨ow, ws⟩ := y
 have h' := B6 h (b := b)
 clear h
 obtain ⟨A, c, h⟩ := h'
 dsimp only at h hs
 repeat (first|(refine aq h ?_;clear h;intro kb M h)|(refine au h ?_;clear h;intro M h)|refine St.to h ?_|(apply Exists.intro;(repeat apply Exists.intro);refine And.intro rfl ?_)|refine av ?_|refine ae ?_|refine ai ?_)
 unfold Lk.r8 at k
 refine aR.2 ⟨fun hn => ?_, fun hn => ?_⟩
 ·rw [if_pos (.inl hn)] at k
  exact k _ (hJ h b).bV
 repeat (first|(refine aq h ?_;clear h;intro kb M h)|(refine au h ?_;clear h;intro M h)|refine St.to h ?_|(apply Exists.intro;(repeat apply Exists.intro);refine And.intro rfl ?_)|refine av ?_|refine ae ?_|refine ai ?_)
 refine eL.2 ⟨fun xu => ?_, fun xu => ?_⟩
 ·rw [if_pos (.inr xu)] at k
  exact k _ (hJ h b).bV
 rw [if_neg (by rintro (h | h) <;> contradiction)] at k
 repeat (first|(refine aq h ?_;clear h;intro kb M h)|(refine au h ?_;clear h;intro M h)|refine St.to h ?_|(apply Exists.intro;(repeat apply Exists.intro);refine And.intro rfl ?_)|refine av ?_|refine ae ?_|refine ai ?_)
 refine aM.2 ⟨fun hr => ?_, fun hr => ?_⟩
 ·cases ws with
  | nil => simp at hr
  | cons w r =>
   repeat (first|(refine aq h ?_;clear h;intro kb M h)|(refine au h ?_;clear h;intro M h)|refine St.to h ?_|(apply Exists.intro;(repeat apply Exists.intro);refine And.intro rfl ?_)|refine av ?_|refine ae ?_|refine ai ?_)
   obtain ⟨q, rfl⟩ := h.bF (A := A) (by simp) (by decide)
   repeat (first|(refine aq h ?_;clear h;intro kb M h)|(refine au h ?_;clear h;intro M h)|refine St.to h ?_|(apply Exists.intro;(repeat apply Exists.intro);refine And.intro rfl ?_)|refine av ?_|refine ae ?_|refine ai ?_)
   refine aZ (Src.at (h.src (A := some ⟨q, 0, none⟩)) h (i := 0) (j := 0) rfl rfl (by simp [bB])) ?_
   have hcap := h.jH (some ⟨q, 0, none⟩)
   have hlen : r.length + 1 ≤ 1000000000 := by simpa using hs
   repeat (first|(refine aq h ?_;clear h;intro kb M h)|(refine au h ?_;clear h;intro M h)|refine St.to h ?_|(apply Exists.intro;(repeat apply Exists.intro);refine And.intro rfl ?_)|refine av ?_|refine ae ?_|refine ai ?_)
   simp only [Int.toNat_natCast]
   refine h.j7 bB pL r ((h.src (A := some ⟨q, 0, none⟩)).drop (m := 1) hcap) (by simp) (by omega) ?_
   clear h
   intro A' c' M h
   repeat (first|(refine aq h ?_;clear h;intro kb M h)|(refine au h ?_;clear h;intro M h)|refine St.to h ?_|(apply Exists.intro;(repeat apply Exists.intro);refine And.intro rfl ?_)|refine av ?_|refine ae ?_|refine ai ?_)
   exact k _ (hJ h b).bV
 ·cases ws with
  | cons v l => simp at hr
  | nil =>
   repeat (first|(refine aq h ?_;clear h;intro kb M h)|(refine au h ?_;clear h;intro M h)|refine St.to h ?_|(apply Exists.intro;(repeat apply Exists.intro);refine And.intro rfl ?_)|refine av ?_|refine ae ?_|refine ai ?_)
   exact k _ (hJ h b).bV
end
structure PA where
 f : Option Addr
 fc : Nat
 c : Option Addr
 cc : Nat
 k : Option Addr
 kc : Nat
abbrev GA := Option Addr × Nat
abbrev qe (y : jo) (A : Option Addr) (c : Nat) : List Value := [.int .i64 y.st, .slice A y.fs.length c, .int .i64 y.wt.op, .int .i64 y.wt.a, .int .i64 y.wt.b, .int .i64 y.wt.c]
def fX : sH (jo × GA) := ⟨fun b x => sep [pt b (qe x.1 x.2.1 x.2.2) 229, uQ x.2.1 x.2.2 x.1.fs]⟩
structure WA where
 ag : Option Addr
 cg : Nat
 gb : List Nat
 ac : Option Addr
 cc : Nat
 cb : List Nat
 al : Option Addr
 cl : Nat
 lb : List Nat
 ah : Option Addr
 ch : Nat
 ao : Option Addr
 co : Nat
 ar : Option Addr
 cr : Nat
abbrev mo (pa : PA) (p : b6) (dr : Value) (a : WA) (x : Wd) : List Value :=
 [.slice pa.f p.funcs.length pa.fc, .slice pa.c p.eJ.length pa.cc, .int .i64 p.aL, .slice pa.k p.cases.length pa.kc, .slice a.ag a.gb.length a.cg, .int .u64 x.clock,
  .slice a.ac a.cb.length a.cc, .slice a.al a.lb.length a.cl, .slice a.ah x.hl.length a.ch, .int .u64 x.mO, .slice a.ao x.out.length a.co, .int .i64 x.end_, .int .i64 x.code, .slice a.ar x.ready.length a.cr, dr]
abbrev zo (A : Option Addr) (c : Nat) (l : List Nat) : HP := bO l8 224 A c l
abbrev zp (A : Option Addr) (c : Nat) (l : List Nat) : HP := bO l8 230 A c l
abbrev zq (A : Option Addr) (c : Nat) (l : List Nat) : HP := bO l8 232 A c l
abbrev gp (A : Option Addr) (c : Nat) (l : List bz) : HP := bO uA 203 A c l
abbrev sw (a : WA) (x : Wd) (L : List HP) : List HP :=
 zo a.ag a.cg a.gb :: zp a.ac a.cc a.cb :: bj bE a.cb x.aD :: zq a.al a.cl a.lb :: bj fP a.lb x.aL :: gp a.ah a.ch x.hl :: yU a.ao a.co x.out :: lD a.ar a.cr x.ready :: L
def eT (gg : List GA) (a : WA) (x : Wd) : Prop := a.gb.length = x.gs.length ∧ gg.length = x.gs.length ∧ a.cb.length = x.aD.length ∧ a.lb.length = x.aL.length
def br (pa : PA) (p : b6) (gg : List GA) (dr : Value) : sH Wd := ⟨fun b x => exs fun a : WA =>
 sep (pt b (mo pa p dr a x) 161 :: bj fX a.gb (x.gs.zip gg) :: fact (eT gg a x) :: sw a x [])⟩
class wg (b : Nat) (L : List HP) (pa : outParam PA) (p : outParam b6) (gg : outParam (List GA)) (dr : outParam Value) (x : outParam Wd) (L' : outParam (List HP)) : Prop where
 pick : cY L (az (br pa p gg dr) b x) L'
instance wg.here {pa : PA} {p : b6} {gg : List GA} {dr : Value} {b : Nat} {x : Wd} {L : List HP} : wg b (az (br pa p gg dr) b x :: L) pa p gg dr x L := ⟨.here⟩
instance (priority := low) wg.there {pa : PA} {p : b6} {gg : List GA} {dr : Value} {b : Nat} {x : Wd} {Q : HP} {L L' : List HP} [h : wg b L pa p gg dr x L'] : wg b (Q :: L) pa p gg dr x (Q :: L') := ⟨.there h.pick⟩
section
variable {R : Mem} {L L' : List HP} {M : Mem} {K : Value → Mem → Prop} {Kp : List PanicEntry → Mem → Prop} {pa : PA} {p : b6} {gg : List GA} {dr : Value} {b : Nat} {x : Wd}
theorem cj (h : Hp R L M) [o : wg b L pa p gg dr x L'] : ∃ a : WA, eT gg a x ∧ Hp R (pt b (mo pa p dr a x) 161 :: bj fX a.gb (x.gs.zip gg) :: sw a x L') M := by
 have := h.pick o.pick
 unfold az at this
 simp only [br, sw, Hp.di, Hp.aX, List.cons_append, List.nil_append] at this
 obtain ⟨a, h⟩ := this
 have h2 := h.pick (P := fact (eT gg a x)) (.there (.there .here))
 exact ⟨a, (Hp.fO.1 h2).1, (Hp.fO.1 h2).2⟩
theorem jy {a : WA} (hl : eT gg a x) (h : Hp R (pt b (mo pa p dr a x) 161 :: bj fX a.gb (x.gs.zip gg) :: sw a x L) M) : Hp R (az (br pa p gg dr) b x :: L) M := by
 refine Hp.vL ?_
 simp only [br, sw, Hp.di, Hp.aX, List.cons_append, List.nil_append]
 refine ⟨a, ?_⟩
 have h2 : Hp R (fact (eT gg a x) :: pt b (mo pa p dr a x) 161 :: bj fX a.gb (x.gs.zip gg) :: sw a x L) M := Hp.fO.2 ⟨hl, h⟩
 exact h2.nB (.there (.there .here))
theorem aW {a : WA} {L0 L1 L2 L3 L4 L5 L6 L7 L8 L9 : List HP} (hl : eT gg a x) (h : Hp R L M) (b : Nat)
  [p0 : kU b L (mo pa p dr a x) 161 L0] [p1 : fG fX L0 a.gb (x.gs.zip gg) L1] [p2 : cG a.ag L1 Nat l8 224 a.cg a.gb L2] [p3 : cG a.ac L2 Nat l8 230 a.cc a.cb L3]
  [p4 : fG bE L3 a.cb x.aD L4] [p5 : cG a.al L4 Nat l8 232 a.cl a.lb L5] [p6 : fG fP L5 a.lb x.aL L6] [p7 : cG a.ah L6 bz uA 203 a.ch x.hl L7] [p8 : cG a.ao L7 Int bB 2 a.co x.out L8]
  [p9 : cG a.ar L8 Int bB 3 a.cr x.ready L9] : Hp R (az (br pa p gg dr) b x :: L9) M :=
 jy hl (h.sub (.cons p0.pick (.cons p1.pick (.cons p2.pick (.cons p3.pick (.cons p4.pick (.cons p5.pick (.cons p6.pick (.cons p7.pick (.cons p8.pick (.cons p9.pick .refl)))))))))))
theorem E0 {α β : Type} : ∀ {l : List α} {m : List β} {i : Nat} {u : α} {v : β}, m[i]? = some v → (l.zip m).set i (u, v) = (l.set i u).zip m
 | [], _, _, _, _, _ => by simp
 | a :: l, [], i, u, v, h => by simp at h
 | a :: l, w :: m, 0, u, v, h => by simp at h; subst h; rfl
 | a :: l, w :: m, i + 1, u, v, h => by
  have := E0 (l := l) (u := u) (show m[i]? = some v from by simpa using h)
  simp [this]
theorem nT {α β : Type} : ∀ {l : List α} {m : List β} {i : Nat} {u : α} {v : β}, l[i]? = some u → m[i]? = some v → (l.zip m)[i]? = some (u, v)
 | [], _, _, _, _, h, _ => by simp at h
 | a :: l, [], i, u, v, _, h => by simp at h
 | a :: l, w :: m, 0, u, v, h, g => by simp at h g; subst h; subst g; rfl
 | a :: l, w :: m, i + 1, u, v, h, g => by simpa using nT (show l[i]? = some u from by simpa using h) (show m[i]? = some v from by simpa using g)
theorem m7 {c : Nat} {y : jo} {A : Option Addr} (h : Hp R L M) [o : bY fX b L (y, (A, c)) L'] : Hp R (pt b (qe y A c) 229 :: uQ A c y.fs :: L') M := by
 have := h.obj fX b
 simpa only [fX, Hp.aX, List.cons_append, List.nil_append] using this
theorem m8 {A : Option Addr} {n c : Nat} {st o1 o2 o3 o4 : Int} {fs : List gQ} {L1 L2 : List HP} (h : Hp R L M) (b : Nat) [p : kU b L [.int .i64 st, .slice A n c, .int .i64 o1, .int .i64 o2, .int .i64 o3, .int .i64 o4] 229 L1] [p1 : cG A L1 gQ ke 275 c fs L2]
  (e : n = fs.length := by first | rfl | simp) : Hp R (az fX b (⟨st, fs, ⟨o1, o2, o3, o4⟩⟩, (A, c)) :: L2) M := by
 subst e
 refine Hp.vL ?_
 simp only [fX, Hp.aX, List.cons_append, List.nil_append]
 exact h.sub (.cons p.pick (.cons p1.pick .refl))
theorem jz {g : Int} (h : Hp R L M) [o : wg b L pa p gg dr x L'] (h0 : 0 ≤ g) (hg : g < x.gs.length) :
  ∃ (a : WA) (gb : Nat) (A : Option Addr) (c : Nat), eT gg a x ∧ a.gb[g.toNat]? = some gb ∧ gg[g.toNat]? = some (A, c) ∧
   Hp R (pt gb (qe (aj x g) A c) 229 :: uQ A c (aj x g).fs :: pt b (mo pa p dr a x) 161 :: lM fX a.gb (x.gs.zip gg) g.toNat :: sw a x L') M := by
 obtain ⟨a, hl, h1⟩ := cj h (b := b)
 obtain ⟨l1, l2, l3, l4⟩ := hl
 obtain ⟨gb, fQ⟩ := aP (l := a.gb) (i := g.toNat) (by omega)
 obtain ⟨⟨A, c⟩, eF⟩ := aP (l := gg) (i := g.toNat) (by omega)
 obtain ⟨y, hy⟩ := aP (l := x.gs) (i := g.toNat) (by omega)
 have e : aj x g = y := by simp [aj, hy]
 rw [e]
 have h2 := h1.c6 fX fQ (nT hy eF)
 have h3 := m7 (b := gb) h2
 exact ⟨a, gb, A, c, ⟨l1, l2, l3, l4⟩, fQ, eF, h3.sub bD⟩
theorem cO {a : WA} {A : Option Addr} {c n : Nat} {g : Int} {st o1 o2 o3 o4 : Int} {fs : List gQ} {L1 L2 L3 : List HP} (h : Hp R L M) (gb : Nat) (hl : eT gg a x) (fQ : a.gb[g.toNat]? = some gb) (eF : gg[g.toNat]? = some (A, c))
  [p1 : kU gb L [.int .i64 st, .slice A n c, .int .i64 o1, .int .i64 o2, .int .i64 o3, .int .i64 o4] 229 L1] [p2 : cG A L1 gQ ke 275 c fs L2]
  [p3 : w5 fX L2 a.gb (x.gs.zip gg) g.toNat L3] (e : n = fs.length := by first | rfl | simp) : Hp R (bj fX a.gb ((x.gs.set g.toNat ⟨st, fs, ⟨o1, o2, o3, o4⟩⟩).zip gg) :: L3) M := by
 have h1 := m8 h gb e
 obtain ⟨l1, l2, l3, l4⟩ := hl
 have hi := (List.getElem?_eq_some_iff.1 fQ).1
 have h2 := h1.dN fX gb fQ (by rw [List.length_zip]; omega)
 rwa [E0 eF] at h2
end
section
variable {R : Mem} {L L' : List HP} {M : Mem} {K : Value → Mem → Prop} {Kp : List PanicEntry → Mem → Prop} {pa : PA} {p : b6} {gg : List GA} {dr : Value} {b : Nat} {x : Wd}
theorem V4 {A : Option Addr} {l : List Nat} {T c q i bb : Nat} (h : Hp R L M) [r : cG A L Nat l8 T c l L'] (hq : A = some ⟨q, 0, none⟩) (hb : l[i]? = some bb) : M.ld ⟨q, 0 + i, none⟩ = some (.pointer (some ⟨bb, 0, none⟩)) := by
 subst hq
 exact Src.at (h.src (A := some ⟨q, 0, none⟩)) h (i := i) (j := 0) hb rfl (by simp [l8])
theorem vq {A : Option Addr} {l : List Nat} {T c bb i : Nat} {G : Nat → Nat → Option Addr → Prop} (h : Hp R L M) [r : cG A L Nat l8 T c l L'] (hb : l[i]? = some bb) (k : ∀ q, A = some ⟨q, 0, none⟩ → G q 0 (some ⟨bb, 0, none⟩)) :
  aF A fun k4 k5 => cw (M.ld ⟨k4, k5 + i, none⟩) fun A6 => G k4 k5 A6 := by
 obtain ⟨q, hq⟩ := h.bF (A := A) (by have := (List.getElem?_eq_some_iff.1 hb).1; omega) (by decide)
 have h2 := V4 h hq hb
 subst hq
 refine bp ?_
 rw [h2]
 exact ju (k q rfl)
theorem hO {g : Int} (h : Hp R L M) [o : wg b L pa p gg dr x L'] (h0 : 0 ≤ g) (hg : g < x.gs.length) (hr : x.ready.length ≤ 1000000000)
  (k : ∀ M', Hp R (az (br pa p gg dr) b (x.eZ g) :: L') M' → K (.tuple #[]) M') : aa Tryz.prog 158 #[.pointer (some ⟨b, 0, none⟩), .int .i64 g] M K Kp := by
 refine qW ?_
 have h' := jz h (b := b) h0 hg
 clear h
 obtain ⟨a, gb, A, c, hl, fQ, eF, h⟩ := h'
 have hl' := hl
 obtain ⟨l1, l2, l3, l4⟩ := hl'
 repeat (first|(refine aq h ?_;clear h;intro kb M h)|(refine au h ?_;clear h;intro M h)|refine St.to h ?_|(apply Exists.intro;(repeat apply Exists.intro);refine And.intro rfl ?_)|refine av ?_|refine ae ?_|refine ai ?_)
 refine vq h fQ fun q hq => ?_
 repeat (first|(refine aq h ?_;clear h;intro kb M h)|(refine au h ?_;clear h;intro M h)|refine St.to h ?_|(apply Exists.intro;(repeat apply Exists.intro);refine And.intro rfl ?_)|refine av ?_|refine ae ?_|refine ai ?_)
 refine h.bJ pL [g] rfl rfl (by simp; omega) ?_
 clear h
 intro A' c' M h
 repeat (first|(refine aq h ?_;clear h;intro kb M h)|(refine au h ?_;clear h;intro M h)|refine St.to h ?_|(apply Exists.intro;(repeat apply Exists.intro);refine And.intro rfl ?_)|refine av ?_|refine ae ?_|refine ai ?_)
 replace h := cO h gb hl fQ eF
 exact k _ (jy (a := { a with ar := A', cr := c' }) ⟨by simpa [Wd.eZ, Wd.bu] using l1, by simpa [Wd.eZ, Wd.bu] using l2, l3, l4⟩ (h.sub bD))
theorem dW {y : jo} (h : 0 < y.fs.length) : y.fs[y.fs.length - 1]? = some y.top := by
 unfold jo.top
 rw [List.getD_eq_getElem?_getD, List.getElem?_eq_getElem (by omega)]; rfl
theorem c7 {a : WA} {g : Int} {y : jo} (hl : eT gg a x) : eT gg a (x.bu g y) := by
 obtain ⟨l1, l2, l3, l4⟩ := hl
 exact ⟨by simpa [Wd.bu] using l1, by simpa [Wd.bu] using l2, l3, l4⟩
theorem lN {g : Int} {i : cH} (h : Hp R L M) [o : wg b L pa p gg dr x L'] (h0 : 0 ≤ g) (hg : g < x.gs.length)
  (k : ∀ M', Hp R (az (br pa p gg dr) b (x.block g i) :: L') M' → K (.tuple #[]) M') : aa Tryz.prog 208 #[.pointer (some ⟨b, 0, none⟩), .int .i64 g, .agg #[.int .i64 i.op, .int .i64 i.a, .int .i64 i.b, .int .i64 i.c]] M K Kp := by
 refine pQ ?_
 have h' := jz h (b := b) h0 hg
 clear h
 obtain ⟨a, gb, A, c, hl, fQ, eF, h⟩ := h'
 have hl' := hl
 obtain ⟨l1, l2, l3, l4⟩ := hl'
 repeat (first|(refine aq h ?_;clear h;intro kb M h)|(refine au h ?_;clear h;intro M h)|refine St.to h ?_|(apply Exists.intro;(repeat apply Exists.intro);refine And.intro rfl ?_)|refine av ?_|refine ae ?_|refine ai ?_)
 refine vq h fQ fun q hq => ?_
 repeat (first|(refine aq h ?_;clear h;intro kb M h)|(refine au h ?_;clear h;intro M h)|refine St.to h ?_|(apply Exists.intro;(repeat apply Exists.intro);refine And.intro rfl ?_)|refine av ?_|refine ae ?_|refine ai ?_)
 refine vq h fQ fun q2 lO => ?_
 repeat (first|(refine aq h ?_;clear h;intro kb M h)|(refine au h ?_;clear h;intro M h)|refine St.to h ?_|(apply Exists.intro;(repeat apply Exists.intro);refine And.intro rfl ?_)|refine av ?_|refine ae ?_|refine ai ?_)
 replace h := cO h gb hl fQ eF
 exact k _ (jy (a := a) (c7 hl) (h.sub bD))
theorem uT {g kk : Int} (h : Hp R L M) [o : wg b L pa p gg dr x L'] (hg : bk x g) (hc : aU (aj x g).wt.c) (hs : x.Sm)
  (k : ∀ M', Hp R (az (br pa p gg dr) b (x.gz g kk) :: L') M' → K (.tuple #[]) M') : aa Tryz.prog 251 #[.pointer (some ⟨b, 0, none⟩), .int .i64 g, .int .i64 kk] M K Kp := by
 refine oL ?_
 obtain ⟨h0, h1, h2, h3⟩ := hg
 obtain ⟨s1, s2, s3, s4, s5, s6, s7, s8⟩ := hs
 have h' := jz h (b := b) h0 h1
 clear h
 obtain ⟨a, gb, A, c, hl, fQ, eF, h⟩ := h'
 have hl' := hl
 obtain ⟨l1, l2, l3, l4⟩ := hl'
 repeat (first|(refine aq h ?_;clear h;intro kb M h)|(refine au h ?_;clear h;intro M h)|refine St.to h ?_|(apply Exists.intro;(repeat apply Exists.intro);refine And.intro rfl ?_)|refine av ?_|refine ae ?_|refine ai ?_)
 refine vq h fQ fun q hq => ?_
 repeat (first|(refine aq h ?_;clear h;intro kb M h)|(refine au h ?_;clear h;intro M h)|refine St.to h ?_|(apply Exists.intro;(repeat apply Exists.intro);refine And.intro rfl ?_)|refine av ?_|refine ae ?_|refine ai ?_)
 refine vq h fQ fun q2 lO => ?_
 repeat (first|(refine aq h ?_;clear h;intro kb M h)|(refine au h ?_;clear h;intro M h)|refine St.to h ?_|(apply Exists.intro;(repeat apply Exists.intro);refine And.intro rfl ?_)|refine av ?_|refine ae ?_|refine ai ?_)
 obtain ⟨bs, rfl⟩ := h.bF (A := A) h2 (by decide)
 refine m6 h2 (by omega) ?_
 repeat (first|(refine aq h ?_;clear h;intro kb M h)|(refine au h ?_;clear h;intro M h)|refine St.to h ?_|(apply Exists.intro;(repeat apply Exists.intro);refine And.intro rfl ?_)|refine av ?_|refine ae ?_|refine ai ?_)
 refine ⟨hc.1, hc.2, we h (dW h2) hc rfl ?_⟩
 clear h
 intro M h
 repeat (first|(refine aq h ?_;clear h;intro kb M h)|(refine au h ?_;clear h;intro M h)|refine St.to h ?_|(apply Exists.intro;(repeat apply Exists.intro);refine And.intro rfl ?_)|refine av ?_|refine ae ?_|refine ai ?_)
 refine EF h (Src.row (A := a.ac)) rfl (by omega) l3 (fun c hc => (s1 c hc).mono (by omega)) ?_
 clear h
 intro M h
 refine ⟨rfl, ?_⟩
 replace h := cO h gb hl fQ eF
 exact k _ (jy (a := a) (x := x.gz g kk) ⟨by simpa [Wd.gz, Wd.leave, Wd.bq, Wd.bu] using l1, by simpa [Wd.gz, Wd.leave, Wd.bq, Wd.bu] using l2, by simpa [Wd.gz, Wd.leave, Wd.bq, Wd.bu] using l3, l4⟩ (h.sub bD))
end
theorem iP {x : Wd} {g q v : Int} (h : bk x g) : aj (x.bq g q v) g = (aj x g).cI ((aj x g).top.set q v) := gI h.1 h.2.1
theorem iQ {x : Wd} {g q v : Int} (h : bk x g) : bk (x.bq g q v) g := by
 obtain ⟨h0, h1, h2, h3⟩ := h
 refine ⟨h0, by simpa [Wd.bq, Wd.bu] using h1, ?_, ?_⟩ <;> rw [iP ⟨h0, h1, h2, h3⟩] <;> simpa [jo.cI]
theorem KI {x : Wd} {g q v : Int} (h : bk x g) : (aj (x.bq g q v) g).wt = (aj x g).wt := by rw [iP h]; rfl
theorem uU {x : Wd} {g k : Int} (h : bk x g) : bk (x.gz g k) g := iQ h
theorem IU {x : Wd} {g : Int} {y : jo} (h : x.Sm) : (x.bu g y).Sm := by
 obtain ⟨s1, s2, s3, s4⟩ := h
 exact ⟨s1, s2, by simpa [Wd.bu] using s3, s4⟩
theorem cT {z : Int} (h0 : 0 ≤ z) (h : z < 9223372036854775808) : IntKind.wrap .i64 z = z := by
 obtain ⟨n, rfl⟩ := Int.eq_ofNat_of_zero_le h0
 exact mG (by omega)
section
variable {R : Mem} {L L' : List HP} {M : Mem} {K : Value → Mem → Prop} {Kp : List PanicEntry → Mem → Prop} {pa : PA} {p : b6} {gg : List GA} {dr : Value} {b : Nat} {x : Wd}
theorem V5 {A : Option Addr} {c : Nat} {l : List ov} {q : Int} {G : Nat → Nat → Int → Prop} (h : Hp R L M) (hp : RS hH R A c l) (h0 : 0 ≤ q) (hq : q < l.length) (k : ∀ b o, G b o (l.getD q.toNat ⟨0, 0, 0⟩).bR) :
  aF A fun b o => aJ (M.ld ⟨b, ((o + q.toNat * 3) + 2), none⟩) .i64 fun n => G b o n := by
 obtain ⟨bb, o, rfl⟩ := hp.some (by omega) (by decide)
 obtain ⟨y, hy⟩ := aP (l := l) (i := q.toNat) (by omega)
 have e : l.getD q.toNat ⟨0, 0, 0⟩ = y := by simp [hy]
 refine bp ?_
 refine aZ (Src.at (hp.src (L := L)) h (i := q.toNat) (j := 2) hy rfl (by show _ = o + (q.toNat * 3 + 2); omega)) ?_
 have := k bb o
 rwa [e] at this
theorem qf {v : Wt} {some : Int} (h : Hp R L M) [o : wg b L pa p gg dr x L'] (hp : RS hH R pa.k pa.kc p.cases) (hv : pN p x v) (hs : x.Sm)
  (k : ∀ M', Hp R (az (br pa p gg dr) b (x.received p v some) :: L') M' → K (.tuple #[]) M') : aa Tryz.prog 238 #[.pointer (Option.some ⟨b, 0, none⟩), .agg #[.int .i64 v.g, .int .i64 v.cs, .int .i64 v.v], .int .i64 some] M K Kp := by
 refine mQ ?_
 obtain ⟨hg, hv⟩ := hv
 have AE := hg
 obtain ⟨h0, h1, h2, h3⟩ := AE
 have hs' := hs
 obtain ⟨s1, s2, s3, s4, s5, s6, s7, s8⟩ := hs'
 have h' := jz h (b := b) h0 h1
 clear h
 obtain ⟨a, gb, A, c, hl, fQ, eF, h⟩ := h'
 have hl' := hl
 obtain ⟨l1, l2, l3, l4⟩ := hl'
 repeat (first|(refine aq h ?_;clear h;intro kb M h)|(refine au h ?_;clear h;intro M h)|refine St.to h ?_|(apply Exists.intro;(repeat apply Exists.intro);refine And.intro rfl ?_)|refine av ?_|refine ae ?_|refine ai ?_)
 refine vq h fQ fun q hq => ?_
 repeat (first|(refine aq h ?_;clear h;intro kb M h)|(refine au h ?_;clear h;intro M h)|refine St.to h ?_|(apply Exists.intro;(repeat apply Exists.intro);refine And.intro rfl ?_)|refine av ?_|refine ae ?_|refine ai ?_)
 refine vq h fQ fun q2 lO => ?_
 repeat (first|(refine aq h ?_;clear h;intro kb M h)|(refine au h ?_;clear h;intro M h)|refine St.to h ?_|(apply Exists.intro;(repeat apply Exists.intro);refine And.intro rfl ?_)|refine av ?_|refine ae ?_|refine ai ?_)
 obtain ⟨bs, rfl⟩ := h.bF (A := A) h2 (by decide)
 refine m6 h2 (by omega) ?_
 repeat (first|(refine aq h ?_;clear h;intro kb M h)|(refine au h ?_;clear h;intro M h)|refine St.to h ?_|(apply Exists.intro;(repeat apply Exists.intro);refine And.intro rfl ?_)|refine av ?_|refine ae ?_|refine ai ?_)
 refine ⟨V4 h lO fQ, ?_⟩
 repeat (first|(refine aq h ?_;clear h;intro kb M h)|(refine au h ?_;clear h;intro M h)|refine St.to h ?_|(apply Exists.intro;(repeat apply Exists.intro);refine And.intro rfl ?_)|refine av ?_|refine ae ?_|refine ai ?_)
 refine ⟨V4 h lO fQ, ?_⟩
 repeat (first|(refine aq h ?_;clear h;intro kb M h)|(refine au h ?_;clear h;intro M h)|refine St.to h ?_|(apply Exists.intro;(repeat apply Exists.intro);refine And.intro rfl ?_)|refine av ?_|refine ae ?_|refine ai ?_)
 unfold Wd.received at k
 refine aR.2 ⟨fun IV => ?_, fun IV => ?_⟩
 ·simp only [IV, if_true] at k hv
  obtain ⟨v1, v2, v3, v4, v5⟩ := hv
  repeat (first|(refine aq h ?_;clear h;intro kb M h)|(refine au h ?_;clear h;intro M h)|refine St.to h ?_|(apply Exists.intro;(repeat apply Exists.intro);refine And.intro rfl ?_)|refine av ?_|refine ae ?_|refine ai ?_)
  rw [cT v1 (by omega)]
  refine ⟨v1, by omega, V5 (q := (aj x v.g).wt.a + v.cs) h hp v1 v2 fun _ _ => ?_⟩
  repeat (first|(refine aq h ?_;clear h;intro kb M h)|(refine au h ?_;clear h;intro M h)|refine St.to h ?_|(apply Exists.intro;(repeat apply Exists.intro);refine And.intro rfl ?_)|refine av ?_|refine ae ?_|refine ai ?_)
  refine ⟨v4.1, v4.2, we h (dW h2) v4 rfl ?_⟩
  clear h
  intro M h
  repeat (first|(refine aq h ?_;clear h;intro kb M h)|(refine au h ?_;clear h;intro M h)|refine St.to h ?_|(apply Exists.intro;(repeat apply Exists.intro);refine And.intro rfl ?_)|refine av ?_|refine ae ?_|refine ai ?_)
  replace h := cO h gb hl fQ eF
  replace h := aW (a := a) (p := p) (pa := pa) (dr := dr) (gg := gg) (x := x.bq v.g (pM p ((aj x v.g).wt.a + v.cs)).bR v.v) (c7 hl) h b
  have v5' := v5
  rw [← KI (q := (pM p ((aj x v.g).wt.a + v.cs)).bR) (v := v.v) hg] at v5'
  refine uT (b := b) h (iQ hg) v5' (IU hs) ?_
  clear h
  intro M h
  repeat (first|(refine aq h ?_;clear h;intro kb M h)|(refine au h ?_;clear h;intro M h)|refine St.to h ?_|(apply Exists.intro;(repeat apply Exists.intro);refine And.intro rfl ?_)|refine av ?_|refine ae ?_|refine ai ?_)
  have Di := uU (k := v.cs) (iQ (q := (pM p ((aj x v.g).wt.a + v.cs)).bR) (v := v.v) hg)
  refine hO (b := b) h Di.1 Di.2.1 (by show x.ready.length ≤ _; omega) ?_
  clear h
  intro M h
  exact ⟨rfl, k _ h.bV⟩
 ·simp only [IV, if_false] at k hv
  obtain ⟨v1, v2⟩ := hv
  repeat (first|(refine aq h ?_;clear h;intro kb M h)|(refine au h ?_;clear h;intro M h)|refine St.to h ?_|(apply Exists.intro;(repeat apply Exists.intro);refine And.intro rfl ?_)|refine av ?_|refine ae ?_|refine ai ?_)
  refine ⟨v1.1, v1.2, ?_⟩
  repeat (first|(refine aq h ?_;clear h;intro kb M h)|(refine au h ?_;clear h;intro M h)|refine St.to h ?_|(apply Exists.intro;(repeat apply Exists.intro);refine And.intro rfl ?_)|refine av ?_|refine ae ?_|refine ai ?_)
  refine we h (dW h2) v1 rfl ?_
  clear h
  intro M h
  repeat (first|(refine aq h ?_;clear h;intro kb M h)|(refine au h ?_;clear h;intro M h)|refine St.to h ?_|(apply Exists.intro;(repeat apply Exists.intro);refine And.intro rfl ?_)|refine av ?_|refine ae ?_|refine ai ?_)
  have KB : ((aj x v.g).fs.set ((aj x v.g).fs.length - 1) ((aj x v.g).top.set (aj x v.g).wt.b v.v))[(aj x v.g).fs.length - 1]? = Option.some ((aj x v.g).top.set (aj x v.g).wt.b v.v) := by
   rw [List.getElem?_set_self]; omega
  refine ⟨v2.1, v2.2, we h KB v2 rfl ?_⟩
  clear h
  intro M h
  rw [iO] at h
  repeat (first|(refine aq h ?_;clear h;intro kb M h)|(refine au h ?_;clear h;intro M h)|refine St.to h ?_|(apply Exists.intro;(repeat apply Exists.intro);refine And.intro rfl ?_)|refine av ?_|refine ae ?_|refine ai ?_)
  replace h := cO h gb hl fQ eF (by simp)
  have ex : (x.bq v.g (aj x v.g).wt.b v.v).bq v.g (aj x v.g).wt.c some = x.bu v.g ((aj x v.g).cI (((aj x v.g).top.set (aj x v.g).wt.b v.v).set (aj x v.g).wt.c some)) := by
   have e1 := iP (q := (aj x v.g).wt.b) (v := v.v) hg
   have e2 : ∀ (z : Wd) (q u : Int), z.bq v.g q u = z.bu v.g ((aj z v.g).cI ((aj z v.g).top.set q u)) := fun _ _ _ => rfl
   rw [e2 (x.bq v.g (aj x v.g).wt.b v.v), e1]
   have e3 : ((aj x v.g).cI ((aj x v.g).top.set (aj x v.g).wt.b v.v)).top = (aj x v.g).top.set (aj x v.g).wt.b v.v := by
    unfold jo.top jo.cI
    dsimp only
    rw [List.length_set, List.getD_eq_getElem?_getD, List.getElem?_set_self (by omega)]; rfl
   rw [e3]
   simp [Wd.bq, Wd.bu, jo.cI]
  rw [ex] at k
  replace h := aW (a := a) (p := p) (pa := pa) (dr := dr) (gg := gg) (x := x.bu v.g ((aj x v.g).cI (((aj x v.g).top.set (aj x v.g).wt.b v.v).set (aj x v.g).wt.c some))) (c7 hl) h b
  refine hO (b := b) h h0 (by simpa [Wd.bu] using h1) (by show x.ready.length ≤ _; omega) ?_
  clear h
  intro M h
  exact ⟨rfl, k _ h.bV⟩
theorem He {v : Wt} (h : Hp R L M) [o : wg b L pa p gg dr x L'] (hv : w6 x v) (hs : x.Sm)
  (k : ∀ M', Hp R (az (br pa p gg dr) b (x.sent v) :: L') M' → K (.tuple #[]) M') : aa Tryz.prog 240 #[.pointer (some ⟨b, 0, none⟩), .agg #[.int .i64 v.g, .int .i64 v.cs, .int .i64 v.v]] M K Kp := by
 refine rG ?_
 obtain ⟨hg, hv⟩ := hv
 have AE := hg
 obtain ⟨h0, h1, h2, h3⟩ := AE
 have hs' := hs
 obtain ⟨s1, s2, s3, s4, s5, s6, s7, s8⟩ := hs'
 have h' := jz h (b := b) h0 h1
 clear h
 obtain ⟨a, gb, A, c, hl, fQ, eF, h⟩ := h'
 have hl' := hl
 obtain ⟨l1, l2, l3, l4⟩ := hl'
 repeat (first|(refine aq h ?_;clear h;intro kb M h)|(refine au h ?_;clear h;intro M h)|refine St.to h ?_|(apply Exists.intro;(repeat apply Exists.intro);refine And.intro rfl ?_)|refine av ?_|refine ae ?_|refine ai ?_)
 refine vq h fQ fun q hq => ?_
 repeat (first|(refine aq h ?_;clear h;intro kb M h)|(refine au h ?_;clear h;intro M h)|refine St.to h ?_|(apply Exists.intro;(repeat apply Exists.intro);refine And.intro rfl ?_)|refine av ?_|refine ae ?_|refine ai ?_)
 unfold Wd.sent at k
 have ex : x.bu v.g (aj x v.g) = x := by
  obtain ⟨y, hy⟩ := aP (l := x.gs) (i := v.g.toNat) (by omega)
  have e : aj x v.g = y := by simp [aj, hy]
  rw [e]
  obtain ⟨hi, rfl⟩ := List.getElem?_eq_some_iff.1 hy
  simp [Wd.bu]
 refine aR.2 ⟨fun IV => ?_, fun IV => ?_⟩
 ·simp only [IV, if_true] at k hv
  repeat (first|(refine aq h ?_;clear h;intro kb M h)|(refine au h ?_;clear h;intro M h)|refine St.to h ?_|(apply Exists.intro;(repeat apply Exists.intro);refine And.intro rfl ?_)|refine av ?_|refine ae ?_|refine ai ?_)
  replace h := cO h gb hl fQ eF
  replace h := aW (a := a) (p := p) (pa := pa) (dr := dr) (gg := gg) (x := x.bu v.g (aj x v.g)) (c7 hl) h b
  rw [ex] at h
  refine uT (b := b) (x := x) h hg (hv trivial) hs ?_
  clear h
  intro M h
  repeat (first|(refine aq h ?_;clear h;intro kb M h)|(refine au h ?_;clear h;intro M h)|refine St.to h ?_|(apply Exists.intro;(repeat apply Exists.intro);refine And.intro rfl ?_)|refine av ?_|refine ae ?_|refine ai ?_)
  have Di := uU (k := v.cs) hg
  refine hO (b := b) h Di.1 Di.2.1 (by show x.ready.length ≤ _; omega) ?_
  clear h
  intro M h
  exact ⟨rfl, k _ h.bV⟩
 ·simp only [IV, if_false] at k
  repeat (first|(refine aq h ?_;clear h;intro kb M h)|(refine au h ?_;clear h;intro M h)|refine St.to h ?_|(apply Exists.intro;(repeat apply Exists.intro);refine And.intro rfl ?_)|refine av ?_|refine ae ?_|refine ai ?_)
  replace h := cO h gb hl fQ eF
  replace h := aW (a := a) (p := p) (pa := pa) (dr := dr) (gg := gg) (x := x.bu v.g (aj x v.g)) (c7 hl) h b
  rw [ex] at h
  refine hO (b := b) (x := x) h h0 h1 (by omega) ?_
  clear h
  intro M h
  exact ⟨rfl, k _ h.bV⟩
end
def uV (x : Wd) (k : Int) : Prop := 0 ≤ k ∧ k < x.aD.length
instance (x : Wd) (k : Int) : Decidable (uV x k) := by unfold uV; infer_instance
def oy (p : b6) (x : Wd) (k v : Int) : Prop := uV x k ∧ (((dK x.aD k).send v).2.2.1 = true → pN p x ((dK x.aD k).send v).2.1) ∧ ((dK x.aD k).send v).1.Small 1000000
instance (p : b6) (x : Wd) (k v : Int) : Decidable (oy p x k v) := by unfold oy; infer_instance
def uW (x : Wd) (k : Int) : Prop := uV x k ∧ ((dK x.aD k).recv.2.2.2.2.1 = true → w6 x (dK x.aD k).recv.2.2.2.1) ∧ (dK x.aD k).recv.1.Small 1000000
instance (x : Wd) (k : Int) : Decidable (uW x k) := by unfold uW; infer_instance
theorem E1 {x : Wd} {k : Int} {c : aT} (h : x.Sm) (hc : c.Small 1000000) : (x.b9 k c).Sm := by
 obtain ⟨s1, s2, s3⟩ := h
 refine ⟨fun d hd => ?_, by simpa [Wd.b9] using s2, s3⟩
 rcases mem_set hd with h | rfl
 ·exact s1 d h
 ·exact hc
section
variable {R : Mem} {L L' : List HP} {M : Mem} {K : Value → Mem → Prop} {Kp : List PanicEntry → Mem → Prop} {pa : PA} {p : b6} {gg : List GA} {dr : Value} {b : Nat} {x : Wd}
theorem qH {a : WA} {k : Int} {c : aT} (hl : eT gg a x) : eT gg a (x.b9 k c) := by
 obtain ⟨l1, l2, l3, l4⟩ := hl
 exact ⟨l1, l2, by simpa [Wd.b9] using l3, l4⟩
theorem Of {a : WA} {k : Int} (h : Hp R L M) [q : fG bE L a.cb x.aD L'] (hl : eT gg a x) (hk : uV x k) : ∃ cb, a.cb[k.toNat]? = some cb ∧ x.aD[k.toNat]? = some (dK x.aD k) ∧ Hp R (az bE cb (dK x.aD k) :: lM bE a.cb x.aD k.toNat :: L') M := by
 obtain ⟨l1, l2, l3, l4⟩ := hl
 obtain ⟨k0, k1⟩ := hk
 obtain ⟨cb, hcb⟩ := aP (l := a.cb) (i := k.toNat) (by omega)
 obtain ⟨y, hy⟩ := aP (l := x.aD) (i := k.toNat) (by omega)
 have e : dK x.aD k = y := by simp [dK, hy]
 rw [e]
 exact ⟨cb, hcb, hy, h.c6 bE hcb hy⟩
theorem B8 {k v : Int} (h : Hp R L M) [o : wg b L pa p gg dr x L'] (hp : RS hH R pa.k pa.kc p.cases) (hk : oy p x k v) (hs : x.Sm)
  (k1 : ∀ y ok M', x.put p k v = .on (y, ok) → Hp R (az (br pa p gg dr) b y :: L') M' → K (.bool ok) M')
  (k2 : ∀ y n M', x.put p k v = .eD n y → Hp R (az (br pa p gg dr) b y :: L') M' → Kp [{ v := .iface 340 (.int .i64 n), recovered := false }] M') :
  aa Tryz.prog 209 #[.pointer (some ⟨b, 0, none⟩), .int .i64 k, .int .i64 v] M K Kp := by
 refine sX ?_
 obtain ⟨hc, hr, IA⟩ := hk
 have hs' := hs
 obtain ⟨s1, s2, s3, s4, s5, s6, s7, s8⟩ := hs'
 have h' := cj h (b := b)
 clear h
 obtain ⟨a, hl, h⟩ := h'
 have hl' := hl
 obtain ⟨l1, l2, l3, l4⟩ := hl'
 have FU := hc
 obtain ⟨c0, c1⟩ := FU
 have h' := Of h hl hc
 clear h
 obtain ⟨cb, hcb, ye, h⟩ := h'
 repeat (first|(refine aq h ?_;clear h;intro kb M h)|(refine au h ?_;clear h;intro M h)|refine St.to h ?_|(apply Exists.intro;(repeat apply Exists.intro);refine And.intro rfl ?_)|refine av ?_|refine ae ?_|refine ai ?_)
 refine vq h hcb fun q hq => ?_
 have hsc : (dK x.aD k).Small 1000000 := s1 _ (uz c0 c1)
 refine GC h (hsc.mono (by omega)) ?_
 clear h
 intro M h
 replace h := h.dN bE cb hcb (by omega)
 unfold Wd.put at k1 k2
 dsimp only at k1 k2
 generalize (dK x.aD k).send v = s at h k1 k2 hr IA
 obtain ⟨c', w, ok, e⟩ := s
 dsimp only [SF] at h k1 k2 hr IA ⊢
 refine ⟨w.g, w.cs, w.v, ok, e, rfl, ?_⟩
 repeat (first|(refine aq h ?_;clear h;intro kb M h)|(refine au h ?_;clear h;intro M h)|refine St.to h ?_|(apply Exists.intro;(repeat apply Exists.intro);refine And.intro rfl ?_)|refine av ?_|refine ae ?_|refine ai ?_)
 refine aR.2 ⟨fun e10 => ?_, fun e10 => ?_⟩
 ·rw [if_pos e10] at k2
  replace h := aW (a := a) (p := p) (pa := pa) (dr := dr) (gg := gg) (x := x.b9 k c') (qH hl) h b
  exact k2 _ _ _ rfl h.bV
 ·rw [if_neg e10] at k1
  replace h := aW (a := a) (p := p) (pa := pa) (dr := dr) (gg := gg) (x := x.b9 k c') (qH hl) h b
  refine gG.2 ⟨fun ht => ?_, fun ht => ?_⟩
  ·subst ht
   simp only [if_true] at k1
   repeat (first|(refine aq h ?_;clear h;intro kb M h)|(refine au h ?_;clear h;intro M h)|refine St.to h ?_|(apply Exists.intro;(repeat apply Exists.intro);refine And.intro rfl ?_)|refine av ?_|refine ae ?_|refine ai ?_)
   refine qf (b := b) (v := w) h hp (show pN p (x.b9 k c') w from hr rfl) (E1 hs IA) ?_
   clear h
   intro M h
   exact ⟨rfl, k1 _ _ _ rfl h.bV⟩
  ·subst ht
   simp only [Bool.false_eq_true, if_false] at k1
   exact k1 _ _ _ rfl h.bV
theorem B9 {k : Int} (h : Hp R L M) [o : wg b L pa p gg dr x L'] (hk : uW x k) (hs : x.Sm)
  (k1 : ∀ M', Hp R (az (br pa p gg dr) b (x.get k).1 :: L') M' → K (.tuple #[.int .i64 (x.get k).2.1, .int .i64 (x.get k).2.2.1, .bool (x.get k).2.2.2]) M') :
  aa Tryz.prog 210 #[.pointer (some ⟨b, 0, none⟩), .int .i64 k] M K Kp := by
 refine sY ?_
 obtain ⟨hc, hr, IA⟩ := hk
 have hs' := hs
 obtain ⟨s1, s2, s3, s4, s5, s6, s7, s8⟩ := hs'
 have h' := cj h (b := b)
 clear h
 obtain ⟨a, hl, h⟩ := h'
 have hl' := hl
 obtain ⟨l1, l2, l3, l4⟩ := hl'
 have FU := hc
 obtain ⟨c0, c1⟩ := FU
 have h' := Of h hl hc
 clear h
 obtain ⟨cb, hcb, ye, h⟩ := h'
 repeat (first|(refine aq h ?_;clear h;intro kb M h)|(refine au h ?_;clear h;intro M h)|refine St.to h ?_|(apply Exists.intro;(repeat apply Exists.intro);refine And.intro rfl ?_)|refine av ?_|refine ae ?_|refine ai ?_)
 refine vq h hcb fun q hq => ?_
 have hsc : (dK x.aD k).Small 1000000 := s1 _ (uz c0 c1)
 refine GD h (hsc.mono (by omega)) ?_
 clear h
 intro M h
 replace h := h.dN bE cb hcb (by omega)
 unfold Wd.get at k1
 dsimp only at k1
 generalize (dK x.aD k).recv = s at h k1 hr IA
 obtain ⟨c', v, some, w, IW, e⟩ := s
 dsimp only [SG] at h k1 hr IA ⊢
 refine ⟨v, some, w.g, w.cs, w.v, IW, e, rfl, ?_⟩
 repeat (first|(refine aq h ?_;clear h;intro kb M h)|(refine au h ?_;clear h;intro M h)|refine St.to h ?_|(apply Exists.intro;(repeat apply Exists.intro);refine And.intro rfl ?_)|refine av ?_|refine ae ?_|refine ai ?_)
 replace h := aW (a := a) (p := p) (pa := pa) (dr := dr) (gg := gg) (x := x.b9 k c') (qH hl) h b
 refine gG.2 ⟨fun ht => ?_, fun ht => ?_⟩
 ·subst ht
  simp only [if_true] at k1
  repeat (first|(refine aq h ?_;clear h;intro kb M h)|(refine au h ?_;clear h;intro M h)|refine St.to h ?_|(apply Exists.intro;(repeat apply Exists.intro);refine And.intro rfl ?_)|refine av ?_|refine ae ?_|refine ai ?_)
  refine He (b := b) (v := w) h (show w6 (x.b9 k c') w from hr rfl) (E1 hs IA) ?_
  clear h
  intro M h
  repeat (first|(refine aq h ?_;clear h;intro kb M h)|(refine au h ?_;clear h;intro M h)|refine St.to h ?_|(apply Exists.intro;(repeat apply Exists.intro);refine And.intro rfl ?_)|refine av ?_|refine ae ?_|refine ai ?_)
  refine gG.2 ⟨fun hb => ?_, fun hb => ?_⟩
  ·subst hb
   repeat (first|(refine aq h ?_;clear h;intro kb M h)|(refine au h ?_;clear h;intro M h)|refine St.to h ?_|(apply Exists.intro;(repeat apply Exists.intro);refine And.intro rfl ?_)|refine av ?_|refine ae ?_|refine ai ?_)
   exact k1 _ h.bV
  ·subst hb
   exact k1 _ h.bV
 ·subst ht
  simp only [Bool.false_eq_true, if_false] at k1
  repeat (first|(refine aq h ?_;clear h;intro kb M h)|(refine au h ?_;clear h;intro M h)|refine St.to h ?_|(apply Exists.intro;(repeat apply Exists.intro);refine And.intro rfl ?_)|refine av ?_|refine ae ?_|refine ai ?_)
  refine gG.2 ⟨fun hb => ?_, fun hb => ?_⟩
  ·subst hb
   repeat (first|(refine aq h ?_;clear h;intro kb M h)|(refine au h ?_;clear h;intro M h)|refine St.to h ?_|(apply Exists.intro;(repeat apply Exists.intro);refine And.intro rfl ?_)|refine av ?_|refine ae ?_|refine ai ?_)
   exact k1 _ h.bV
  ·subst hb
   exact k1 _ h.bV
end
end Go.Proofs
namespace Go.Proofs
open Go.AF
def bt (x : Wd) (g q : Int) : Int := (aj x g).top.bR q
def Wd.IX (x : Wd) (k g v : Int) : Wd := x.b9 k { dK x.aD k with snd := (dK x.aD k).snd ++ [⟨g, 0, v⟩] }
def Wd.IY (x : Wd) (k g : Int) : Wd := x.b9 k { dK x.aD k with eC := (dK x.aD k).eC ++ [⟨g, 0, 0⟩] }
def Wd.send (p : b6) (x : Wd) (g : Int) (i : cH) : Out Wd := match x.put p i.a (bt x g i.b) with
 | .eD n y => .eD n y
 | .cV l y => .cV l y
 | .on (y, true) => .on y
 | .on (y, false) => .on ((y.IX i.a g (bt y g i.b)).block g i)
def Wd.recv (x : Wd) (g : Int) (i : cH) : Wd :=
 if (x.get i.a).2.2.2 then ((x.get i.a).1.bq g i.b (x.get i.a).2.1).bq g i.c (x.get i.a).2.2.1
 else ((x.get i.a).1.IY i.a g).block g i
def dL (p : b6) (x : Wd) (v : Wt) : Wd := if (aj x v.g).st = 2 then x.received p { v with v := 0 } 0 else x
def Wd.shut (p : b6) (x : Wd) (i : cH) : Out Wd :=
 let s := (dK x.aD i.a).close
 let y := x.b9 i.a s.1
 if s.2.2.2 ≠ 0 then .eD (-2) y else if 0 < s.2.2.1.length then .eD (-1) y else .on (s.2.1.foldl (dL p) y)
def wh (p : b6) (x : Wd) : List Wt → Prop
 | [] => True
 | v :: l => x.Sm ∧ 0 ≤ v.g ∧ v.g < x.gs.length ∧ ((aj x v.g).st = 2 → pN p x { v with v := 0 }) ∧ wh p (dL p x v) l
instance Hf (p : b6) : ∀ (l : List Wt) (x : Wd), Decidable (wh p x l)
 | [], _ => isTrue trivial
 | v :: l, x => by
  have := Hf p l (dL p x v)
  unfold wh; infer_instance
theorem Ca {p : b6} : ∀ {l : List Wt} {x : Wd} {i : Nat} {v : Wt}, wh p x l → l[i]? = some v →
  let y := (l.take i).foldl (dL p) x
  y.Sm ∧ 0 ≤ v.g ∧ v.g < y.gs.length ∧ ((aj y v.g).st = 2 → pN p y { v with v := 0 })
 | [], _, _, _, _, h => by simp at h
 | w :: l, x, 0, v, h, hv => by simp at hv; subst hv; exact ⟨h.1, h.2.1, h.2.2.1, h.2.2.2.1⟩
 | w :: l, x, i + 1, v, h, hv => Ca (l := l) h.2.2.2.2 (by simpa using hv)
def Wd.emit (x : Wd) (g : Int) (i : cH) : Out Wd := if x.out.length ≥ 1000 then .eD (-6) x else .on { x with out := x.out ++ [bt x g i.a] }
def Wd.spawn (x : Wd) (g : Int) (i : cH) : Out Wd := if x.gs.length ≥ 100 then .eD (-5) x else
 .on ((Wd.eZ { x with gs := x.gs ++ [⟨0, [gQ.begin i.a (bt x g i.b)], .zero⟩] } (x.gs.length : Int)).bq g i.c (x.gs.length : Int))
def Wd.call (x : Wd) (g : Int) (i : cH) : Out Wd := if (aj x g).fs.length ≥ 16 then .eD (-4) x else
 .on (x.bu g { aj x g with fs := (aj x g).fs ++ [⟨i.a, 0, [bt x g i.b, 0, 0, 0, 0, 0, 0, 0], i.c⟩] })
def jo.back (y : jo) (v : Int) : jo := { y with fs := (y.fs.take (y.fs.length - 1)).set (y.fs.length - 2) ((y.fs.getD (y.fs.length - 2) ⟨0, 0, [], 0⟩).set y.top.qU v) }
def Wd.back (x : Wd) (g : Int) (i : cH) : Wd := if 2 ≤ (aj x g).fs.length then x.bu g ((aj x g).back (bt x g i.a))
 else if g = 0 then { x.bu g { aj x g with st := 4 } with end_ := 1 } else x.bu g { aj x g with st := 4 }
end Go.Proofs
namespace Go.Proofs
open Go.AF
set_option maxRecDepth 100000
set_option maxHeartbeats 1000000
attribute [local irreducible] aJ de fA cw aB dZ aF aK bh aY bA aO
section
variable {R : Mem} {L L' : List HP} {M : Mem} {K : Value → Mem → Prop} {Kp : List PanicEntry → Mem → Prop} {pa : PA} {p : b6} {gg : List GA} {dr : Value} {b : Nat} {x : Wd}
theorem gJ {g : Int} {A : Option Addr} {c : Nat} (h : Hp R L M) [o : wg b L pa p gg dr x L'] (h0 : 0 ≤ g) (hg : g < x.gs.length) (eF : gg[g.toNat]? = some (A, c)) :
  ∃ (a : WA) (gb : Nat), eT gg a x ∧ a.gb[g.toNat]? = some gb ∧
   Hp R (pt gb (qe (aj x g) A c) 229 :: uQ A c (aj x g).fs :: pt b (mo pa p dr a x) 161 :: lM fX a.gb (x.gs.zip gg) g.toNat :: sw a x L') M := by
 obtain ⟨a, gb, A', c', hl, fQ, ZA, h1⟩ := jz h (b := b) h0 hg
 rw [eF] at ZA
 cases ZA
 exact ⟨a, gb, hl, fQ, h1⟩
theorem E2 {g q : Int} {bs c oo : Nat} {G : Int → Prop} (h : Hp R L M) [o : wg b L pa p gg dr x L'] (hg : bk x g) (eF : gg[g.toNat]? = some (some ⟨bs, 0, none⟩, c)) (hq : aU q) (e : oo = ((aj x g).fs.length - 1) * 11 + 2 + q.toNat)
  (k : G (bt x g q)) : aJ (M.ld ⟨bs, oo, none⟩) .i64 G := by
 obtain ⟨h0, h1, h2, h3⟩ := hg
 obtain ⟨a, gb, hl, fQ, h4⟩ := gJ h (b := b) h0 h1 eF
 exact uR h4 (dW h2) hq e k
theorem lP {g q v : Int} {bs c oo : Nat} {G : Mem → Prop} (h : Hp R L M) [o : wg b L pa p gg dr x L'] (hg : bk x g) (eF : gg[g.toNat]? = some (some ⟨bs, 0, none⟩, c)) (hq : aU q) (e : oo = ((aj x g).fs.length - 1) * 11 + 2 + q.toNat)
  (k : ∀ M', Hp R (az (br pa p gg dr) b (x.bq g q v) :: L') M' → G M') : aK M ⟨bs, oo, none⟩ (.int .i64 v) G := by
 obtain ⟨h0, h1, h2, h3⟩ := hg
 obtain ⟨a, gb, hl, fQ, h4⟩ := gJ h (b := b) h0 h1 eF
 refine we h4 (dW h2) hq e fun M' h5 => ?_
 replace h5 := cO h5 gb hl fQ eF (by simp)
 exact k M' (aW (a := a) (p := p) (pa := pa) (dr := dr) (gg := gg) (x := x.bq g q v) (c7 hl) h5 b)
theorem SP {G : Option Addr → Nat → Nat → Prop} (h : Hp R L M) [o : wg b L pa p gg dr x L'] (k1 : ∀ a : WA, eT gg a x → Hp R (pt b (mo pa p dr a x) 161 :: bj fX a.gb (x.gs.zip gg) :: sw a x L') M → G a.ac a.cb.length a.cc) : aB (M.ld ⟨b, 0 + 6, none⟩) G := by
 obtain ⟨a, hl, h1⟩ := cj h (b := b)
 exact aS h1 (k1 a hl h1)
def Out.Ok {α : Type} (r : Out α) (k1 : α → Prop) (k2 : Int → Wd → Prop) (k3 : List PanicEntry → Wd → Prop := fun _ _ => True) : Prop := match r with
 | .on y => k1 y
 | .eD n y => k2 n y
 | .cV l y => k3 l y
def zu (x : Wd) (k : Int) : Prop := uV x k ∧ (dK x.aD k).Small 999999
instance (x : Wd) (k : Int) : Decidable (zu x k) := by unfold zu; infer_instance
def Hg (p : b6) (x : Wd) (g : Int) (i : cH) : Prop := bk x g ∧ aU i.b ∧ oy p x i.a (bt x g i.b) ∧
 match x.put p i.a (bt x g i.b) with
 | .on (y, false) => bk y g ∧ (aj y g).fs.length = (aj x g).fs.length ∧ zu y i.a
 | _ => True
theorem Hh {g : Int} {i : cH} {bs c : Nat} (h : Hp R L M) [o : wg b L pa p gg dr x L'] (hp : RS hH R pa.k pa.kc p.cases) (eF : gg[g.toNat]? = some (some ⟨bs, 0, none⟩, c)) (hk : Hg p x g i) (hs : x.Sm)
  (k : Out.Ok (x.send p g i) (fun y => ∀ M', Hp R (az (br pa p gg dr) b y :: L') M' → K (.tuple #[]) M')
   (fun n y => ∀ M', Hp R (az (br pa p gg dr) b y :: L') M' → Kp [{ v := .iface 340 (.int .i64 n), recovered := false }] M')) :
  aa Tryz.prog 215 #[.pointer (some ⟨b, 0, none⟩), .int .i64 g, .pointer (some ⟨bs, ((aj x g).fs.length - 1) * 11, none⟩), .agg #[.int .i64 i.op, .int .i64 i.a, .int .i64 i.b, .int .i64 i.c]] M K Kp := by
 refine rj ?_
 obtain ⟨hg, hb, hput, hw⟩ := hk
 repeat (first|(refine aq h ?_;clear h;intro kb M h)|(refine au h ?_;clear h;intro M h)|refine St.to h ?_|(apply Exists.intro;(repeat apply Exists.intro);refine And.intro rfl ?_)|refine av ?_|refine ae ?_|refine ai ?_)
 refine ⟨hb.1, hb.2, E2 (b := b) h hg eF hb rfl ?_⟩
 unfold Wd.send at k
 refine B8 (b := b) h hp hput hs ?_ ?_
 ·intro y ok M' e h
  rw [e] at k hw
  cases ok with
  | true =>
   dsimp only at k
   refine ot (ai ?_)
   exact k _ h.bV
  | false =>
   dsimp only at k hw
   obtain ⟨E3, hfl, ye, IA⟩ := hw
   refine ot (ae ?_)
   refine SP h fun a hl h => ?_
   have hl' := hl
   obtain ⟨l1, l2, l3, l4⟩ := hl'
   have FU := ye
   obtain ⟨c0, c1⟩ := FU
   have h' := Of h hl ye
   clear h
   obtain ⟨cb, hcb, V6, h⟩ := h'
   repeat (first|(refine aq h ?_;clear h;intro kb M h)|(refine au h ?_;clear h;intro M h)|refine St.to h ?_|(apply Exists.intro;(repeat apply Exists.intro);refine And.intro rfl ?_)|refine av ?_|refine ae ?_|refine ai ?_)
   refine vq h hcb fun q hq => ?_
   repeat (first|(refine aq h ?_;clear h;intro kb M h)|(refine au h ?_;clear h;intro M h)|refine St.to h ?_|(apply Exists.intro;(repeat apply Exists.intro);refine And.intro rfl ?_)|refine av ?_|refine ae ?_|refine ai ?_)
   refine ⟨hb.1, hb.2, ?_⟩
   have h2 := h.vS bE cb hcb V6
   have h3 := aW (a := a) (p := p) (pa := pa) (dr := dr) (gg := gg) (x := y) hl h2 b
   refine E2 (b := b) h3 E3 eF hb (by rw [hfl]) ?_
   clear h2 h3
   refine pJ (w := ⟨g, 0, bt y g i.b⟩) h (IA.mono (by omega)) ?_
   clear h
   intro M h
   replace h := h.dN bE cb hcb (by omega)
   replace h := aW (a := a) (p := p) (pa := pa) (dr := dr) (gg := gg) (x := y.IX i.a g (bt y g i.b)) (qH hl) h b
   repeat (first|(refine aq h ?_;clear h;intro kb M h)|(refine au h ?_;clear h;intro M h)|refine St.to h ?_|(apply Exists.intro;(repeat apply Exists.intro);refine And.intro rfl ?_)|refine av ?_|refine ae ?_|refine ai ?_)
   refine lN (b := b) (i := i) (x := y.IX i.a g (bt y g i.b)) h E3.1 E3.2.1 ?_
   clear h
   intro M h
   exact ⟨rfl, k _ h.bV⟩
 ·intro y n M' e h
  rw [e] at k
  exact k _ h.bV
def wj (x : Wd) (g : Int) (i : cH) : Prop := bk x g ∧ aU i.b ∧ aU i.c ∧ uW x i.a ∧ bk (x.get i.a).1 g ∧ (aj (x.get i.a).1 g).fs.length = (aj x g).fs.length ∧ ((x.get i.a).2.2.2 = false → zu (x.get i.a).1 i.a)
theorem Hi {g : Int} {i : cH} {bs c : Nat} (h : Hp R L M) [o : wg b L pa p gg dr x L'] (eF : gg[g.toNat]? = some (some ⟨bs, 0, none⟩, c)) (hk : wj x g i) (hs : x.Sm)
  (k : ∀ M', Hp R (az (br pa p gg dr) b (x.recv g i) :: L') M' → K (.tuple #[]) M') :
  aa Tryz.prog 216 #[.pointer (some ⟨b, 0, none⟩), .int .i64 g, .pointer (some ⟨bs, ((aj x g).fs.length - 1) * 11, none⟩), .agg #[.int .i64 i.op, .int .i64 i.a, .int .i64 i.b, .int .i64 i.c]] M K Kp := by
 refine rm ?_
 obtain ⟨hg, hb, hc, V7, E3, hfl, hw⟩ := hk
 repeat (first|(refine aq h ?_;clear h;intro kb M h)|(refine au h ?_;clear h;intro M h)|refine St.to h ?_|(apply Exists.intro;(repeat apply Exists.intro);refine And.intro rfl ?_)|refine av ?_|refine ae ?_|refine ai ?_)
 refine B9 (b := b) h V7 hs ?_
 clear h
 intro M h
 unfold Wd.recv at k
 generalize x.get i.a = r at h k E3 hfl hw
 obtain ⟨y, v, sm, ok⟩ := r
 dsimp only at h k E3 hfl hw ⊢
 refine ⟨v, sm, ok, rfl, ?_⟩
 cases ok with
 | true =>
  simp only [if_true] at k
  refine ai ?_
  repeat (first|(refine aq h ?_;clear h;intro kb M h)|(refine au h ?_;clear h;intro M h)|refine St.to h ?_|(apply Exists.intro;(repeat apply Exists.intro);refine And.intro rfl ?_)|refine av ?_|refine ae ?_|refine ai ?_)
  refine ⟨hb.1, hb.2, ?_⟩
  repeat (first|(refine aq h ?_;clear h;intro kb M h)|(refine au h ?_;clear h;intro M h)|refine St.to h ?_|(apply Exists.intro;(repeat apply Exists.intro);refine And.intro rfl ?_)|refine av ?_|refine ae ?_|refine ai ?_)
  refine lP (b := b) h E3 eF hb (by rw [hfl]) ?_
  clear h
  intro M h
  repeat (first|(refine aq h ?_;clear h;intro kb M h)|(refine au h ?_;clear h;intro M h)|refine St.to h ?_|(apply Exists.intro;(repeat apply Exists.intro);refine And.intro rfl ?_)|refine av ?_|refine ae ?_|refine ai ?_)
  have Di := iQ (q := i.b) (v := v) E3
  have Ed : (aj (y.bq g i.b v) g).fs.length = (aj x g).fs.length := by rw [iP E3]; simpa [jo.cI] using hfl
  refine ⟨hc.1, hc.2, lP (b := b) h Di eF hc (by rw [Ed]) ?_⟩
  clear h
  intro M h
  repeat (first|(refine aq h ?_;clear h;intro kb M h)|(refine au h ?_;clear h;intro M h)|refine St.to h ?_|(apply Exists.intro;(repeat apply Exists.intro);refine And.intro rfl ?_)|refine av ?_|refine ae ?_|refine ai ?_)
  exact k _ h.bV
 | false =>
  simp only [Bool.false_eq_true, if_false] at k
  refine ae ?_
  obtain ⟨ye, IA⟩ := hw rfl
  refine SP h fun a hl h => ?_
  have hl' := hl
  obtain ⟨l1, l2, l3, l4⟩ := hl'
  have FU := ye
  obtain ⟨c0, c1⟩ := FU
  have h' := Of h hl ye
  clear h
  obtain ⟨cb, hcb, V6, h⟩ := h'
  repeat (first|(refine aq h ?_;clear h;intro kb M h)|(refine au h ?_;clear h;intro M h)|refine St.to h ?_|(apply Exists.intro;(repeat apply Exists.intro);refine And.intro rfl ?_)|refine av ?_|refine ae ?_|refine ai ?_)
  refine vq h hcb fun q hq => ?_
  refine pK (w := ⟨g, 0, 0⟩) h (IA.mono (by omega)) ?_
  clear h
  intro M h
  replace h := h.dN bE cb hcb (by omega)
  replace h := aW (a := a) (p := p) (pa := pa) (dr := dr) (gg := gg) (x := y.IY i.a g) (qH hl) h b
  repeat (first|(refine aq h ?_;clear h;intro kb M h)|(refine au h ?_;clear h;intro M h)|refine St.to h ?_|(apply Exists.intro;(repeat apply Exists.intro);refine And.intro rfl ?_)|refine av ?_|refine ae ?_|refine ai ?_)
  refine lN (b := b) (i := i) (x := y.IY i.a g) h E3.1 E3.2.1 ?_
  clear h
  intro M h
  exact ⟨rfl, k _ h.bV⟩
theorem Hj {g : Int} {i : cH} {bs c : Nat} (h : Hp R L M) [o : wg b L pa p gg dr x L'] (eF : gg[g.toNat]? = some (some ⟨bs, 0, none⟩, c)) (hg : bk x g) (ha : aU i.a) (hs : x.Sm)
  (k : Out.Ok (x.emit g i) (fun y => ∀ M', Hp R (az (br pa p gg dr) b y :: L') M' → K (.tuple #[]) M')
   (fun n y => ∀ M', Hp R (az (br pa p gg dr) b y :: L') M' → Kp [{ v := .iface 340 (.int .i64 n), recovered := false }] M')) :
  aa Tryz.prog 221 #[.pointer (some ⟨b, 0, none⟩), .int .i64 g, .pointer (some ⟨bs, ((aj x g).fs.length - 1) * 11, none⟩), .agg #[.int .i64 i.op, .int .i64 i.a, .int .i64 i.b, .int .i64 i.c]] M K Kp := by
 refine ry ?_
 obtain ⟨s1, s2, s3, s4, s5, s6, s7, s8⟩ := hs
 have AE := hg
 obtain ⟨h0, h1, h2, h3⟩ := AE
 unfold Wd.emit at k
 refine aq h ?_
 clear h
 intro kb M h
 have h' := gJ h (b := b) h0 h1 eF
 clear h
 obtain ⟨a, gb, hl, fQ, h⟩ := h'
 have hl' := hl
 obtain ⟨l1, l2, l3, l4⟩ := hl'
 have ex : x.bu g (aj x g) = x := by
  obtain ⟨y, hy⟩ := aP (l := x.gs) (i := g.toNat) (by omega)
  have e : aj x g = y := by simp [aj, hy]
  rw [e]
  obtain ⟨hi, rfl⟩ := List.getElem?_eq_some_iff.1 hy
  simp [Wd.bu]
 repeat (first|(refine aq h ?_;clear h;intro kb M h)|(refine au h ?_;clear h;intro M h)|refine St.to h ?_|(apply Exists.intro;(repeat apply Exists.intro);refine And.intro rfl ?_)|refine av ?_|refine ae ?_|refine ai ?_)
 refine aM.2 ⟨fun hn => ?_, fun hn => ?_⟩
 ·rw [if_pos (by omega)] at k
  replace h := cO h gb hl fQ eF
  have kW := c7 (y := aj x g) (g := g) hl
  replace h := aW (a := a) (p := p) (pa := pa) (dr := dr) (gg := gg) (x := x.bu g (aj x g)) kW h b
  rw [ex] at h
  exact k _ h.bV
 ·rw [if_neg (by omega)] at k
  repeat (first|(refine aq h ?_;clear h;intro kb M h)|(refine au h ?_;clear h;intro M h)|refine St.to h ?_|(apply Exists.intro;(repeat apply Exists.intro);refine And.intro rfl ?_)|refine av ?_|refine ae ?_|refine ai ?_)
  refine ⟨ha.1, ha.2, uR h (dW h2) ha rfl ?_⟩
  repeat (first|(refine aq h ?_;clear h;intro kb M h)|(refine au h ?_;clear h;intro M h)|refine St.to h ?_|(apply Exists.intro;(repeat apply Exists.intro);refine And.intro rfl ?_)|refine av ?_|refine ae ?_|refine ai ?_)
  refine h.bJ CZ [bt x g i.a] rfl rfl (by simp; omega) ?_
  clear h
  intro A' c' M h
  repeat (first|(refine aq h ?_;clear h;intro kb M h)|(refine au h ?_;clear h;intro M h)|refine St.to h ?_|(apply Exists.intro;(repeat apply Exists.intro);refine And.intro rfl ?_)|refine av ?_|refine ae ?_|refine ai ?_)
  replace h := cO h gb hl fQ eF
  have kW := c7 (y := aj x g) (g := g) hl
  have h5 := aW (a := { a with ao := A', co := c' }) (p := p) (pa := pa) (dr := dr) (gg := gg) (x := { x.bu g (aj x g) with out := x.out ++ [bt x g i.a] }) kW h b
  rw [ex] at h5
  exact k _ h5.bV
end
theorem SQ : bn Tryz.prog 155 224 1 8 [.pointer none] := bn.mk' (zv := .pointer none) (by kernel_rfl) (by kernel_rfl) rfl (by omega)
section
variable {R : Mem} {L L' : List HP} {M : Mem} {K : Value → Mem → Prop} {Kp : List PanicEntry → Mem → Prop} {pa : PA} {p : b6} {gg : List GA} {dr : Value} {b : Nat} {x : Wd}
def wk (x : Wd) (fn v : Int) : Wd := { x with gs := x.gs ++ [⟨0, [gQ.begin fn v], .zero⟩] }
theorem Og {a : WA} {k bs : Nat} {A' : Option Addr} {c' : Nat} {fn v : Int} (hl : eT gg a x)
  (h : Hp R (pt b (mo pa p dr { a with ag := A', cg := c', gb := a.gb ++ [k] } x) 161 :: zo A' c' (a.gb ++ [k]) :: pt k [.int .i64 0, .slice (some ⟨bs, 0, none⟩) 1 1, .int .i64 0, .int .i64 0, .int .i64 0, .int .i64 0] 229 ::
   uQ (some ⟨bs, 0, none⟩) 1 [gQ.begin fn v] :: bj fX a.gb (x.gs.zip gg) :: zp a.ac a.cc a.cb :: bj bE a.cb x.aD :: zq a.al a.cl a.lb :: bj fP a.lb x.aL :: gp a.ah a.ch x.hl :: yU a.ao a.co x.out :: lD a.ar a.cr x.ready :: L) M) :
  Hp R (az (br pa p (gg ++ [(some ⟨bs, 0, none⟩, 1)]) dr) b (wk x fn v) :: L) M := by
 obtain ⟨l1, l2, l3, l4⟩ := hl
 have h1 := m8 h k
 have h2 := h1.kF fX k (by rw [List.length_zip]; omega)
 have e : x.gs.zip gg ++ [(⟨0, [gQ.begin fn v], ⟨0, 0, 0, 0⟩⟩, (some ⟨bs, 0, none⟩, 1))] = (wk x fn v).gs.zip (gg ++ [(some ⟨bs, 0, none⟩, 1)]) := by
  unfold wk
  rw [List.zip_append (by omega)]; rfl
 rw [e] at h2
 exact aW (a := { a with ag := A', cg := c', gb := a.gb ++ [k] }) (p := p) (pa := pa) (dr := dr) (gg := gg ++ [(some ⟨bs, 0, none⟩, 1)]) (x := wk x fn v) ⟨by simp [wk, l1], by simp [wk, l2], l3, l4⟩ h2 b
theorem Hl {g fn v : Int} (hg : bk x g) : aj (wk x fn v) g = aj x g := by
 obtain ⟨h0, h1, h2, h3⟩ := hg
 unfold aj wk
 dsimp only
 rw [List.getD_eq_getElem?_getD, List.getElem?_append_left (by omega), ← List.getD_eq_getElem?_getD]
theorem E4 {g : Int} {i : cH} {bs c : Nat} (h : Hp R L M) [o : wg b L pa p gg dr x L'] (eF : gg[g.toNat]? = some (some ⟨bs, 0, none⟩, c)) (hg : bk x g) (hb : aU i.b) (hc : aU i.c) (hs : x.Sm)
  (k : Out.Ok (x.spawn g i) (fun y => ∀ lQ M', Hp R (az (br pa p lQ dr) b y :: L') M' → K (.tuple #[]) M')
   (fun n y => ∀ M', Hp R (az (br pa p gg dr) b y :: L') M' → Kp [{ v := .iface 340 (.int .i64 n), recovered := false }] M')) :
  aa Tryz.prog 213 #[.pointer (some ⟨b, 0, none⟩), .int .i64 g, .pointer (some ⟨bs, ((aj x g).fs.length - 1) * 11, none⟩), .agg #[.int .i64 i.op, .int .i64 i.a, .int .i64 i.b, .int .i64 i.c]] M K Kp := by
 refine pR ?_
 obtain ⟨s1, s2, s3, s4, s5, s6, s7, s8⟩ := hs
 unfold Wd.spawn at k
 refine aq h ?_
 clear h
 intro kb M h
 have hC := h
 have h' := cj h (b := b)
 clear h
 obtain ⟨a, hl, h⟩ := h'
 have hl' := hl
 obtain ⟨l1, l2, l3, l4⟩ := hl'
 refine aS h ?_
 refine aM.2 ⟨fun hn => ?_, fun hn => ?_⟩
 ·rw [if_pos (by omega)] at k
  exact k _ (hC.drop.pick o.pick)
 rw [if_neg (by omega)] at k
 refine aS h ?_
 refine ⟨fun vs M => ∃ bs', Hp R (az (br pa p (gg ++ [(some ⟨bs', 0, none⟩, 1)]) dr) b (wk x i.a (bt x g i.b)) :: pt kb [.int .i64 i.op, .int .i64 i.a, .int .i64 i.b, .int .i64 i.c] 27 :: L') M, ?_, ?_⟩
 ·repeat (first|(refine aq h ?_;clear h;intro kb M h)|(refine au h ?_;clear h;intro M h)|refine St.to h ?_|(apply Exists.intro;(repeat apply Exists.intro);refine And.intro rfl ?_)|refine av ?_|refine ae ?_|refine ai ?_)
  refine ⟨hb.1, hb.2, E2 (b := b) hC hg eF hb rfl ?_⟩
  clear hC
  refine ⟨?_, ?_, trivial⟩
  ·repeat (first|(refine aq h ?_;clear h;intro kb M h)|(refine au h ?_;clear h;intro M h)|refine St.to h ?_|(apply Exists.intro;(repeat apply Exists.intro);refine And.intro rfl ?_)|refine av ?_|refine ae ?_|refine ai ?_)
   refine qd h ?_
   clear h
   intro bs' M h
   repeat (first|(refine aq h ?_;clear h;intro kb M h)|(refine au h ?_;clear h;intro M h)|refine St.to h ?_|(apply Exists.intro;(repeat apply Exists.intro);refine And.intro rfl ?_)|refine av ?_|refine ae ?_|refine ai ?_)
   refine h.bJ SQ [_] rfl rfl (by simp; omega) ?_
   clear h
   intro A' c' M h
   repeat (first|(refine aq h ?_;clear h;intro kb M h)|(refine au h ?_;clear h;intro M h)|refine St.to h ?_|(apply Exists.intro;(repeat apply Exists.intro);refine And.intro rfl ?_)|refine av ?_|refine ae ?_|refine ai ?_)
   exact ⟨bs', Og hl (h.sub bD)⟩
  ·refine qd h ?_
   clear h
   intro bs' M h
   repeat (first|(refine aq h ?_;clear h;intro kb M h)|(refine au h ?_;clear h;intro M h)|refine St.to h ?_|(apply Exists.intro;(repeat apply Exists.intro);refine And.intro rfl ?_)|refine av ?_|refine ae ?_|refine ai ?_)
   refine h.bJ SQ [_] rfl rfl (by simp; omega) ?_
   clear h
   intro A' c' M h
   repeat (first|(refine aq h ?_;clear h;intro kb M h)|(refine au h ?_;clear h;intro M h)|refine St.to h ?_|(apply Exists.intro;(repeat apply Exists.intro);refine And.intro rfl ?_)|refine av ?_|refine ae ?_|refine ai ?_)
   exact ⟨bs', Og hl (h.sub bD)⟩
 ·clear h hC
  rintro _ M ⟨bs', h⟩
  have hlen : (wk x i.a (bt x g i.b)).gs.length = x.gs.length + 1 := by simp [wk]
  have xu : (x.gs.length : Int) = (a.gb.length : Int) := by omega
  rw [← xu]
  refine hO (b := b) h (by omega) (by omega) (by show x.ready.length ≤ _; omega) ?_
  clear h
  intro M h
  repeat (first|(refine aq h ?_;clear h;intro kb M h)|(refine au h ?_;clear h;intro M h)|refine St.to h ?_|(apply Exists.intro;(repeat apply Exists.intro);refine And.intro rfl ?_)|refine av ?_|refine ae ?_|refine ai ?_)
  have Di : aj ((wk x i.a (bt x g i.b)).eZ (x.gs.length : Int)) g = aj x g := by
   rw [← Hl (fn := i.a) (v := bt x g i.b) hg]
   obtain ⟨h0, h1, _⟩ := hg
   have hne : x.gs.length ≠ g.toNat := by omega
   simp [aj, Wd.eZ, Wd.bu, List.getElem?_set, hne]
  have hg3 : bk ((wk x i.a (bt x g i.b)).eZ (x.gs.length : Int)) g := by
   refine ⟨hg.1, ?_, ?_, ?_⟩
   ·have h1 := hg.2.1
    simp only [Wd.eZ, Wd.bu, List.length_set, hlen]; omega
   ·rw [Di]; exact hg.2.2.1
   ·rw [Di]; exact hg.2.2.2
  have ZB : (gg ++ [(some (⟨bs', 0, none⟩ : Addr), 1)])[g.toNat]? = some (some ⟨bs, 0, none⟩, c) := by
   rw [List.getElem?_append_left (by have := hg.2.1; have := hg.1; omega)]; exact eF
  refine ⟨hc.1, hc.2, lP (b := b) h hg3 ZB hc (by rw [Di]) ?_⟩
  clear h
  intro M h
  repeat (first|(refine aq h ?_;clear h;intro kb M h)|(refine au h ?_;clear h;intro M h)|refine St.to h ?_|(apply Exists.intro;(repeat apply Exists.intro);refine And.intro rfl ?_)|refine av ?_|refine ae ?_|refine ai ?_)
  exact k _ _ h.bV
end
section
variable {R : Mem} {L L' : List HP} {M : Mem} {K : Value → Mem → Prop} {Kp : List PanicEntry → Mem → Prop} {pa : PA} {p : b6} {gg : List GA} {dr : Value} {b : Nat} {x : Wd}
def nU (p : b6) (x : Wd) (i : cH) : Prop := uV x i.a ∧ (dK x.aD i.a).eC.length ≤ 1000000 ∧
 ((dK x.aD i.a).close.2.2.2 = 0 → (dK x.aD i.a).close.2.2.1 = [] → wh p (x.b9 i.a (dK x.aD i.a).close.1) (dK x.aD i.a).close.2.1)
theorem Ho {g : Int} {i : cH} {f : Value} {bf of' : Nat} (h : Hp R L M) [o : wg b L pa p gg dr x L'] (hp : RS hH R pa.k pa.kc p.cases) (hk : nU p x i) (hs : x.Sm)
  (k : Out.Ok (x.shut p i) (fun y => ∀ M', Hp R (az (br pa p gg dr) b y :: L') M' → K (.tuple #[]) M')
   (fun n y => ∀ M', Hp R (az (br pa p gg dr) b y :: L') M' → Kp [{ v := .iface 340 (.int .i64 n), recovered := false }] M')) :
  aa Tryz.prog 217 #[.pointer (some ⟨b, 0, none⟩), .int .i64 g, .pointer (some ⟨bf, of', none⟩), .agg #[.int .i64 i.op, .int .i64 i.a, .int .i64 i.b, .int .i64 i.c]] M K Kp := by
 refine rq ?_
 obtain ⟨ye, hlen, hsh⟩ := hk
 obtain ⟨s1, s2, s3, s4, s5, s6, s7, s8⟩ := hs
 unfold Wd.shut at k
 dsimp only at k
 refine aq h ?_
 clear h
 intro kb M h
 have h' := cj h (b := b)
 clear h
 obtain ⟨a, hl, h⟩ := h'
 have hl' := hl
 obtain ⟨l1, l2, l3, l4⟩ := hl'
 have FU := ye
 obtain ⟨c0, c1⟩ := FU
 have h' := Of h hl ye
 clear h
 obtain ⟨cb, hcb, V6, h⟩ := h'
 repeat (first|(refine aq h ?_;clear h;intro kb M h)|(refine au h ?_;clear h;intro M h)|refine St.to h ?_|(apply Exists.intro;(repeat apply Exists.intro);refine And.intro rfl ?_)|refine av ?_|refine ae ?_|refine ai ?_)
 refine vq h hcb fun q hq => ?_
 have jT : (dK x.aD i.a).close.2.1.length ≤ 1000000 := by
  unfold aT.close; split <;> simp [hlen]
 refine EC h ?_
 clear h
 intro A ca B cb' M h
 replace h := h.dN bE cb hcb (by omega)
 generalize (dK x.aD i.a).close = s at h k hsh jT
 obtain ⟨c', r, sn, e⟩ := s
 dsimp only at h k hsh jT ⊢
 refine ⟨A, _, ca, B, _, cb', e, rfl, ?_⟩
 replace h := aW (a := a) (p := p) (pa := pa) (dr := dr) (gg := gg) (x := x.b9 i.a c') (qH hl) h b
 refine eL.2 ⟨fun he => ?_, fun he => ?_⟩
 ·rw [if_pos he] at k
  exact k _ h.bV
 rw [if_neg (by simpa using he)] at k
 refine aM.2 ⟨fun hn => ?_, fun hn => ?_⟩
 ·rw [if_pos (by omega)] at k
  exact k _ h.bV
 rw [if_neg (by omega)] at k
 have ZC : sn = [] := by cases sn with
  | nil => rfl
  | cons _ _ => simp at hn
 have hok := hsh he ZC
 refine ⟨fun d vs M => ∃ (j : Nat), vs = [.int .i64 (j : Int)] ∧ d = r.length - j ∧ j ≤ r.length ∧ Hp R (az (br pa p gg dr) b ((r.take j).foldl (dL p) (x.b9 i.a c')) :: uw A ca r :: L') M, ⟨_, 0, rfl, rfl, by omega, h.sub bD⟩, ?_⟩
 clear h
 rintro d _ nn M ⟨j, tC, hd, hj, h⟩
 simp only [List.cons.injEq, Value.int.injEq, and_true, true_and] at tC
 subst tC
 refine aM.2 ⟨fun hlt => ?_, fun hge => ?_⟩
 ·obtain ⟨w, hw⟩ := aP (l := r) (i := j) (by omega)
  obtain ⟨t1, t2, t3, t4⟩ := Ca hok hw
  have hstep : (r.take (j + 1)).foldl (dL p) (x.b9 i.a c') = dL p ((r.take j).foldl (dL p) (x.b9 i.a c')) w := by
   rw [dD hw, List.foldl_append]; rfl
  generalize (r.take j).foldl (dL p) (x.b9 i.a c') = y at h t1 t3 t4 hstep
  obtain ⟨qa, rfl⟩ := h.bF (A := A) (by omega) (by decide)
  refine ⟨by omega, hlt, bp ?_⟩
  simp only [Int.toNat_natCast]
  refine aZ (Src.at (h.src (A := some ⟨qa, 0, none⟩)) h (i := j) (j := 0) hw rfl (by simp [jb])) ?_
  refine aZ (Src.at (h.src (A := some ⟨qa, 0, none⟩)) h (i := j) (j := 1) hw rfl (by simp [jb])) ?_
  refine aZ (Src.at (h.src (A := some ⟨qa, 0, none⟩)) h (i := j) (j := 2) hw rfl (by simp [jb])) ?_
  refine aq h ?_
  clear h
  intro kw M h
  refine au h ?_
  clear h; intro M h
  refine au h ?_
  clear h; intro M h
  refine au h ?_
  clear h; intro M h
  have hC := h
  have h' := jz h (b := b) t2 t3
  clear h
  obtain ⟨a2, gb, A2, c2, kW, fQ, ZB, h⟩ := h'
  have V8 := kW
  obtain ⟨m1, m2, m3, m4⟩ := V8
  repeat (first|(refine aq h ?_;clear h;intro kb M h)|(refine au h ?_;clear h;intro M h)|refine St.to h ?_|(apply Exists.intro;(repeat apply Exists.intro);refine And.intro rfl ?_)|refine av ?_|refine ae ?_|refine ai ?_)
  refine vq h fQ fun q2 lO => ?_
  repeat (first|(refine aq h ?_;clear h;intro kb M h)|(refine au h ?_;clear h;intro M h)|refine St.to h ?_|(apply Exists.intro;(repeat apply Exists.intro);refine And.intro rfl ?_)|refine av ?_|refine ae ?_|refine ai ?_)
  clear h
  have h := hC
  clear hC
  rw [aV (by omega)]
  have hst : dL p y w = if (aj y w.g).st = 2 then y.received p { w with v := 0 } 0 else y := rfl
  rw [hst] at hstep
  refine aR.2 ⟨fun e2 => ?_, fun e2 => ?_⟩
  ·rw [if_pos e2] at hstep
   refine au h ?_
   clear h; intro M h
   repeat (first|(refine aq h ?_;clear h;intro kb M h)|(refine au h ?_;clear h;intro M h)|refine St.to h ?_|(apply Exists.intro;(repeat apply Exists.intro);refine And.intro rfl ?_)|refine av ?_|refine ae ?_|refine ai ?_)
   refine qf (b := b) (v := { w with v := 0 }) h hp (t4 e2) t1 ?_
   clear h; intro M h
   refine ⟨rfl, r.length - (j + 1), by omega, j + 1, rfl, rfl, by omega, ?_⟩
   rw [hstep]
   exact h.bV
  ·rw [if_neg e2] at hstep
   refine ⟨r.length - (j + 1), by omega, j + 1, rfl, rfl, by omega, ?_⟩
   rw [hstep]
   exact h.sub bD
 ·obtain rfl : j = r.length := by omega
  rw [List.take_length] at h
  exact k _ h.bV
end
theorem qI : bn Tryz.prog 36 3 1 8 [.int .i64 0] := bn.mk' (zv := .int .i64 0) (by kernel_rfl) (by kernel_rfl) rfl (by omega)
structure Rg where
 room : Nat
 l : List Int
def Rg.Ok (x : Rg) (head : Nat) (slots : List Int) : Prop := slots.length = x.room ∧ 0 < x.room ∧ x.room ≤ 1024 ∧ head < x.room ∧ x.l.length ≤ x.room ∧ ∀ i v, x.l[i]? = some v → slots[(head + i) % x.room]? = some v
def eU : sH Rg := ⟨fun b x => exs fun A : Option Addr => exs fun c : Nat => exs fun head : Nat => exs fun slots : List Int =>
 sep [fact (x.Ok head slots), pt b [.slice A x.room c, .int .i64 (head : Int), .int .i64 (x.l.length : Int)] 309, bO bB 3 A c slots]⟩
section
variable {R : Mem} {L L' : List HP} {M : Mem} {K : Value → Mem → Prop} {Kp : List PanicEntry → Mem → Prop} {b : Nat} {x : Rg}
theorem kG (h : Hp R L M) [o : bY eU b L x L'] : ∃ A c head slots, x.Ok head slots ∧ Hp R (pt b [.slice A x.room c, .int .i64 (head : Int), .int .i64 (x.l.length : Int)] 309 :: bO bB 3 A c slots :: L') M := by
 have := h.obj eU b
 simpa only [eU, Hp.di, Hp.aX, List.cons_append, List.nil_append, Hp.fO] using this
theorem uX {A : Option Addr} {c head : Nat} {slots : List Int} (ok : x.Ok head slots) (h : Hp R (pt b [.slice A x.room c, .int .i64 (head : Int), .int .i64 (x.l.length : Int)] 309 :: bO bB 3 A c slots :: L) M) : Hp R (az eU b x :: L) M := by
 refine Hp.vL ?_
 simp only [eU, Hp.di, Hp.aX, List.cons_append, List.nil_append, Hp.fO]
 exact ⟨_, _, _, _, ok, h⟩
def fR (n : Int) : Nat := (min (max n 1) 1024).toNat
theorem IZ (n : Int) : 0 < fR n ∧ fR n ≤ 1024 := by unfold fR; omega
theorem Oh {n : Int} (h : Hp R L M) (k : ∀ b M', Hp R (az eU b ⟨fR n, []⟩ :: L) M' → K (.pointer (some ⟨b, 0, none⟩)) M') : aa Tryz.prog 115 #[.int .i64 n] M K Kp := by
 refine EJ ?_
 have e : (if (1024 : Int) < (if (1 : Int) > n then 1 else n) then 1024 else (if (1 : Int) > n then 1 else n)) = ((fR n : Nat) : Int) := by unfold fR; split <;> split <;> omega
 have bd := IZ n
 rw [e]
 refine h.xT (E := bB) (a := 0) qI (by omega) ?_
 clear h
 intro kb M h
 repeat (first|(refine aq h ?_;clear h;intro kb M h)|(refine au h ?_;clear h;intro M h)|refine St.to h ?_|(apply Exists.intro;(repeat apply Exists.intro);refine And.intro rfl ?_)|refine av ?_|refine ae ?_|refine ai ?_)
 refine k _ _ (uX (head := 0) (slots := List.replicate (fR n) 0) ⟨by simp, bd.1, bd.2, bd.1, by simp, fun i v hv => by simp at hv⟩ (h.sub bD))
theorem Cb (h : Hp R L M) [o : bY eU b L x L'] (k : K (.int .i64 (x.room : Int)) M) : aa Tryz.prog 183 #[.pointer (some ⟨b, 0, none⟩)] M K Kp := by
 refine uH ?_
 have h' := kG h (b := b)
 clear h
 obtain ⟨A, c, head, slots, ok, h⟩ := h'
 repeat (first|(refine aq h ?_;clear h;intro kb M h)|(refine au h ?_;clear h;intro M h)|refine St.to h ?_|(apply Exists.intro;(repeat apply Exists.intro);refine And.intro rfl ?_)|refine av ?_|refine ae ?_|refine ai ?_)
 exact k
theorem uY (h : Hp R L M) [o : bY eU b L x L'] (k : K (.int .i64 (x.l.length : Int)) M) : aa Tryz.prog 181 #[.pointer (some ⟨b, 0, none⟩)] M K Kp := by
 refine vW ?_
 have h' := kG h (b := b)
 clear h
 obtain ⟨A, c, head, slots, ok, h⟩ := h'
 repeat (first|(refine aq h ?_;clear h;intro kb M h)|(refine au h ?_;clear h;intro M h)|refine St.to h ?_|(apply Exists.intro;(repeat apply Exists.intro);refine And.intro rfl ?_)|refine av ?_|refine ae ?_|refine ai ?_)
 exact k
theorem ud {a b : Nat} : Int.tmod (a : Int) (b : Int) = ((a % b : Nat) : Int) := rfl
theorem qJ {v : Int} (h : Hp R L M) [o : bY eU b L x L'] (k1 : x.l.length = x.room → ∀ M', Hp R (az eU b x :: L') M' → K (.bool false) M') (k2 : x.l.length < x.room → ∀ M', Hp R (az eU b ⟨x.room, x.l ++ [v]⟩ :: L') M' → K (.bool true) M') :
  aa Tryz.prog 184 #[.pointer (some ⟨b, 0, none⟩), .int .i64 v] M K Kp := by
 refine uI ?_
 have h' := kG h (b := b)
 clear h
 obtain ⟨A, c, head, slots, ok, h⟩ := h'
 have ok0 := ok
 obtain ⟨h1, h2, h3, h4, h5, h6⟩ := ok0
 repeat (first|(refine aq h ?_;clear h;intro kb M h)|(refine au h ?_;clear h;intro M h)|refine St.to h ?_|(apply Exists.intro;(repeat apply Exists.intro);refine And.intro rfl ?_)|refine av ?_|refine ae ?_|refine ai ?_)
 refine aR.2 ⟨fun e => ?_, fun e => ?_⟩
 ·exact k1 (by omega) _ (uX ok h)
 ·have hlt : x.l.length < x.room := by omega
  repeat (first|(refine aq h ?_;clear h;intro kb M h)|(refine au h ?_;clear h;intro M h)|refine St.to h ?_|(apply Exists.intro;(repeat apply Exists.intro);refine And.intro rfl ?_)|refine av ?_|refine ae ?_|refine ai ?_)
  have e1 : IntKind.wrap .i64 ((head : Int) + (x.l.length : Int)) = ((head + x.l.length : Nat) : Int) := wn (by simp) (by omega)
  rw [e1, ud]
  have hm := Nat.mod_lt (head + x.l.length) h2
  obtain ⟨b2, rfl⟩ := h.bF (A := A) (by omega) (by decide)
  obtain ⟨w, hw⟩ := aP (l := slots) (i := (head + x.l.length) % x.room) (by omega)
  repeat (first|(refine aq h ?_;clear h;intro kb M h)|(refine au h ?_;clear h;intro M h)|refine St.to h ?_|(apply Exists.intro;(repeat apply Exists.intro);refine And.intro rfl ?_)|refine av ?_|refine ae ?_|refine ai ?_)
  simp only [Int.toNat_natCast]
  refine gK (a' := v) ((head + x.l.length) % x.room) 0 h hw (by decide) rfl (by simp [bB]) ?_
  clear h; intro M h
  repeat (first|(refine aq h ?_;clear h;intro kb M h)|(refine au h ?_;clear h;intro M h)|refine St.to h ?_|(apply Exists.intro;(repeat apply Exists.intro);refine And.intro rfl ?_)|refine av ?_|refine ae ?_|refine ai ?_)
  have e2 : IntKind.wrap .i64 ((x.l.length : Int) + 1) = ((x.l.length + 1 : Nat) : Int) := aV (by omega)
  rw [e2] at h
  refine k2 hlt _ (uX (x := ⟨x.room, x.l ++ [v]⟩) (head := head) (slots := slots.set ((head + x.l.length) % x.room) v) ⟨by simpa using h1, h2, h3, h4, by simp; omega, fun i u hu => ?_⟩ (by simpa using h.sub bD))
  dsimp only at hu ⊢
  rcases Nat.lt_or_ge i x.l.length with hi | hi
  ·rw [List.getElem?_append_left hi] at hu
   have hne : (head + i) % x.room ≠ (head + x.l.length) % x.room := by
    intro he
    have a1 : (head + i) % x.room = if head + i < x.room then head + i else head + i - x.room := by
     split
     ·exact Nat.mod_eq_of_lt (by omega)
     ·rw [Nat.mod_eq_sub_mod (by omega)]; exact Nat.mod_eq_of_lt (by omega)
    have a2 : (head + x.l.length) % x.room = if head + x.l.length < x.room then head + x.l.length else head + x.l.length - x.room := by
     split
     ·exact Nat.mod_eq_of_lt (by omega)
     ·rw [Nat.mod_eq_sub_mod (by omega)]; exact Nat.mod_eq_of_lt (by omega)
    rw [a1, a2] at he
    split at he <;> split at he <;> omega
   rw [List.getElem?_set_ne (Ne.symm hne)]
   exact h6 i u hu
  ·rw [List.getElem?_append_right hi] at hu
   have : i = x.l.length := by
    have := (List.getElem?_eq_some_iff.1 hu).1
    simp at this; omega
   subst this
   simp at hu; subst hu
   rw [List.getElem?_set_self (by omega)]
theorem E5 (h : Hp R L M) [o : bY eU b L x L'] (k1 : x.l = [] → ∀ M', Hp R (az eU b x :: L') M' → K (.tuple #[.int .i64 0, .bool false]) M')
  (k2 : ∀ v l, x.l = v :: l → ∀ M', Hp R (az eU b ⟨x.room, l⟩ :: L') M' → K (.tuple #[.int .i64 v, .bool true]) M') :
  aa Tryz.prog 177 #[.pointer (some ⟨b, 0, none⟩)] M K Kp := by
 refine vV ?_
 have h' := kG h (b := b)
 clear h
 obtain ⟨A, c, head, slots, ok, h⟩ := h'
 have ok0 := ok
 obtain ⟨h1, h2, h3, h4, h5, h6⟩ := ok0
 obtain ⟨room, l⟩ := x
 dsimp only at *
 repeat (first|(refine aq h ?_;clear h;intro kb M h)|(refine au h ?_;clear h;intro M h)|refine St.to h ?_|(apply Exists.intro;(repeat apply Exists.intro);refine And.intro rfl ?_)|refine av ?_|refine ae ?_|refine ai ?_)
 refine aR.2 ⟨fun e => ?_, fun e => ?_⟩
 ·exact k1 (List.length_eq_zero_iff.1 (by omega)) _ (uX ok h)
 ·cases l with
  | nil => simp at e
  | cons v l =>
  have hv := h6 0 v rfl
  rw [Nat.add_zero, Nat.mod_eq_of_lt h4] at hv
  obtain ⟨b2, rfl⟩ := h.bF (A := A) (by omega) (by decide)
  have s0 := h.src (A := some ⟨b2, 0, none⟩)
  repeat (first|(refine aq h ?_;clear h;intro kb M h)|(refine au h ?_;clear h;intro M h)|refine St.to h ?_|(apply Exists.intro;(repeat apply Exists.intro);refine And.intro rfl ?_)|refine av ?_|refine ae ?_|refine ai ?_)
  simp only [Int.toNat_natCast]
  refine aZ (s0.at h (i := head) (j := 0) hv rfl (by simp [bB])) ?_
  repeat (first|(refine aq h ?_;clear h;intro kb M h)|(refine au h ?_;clear h;intro M h)|refine St.to h ?_|(apply Exists.intro;(repeat apply Exists.intro);refine And.intro rfl ?_)|refine av ?_|refine ae ?_|refine ai ?_)
  have e1 : IntKind.wrap .i64 ((head : Int) + 1) = ((head + 1 : Nat) : Int) := aV (by omega)
  rw [e1, ud] at h
  have e2 : IntKind.wrap .i64 ((((v :: l).length : Nat) : Int) - 1) = ((l.length : Nat) : Int) := by rw [fa (by simp only [List.length_cons]; omega) (by simp only [List.length_cons] at h5 ⊢; omega)]; simp
  rw [e2] at h
  have h5' : l.length + 1 ≤ room := by simpa using h5
  refine k2 v l rfl _ (uX (x := ⟨room, l⟩) (head := (head + 1) % room) (slots := slots) ⟨h1, h2, h3, Nat.mod_lt _ h2, by dsimp only; omega, fun i u hu => ?_⟩ (h.sub bD))
  dsimp only at hu ⊢
  have := h6 (i + 1) u (by simpa using hu)
  rw [Nat.mod_add_mod, ← this]
  congr 2; omega
theorem Cc {n : Int} (h : Hp R L M) [o : bY eU b L x L'] (k : ∀ A c M', Hp R (bO bB 3 A c (x.l.take n.toNat) :: az eU b ⟨x.room, x.l.drop n.toNat⟩ :: L') M' → K (.slice A (x.l.take n.toNat).length c) M') :
  aa Tryz.prog 182 #[.pointer (some ⟨b, 0, none⟩), .int .i64 n] M K Kp := by
 replace h := h.front eU b
 have hx : x.l.length ≤ 1024 := by
  obtain ⟨A, c, head, slots, ok, _⟩ := kG h (b := b)
  have := ok.2.2.1; have := ok.2.2.2.2.1; omega
 refine uG ⟨fun d ws M => ∃ (i : Nat) (A : Option Addr) (c : Nat), ws = [.slice A (x.l.take i).length c] ∧ d = n.toNat - i ∧ i ≤ n.toNat ∧ i ≤ x.l.length ∧
  Hp R (bO bB 3 A c (x.l.take i) :: az eU b ⟨x.room, x.l.drop i⟩ :: L') M, ⟨_, 0, none, 0, rfl, rfl, by omega, by omega, h.cz _ _⟩, ?_⟩
 clear h
 rintro d _ A n1 c M ⟨i, _, _, he, hd, hi, hil, h⟩
 simp only [List.cons.injEq, Value.slice.injEq, and_true, true_and] at he
 obtain ⟨rfl, rfl, rfl⟩ := he
 have hlen : (x.l.take i).length = i := by rw [List.length_take]; omega
 refine aM.2 ⟨fun hlt => ?_, fun hge => ?_⟩
 ·refine E5 h (fun e M' h' => ?_) fun v l e M' h' => ?_
  ·repeat (first|(refine aq h ?_;clear h;intro kb M h)|(refine au h ?_;clear h;intro M h)|refine St.to h ?_|(apply Exists.intro;(repeat apply Exists.intro);refine And.intro rfl ?_)|refine av ?_|refine ae ?_|refine ai ?_)
   have : x.l.length ≤ i := by
    have := congrArg List.length e; simp at this; omega
   rw [List.take_of_length_le this] at h' ⊢
   rw [List.drop_of_length_le this] at h'
   have h1 : x.l.take n.toNat = x.l := List.take_of_length_le (by omega)
   have h2 : x.l.drop n.toNat = [] := List.drop_of_length_le (by omega)
   rw [h1, h2] at k
   exact k _ _ _ h'.swap
  ·clear h
   have h := h'.swap
   clear h'
   dsimp only at e
   have hv : x.l[i]? = some v := by
    have := congrArg (fun l => l[0]?) e
    simpa using this
   have e3 : x.l.drop (i + 1) = l := by
    have := congrArg (List.drop 1) e
    simpa using this
   repeat (first|(refine aq h ?_;clear h;intro kb M h)|(refine au h ?_;clear h;intro M h)|refine St.to h ?_|(apply Exists.intro;(repeat apply Exists.intro);refine And.intro rfl ?_)|refine av ?_|refine ae ?_|refine ai ?_)
   refine h.bJ qI [v] rfl rfl (by simp; omega) ?_
   clear h
   intro A' c' M h
   repeat (first|(refine aq h ?_;clear h;intro kb M h)|(refine au h ?_;clear h;intro M h)|refine St.to h ?_|(apply Exists.intro;(repeat apply Exists.intro);refine And.intro rfl ?_)|refine av ?_|refine ae ?_|refine ai ?_)
   rw [← dD hv] at h ⊢
   have kW := (List.getElem?_eq_some_iff.1 hv).1
   refine ⟨n.toNat - (i + 1), by omega, i + 1, A', c', rfl, rfl, by omega, by omega, ?_⟩
   rw [e3]; exact h.sub bD
 ·obtain rfl : i = n.toNat := by omega
  exact k _ _ _ h
end
structure Loc where
 next : Int
 room : Nat
 l : List Int
def Loc.put (x : Loc) (v : Int) (g : List Int) : Loc × List Int × Nat :=
 if x.l.length < x.room then ({ x with l := x.l ++ [v] }, g, 0) else ({ x with l := x.l.drop (x.l.length / 2) }, g ++ (x.l.take (x.l.length / 2) ++ [v]), x.l.length / 2 + 1)
def Loc.ready (x : Loc) (v : Int) (g : List Int) : Loc × List Int × Nat := if x.next = -1 then ({ x with next := v }, g, 0) else ({ x with next := v } : Loc).put x.next g
def Loc.get (x : Loc) : Loc × Int := if x.next ≠ -1 then ({ x with next := -1 }, x.next) else match x.l with
 | [] => (x, -1)
 | v :: l => ({ x with l := l }, v)
def Loc.dO (x : Loc) (g : List Int) : Loc × List Int × Nat := if x.next = -1 then (x, g, 0) else ({ x with next := -1 } : Loc).put x.next g
def Loc.cZ (x : Loc) (g : List Int) (p : Int) : Nat := if p < 1 then 1 else min (g.length / p.toNat + 1) (x.room - x.l.length + 1)
def Loc.ee (x : Loc) (g : List Int) (p : Int) : Loc × List Int × Int := match g.take (x.cZ g p) with
 | [] => (x, g, -1)
 | v :: out => ({ x with l := x.l ++ out }, g.drop (x.cZ g p), v)
def Loc.fY (x f : Loc) : Nat := min (f.l.length - f.l.length / 2) (x.room - x.l.length + 1)
def Loc.c9 (x f : Loc) : Loc × Loc × Int := match f.l.take (x.fY f) with
 | [] => (x, { f with next := -1 }, f.next)
 | v :: out => ({ x with l := x.l ++ out }, { f with l := f.l.drop (x.fY f) }, v)
def Loc.Ok (x : Loc) : Prop := x.l.length ≤ x.room ∧ x.room ≤ 1024 ∧ 0 < x.room
def bK : sH Loc := ⟨fun b x => exs fun rb : Nat => sep [pt b [.int .i64 x.next, .pointer (some ⟨rb, 0, none⟩)] 237, az eU rb ⟨x.room, x.l⟩]⟩
structure SR (gb go : Nat) (P : Option Addr → Nat → Nat → HP) : Prop where
 Hq : ∀ (R : Mem) (L : List HP) (M : Mem) (A : Option Addr) (n c : Nat), Hp R (P A n c :: L) M → M.ld ⟨gb, go, none⟩ = some (.slice A n c)
 ZD : ∀ (R : Mem) (L : List HP) (M : Mem) (A A' : Option Addr) (n c n' c' : Nat) (G : Mem → Prop), Hp R (P A n c :: L) M → (∀ M', Hp R (P A' n' c' :: L) M' → G M') → aK M ⟨gb, go, none⟩ (.slice A' n' c') G
def gL (P : Option Addr → Nat → Nat → HP) (l : List Int) : HP := exs fun A : Option Addr => exs fun c : Nat => sep [P A l.length c, bO bB 3 A c l]
class tD (P : Option Addr → Nat → Nat → HP) (L : List HP) (g : outParam (List Int)) (L' : outParam (List HP)) : Prop where
 pick : cY L (gL P g) L'
instance tD.here {P : Option Addr → Nat → Nat → HP} {g : List Int} {L : List HP} : tD P (gL P g :: L) g L := ⟨.here⟩
instance (priority := low) tD.there {P : Option Addr → Nat → Nat → HP} {g : List Int} {Q : HP} {L L' : List HP} [h : tD P L g L'] : tD P (Q :: L) g (Q :: L') := ⟨.there h.pick⟩
section
variable {R : Mem} {L L' ou : List HP} {M : Mem} {K : Value → Mem → Prop} {Kp : List PanicEntry → Mem → Prop} {b gb go b' : Nat} {P : Option Addr → Nat → Nat → HP} {x f : Loc} {g : List Int}
theorem iR (h : Hp R L M) [o : bY bK b L x L'] : ∃ rb, Hp R (pt b [.int .i64 x.next, .pointer (some ⟨rb, 0, none⟩)] 237 :: az eU rb ⟨x.room, x.l⟩ :: L') M := by
 have := h.obj bK b
 simpa only [bK, Hp.di, Hp.aX, List.cons_append, List.nil_append] using this
theorem V9 {rb : Nat} (h : Hp R (pt b [.int .i64 x.next, .pointer (some ⟨rb, 0, none⟩)] 237 :: az eU rb ⟨x.room, x.l⟩ :: L) M) : Hp R (az bK b x :: L) M := by
 refine Hp.vL ?_
 simp only [bK, Hp.di, Hp.aX, List.cons_append, List.nil_append]
 exact ⟨_, h⟩
theorem cD {next : Int} {rb room : Nat} {l : List Int} {L1 L2 : List HP} (h : Hp R L M) (b : Nat) [p : kU b L [.int .i64 next, .pointer (some ⟨rb, 0, none⟩)] 237 L1] [o : bY eU rb L1 ⟨room, l⟩ L2] : Hp R (az bK b ⟨next, room, l⟩ :: L2) M :=
 V9 (h.sub (.cons p.pick (.cons o.pick .refl)))
theorem jr (h : Hp R L M) [o : tD P L g L'] : ∃ A c, Hp R (P A g.length c :: bO bB 3 A c g :: L') M := by
 have := h.pick o.pick
 simpa only [gL, Hp.di, Hp.aX, List.cons_append, List.nil_append] using this
theorem I0 {A : Option Addr} {c n : Nat} (h : Hp R (P A n c :: bO bB 3 A c g :: L) M) (e : n = g.length := by first | rfl | simp) : Hp R (gL P g :: L) M := by
 subst e
 simp only [gL, Hp.di, Hp.aX, List.cons_append, List.nil_append]
 exact ⟨_, _, h⟩
theorem Ra {rb : Nat} {r : Rg} (h : Hp R L M) [o : bY eU rb L r L'] : r.l.length ≤ r.room ∧ r.room ≤ 1024 ∧ 0 < r.room := by
 obtain ⟨A, c, head, slots, ok, _⟩ := kG h (b := rb)
 exact ⟨ok.2.2.2.2.1, ok.2.2.1, ok.2.1⟩
theorem wm (h : Hp R L M) [o : bY bK b L x L'] : x.Ok := by
 obtain ⟨rb, h2⟩ := iR h (b := b)
 exact Ra (rb := rb) h2
theorem Cd {room : Int} (h : Hp R L M) (k : ∀ b M', Hp R (az bK b ⟨-1, fR room, []⟩ :: L) M' → K (.pointer (some ⟨b, 0, none⟩)) M') : aa Tryz.prog 57 #[.int .i64 room] M K Kp := by
 refine C7 ?_
 refine Oh h ?_
 clear h
 intro rb M h
 repeat (first|(refine aq h ?_;clear h;intro kb M h)|(refine au h ?_;clear h;intro M h)|refine St.to h ?_|(apply Exists.intro;(repeat apply Exists.intro);refine And.intro rfl ?_)|refine av ?_|refine ae ?_|refine ai ?_)
 exact k _ _ (cD h kb)
theorem Hr (h : Hp R L M) [o : bY bK b L x L'] (k : K (.int .i64 x.next) M) : aa Tryz.prog 148 #[.pointer (some ⟨b, 0, none⟩)] M K Kp := by
 refine rL ?_
 have h' := iR h (b := b)
 clear h
 obtain ⟨rb, h⟩ := h'
 repeat (first|(refine aq h ?_;clear h;intro kb M h)|(refine au h ?_;clear h;intro M h)|refine St.to h ?_|(apply Exists.intro;(repeat apply Exists.intro);refine And.intro rfl ?_)|refine av ?_|refine ae ?_|refine ai ?_)
 exact k
theorem Hs (D : SR gb go P) (h : Hp R L M) [o : tD P L g L'] (k : K (.int .i64 (g.length : Int)) M) : aa Tryz.prog 202 #[.pointer (some ⟨gb, go, none⟩)] M K Kp := by
 refine rN ?_
 have h' := jr h (P := P)
 clear h
 obtain ⟨A, c, h⟩ := h'
 rw [D.Hq _ _ _ _ _ _ h]
 exact be k
theorem nV (D : SR gb go P) {B : Option Addr} {n c : Nat} {l : List Int} (h : Hp R L M) [o : tD P L g L'] (hB : Src R L' B (bB.cells l)) (hn : n = l.length) (hs : g.length + l.length ≤ 1000000000) (k : ∀ M', Hp R (gL P (g ++ l) :: L') M' → K (.tuple #[]) M') :
  aa Tryz.prog 58 #[.pointer (some ⟨gb, go, none⟩), .slice B n c] M K Kp := by
 refine rK ?_
 have h' := jr h (P := P)
 clear h
 obtain ⟨A, cg, h⟩ := h'
 rw [D.Hq _ _ _ _ _ _ h]
 refine be ?_
 refine h.J2 (A := A) (r := l) qI hB.cons.cons hn (by omega) ?_
 clear h
 intro A' c' M h
 refine be ?_
 refine D.ZD _ _ _ _ _ _ _ _ _ _ h.swap ?_
 clear h; intro M h
 exact k _ (I0 h)
theorem qg (D : SR gb go P) {n : Int} (h : Hp R L M) [o : tD P L g L'] (hs : g.length ≤ 1000000000) (k : ∀ A c M', Hp R (bO bB 3 A c (g.take n.toNat) :: gL P (g.drop n.toNat) :: L') M' → K (.slice A (g.take n.toNat).length c) M') :
  aa Tryz.prog 179 #[.pointer (some ⟨gb, go, none⟩), .int .i64 n] M K Kp := by
 refine pW ?_
 have h' := jr h (P := P)
 clear h
 obtain ⟨A, cg, h⟩ := h'
 have hcap := h.jH A
 have e : (if ((g.length : Nat) : Int) < (if (0 : Int) > n then 0 else n) then ((g.length : Nat) : Int) else (if (0 : Int) > n then 0 else n)) = ((min n.toNat g.length : Nat) : Int) := by split <;> split <;> omega
 have hq : g.take n.toNat = g.take (min n.toNat g.length) ∧ g.drop n.toNat = g.drop (min n.toNat g.length) := by
  rcases Nat.le_total n.toNat g.length with hl | hl
  ·rw [Nat.min_eq_left hl]; exact ⟨rfl, rfl⟩
  ·rw [Nat.min_eq_right hl, List.take_of_length_le hl, List.drop_of_length_le hl]; simp
 rw [hq.1, hq.2] at k
 have hql : min n.toNat g.length ≤ g.length := Nat.min_le_right ..
 rw [D.Hq _ _ _ _ _ _ h]
 refine be ?_
 rw [e]
 generalize min n.toNat g.length = q at *
 have el : (g.take q).length = q := by rw [List.length_take]; omega
 refine aq h ?_
 clear h; intro kb M h
 rw [D.Hq _ _ _ _ _ _ h.swap]
 refine be ?_
 simp only [Int.toNat_natCast, Nat.sub_zero]
 refine ⟨by omega, by omega, by omega, by omega, by omega, by omega, ?_⟩
 refine h.j7 bB qI (g.take q) (Src.pre1 (h.src (A := A)) hcap q) (by rw [el]) (by rw [el]; omega) ?_
 clear h
 intro A' c' M h
 refine be ?_
 refine aq h ?_
 clear h; intro kb2 M h
 replace h : Hp R (P A g.length cg :: bO bB 3 A cg g :: pt kb2 [] 3 :: bO bB 3 A' c' (g.take q) :: L') M := h.sub bD
 rw [D.Hq _ _ _ _ _ _ h]
 refine be ?_
 refine ⟨by omega, by omega, by omega, by omega, by omega, by omega, ?_⟩
 refine h.j7 bB qI (g.drop q) (Src.Q5 (h.src (A := A)) hcap q) (by rw [List.length_drop]) (by rw [List.length_drop]; omega) ?_
 clear h
 intro A2 c2 M h
 refine be ?_
 replace h : Hp R (P A g.length cg :: bO bB 3 A2 c2 (g.drop q) :: bO bB 3 A' c' (g.take q) :: L') M := h.sub bD
 refine D.ZD _ _ _ _ _ _ _ _ _ _ h ?_
 clear h; intro M h
 rw [← el]
 rw [el]
 exact k _ _ _ ((I0 (P := P) h).swap)
theorem Ce (D : SR gb go P) {v : Int} (h : Hp R L M) [o : bY bK b L x L'] [og : tD P L' g ou] (hs : g.length ≤ 100000000)
  (k : ∀ M', Hp R (az bK b (x.put v g).1 :: gL P (x.put v g).2.1 :: ou) M' → K (.int .i64 ((x.put v g).2.2 : Int)) M') :
  aa Tryz.prog 185 #[.pointer (some ⟨b, 0, none⟩), .int .i64 v, .pointer (some ⟨gb, go, none⟩)] M K Kp := by
 have bd := wm h (b := b)
 have h0 : Hp R (az bK b x :: gL P g :: ou) M := (h.pick o.pick).map fun _ hs => hs.tail (fun _ => bU.pick og.pick)
 clear h
 have h := h0
 clear h0
 refine tq ?_
 have h' := iR h (b := b)
 clear h
 obtain ⟨rb, h⟩ := h'
 repeat (first|(refine aq h ?_;clear h;intro kb M h)|(refine au h ?_;clear h;intro M h)|refine St.to h ?_|(apply Exists.intro;(repeat apply Exists.intro);refine And.intro rfl ?_)|refine av ?_|refine ae ?_|refine ai ?_)
 refine qJ h (fun e M' h' => ?_) fun e M' h' => ?_
 ·clear h
  have h := h'
  clear h'
  dsimp only at e
  have hp : x.put v g = ({ x with l := x.l.drop (x.l.length / 2) }, g ++ (x.l.take (x.l.length / 2) ++ [v]), x.l.length / 2 + 1) := by unfold Loc.put; rw [if_neg (by omega)]
  rw [hp] at k
  repeat (first|(refine aq h ?_;clear h;intro kb M h)|(refine au h ?_;clear h;intro M h)|refine St.to h ?_|(apply Exists.intro;(repeat apply Exists.intro);refine And.intro rfl ?_)|refine av ?_|refine ae ?_|refine ai ?_)
  refine uY h ?_
  repeat (first|(refine aq h ?_;clear h;intro kb M h)|(refine au h ?_;clear h;intro M h)|refine St.to h ?_|(apply Exists.intro;(repeat apply Exists.intro);refine And.intro rfl ?_)|refine av ?_|refine ae ?_|refine ai ?_)
  have e2 : IntKind.wrap .i64 (Int.tdiv (x.l.length : Int) 2) = ((x.l.length / 2 : Nat) : Int) := wn rfl (by have := bd.1; have := bd.2.1; omega)
  simp only [e2]
  refine Cc h ?_
  clear h
  intro A c M h
  simp only [Int.toNat_natCast] at h ⊢
  repeat (first|(refine aq h ?_;clear h;intro kb M h)|(refine au h ?_;clear h;intro M h)|refine St.to h ?_|(apply Exists.intro;(repeat apply Exists.intro);refine And.intro rfl ?_)|refine av ?_|refine ae ?_|refine ai ?_)
  have Xf : (x.l.take (x.l.length / 2)).length = x.l.length / 2 := by rw [List.length_take]; omega
  refine h.bJ qI [v] rfl rfl (by have := bd.2.1; have := bd.1; simp; omega) ?_
  clear h
  intro A' c' M h
  repeat (first|(refine aq h ?_;clear h;intro kb M h)|(refine au h ?_;clear h;intro M h)|refine St.to h ?_|(apply Exists.intro;(repeat apply Exists.intro);refine And.intro rfl ?_)|refine av ?_|refine ae ?_|refine ai ?_)
  replace h := h.sub (show Sub _ (gL P g :: bO bB 3 A' c' (x.l.take (x.l.length / 2) ++ [v]) :: az eU rb ⟨x.room, x.l.drop (x.l.length / 2)⟩ :: pt b [.int .i64 x.next, .pointer (some ⟨rb, 0, none⟩)] 237 :: ou) from bD)
  refine nV D h Src.row rfl (by have := bd.2.1; have := bd.1; simp; omega) ?_
  clear h
  intro M h
  repeat (first|(refine aq h ?_;clear h;intro kb M h)|(refine au h ?_;clear h;intro M h)|refine St.to h ?_|(apply Exists.intro;(repeat apply Exists.intro);refine And.intro rfl ?_)|refine av ?_|refine ae ?_|refine ai ?_)
  have e3 : (((x.l.take (x.l.length / 2) ++ [v]).length : Nat) : Int) = ((x.l.length / 2 + 1 : Nat) : Int) := by simp; omega
  rw [e3]
  exact k _ ((cD h b).sub bD)
 ·clear h
  have h := h'
  clear h'
  dsimp only at e
  have hp : x.put v g = ({ x with l := x.l ++ [v] }, g, 0) := by unfold Loc.put; rw [if_pos e]
  rw [hp] at k
  repeat (first|(refine aq h ?_;clear h;intro kb M h)|(refine au h ?_;clear h;intro M h)|refine St.to h ?_|(apply Exists.intro;(repeat apply Exists.intro);refine And.intro rfl ?_)|refine av ?_|refine ae ?_|refine ai ?_)
  exact k _ ((cD h b).sub bD)
theorem Dj (h : Hp R L M) [o : bY bK b L x L'] [og : tD P L' g ou] : Hp R (az bK b x :: gL P g :: ou) M := (h.pick o.pick).map fun _ hs => hs.tail (fun _ => bU.pick og.pick)
theorem E6 (D : SR gb go P) {v : Int} (h : Hp R L M) [o : bY bK b L x L'] [og : tD P L' g ou] (hs : g.length ≤ 100000000)
  (k : ∀ M', Hp R (az bK b (x.ready v g).1 :: gL P (x.ready v g).2.1 :: ou) M' → K (.int .i64 ((x.ready v g).2.2 : Int)) M') :
  aa Tryz.prog 152 #[.pointer (some ⟨b, 0, none⟩), .int .i64 v, .pointer (some ⟨gb, go, none⟩)] M K Kp := by
 replace h := Dj (P := P) h (b := b)
 refine pV ?_
 have h' := iR h (b := b)
 clear h
 obtain ⟨rb, h⟩ := h'
 repeat (first|(refine aq h ?_;clear h;intro kb M h)|(refine au h ?_;clear h;intro M h)|refine St.to h ?_|(apply Exists.intro;(repeat apply Exists.intro);refine And.intro rfl ?_)|refine av ?_|refine ae ?_|refine ai ?_)
 refine aR.2 ⟨fun e => ?_, fun e => ?_⟩
 ·have hp : x.ready v g = ({ x with next := v }, g, 0) := by unfold Loc.ready; rw [if_pos e]
  rw [hp] at k
  repeat (first|(refine aq h ?_;clear h;intro kb M h)|(refine au h ?_;clear h;intro M h)|refine St.to h ?_|(apply Exists.intro;(repeat apply Exists.intro);refine And.intro rfl ?_)|refine av ?_|refine ae ?_|refine ai ?_)
  exact k _ ((cD h b).sub bD)
 ·have hp : x.ready v g = ({ x with next := v } : Loc).put x.next g := by unfold Loc.ready; rw [if_neg e]
  rw [hp] at k
  replace h := cD h b
  refine Ce D h hs ?_
  clear h
  intro M h
  repeat (first|(refine aq h ?_;clear h;intro kb M h)|(refine au h ?_;clear h;intro M h)|refine St.to h ?_|(apply Exists.intro;(repeat apply Exists.intro);refine And.intro rfl ?_)|refine av ?_|refine ae ?_|refine ai ?_)
  exact k _ h
theorem Ht (D : SR gb go P) (h : Hp R L M) [o : bY bK b L x L'] [og : tD P L' g ou] (hs : g.length ≤ 100000000)
  (k : ∀ M', Hp R (az bK b (x.dO g).1 :: gL P (x.dO g).2.1 :: ou) M' → K (.int .i64 ((x.dO g).2.2 : Int)) M') :
  aa Tryz.prog 178 #[.pointer (some ⟨b, 0, none⟩), .pointer (some ⟨gb, go, none⟩)] M K Kp := by
 replace h := Dj (P := P) h (b := b)
 refine rM ?_
 have h' := iR h (b := b)
 clear h
 obtain ⟨rb, h⟩ := h'
 repeat (first|(refine aq h ?_;clear h;intro kb M h)|(refine au h ?_;clear h;intro M h)|refine St.to h ?_|(apply Exists.intro;(repeat apply Exists.intro);refine And.intro rfl ?_)|refine av ?_|refine ae ?_|refine ai ?_)
 refine aR.2 ⟨fun e => ?_, fun e => ?_⟩
 ·have hp : x.dO g = (x, g, 0) := by unfold Loc.dO; rw [if_pos e]
  rw [hp] at k
  exact k _ ((cD h b).sub bD)
 ·have hp : x.dO g = ({ x with next := -1 } : Loc).put x.next g := by unfold Loc.dO; rw [if_neg e]
  rw [hp] at k
  repeat (first|(refine aq h ?_;clear h;intro kb M h)|(refine au h ?_;clear h;intro M h)|refine St.to h ?_|(apply Exists.intro;(repeat apply Exists.intro);refine And.intro rfl ?_)|refine av ?_|refine ae ?_|refine ai ?_)
  replace h := cD h b
  refine Ce D h hs ?_
  clear h
  intro M h
  repeat (first|(refine aq h ?_;clear h;intro kb M h)|(refine au h ?_;clear h;intro M h)|refine St.to h ?_|(apply Exists.intro;(repeat apply Exists.intro);refine And.intro rfl ?_)|refine av ?_|refine ae ?_|refine ai ?_)
  exact k _ h
theorem Cf (h : Hp R L M) [o : bY bK b L x L']
  (k : ∀ t M', (x.get.2 = -1 → x.next = -1 → x.l = [] → t = false) → (x.next ≠ -1 ∨ x.l ≠ [] → t = true) → Hp R (az bK b x.get.1 :: L') M' → K (.tuple #[.int .i64 x.get.2, .bool t]) M') :
  aa Tryz.prog 149 #[.pointer (some ⟨b, 0, none⟩)] M K Kp := by
 refine tp ?_
 have h' := iR h (b := b)
 clear h
 obtain ⟨rb, h⟩ := h'
 obtain ⟨next, room, l⟩ := x
 dsimp only at h
 repeat (first|(refine aq h ?_;clear h;intro kb M h)|(refine au h ?_;clear h;intro M h)|refine St.to h ?_|(apply Exists.intro;(repeat apply Exists.intro);refine And.intro rfl ?_)|refine av ?_|refine ae ?_|refine ai ?_)
 refine eL.2 ⟨fun e => ?_, fun e => ?_⟩
 ·have hp : (Loc.mk next room l).get = (⟨-1, room, l⟩, next) := by unfold Loc.get; dsimp only; rw [if_pos e]
  rw [hp] at k
  repeat (first|(refine aq h ?_;clear h;intro kb M h)|(refine au h ?_;clear h;intro M h)|refine St.to h ?_|(apply Exists.intro;(repeat apply Exists.intro);refine And.intro rfl ?_)|refine av ?_|refine ae ?_|refine ai ?_)
  exact k true _ (fun _ h2 => absurd h2 e) (fun _ => rfl) ((cD h b).sub bD)
 ·repeat (first|(refine aq h ?_;clear h;intro kb M h)|(refine au h ?_;clear h;intro M h)|refine St.to h ?_|(apply Exists.intro;(repeat apply Exists.intro);refine And.intro rfl ?_)|refine av ?_|refine ae ?_|refine ai ?_)
  refine E5 h (fun e2 M' h' => ?_) fun v l2 e2 M' h' => ?_
  ·dsimp only at e2
   subst e2
   have hp : (Loc.mk next room []).get = (⟨next, room, []⟩, -1) := by unfold Loc.get; dsimp only; rw [if_neg (by simpa using e)]
   rw [hp] at k
   repeat (first|(refine aq h ?_;clear h;intro kb M h)|(refine au h ?_;clear h;intro M h)|refine St.to h ?_|(apply Exists.intro;(repeat apply Exists.intro);refine And.intro rfl ?_)|refine av ?_|refine ae ?_|refine ai ?_)
   exact k false _ (fun _ _ _ => rfl) (fun hx => by rcases hx with hx | hx; exact absurd e hx; exact absurd rfl hx) ((cD h' b).sub bD)
  ·dsimp only at e2
   subst e2
   have hp : (Loc.mk next room (v :: l2)).get = (⟨next, room, l2⟩, v) := by unfold Loc.get; dsimp only; rw [if_neg (by simpa using e)]
   rw [hp] at k
   repeat (first|(refine aq h ?_;clear h;intro kb M h)|(refine au h ?_;clear h;intro M h)|refine St.to h ?_|(apply Exists.intro;(repeat apply Exists.intro);refine And.intro rfl ?_)|refine av ?_|refine ae ?_|refine ai ?_)
   exact k true _ (fun _ _ hx => by simp at hx) (fun _ => rfl) ((cD h' b).sub bD)
end
section
variable {R : Mem} {L L' ou : List HP} {M : Mem} {K : Value → Mem → Prop} {Kp : List PanicEntry → Mem → Prop} {b gb go b' : Nat} {P : Option Addr → Nat → Nat → HP} {x f : Loc} {g : List Int}
theorem Wa {b b' T T' : Nat} {cs cs' : List Value} (h : Hp R (pt b cs T :: L) M) [p : kU b' L cs' T' L'] : b ≠ b' := by
 rintro rfl
 have h2 : Hp R (pt b cs T :: pt b cs' T' :: L') M := h.map fun _ hs => hs.tail fun _ => bU.pick p.pick
 obtain ⟨B, rfl, h1, X, Y, rfl, h2, hp, X2, Y2, rfl, h3, hp2, hs⟩ := h2
 unfold AF.pt at hp hp2
 rcases h2 b with h | h
 ·rw [hp] at h; cases h
 ·rw [Mem.union_left hp2] at h; cases h
theorem Wb {a : Addr} {b : Nat} {G : Bool → Prop} (hne : a.block ≠ b) (h1 : kL M a.block) (h2 : kL M b) (g : G false) : ptrEq M (some a) (some ⟨b, 0, none⟩) G :=
 ⟨fun e => absurd (by rw [e]) hne, fun _ => ⟨.inr ⟨h1, h2⟩, g⟩⟩
theorem E7 {b T : Nat} {cs : List Value} (h : Hp R L M) [p : kU b L cs T L'] : kL M b := ⟨_, _, (h.pick p.pick).BM⟩
theorem E8 (D : SR gb go P) {p : Int} (h : Hp R L M) [o : bY bK b L x L'] [og : tD P L' g ou] (hs : g.length ≤ 100000000) (hp9 : p < 9223372036854775808)
  (k : ∀ t M', ((x.ee g p).2.2 = -1 → g = [] → t = false) → (g ≠ [] → t = true) → Hp R (az bK b (x.ee g p).1 :: gL P (x.ee g p).2.1 :: ou) M' → K (.tuple #[.int .i64 (x.ee g p).2.2, .bool t]) M') :
  aa Tryz.prog 180 #[.pointer (some ⟨b, 0, none⟩), .pointer (some ⟨gb, go, none⟩), .int .i64 p] M K Kp := by
 have bd := wm h (b := b)
 obtain ⟨bd1, bd2, bd3⟩ := bd
 replace h := Dj (P := P) h (b := b)
 refine pX ?_
 have h' := iR h (b := b)
 clear h
 obtain ⟨rb, h⟩ := h'
 repeat (first|(refine aq h ?_;clear h;intro kb M h)|(refine au h ?_;clear h;intro M h)|refine St.to h ?_|(apply Exists.intro;(repeat apply Exists.intro);refine And.intro rfl ?_)|refine av ?_|refine ae ?_|refine ai ?_)
 refine Hs D h ?_
 repeat (first|(refine aq h ?_;clear h;intro kb M h)|(refine au h ?_;clear h;intro M h)|refine St.to h ?_|(apply Exists.intro;(repeat apply Exists.intro);refine And.intro rfl ?_)|refine av ?_|refine ae ?_|refine ai ?_)
 refine Cb h ?_
 repeat (first|(refine aq h ?_;clear h;intro kb M h)|(refine au h ?_;clear h;intro M h)|refine St.to h ?_|(apply Exists.intro;(repeat apply Exists.intro);refine And.intro rfl ?_)|refine av ?_|refine ae ?_|refine ai ?_)
 refine uY h ?_
 repeat (first|(refine aq h ?_;clear h;intro kb M h)|(refine au h ?_;clear h;intro M h)|refine St.to h ?_|(apply Exists.intro;(repeat apply Exists.intro);refine And.intro rfl ?_)|refine av ?_|refine ae ?_|refine ai ?_)
 dsimp only at *
 have hn0 : 1 ≤ x.cZ g p := by unfold Loc.cZ; generalize g.length / p.toNat = q; split <;> omega
 have Rb : x.l.length + (x.cZ g p - 1) ≤ x.room := by unfold Loc.cZ; generalize g.length / p.toNat = q; split <;> omega
 have key : ∀ n : Int, n.toNat = x.cZ g p → ∀ {Q : Prop}, Q → Q := fun _ _ _ q => q
 refine aM.2 ⟨fun SS => ?_, fun SS => ?_⟩
 ·have hn : (1 : Int).toNat = x.cZ g p := by unfold Loc.cZ; rw [if_pos SS]; rfl
  refine qg D h (by omega) ?_
  clear h
  intro A c M h
  rw [hn] at h ⊢
  repeat (first|(refine aq h ?_;clear h;intro kb M h)|(refine au h ?_;clear h;intro M h)|refine St.to h ?_|(apply Exists.intro;(repeat apply Exists.intro);refine And.intro rfl ?_)|refine av ?_|refine ae ?_|refine ai ?_)
  cases hg : g.take (x.cZ g p) with
  | nil =>
   have KJ : g = [] := by
    have := congrArg List.length hg
    rw [List.length_take, List.length_nil] at this
    exact List.length_eq_zero_iff.1 (by omega)
   have hp : x.ee g p = (x, g, -1) := by unfold Loc.ee; rw [hg]
   rw [hp] at k
   refine vJ rfl ?_
   have e3 : g.drop (x.cZ g p) = g := by rw [KJ]; simp
   rw [e3] at h
   exact k false _ (fun _ _ => rfl) (fun h1 => absurd KJ h1) ((cD h b).sub bD)
  | cons v out =>
   have hp : x.ee g p = ({ x with l := x.l ++ out }, g.drop (x.cZ g p), v) := by unfold Loc.ee; rw [hg]
   rw [hp] at k
   have WZ : out.length + 1 ≤ x.cZ g p := by
    have := congrArg List.length hg
    rw [List.length_take, List.length_cons] at this
    omega
   refine Gr (by simp; omega) ?_
   rw [hg] at h
   generalize g.drop (x.cZ g p) = g2 at *
   have ZE : g ≠ [] := by rintro rfl; simp at hg
   obtain ⟨A0, SU⟩ : ∃ A0, A0 = lF A 1 c 1 := ⟨_, rfl⟩
   have hcap := h.jH A
   rw [List.length_cons] at hcap
   simp only [Int.toNat_natCast, List.length_cons]
   repeat (first|(refine aq h ?_;clear h;intro kb M h)|(refine au h ?_;clear h;intro M h)|refine St.to h ?_|(apply Exists.intro;(repeat apply Exists.intro);refine And.intro rfl ?_)|refine av ?_|refine ae ?_|refine ai ?_)
   refine ⟨fun d ws M => ∃ i : Nat, ws = [.int .i64 (i : Int)] ∧ d = out.length - i ∧ i ≤ out.length ∧
    Hp R (bO bB 3 A c (v :: out) :: pt b [.int .i64 x.next, .pointer (some ⟨rb, 0, none⟩)] 237 :: az eU rb ⟨x.room, x.l ++ out.take i⟩ :: gL P g2 :: ou) M,
    ⟨_, 0, rfl, rfl, by omega, by rw [List.take_zero, List.append_nil]; exact h.sub bD⟩, ?_⟩
   clear h
   rintro d _ ii M ⟨i, he, hd, hi, h⟩
   simp only [List.cons.injEq, Value.int.injEq, and_true, true_and] at he
   subst he
   refine aM.2 ⟨fun hlt => ?_, fun hge => ?_⟩
   ·obtain ⟨w, hw⟩ := aP (l := out) (i := i) (by omega)
    have s0 := Src.Q5 (h.src (A := A)) (by rw [List.length_cons]; exact hcap) 1
    rw [← SU] at s0 ⊢
    rw [show (v :: out).drop 1 = out from rfl] at s0
    obtain ⟨b0, o0, rfl⟩ := s0.lI h (by omega) (by decide)
    repeat (first|(refine aq h ?_;clear h;intro kb M h)|(refine au h ?_;clear h;intro M h)|refine St.to h ?_|(apply Exists.intro;(repeat apply Exists.intro);refine And.intro rfl ?_)|refine av ?_|refine ae ?_|refine ai ?_)
    simp only [Int.toNat_natCast]
    refine aZ (s0.at h (i := i) (j := 0) hw rfl (by simp [bB])) ?_
    repeat (first|(refine aq h ?_;clear h;intro kb M h)|(refine au h ?_;clear h;intro M h)|refine St.to h ?_|(apply Exists.intro;(repeat apply Exists.intro);refine And.intro rfl ?_)|refine av ?_|refine ae ?_|refine ai ?_)
    refine qJ (v := w) h (fun e M' h' => ?_) fun e M' h' => ?_
    ·exfalso
     simp only [List.length_append, List.length_take] at e
     omega
    ·clear h
     have h := h'
     clear h'
     repeat (first|(refine aq h ?_;clear h;intro kb M h)|(refine au h ?_;clear h;intro M h)|refine St.to h ?_|(apply Exists.intro;(repeat apply Exists.intro);refine And.intro rfl ?_)|refine av ?_|refine ae ?_|refine ai ?_)
     rw [aV (by omega)]
     refine ⟨out.length - (i + 1), by omega, i + 1, rfl, rfl, by omega, ?_⟩
     rw [dD hw, ← List.append_assoc]
     exact h.sub bD
   ·obtain rfl : i = out.length := by omega
    rw [List.take_length] at h
    have s0 := h.src (A := A)
    obtain ⟨b0, rfl⟩ := h.bF (A := A) (by simp) (by decide)
    repeat (first|(refine aq h ?_;clear h;intro kb M h)|(refine au h ?_;clear h;intro M h)|refine St.to h ?_|(apply Exists.intro;(repeat apply Exists.intro);refine And.intro rfl ?_)|refine av ?_|refine ae ?_|refine ai ?_)
    refine aZ (s0.at h (i := 0) (j := 0) rfl rfl (by simp [bB])) ?_
    repeat (first|(refine aq h ?_;clear h;intro kb M h)|(refine au h ?_;clear h;intro M h)|refine St.to h ?_|(apply Exists.intro;(repeat apply Exists.intro);refine And.intro rfl ?_)|refine av ?_|refine ae ?_|refine ai ?_)
    exact k true _ (fun _ h1 => absurd h1 ZE) (fun _ => rfl) ((cD h b).sub bD)
 ·have hn : (if IntKind.wrap .i64 (IntKind.wrap .i64 ((x.room : Int) - (x.l.length : Int)) + 1) < IntKind.wrap .i64 (IntKind.wrap .i64 (Int.tdiv (g.length : Int) (if (1 : Int) > p then 1 else p)) + 1) then IntKind.wrap .i64 (IntKind.wrap .i64 ((x.room : Int) - (x.l.length : Int)) + 1) else IntKind.wrap .i64 (IntKind.wrap .i64 (Int.tdiv (g.length : Int) (if (1 : Int) > p then 1 else p)) + 1)).toNat = x.cZ g p := by
   obtain ⟨q, rfl⟩ := Int.eq_ofNat_of_zero_le (show 0 ≤ p by omega)
   have e1 : (if (1 : Int) > (q : Int) then 1 else (q : Int)) = (q : Int) := by split <;> omega
   rw [e1]
   have hd : g.length / q ≤ g.length := Nat.div_le_self ..
   have e2 : IntKind.wrap .i64 (Int.tdiv (g.length : Int) (q : Int)) = ((g.length / q : Nat) : Int) := wn rfl (by omega)
   rw [e2, aV (by omega), fa (n := (x.room : Int) - (x.l.length : Int)) (by omega) (by omega), fa (n := (x.room : Int) - (x.l.length : Int) + 1) (by omega) (by omega)]
   unfold Loc.cZ
   rw [if_neg SS, Int.toNat_natCast]
   generalize g.length / q = z at *
   split <;> omega
  revert hn
  generalize (if IntKind.wrap .i64 (IntKind.wrap .i64 ((x.room : Int) - (x.l.length : Int)) + 1) < IntKind.wrap .i64 (IntKind.wrap .i64 (Int.tdiv (g.length : Int) (if (1 : Int) > p then 1 else p)) + 1) then IntKind.wrap .i64 (IntKind.wrap .i64 ((x.room : Int) - (x.l.length : Int)) + 1) else IntKind.wrap .i64 (IntKind.wrap .i64 (Int.tdiv (g.length : Int) (if (1 : Int) > p then 1 else p)) + 1)) = n
  intro hn
  refine qg D h (by omega) ?_
  clear h
  intro A c M h
  rw [hn] at h ⊢
  repeat (first|(refine aq h ?_;clear h;intro kb M h)|(refine au h ?_;clear h;intro M h)|refine St.to h ?_|(apply Exists.intro;(repeat apply Exists.intro);refine And.intro rfl ?_)|refine av ?_|refine ae ?_|refine ai ?_)
  cases hg : g.take (x.cZ g p) with
  | nil =>
   have KJ : g = [] := by
    have := congrArg List.length hg
    rw [List.length_take, List.length_nil] at this
    exact List.length_eq_zero_iff.1 (by omega)
   have hp : x.ee g p = (x, g, -1) := by unfold Loc.ee; rw [hg]
   rw [hp] at k
   refine vJ rfl ?_
   have e3 : g.drop (x.cZ g p) = g := by rw [KJ]; simp
   rw [e3] at h
   exact k false _ (fun _ _ => rfl) (fun h1 => absurd KJ h1) ((cD h b).sub bD)
  | cons v out =>
   have hp : x.ee g p = ({ x with l := x.l ++ out }, g.drop (x.cZ g p), v) := by unfold Loc.ee; rw [hg]
   rw [hp] at k
   have WZ : out.length + 1 ≤ x.cZ g p := by
    have := congrArg List.length hg
    rw [List.length_take, List.length_cons] at this
    omega
   refine Gr (by simp; omega) ?_
   rw [hg] at h
   generalize g.drop (x.cZ g p) = g2 at *
   have ZE : g ≠ [] := by rintro rfl; simp at hg
   obtain ⟨A0, SU⟩ : ∃ A0, A0 = lF A 1 c 1 := ⟨_, rfl⟩
   have hcap := h.jH A
   rw [List.length_cons] at hcap
   simp only [Int.toNat_natCast, List.length_cons]
   repeat (first|(refine aq h ?_;clear h;intro kb M h)|(refine au h ?_;clear h;intro M h)|refine St.to h ?_|(apply Exists.intro;(repeat apply Exists.intro);refine And.intro rfl ?_)|refine av ?_|refine ae ?_|refine ai ?_)
   refine ⟨fun d ws M => ∃ i : Nat, ws = [.int .i64 (i : Int)] ∧ d = out.length - i ∧ i ≤ out.length ∧
    Hp R (bO bB 3 A c (v :: out) :: pt b [.int .i64 x.next, .pointer (some ⟨rb, 0, none⟩)] 237 :: az eU rb ⟨x.room, x.l ++ out.take i⟩ :: gL P g2 :: ou) M,
    ⟨_, 0, rfl, rfl, by omega, by rw [List.take_zero, List.append_nil]; exact h.sub bD⟩, ?_⟩
   clear h
   rintro d _ ii M ⟨i, he, hd, hi, h⟩
   simp only [List.cons.injEq, Value.int.injEq, and_true, true_and] at he
   subst he
   refine aM.2 ⟨fun hlt => ?_, fun hge => ?_⟩
   ·obtain ⟨w, hw⟩ := aP (l := out) (i := i) (by omega)
    have s0 := Src.Q5 (h.src (A := A)) (by rw [List.length_cons]; exact hcap) 1
    rw [← SU] at s0 ⊢
    rw [show (v :: out).drop 1 = out from rfl] at s0
    obtain ⟨b0, o0, rfl⟩ := s0.lI h (by omega) (by decide)
    repeat (first|(refine aq h ?_;clear h;intro kb M h)|(refine au h ?_;clear h;intro M h)|refine St.to h ?_|(apply Exists.intro;(repeat apply Exists.intro);refine And.intro rfl ?_)|refine av ?_|refine ae ?_|refine ai ?_)
    simp only [Int.toNat_natCast]
    refine aZ (s0.at h (i := i) (j := 0) hw rfl (by simp [bB])) ?_
    repeat (first|(refine aq h ?_;clear h;intro kb M h)|(refine au h ?_;clear h;intro M h)|refine St.to h ?_|(apply Exists.intro;(repeat apply Exists.intro);refine And.intro rfl ?_)|refine av ?_|refine ae ?_|refine ai ?_)
    refine qJ (v := w) h (fun e M' h' => ?_) fun e M' h' => ?_
    ·exfalso
     simp only [List.length_append, List.length_take] at e
     omega
    ·clear h
     have h := h'
     clear h'
     repeat (first|(refine aq h ?_;clear h;intro kb M h)|(refine au h ?_;clear h;intro M h)|refine St.to h ?_|(apply Exists.intro;(repeat apply Exists.intro);refine And.intro rfl ?_)|refine av ?_|refine ae ?_|refine ai ?_)
     rw [aV (by omega)]
     refine ⟨out.length - (i + 1), by omega, i + 1, rfl, rfl, by omega, ?_⟩
     rw [dD hw, ← List.append_assoc]
     exact h.sub bD
   ·obtain rfl : i = out.length := by omega
    rw [List.take_length] at h
    have s0 := h.src (A := A)
    obtain ⟨b0, rfl⟩ := h.bF (A := A) (by simp) (by decide)
    repeat (first|(refine aq h ?_;clear h;intro kb M h)|(refine au h ?_;clear h;intro M h)|refine St.to h ?_|(apply Exists.intro;(repeat apply Exists.intro);refine And.intro rfl ?_)|refine av ?_|refine ae ?_|refine ai ?_)
    refine aZ (s0.at h (i := 0) (j := 0) rfl rfl (by simp [bB])) ?_
    repeat (first|(refine aq h ?_;clear h;intro kb M h)|(refine au h ?_;clear h;intro M h)|refine St.to h ?_|(apply Exists.intro;(repeat apply Exists.intro);refine And.intro rfl ?_)|refine av ?_|refine ae ?_|refine ai ?_)
    exact k true _ (fun _ h1 => absurd h1 ZE) (fun _ => rfl) ((cD h b).sub bD)
theorem E9 (h : Hp R L M) [o : bY bK b L x L'] [of : bY bK b' L' f ou]
  (k : ∀ t M', ((x.c9 f).2.2 = -1 → f.l = [] → t = false) → ((x.c9 f).2.2 ≠ -1 ∨ f.l ≠ [] → t = true) → Hp R (az bK b (x.c9 f).1 :: az bK b' (x.c9 f).2.1 :: ou) M' → K (.tuple #[.int .i64 (x.c9 f).2.2, .bool t]) M') :
  aa Tryz.prog 151 #[.pointer (some ⟨b, 0, none⟩), .pointer (some ⟨b', 0, none⟩)] M K Kp := by
 have bd := wm h (b := b)
 obtain ⟨bd1, bd2, bd3⟩ := bd
 have h0 : Hp R (az bK b x :: az bK b' f :: ou) M := (h.pick o.pick).map fun _ hs => hs.tail (fun _ => bU.pick of.pick)
 clear h
 have h := h0
 clear h0
 have bdf := wm h (b := b')
 obtain ⟨bf1, bf2, bf3⟩ := bdf
 refine jx ?_
 have h' := iR h (b := b)
 clear h
 obtain ⟨rb, h⟩ := h'
 have h' := iR h (b := b')
 clear h
 obtain ⟨rf, h⟩ := h'
 have hne : b' ≠ b := Wa h
 refine Wb (Ne.symm hne) (E7 h (b := b)) (E7 h (b := b')) ?_
 repeat (first|(refine aq h ?_;clear h;intro kb M h)|(refine au h ?_;clear h;intro M h)|refine St.to h ?_|(apply Exists.intro;(repeat apply Exists.intro);refine And.intro rfl ?_)|refine av ?_|refine ae ?_|refine ai ?_)
 refine uY h ?_
 repeat (first|(refine aq h ?_;clear h;intro kb M h)|(refine au h ?_;clear h;intro M h)|refine St.to h ?_|(apply Exists.intro;(repeat apply Exists.intro);refine And.intro rfl ?_)|refine av ?_|refine ae ?_|refine ai ?_)
 dsimp only at *
 refine aR.2 ⟨fun e => ?_, fun e => ?_⟩
 ·have hl : f.l = [] := List.length_eq_zero_iff.1 (by omega)
  have hp : x.c9 f = (x, { f with next := -1 }, f.next) := by unfold Loc.c9; rw [hl, List.take_nil]
  rw [hp] at k
  repeat (first|(refine aq h ?_;clear h;intro kb M h)|(refine au h ?_;clear h;intro M h)|refine St.to h ?_|(apply Exists.intro;(repeat apply Exists.intro);refine And.intro rfl ?_)|refine av ?_|refine ae ?_|refine ai ?_)
  have h2 := cD (cD h b) b'
  exact k _ _ (fun h1 _ => by dsimp only at h1; rw [h1]; rfl) (fun h1 => by rcases h1 with h1 | h1; exact bne_iff_ne.2 h1; exact absurd hl h1) (h2.sub bD)
 ·have hn0 : 1 ≤ x.fY f := by unfold Loc.fY; omega
  have Rb : x.l.length + (x.fY f - 1) ≤ x.room := by unfold Loc.fY; omega
  repeat (first|(refine aq h ?_;clear h;intro kb M h)|(refine au h ?_;clear h;intro M h)|refine St.to h ?_|(apply Exists.intro;(repeat apply Exists.intro);refine And.intro rfl ?_)|refine av ?_|refine ae ?_|refine ai ?_)
  refine Cb h ?_
  repeat (first|(refine aq h ?_;clear h;intro kb M h)|(refine au h ?_;clear h;intro M h)|refine St.to h ?_|(apply Exists.intro;(repeat apply Exists.intro);refine And.intro rfl ?_)|refine av ?_|refine ae ?_|refine ai ?_)
  refine uY h ?_
  repeat (first|(refine aq h ?_;clear h;intro kb M h)|(refine au h ?_;clear h;intro M h)|refine St.to h ?_|(apply Exists.intro;(repeat apply Exists.intro);refine And.intro rfl ?_)|refine av ?_|refine ae ?_|refine ai ?_)
  dsimp only at *
  have hn : (if IntKind.wrap .i64 (IntKind.wrap .i64 ((x.room : Int) - (x.l.length : Int)) + 1) < IntKind.wrap .i64 ((f.l.length : Int) - IntKind.wrap .i64 (Int.tdiv (f.l.length : Int) 2)) then IntKind.wrap .i64 (IntKind.wrap .i64 ((x.room : Int) - (x.l.length : Int)) + 1) else IntKind.wrap .i64 ((f.l.length : Int) - IntKind.wrap .i64 (Int.tdiv (f.l.length : Int) 2))).toNat = x.fY f := by
   have e2 : IntKind.wrap .i64 (Int.tdiv (f.l.length : Int) 2) = ((f.l.length / 2 : Nat) : Int) := wn rfl (by omega)
   rw [e2, fa (n := (x.room : Int) - (x.l.length : Int)) (by omega) (by omega), fa (n := (x.room : Int) - (x.l.length : Int) + 1) (by omega) (by omega), fa (n := (f.l.length : Int) - ((f.l.length / 2 : Nat) : Int)) (by omega) (by omega)]
   unfold Loc.fY
   split <;> omega
  revert hn
  generalize (if IntKind.wrap .i64 (IntKind.wrap .i64 ((x.room : Int) - (x.l.length : Int)) + 1) < IntKind.wrap .i64 ((f.l.length : Int) - IntKind.wrap .i64 (Int.tdiv (f.l.length : Int) 2)) then IntKind.wrap .i64 (IntKind.wrap .i64 ((x.room : Int) - (x.l.length : Int)) + 1) else IntKind.wrap .i64 ((f.l.length : Int) - IntKind.wrap .i64 (Int.tdiv (f.l.length : Int) 2))) = n
  intro hn
  refine Cc h ?_
  clear h
  intro A c M h
  rw [hn] at h ⊢
  repeat (first|(refine aq h ?_;clear h;intro kb M h)|(refine au h ?_;clear h;intro M h)|refine St.to h ?_|(apply Exists.intro;(repeat apply Exists.intro);refine And.intro rfl ?_)|refine av ?_|refine ae ?_|refine ai ?_)
  cases hg : f.l.take (x.fY f) with
  | nil =>
   exfalso
   have := congrArg List.length hg
   rw [List.length_take, List.length_nil] at this
   omega
  | cons v out =>
   have hp : x.c9 f = ({ x with l := x.l ++ out }, { f with l := f.l.drop (x.fY f) }, v) := by unfold Loc.c9; rw [hg]
   rw [hp] at k
   have WZ : out.length + 1 ≤ x.fY f := by
    have := congrArg List.length hg
    rw [List.length_take, List.length_cons] at this
    omega
   dsimp only at h
   rw [hg] at h
   generalize f.l.drop (x.fY f) = f2 at *
   have ZE : f.l ≠ [] := by intro e0; rw [e0] at hg; simp at hg
   obtain ⟨A0, SU⟩ : ∃ A0, A0 = lF A 1 c 1 := ⟨_, rfl⟩
   have hcap := h.jH A
   rw [List.length_cons] at hcap
   simp only [Int.toNat_natCast, List.length_cons]
   repeat (first|(refine aq h ?_;clear h;intro kb M h)|(refine au h ?_;clear h;intro M h)|refine St.to h ?_|(apply Exists.intro;(repeat apply Exists.intro);refine And.intro rfl ?_)|refine av ?_|refine ae ?_|refine ai ?_)
   refine ⟨fun d ws M => ∃ i : Nat, ws = [.int .i64 (i : Int)] ∧ d = out.length - i ∧ i ≤ out.length ∧
    Hp R (bO bB 3 A c (v :: out) :: pt b [.int .i64 x.next, .pointer (some ⟨rb, 0, none⟩)] 237 :: az eU rb ⟨x.room, x.l ++ out.take i⟩ :: az eU rf ⟨f.room, f2⟩ :: pt b' [.int .i64 f.next, .pointer (some ⟨rf, 0, none⟩)] 237 :: ou) M,
    ⟨_, 0, rfl, rfl, by omega, by rw [List.take_zero, List.append_nil]; exact h.sub bD⟩, ?_⟩
   clear h
   rintro d _ ii M ⟨i, he, hd, hi, h⟩
   simp only [List.cons.injEq, Value.int.injEq, and_true, true_and] at he
   subst he
   refine aM.2 ⟨fun hlt => ?_, fun hge => ?_⟩
   ·obtain ⟨w, hw⟩ := aP (l := out) (i := i) (by omega)
    have s0 := Src.Q5 (h.src (A := A)) (by rw [List.length_cons]; exact hcap) 1
    rw [← SU] at s0 ⊢
    rw [show (v :: out).drop 1 = out from rfl] at s0
    obtain ⟨b0, o0, rfl⟩ := s0.lI h (by omega) (by decide)
    repeat (first|(refine aq h ?_;clear h;intro kb M h)|(refine au h ?_;clear h;intro M h)|refine St.to h ?_|(apply Exists.intro;(repeat apply Exists.intro);refine And.intro rfl ?_)|refine av ?_|refine ae ?_|refine ai ?_)
    simp only [Int.toNat_natCast]
    refine aZ (s0.at h (i := i) (j := 0) hw rfl (by simp [bB])) ?_
    repeat (first|(refine aq h ?_;clear h;intro kb M h)|(refine au h ?_;clear h;intro M h)|refine St.to h ?_|(apply Exists.intro;(repeat apply Exists.intro);refine And.intro rfl ?_)|refine av ?_|refine ae ?_|refine ai ?_)
    refine qJ (v := w) h (fun e M' h' => ?_) fun e M' h' => ?_
    ·exfalso
     simp only [List.length_append, List.length_take] at e
     omega
    ·clear h
     have h := h'
     clear h'
     repeat (first|(refine aq h ?_;clear h;intro kb M h)|(refine au h ?_;clear h;intro M h)|refine St.to h ?_|(apply Exists.intro;(repeat apply Exists.intro);refine And.intro rfl ?_)|refine av ?_|refine ae ?_|refine ai ?_)
     rw [aV (by omega)]
     refine ⟨out.length - (i + 1), by omega, i + 1, rfl, rfl, by omega, ?_⟩
     rw [dD hw, ← List.append_assoc]
     exact h.sub bD
   ·obtain rfl : i = out.length := by omega
    rw [List.take_length] at h
    have s0 := h.src (A := A)
    obtain ⟨b0, rfl⟩ := h.bF (A := A) (by simp) (by decide)
    repeat (first|(refine aq h ?_;clear h;intro kb M h)|(refine au h ?_;clear h;intro M h)|refine St.to h ?_|(apply Exists.intro;(repeat apply Exists.intro);refine And.intro rfl ?_)|refine av ?_|refine ae ?_|refine ai ?_)
    refine aZ (s0.at h (i := 0) (j := 0) rfl rfl (by simp [bB])) ?_
    repeat (first|(refine aq h ?_;clear h;intro kb M h)|(refine au h ?_;clear h;intro M h)|refine St.to h ?_|(apply Exists.intro;(repeat apply Exists.intro);refine And.intro rfl ?_)|refine av ?_|refine ae ?_|refine ai ?_)
    have h2 := cD (cD h b) b'
    exact k true _ (fun _ h1 => absurd h1 ZE) (fun _ => rfl) (h2.sub bD)
end
end Go.Proofs
namespace Go.AF
abbrev SL := List (Int × Int × Nat)
def zx (x : Int × Int × Nat) : MapEntry := ⟨.int .i64 x.1, .int .i64 x.2.1, x.2.2⟩
structure FW where
 l : SL
 ck : Nat
def ja (x : FW) : Obj := .map (x.l.map zx).toArray x.ck
def fZ : SL → Int → Option Int
 | [], _ => none
 | (k', v, _) :: l, k => if k = k' then some v else fZ l k
def tE : SL → Int → Int → Nat → SL
 | [], k, v, c => [(k, v, c)]
 | (k', w, b) :: l, k, v, c => if k = k' then (k, v, b) :: l else (k', w, b) :: tE l k v c
def xJ : SL → Int → SL
 | [], _ => []
 | (k', w, b) :: l, k => if k = k' then l else (k', w, b) :: xJ l k
def FW.put (x : FW) (k v : Int) : FW := ⟨tE x.l k v x.ck, if (fZ x.l k).isSome then x.ck else x.ck + 1⟩
def FW.del (x : FW) (k : Int) : FW := ⟨xJ x.l k, x.ck⟩
def xK (k : Int) : SL → Nat → Option (Nat × Value)
 | [], _ => none
 | (k', v, _) :: l, i => if k = k' then some (i, .int .i64 v) else xK k l (i + 1)
theorem zy {kd : IntKind} (k : Int) : ∀ (l : SL) (i : Nat), Instr.findNow (.int kd) (.int .i64 k) (l.map zx) i = some (xK k l i)
 | [], _ => rfl
 | (k', v, b) :: l, i => by
  simp only [List.map_cons, zx, Instr.findNow, Instr.sameNow, if_true, xK]
  by_cases h : k = k'
  ·simp [h]
  ·have : (k == k') = false := by simp [h]
   rw [this, if_neg h]
   exact zy k l (i + 1)
theorem qK {k : Int} : ∀ {l : SL} {i : Nat}, xK k l i = none → fZ l k = none ∧ (∀ v c, tE l k v c = l ++ [(k, v, c)]) ∧ xJ l k = l
 | [], _, _ => ⟨rfl, fun _ _ => rfl, rfl⟩
 | (k', w, b) :: l, i, h => by
  simp only [xK] at h
  split at h
  ·cases h
  ·rename_i e
   obtain ⟨h1, h2, h3⟩ := qK h
   exact ⟨by simp [fZ, e, h1], fun v c => by simp [tE, e, h2], by simp [xJ, e, h3]⟩
theorem qL {k : Int} {j : Nat} {w : Value} : ∀ {l : SL} {i : Nat}, xK k l i = some (j, w) → ∃ v n, fZ l k = some v ∧ w = .int .i64 v ∧ j = i + n ∧ (∃ b, l[n]? = some (k, v, b) ∧ ∀ v' c, tE l k v' c = l.set n (k, v', b)) ∧ xJ l k = l.eraseIdx n
 | [], _, h => by simp [xK] at h
 | (k', u, b) :: l, i, h => by
  simp only [xK] at h
  split at h
  ·rename_i e
   cases h
   subst e
   exact ⟨u, 0, by simp [fZ], rfl, by omega, ⟨b, by simp, fun v' c => by simp [tE]⟩, by simp [xJ]⟩
  ·rename_i e
   obtain ⟨v, n, h1, h2, h3, ⟨b', h4, h5⟩, h6⟩ := qL h
   exact ⟨v, n + 1, by simp [fZ, e, h1], h2, by omega, ⟨b', by simpa using h4, fun v' c => by simp [tE, e, h5]⟩, by simp [xJ, e, h6]⟩
theorem Oi {k v u : Int} {b : Nat} : ∀ {l : SL} {n : Nat}, l[n]? = some (k, u, b) → (l.map zx).modify n (fun e => { e with key := .int .i64 k, val := .int .i64 v }) = (l.set n (k, v, b)).map zx
 | [], _, h => by simp at h
 | x :: l, 0, h => by simp at h; subst h; rfl
 | x :: l, n + 1, h => by
  have := Oi (v := v) (l := l) (n := n) (by simpa using h)
  simp only [List.map_cons, List.modify_succ_cons, List.set_cons_succ, this]
theorem Oj : ∀ (l : SL) (n : Nat), (l.map zx).eraseIdx n = (l.eraseIdx n).map zx
 | [], _ => rfl
 | x :: l, 0 => rfl
 | x :: l, n + 1 => by simp only [List.map_cons, List.eraseIdx_cons_succ, Oj l n]
section
variable {R : Mem} {L L' : List HP} {M : Mem} {P : Program} {t kt et : TypeId} {r : Nat} {x : FW} {k v : Int} {kd : IntKind}
theorem zA {P : Program} {M : Mem} {l : SL} (hk : P.underlying kt = some (.int kd)) : bL P (Instr.findKey kt (.int .i64 k) (l.map zx)) M = some (xK k l 0) := by
 unfold Instr.findKey
 rw [aN, aI hk, Option.bind_some, zy]; rfl
theorem zB {P : Program} {α : Type} {M : Mem} {r : Nat} {x : FW} {f : Obj → Sem α} {K : α → Mem → Prop} {Kp : Value → Mem → Prop} (hb : M r = some (ja x)) (h : dy P (f (ja x)) M K Kp) : dy P (getObj r >>= f) M K Kp := by
 refine dF P _ _ ?_
 unfold getObj
 simp only [dy, hb, ja]
 exact h
theorem Rc {i : TypeInfo} {K : Value → Mem → Prop} {Kp : List PanicEntry → Mem → Prop} (h : Hp R L M) [p : zk r L (ja x) L'] (hu : P.underlying t = some (.map kt et)) (hk : P.underlying kt = some (.int kd)) (hi : P.info? et = some i) (hz : i.zero = some (.int .i64 0))
  (g : K (.tuple #[.int .i64 ((fZ x.l k).getD 0), .bool (fZ x.l k).isSome]) M) : aY P (Instr.lookup t (.map (some r)) (.int .i64 k) true) M K Kp := by
 have hb : M r = some (ja x) := (h.pick p.pick).BN
 unfold aY Instr.lookup
 refine aQ (aI hu M) ?_
 simp only
 refine dF P _ _ ?_
 refine zB hb ?_
 simp only [ja]
 refine aQ (x := ()) (iB hk) ?_
 refine aQ (zA hk) ?_
 cases ha : xK k x.l 0 with
 | none =>
  rw [(qK ha).1] at g
  simp only
  have Zy : bL P (zeroValue et) M = some (.int .i64 0) := by rw [jt]; simp [zeroOf, hi, hz]
  refine aQ Zy ?_
  refine aQ (x := (.int .i64 0, false)) rfl ?_
  exact g
 | some y =>
  obtain ⟨j, w⟩ := y
  obtain ⟨v, n, h1, h2, _⟩ := qL ha
  rw [h1] at g
  subst h2
  exact g
theorem Ol {o : Obj} (h : Hp R (ob r (ja x) :: L) M) : Hp R (ob r o :: L) (M.set r o) :=
 h.set (x := ja x) (fun A ha => by unfold ob at ha; exact ha) fun A ha => by unfold ob; exact eB
theorem uZ {o : Obj} {K : Mem → Prop} {Kp : Value → Mem → Prop} (hb : M r = some (ja x)) (hK : K (M.set r o)) : dy P (setObj r o) M (fun _ => K) Kp := by
 unfold setObj
 simp only [dy, hb, ja]
 exact hK
theorem Hu {K : Mem → Prop} {Kp : List PanicEntry → Mem → Prop} (h : Hp R L M) [p : zk r L (ja x) L'] (hu : P.underlying t = some (.map kt et)) (hk : P.underlying kt = some (.int kd))
  (g : ∀ M', Hp R (ob r (ja (x.put k v)) :: L') M' → K M') : bA P (Instr.mapUpdate t (.map (some r)) (.int .i64 k) (.int .i64 v)) M K Kp := by
 have h1 := h.pick p.pick
 have hb : M r = some (ja x) := h1.BN
 have fin : ∀ o, o = ja (x.put k v) → K (M.set r o) := fun o e => by subst e; exact g _ (Ol h1)
 unfold bA Instr.mapUpdate
 refine aQ (aI hu M) ?_
 simp only
 refine zB hb ?_
 simp only [ja]
 refine aQ (x := ()) (iB hk) ?_
 refine aQ (zA hk) ?_
 cases ha : xK k x.l 0 with
 | none =>
  obtain ⟨e1, e2, e3⟩ := qK ha
  simp only
  refine uZ hb (fin _ ?_)
  unfold ja FW.put
  rw [e1, e2]
  simp [zx]
 | some y =>
  obtain ⟨j, w⟩ := y
  obtain ⟨u, n, e1, e2, e3, ⟨b, e4, e5⟩, e6⟩ := qL ha
  simp only
  refine aQ (x := Value.int .i64 k) ?_ ?_
  ·have : (((x.l.map zx).toArray[j]?).map (·.key)).getD (.int .i64 k) = .int .i64 k := by
    rw [e3, Nat.zero_add]; simp [e4, zx]
   rw [this]
   unfold Instr.keyThatStays
   simp [Instr.sameBits]; rfl
  ·refine uZ hb (fin _ ?_)
   unfold ja FW.put
   rw [e1, e5, e3, Nat.zero_add]
   rw [← Oi (v := v) e4]
   simp [List.modify_toArray]
theorem Wc {K : Value → Mem → Prop} {Kp : List PanicEntry → Mem → Prop} {ty a2 : TypeId} (h : Hp R L M) [p : zk r L (ja x) L'] (hu : P.underlying t = some (.map kt et)) (hk : P.underlying kt = some (.int kd))
  (g : ∀ M', Hp R (ob r (ja (x.del k)) :: L') M' → K (.tuple #[]) M') : aY P (Builtin.delete_ #[t, a2] ty #[.map (some r), .int .i64 k]) M K Kp := by
 have h1 := h.pick p.pick
 have hb : M r = some (ja x) := h1.BN
 have fin : ∀ o, o = ja (x.del k) → K (.tuple #[]) (M.set r o) := fun o e => by subst e; exact g _ (Ol h1)
 unfold aY Builtin.delete_
 simp only [List.getElem?_toArray, List.getElem?_cons_zero, List.getElem?_cons_succ]
 refine aQ (aI hu M) ?_
 simp only
 refine dF P _ _ ?_
 refine zB hb ?_
 simp only [ja]
 refine aQ (x := ()) (iB hk) ?_
 refine aQ (zA hk) ?_
 cases ha : xK k x.l 0 with
 | none =>
  obtain ⟨e1, e2, e3⟩ := qK ha
  simp only
  refine dF P _ _ ?_
  refine uZ (P := P) (Kp := fun v M' => Kp [{ v, recovered := false }] M') hb ?_
  refine fin _ ?_
  unfold ja FW.del
  rw [e3]
 | some y =>
  obtain ⟨j, w⟩ := y
  obtain ⟨u, n, e1, e2, e3, ⟨b, e4, e5⟩, e6⟩ := qL ha
  simp only
  refine dF P _ _ ?_
  refine uZ (P := P) (Kp := fun v M' => Kp [{ v, recovered := false }] M') hb ?_
  refine fin _ ?_
  unfold ja FW.del
  rw [e6, e3, Nat.zero_add]
  simp [List.eraseIdx_toArray, Oj]
end
end Go.AF
namespace Go.Proofs
def Loc.all (x : Loc) : List Int := (if x.next = -1 then [] else [x.next]) ++ x.l
def jA (v : Int) : List Int := if 0 ≤ v then [v] else []
theorem Rd {xs : List Loc} {i : Nat} {x y : Loc} (a : Int) (h : xs[i]? = some x) : ((xs.set i y).flatMap Loc.all).count a + x.all.count a = (xs.flatMap Loc.all).count a + y.all.count a := by
 induction xs generalizing i with
 | nil => simp at h
 | cons z xs ih =>
  cases i with
  | zero => simp only [List.getElem?_cons_zero, Option.some.injEq] at h; subst h; simp only [List.set_cons_zero, List.flatMap_cons, List.count_append]; omega
  | succ i => have := ih (i := i) (by simpa using h); simp only [List.set_cons_succ, List.flatMap_cons, List.count_append]; omega
theorem Hv (a : Int) (l : List Int) (n : Nat) : (l.take n).count a + (l.drop n).count a = l.count a := by rw [← List.count_append, List.take_append_drop]
theorem I3 (x : Loc) (v : Int) (g : List Int) (a : Int) : (x.put v g).1.all.count a + (x.put v g).2.1.count a = x.all.count a + g.count a + [v].count a := by
 unfold Loc.put Loc.all
 have := Hv a x.l (x.l.length / 2)
 split <;> simp only [List.count_append] <;> omega
theorem Om (x : Loc) (v : Int) (hv : v ≠ -1) (a : Int) : (({ x with next := v } : Loc).all).count a + (if x.next = -1 then ([] : List Int) else [x.next]).count a = x.all.count a + [v].count a := by
 unfold Loc.all
 simp only [List.count_append, if_neg hv]; omega
theorem Dk (x : Loc) (a : Int) : (({ x with next := -1 } : Loc).all).count a + (if x.next = -1 then ([] : List Int) else [x.next]).count a = x.all.count a := by
 unfold Loc.all
 simp only [List.count_append, if_true, List.count_nil]; omega
theorem KK (x : Loc) (v : Int) (hv : v ≠ -1) (g : List Int) (a : Int) : (x.ready v g).1.all.count a + (x.ready v g).2.1.count a = x.all.count a + g.count a + [v].count a := by
 have h1 := Om x v hv a
 unfold Loc.ready
 split
 ·rename_i h; rw [if_pos h] at h1; simp only [List.count_nil] at h1; dsimp only; omega
 ·rename_i h; rw [if_neg h] at h1; rw [I3]; omega
theorem Fa (x : Loc) (g : List Int) (a : Int) : (x.dO g).1.all.count a + (x.dO g).2.1.count a = x.all.count a + g.count a := by
 have h1 := Dk x a
 unfold Loc.dO
 split
 ·rfl
 ·rename_i h; rw [if_neg h] at h1; rw [I3]; omega
def Loc.Pos (x : Loc) : Prop := -1 ≤ x.next ∧ ∀ v ∈ x.l, 0 ≤ v
theorem iS {v : Int} (h : 0 ≤ v) : jA v = [v] := if_pos h
theorem I7 (x : Loc) (hx : x.Pos) (a : Int) : x.get.1.all.count a + (jA x.get.2).count a = x.all.count a := by
 obtain ⟨h1, h2⟩ := hx
 have h3 := Dk x a
 unfold Loc.get
 split
 ·rename_i h; rw [if_neg h] at h3; rw [iS (show 0 ≤ x.next by omega)]; omega
 ·rename_i h
  split
  ·rfl
  ·rename_i v l e
   rw [iS (h2 v (by rw [e]; simp))]
   unfold Loc.all
   rw [e]
   simp only [List.count_append, List.count_cons, List.count_nil]; omega
theorem KL (x : Loc) (g : List Int) (hg : ∀ v ∈ g, 0 ≤ v) (p : Int) (a : Int) : (x.ee g p).1.all.count a + (x.ee g p).2.1.count a + (jA (x.ee g p).2.2).count a = x.all.count a + g.count a := by
 have h1 := Hv a g (x.cZ g p)
 unfold Loc.ee
 split
 ·rfl
 ·rename_i v out e
  rw [e] at h1
  rw [iS (hg v (List.mem_of_mem_take (by rw [e]; simp)))]
  unfold Loc.all
  simp only [List.count_append, List.count_cons, List.count_nil] at h1 ⊢; omega
theorem KM (x f : Loc) (hf : f.Pos) (hx : x.l.length ≤ x.room) (a : Int) : (x.c9 f).1.all.count a + (x.c9 f).2.1.all.count a + (jA (x.c9 f).2.2).count a = x.all.count a + f.all.count a := by
 obtain ⟨h1, h2⟩ := hf
 have h3 := Hv a f.l (x.fY f)
 have h4 := Dk f a
 unfold Loc.c9
 split
 ·rename_i e
  by_cases hn : f.next = -1
  ·have : jA f.next = [] := by unfold jA; rw [if_neg (by omega)]
   dsimp only
   rw [this]; rw [if_pos hn] at h4; simp only [List.count_nil] at h4 ⊢; omega
  ·dsimp only; rw [iS (by omega)]; rw [if_neg hn] at h4; omega
 ·rename_i v out e
  rw [e] at h3
  rw [iS (h2 v (List.mem_of_mem_take (by rw [e]; simp)))]
  unfold Loc.all
  simp only [List.count_append, List.count_cons, List.count_nil] at h3 ⊢; omega
theorem I8 {x : Loc} (hx : x.Pos) : (x.next = -1 ∧ x.l = [] ∧ x.get.2 = -1) ∨ ((x.next ≠ -1 ∨ x.l ≠ []) ∧ 0 ≤ x.get.2) := by
 obtain ⟨h1, h2⟩ := hx
 unfold Loc.get
 split
 ·rename_i h; exact .inr ⟨.inl h, by dsimp only; omega⟩
 ·rename_i h
  split
  ·rename_i e; exact .inl ⟨by omega, e, rfl⟩
  ·rename_i v l e; exact .inr ⟨.inr (by rw [e]; simp), h2 v (by rw [e]; simp)⟩
theorem Hw (x : Loc) (g : List Int) (p : Int) : 1 ≤ x.cZ g p := by unfold Loc.cZ; generalize g.length / p.toNat = q; split <;> omega
theorem Cg {x : Loc} {g : List Int} (hg : ∀ v ∈ g, 0 ≤ v) (p : Int) : (g = [] ∧ (x.ee g p).2.2 = -1) ∨ (g ≠ [] ∧ 0 ≤ (x.ee g p).2.2) := by
 have hn := Hw x g p
 unfold Loc.ee
 split
 ·rename_i e
  have := congrArg List.length e
  rw [List.length_take, List.length_nil] at this
  exact .inl ⟨List.length_eq_zero_iff.1 (by omega), rfl⟩
 ·rename_i v out e
  exact .inr ⟨by rintro rfl; simp at e, hg v (List.mem_of_mem_take (by rw [e]; simp))⟩
theorem Ch {x f : Loc} (hf : f.Pos) (hx : x.l.length ≤ x.room) : (f.l = [] ∧ (x.c9 f).2.2 = f.next) ∨ (f.l ≠ [] ∧ 0 ≤ (x.c9 f).2.2) := by
 obtain ⟨h1, h2⟩ := hf
 unfold Loc.c9
 split
 ·rename_i e
  have := congrArg List.length e
  rw [List.length_take, List.length_nil] at this
  unfold Loc.fY at this
  exact .inl ⟨List.length_eq_zero_iff.1 (by omega), rfl⟩
 ·rename_i v out e
  exact .inr ⟨by intro h; rw [h] at e; simp at e, h2 v (List.mem_of_mem_take (by rw [e]; simp))⟩
theorem On {x : Loc} (h : x.l.length ≤ x.room ∧ x.room ≤ 1024 ∧ 0 < x.room) (v : Int) (g : List Int) : (x.put v g).1.l.length ≤ (x.put v g).1.room ∧ (x.put v g).1.room ≤ 1024 ∧ 0 < (x.put v g).1.room := by
 unfold Loc.put; split
 ·dsimp only; simp only [List.length_append, List.length_singleton]; omega
 ·dsimp only; simp only [List.length_drop]; omega
theorem Oo {x : Loc} (h : x.l.length ≤ x.room ∧ x.room ≤ 1024 ∧ 0 < x.room) (v : Int) (g : List Int) : (x.ready v g).1.l.length ≤ (x.ready v g).1.room ∧ (x.ready v g).1.room ≤ 1024 ∧ 0 < (x.ready v g).1.room := by
 unfold Loc.ready; split
 ·exact h
 ·exact On (x := { x with next := v }) h _ _
theorem Re {x : Loc} (h : x.l.length ≤ x.room ∧ x.room ≤ 1024 ∧ 0 < x.room) (g : List Int) : (x.dO g).1.l.length ≤ (x.dO g).1.room ∧ (x.dO g).1.room ≤ 1024 ∧ 0 < (x.dO g).1.room := by
 unfold Loc.dO; split
 ·exact h
 ·exact On (x := { x with next := -1 }) h _ _
theorem Oq {x : Loc} (h : x.l.length ≤ x.room ∧ x.room ≤ 1024 ∧ 0 < x.room) : x.get.1.l.length ≤ x.get.1.room ∧ x.get.1.room ≤ 1024 ∧ 0 < x.get.1.room := by
 unfold Loc.get; split
 ·exact h
 ·split
  ·exact h
  ·rename_i e; dsimp only; rw [e, List.length_cons] at h; omega
theorem Ot {x : Loc} (h : x.l.length ≤ x.room ∧ x.room ≤ 1024 ∧ 0 < x.room) (g : List Int) (p : Int) : (x.ee g p).1.l.length ≤ (x.ee g p).1.room ∧ (x.ee g p).1.room ≤ 1024 ∧ 0 < (x.ee g p).1.room := by
 have Rb : x.l.length + (x.cZ g p - 1) ≤ x.room := by unfold Loc.cZ; generalize g.length / p.toNat = q; split <;> omega
 unfold Loc.ee; split
 ·exact h
 ·rename_i v out e
  have := congrArg List.length e
  rw [List.length_take, List.length_cons] at this
  dsimp only; simp only [List.length_append]; omega
theorem Ou {x f : Loc} (h : x.l.length ≤ x.room ∧ x.room ≤ 1024 ∧ 0 < x.room) (hf : f.l.length ≤ f.room ∧ f.room ≤ 1024 ∧ 0 < f.room) :
  ((x.c9 f).1.l.length ≤ (x.c9 f).1.room ∧ (x.c9 f).1.room ≤ 1024 ∧ 0 < (x.c9 f).1.room) ∧ ((x.c9 f).2.1.l.length ≤ (x.c9 f).2.1.room ∧ (x.c9 f).2.1.room ≤ 1024 ∧ 0 < (x.c9 f).2.1.room) := by
 have Rb : x.l.length + (x.fY f - 1) ≤ x.room := by unfold Loc.fY; omega
 unfold Loc.c9; split
 ·exact ⟨h, hf⟩
 ·rename_i v out e
  have := congrArg List.length e
  rw [List.length_take, List.length_cons] at this
  dsimp only; simp only [List.length_append, List.length_drop]; omega
end Go.Proofs
