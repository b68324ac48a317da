/- A part of proofs about one program. -/
import Derived.Test.YtnnlgknlialpmaaGreatZReplayToldAgg
import Derived.Test.YtnnlgknlialpmaaGreatZReplayTold1
set_option linter.unusedVariables false
namespace Go.AF
theorem wn {z : Int} {n : Nat} (e : z = (n : Int)) (h : n < 9223372036854775808) : IntKind.wrap .i64 z = (n : Int) := by rw [e]; exact lU h
theorem Src.row {α : Type} {E : gi α} {R : Mem} {L L' : List HP} {A : Option Addr} {T c : Nat} {l : List α} [hp : bZ A L α E T c l L'] : Src R L A (E.cells l) := fun M h => h.src (A := A) M h
theorem Src.pre1 {R : Mem} {L : List HP} {A : Option Addr} {c : Nat} {l : List Int} (hs : Src R L A (bq.cells l)) (hc : l.length ≤ c) (q : Nat) : Src R L (iO A 0 c 1) (bq.cells (l.take q)) := by
 have := (hs.drop (m := 0) (c := c) hc).Ly q
 rw [List.drop_zero] at this
 exact this
theorem Src.KU {R : Mem} {L : List HP} {A : Option Addr} {c : Nat} {l : List Int} (hs : Src R L A (bq.cells l)) (hc : l.length ≤ c) (q : Nat) : Src R L (iO A q c 1) (bq.cells (l.drop q)) := hs.drop hc
end Go.AF
namespace Go.AF
abbrev AL := List (Int × Value)
def cF : Nat → AL → List MapEntry
 | _, [] => []
 | i, (k, v) :: l => ⟨.int .i64 k, v, i⟩ :: cF (i + 1) l
def iX (l : AL) : Obj := .map (cF 0 l).toArray l.length
def qL (k : Int) : AL → Nat → Option (Nat × Value)
 | [], _ => none
 | (k', v) :: l, i => if k = k' then some (i, v) else qL k l (i + 1)
def w9 (l : AL) (k : Int) : Option Value := (qL k l 0).map (·.2)
def KV (l : AL) (k : Int) (v : Value) : AL := match qL k l 0 with
 | some (i, _) => l.set i (k, v)
 | none => l ++ [(k, v)]
theorem qM {kd : IntKind} (k : Int) : ∀ (l : AL) (i b : Nat), Instr.findNow (.int kd) (.int .i64 k) (cF b l) i = some (qL k l i)
 | [], _, _ => rfl
 | (k', v) :: l, i, b => by
  simp only [cF, Instr.findNow, Instr.sameNow, if_true, qL]
  by_cases h : k = k'
  ·simp [h]
  ·have : (k == k') = false := by simp [h]
   rw [this, if_neg h]
   exact qM k l (i + 1) (b + 1)
theorem D6 {k : Int} : ∀ {l : AL} {i j : Nat} {v : Value}, qL k l i = some (j, v) → i ≤ j ∧ l[j - i]? = some (k, v)
 | [], _, _, _, h => by simp [qL] at h
 | (k', v') :: l, i, j, v, h => by
  simp only [qL] at h
  split at h
  ·rename_i e; cases h; subst e; exact ⟨Nat.le_refl _, by simp⟩
  ·obtain ⟨h1, h2⟩ := D6 h
   refine ⟨by omega, ?_⟩
   rw [show j - i = (j - (i + 1)) + 1 from by omega, List.getElem?_cons_succ]; exact h2
theorem D7 : ∀ {l : AL} {i b : Nat} {k : Int} {v : Value}, l[i]? = some (k, v) → (cF b l)[i]? = some ⟨.int .i64 k, v, b + i⟩
 | [], _, _, _, _, h => by simp at h
 | (k', v') :: l, 0, b, k, v, h => by simp at h; obtain ⟨rfl, rfl⟩ := h; rfl
 | (k', v') :: l, i + 1, b, k, v, h => by
  have := D7 (b := b + 1) (show l[i]? = some (k, v) from by simpa using h)
  simp only [cF, List.getElem?_cons_succ, this]
  congr 2; omega
theorem AX : ∀ {l : AL} {i b : Nat} {k : Int} {v w : Value}, l[i]? = some (k, w) → (cF b l).modify i (fun e => { e with key := .int .i64 k, val := v }) = cF b (l.set i (k, v))
 | [], _, _, _, _, _, h => by simp at h
 | (k', v') :: l, 0, b, k, v, w, h => by simp at h; obtain ⟨rfl, rfl⟩ := h; rfl
 | (k', v') :: l, i + 1, b, k, v, w, h => by
  have := AX (b := b + 1) (v := v) (show l[i]? = some (k, w) from by simpa using h)
  simp only [cF, List.modify_succ_cons, List.set_cons_succ, this]
theorem AY : ∀ (l m : AL) (b : Nat), cF b (l ++ m) = cF b l ++ cF (b + l.length) m
 | [], m, b => by simp [cF]
 | (k, v) :: l, m, b => by simp only [List.cons_append, cF, AY l m (b + 1), List.length_cons]; congr 3; omega
def vv : AL → Int → Option Value
 | [], _ => none
 | (k', v) :: l, k => if k = k' then some v else vv l k
theorem AZ (k : Int) : ∀ (l : AL) (i : Nat), (qL k l i).map (·.2) = vv l k
 | [], _ => rfl
 | (k', v) :: l, i => by
  simp only [qL, vv]
  split
  ·rfl
  ·exact AZ k l (i + 1)
theorem KW (l : AL) (k : Int) : w9 l k = vv l k := AZ k l 0
theorem xU {k : Int} : ∀ {l : AL}, vv l k = none ↔ k ∉ l.map (·.1)
 | [] => by simp [vv]
 | (q, w) :: l => by
  have ih := xU (k := k) (l := l)
  simp only [vv, List.map_cons, List.mem_cons, not_or]
  by_cases h : k = q
  ·rw [if_pos h]; simp [h]
  ·rw [if_neg h]; simp [h, ih]
section
variable {R : Mem} {L L' : List HP} {M : Mem} {P : Program} {t kt et : TypeId} {r : Nat} {l : AL} {k : Int} {kd : IntKind}
class Ba (b : Nat) (L : List HP) (o : outParam Obj) (L' : outParam (List HP)) : Prop where
 pick : cv L (ob b o) L'
instance Ba.here {b : Nat} {o : Obj} {L : List HP} : Ba b (ob b o :: L) o L := ⟨.here⟩
instance (priority := low) Ba.there {b : Nat} {o : Obj} {Q : HP} {L L' : List HP} [h : Ba b L o L'] : Ba b (Q :: L) o (Q :: L') := ⟨.there h.pick⟩
theorem mF {P : Program} {M : Mem} {b : Bool} (hk : P.underlying kt = some (.int kd)) : br P (Instr.checkKey b 10000 kt (.int .i64 k)) M = some () := by
 unfold Instr.checkKey
 rw [aG, aC hk]; rfl
theorem pn {P : Program} {M : Mem} (hk : P.underlying kt = some (.int kd)) : br P (Instr.findKey kt (.int .i64 k) (cF 0 l)) M = some (qL k l 0) := by
 unfold Instr.findKey
 rw [aG, aC hk, Option.bind_some, qM]; rfl
theorem po {P : Program} {α : Type} {M : Mem} {r : Nat} {l : AL} {f : Obj → Sem α} {K : α → Mem → Prop} {Kp : Value → Mem → Prop} (hb : M r = some (iX l)) (h : cO P (f (iX l)) M K Kp) : cO P (getObj r >>= f) M K Kp := by
 refine eH P _ _ ?_
 unfold getObj
 simp only [cO, hb, iX]
 exact h
theorem Iy {z : Value} {i : TypeInfo} {K : Value → Mem → Prop} {Kp : List PanicEntry → Mem → Prop} (h : Hp R L M) [p : Ba r L (iX l) L'] (hu : P.underlying t = some (.map kt et)) (hk : P.underlying kt = some (.int kd)) (hi : P.info? et = some i) (hz : i.zero = some z)
  (g : K ((w9 l k).getD z) M) : bh P (Instr.lookup t (.map (some r)) (.int .i64 k) false) M K Kp := by
 have hb : M r = some (iX l) := (h.pick p.pick).GV
 unfold bh Instr.lookup
 refine aQ (aC hu M) ?_
 simp only
 refine eH P _ _ ?_
 refine po hb ?_
 simp only [iX]
 refine aQ (x := ()) (mF hk) ?_
 refine aQ (pn hk) ?_
 unfold w9 at g
 cases ha : qL k l 0 with
 | none =>
  rw [ha] at g
  simp only
  have hz0 : br P (zeroValue et) M = some z := by rw [iy]; simp [zeroOf, hi, hz]
  refine aQ hz0 ?_
  refine aQ (x := (z, false)) rfl ?_
  exact g
 | some x =>
  rw [ha] at g
  exact g
theorem s9 {v : Value} {K : Mem → Prop} {Kp : List PanicEntry → Mem → Prop} (h : Hp R L M) [p : Ba r L (iX l) L'] (hu : P.underlying t = some (.map kt et)) (hk : P.underlying kt = some (.int kd))
  (g : ∀ M', Hp R (ob r (iX (KV l k v)) :: L') M' → K M') : bJ P (Instr.mapUpdate t (.map (some r)) (.int .i64 k) v) M K Kp := by
 have h1 := h.pick p.pick
 have hb : M r = some (iX l) := h1.GV
 have fin : ∀ o, o = iX (KV l k v) → K (M.set r o) := fun o e => by
  subst e
  exact g _ (h1.set (x := iX l) (fun A ha => by unfold ob at ha; exact ha) fun A ha => by unfold ob; exact fq)
 unfold bJ Instr.mapUpdate
 refine aQ (aC hu M) ?_
 simp only
 refine po hb ?_
 simp only [iX]
 refine aQ (x := ()) (mF hk) ?_
 refine aQ (pn hk) ?_
 have KX : ∀ o : Obj, K (M.set r o) → cO P (setObj r o) M (fun _ => K) (fun v M' => Kp [{ v, recovered := false }] M') := fun o hK => by
  unfold setObj
  simp only [cO, hb, iX]
  exact hK
 cases ha : qL k l 0 with
 | none =>
  simp only
  refine KX _ (fin _ ?_)
  unfold KV iX
  rw [ha]
  simp only [List.push_toArray, List.length_append, List.length_singleton]
  rw [AY]; simp [cF]
 | some x =>
  obtain ⟨i, w⟩ := x
  obtain ⟨_, hw⟩ := D6 ha
  rw [Nat.sub_zero] at hw
  simp only
  have he := D7 (b := 0) hw
  refine aQ (x := Value.int .i64 k) ?_ ?_
  ·have : (((cF 0 l).toArray[i]?).map (·.key)).getD (.int .i64 k) = .int .i64 k := by simp [he]
   rw [this]
   unfold Instr.keyThatStays
   simp [Instr.sameBits]; rfl
  ·refine KX _ (fin _ ?_)
   unfold KV iX
   rw [ha]
   simp only [List.length_set]
   rw [← AX (v := v) hw]
   simp [List.modify_toArray]
end
end Go.AF
namespace Go.AF
theorem zi {P : Program} {t t' e ty : TypeId} {i : TypeInfo} {zv : Value} {A B : Option Addr} {n c m d : Nat} {l r : List Value} {M : Mem} {K : Value → Mem → Prop} {Kp : List PanicEntry → Mem → Prop}
  (hu : P.underlying t = some (.slice e)) (Lp : P.underlying t' = some (.slice e)) (hi : P.info? e = some i) (hz : i.zero = some zv) (hs : zv.cells.size = i.size)
  (Pr : Sl M A l) (hl : l.length = n * i.size) (hr : Sl M B r) (jr : r.length = m * i.size) (hc : c < n + m) (hb : (n + m) * i.bytes ≤ 140737488355328) (hby : 0 < i.bytes)
  (h : ∀ k c' M', M k = none → pD M' i.size e (some ⟨k, 0, none⟩) (n + m) c' (l ++ r) → j7 [] M M' → K (.slice (some ⟨k, 0, none⟩) (n + m) c') M') :
  bh P (Builtin.append_ #[t, t'] ty #[.slice A n c, .slice B m d]) M K Kp := by
 unfold bh Builtin.append_
 simp only [List.getElem?_toArray, List.getElem?_cons_zero, List.getElem?_cons_succ]
 refine aQ (aC hu M) ?_
 simp only
 refine aQ (dQ hi M) ?_
 refine aQ (aC Lp M) ?_
 refine aQ (x := false) rfl ?_
 refine aQ (x := m) rfl ?_
 simp only [Bool.not_false, if_true]
 rw [if_neg (by omega)]
 refine aQ (bX hi M) ?_
 rw [if_neg (by simp; omega)]
 refine aQ (bX hi M) ?_
 rw [if_neg (by have := growslice_fits (need := n + m) (old := c) (bytes := i.bytes) (by omega) hb; omega)]
 show ∀ q, _
 intro q
 have hcap : n + m ≤ Question.cut (.appendCap (n + m) c e) q := by simp only [Question.cut]; omega
 generalize Question.cut (.appendCap (n + m) c e) q = nc at hcap
 refine aQ (x := nc) rfl ?_
 refine aQ (bX hi M) ?_
 refine eH P _ _ ?_
 have room : ∀ (X : Prop) , X → cO P (askRoom (nc * i.bytes)) M (fun _ M' => M' = M) (fun _ _ => False) := by
  intro X _
  unfold askRoom
  split
  ·exact rfl
  ·exact rfl
 refine fN P _ (room True trivial) (fun _ M' Tq => ?_) (fun _ _ hf => hf.elim)
 subst Tq
 refine aQ (fu Pr hl) ?_
 refine aQ (fu hr jr) ?_
 refine aQ (x := zv) (by rw [iy]; simp [zeroOf, hi, hz]) ?_
 intro k hk
 refine h k nc _ hk ⟨by rw [List.length_append, hl, jr, Nat.add_mul], .inr ⟨k, _, rfl, fq, ?_, hcap, fun j hj => ?_⟩⟩ ((j7.refl _ _).set (.inr hk))
 ·simp only [Array.size_append, List.size_toArray, hl, jr]
  have : (Builtin.zeroCells zv.cells (nc - (n + m))).size = (nc - (n + m)) * i.size := by simp [Builtin.zeroCells, hs]
  rw [this, ← Nat.add_mul, ← Nat.add_mul]; congr 1; omega
 ·rw [Nat.add_mul] at hj
  rw [Array.getElem?_append_left (by simp [hl, jr]; omega)]
  simp
theorem Hp.KY {α : Type} {E : gi α} {R : Mem} {L L' : List HP} {M : Mem} {T : Nat} {P : Program} {t bytes ty d m k n c : Nat} {zero rc : List Value} {A : Option Addr} {l r : List α} {K : Value → Mem → Prop} {Kp : List PanicEntry → Mem → Prop}
  (h : Hp R L M) [hk : iF k L rc T L'] (hA : Src R L A (E.cells l)) (hn : n = l.length) (El : bn P t T E.z bytes zero) (he : rc = E.cells r) (hm : m = r.length) (hc : c < n + m) (hb : (l.length + r.length) * bytes ≤ 140737488355328)
  (g : ∀ b c' M', Hp R (b8 E T (some ⟨b, 0, none⟩) c' (l ++ r) :: L') M' → K (.slice (some ⟨b, 0, none⟩) (l ++ r).length c') M') :
  bh P (Builtin.append_ #[t, t] ty #[.slice A n c, .slice (some ⟨k, 0, none⟩) m d]) M K Kp := by
 subst hm; subst he; subst hn
 have hB : Sl M (some ⟨k, 0, none⟩) (E.cells r) := h.G0 hk.pick
 obtain ⟨hu, i, zv, hi, hs, hby, hz, rfl, hl, hpos⟩ := El
 refine zi hu hu hi hz (by rw [hs, ← hl]; simp) (hA M h) (by rw [hs]; exact E.cG) hB (by rw [hs]; exact E.cG) hc (by rw [hby]; exact hb) (by omega) fun b c' M' hbn ho vz => ?_
 have h2 : Hp R (b8 E T (some ⟨b, 0, none⟩) c' (l ++ r) :: L) M' := by
  have h3 : Hp R (fact True :: L) M := Hp.dZ.2 ⟨trivial, h⟩
  refine h3.change (D := []) (D' := [b]) (fun A hA x hx => by cases hx) vz (fun x hx => by simp only [List.mem_singleton] at hx; subst hx; exact .inr hbn) ?_
  unfold b8 own
  rw [List.length_append, E.mX]
  rw [hs] at ho
  have := ho.Cu
  simpa [wM] using this
 have := g b c' M' (h2.map fun _ hs => hs.tail fun _ hx => (bF.pick hk.pick hx).drop)
 rwa [List.length_append] at this
section
variable {R : Mem} {L L' : List HP} {M : Mem} {P : Program} {t kt et : TypeId} {r : Nat} {l : AL} {k : Int} {kd : IntKind}
theorem Fy {z : Value} {i : TypeInfo} {K : Value → Mem → Prop} {Kp : List PanicEntry → Mem → Prop} (h : Hp R L M) [p : Ba r L (iX l) L'] (hu : P.underlying t = some (.map kt et)) (hk : P.underlying kt = some (.int kd)) (hi : P.info? et = some i) (hz : i.zero = some z)
  (g : K (.tuple #[(w9 l k).getD z, .bool (w9 l k).isSome]) M) : bh P (Instr.lookup t (.map (some r)) (.int .i64 k) true) M K Kp := by
 have hb : M r = some (iX l) := (h.pick p.pick).GV
 unfold bh Instr.lookup
 refine aQ (aC hu M) ?_
 simp only
 refine eH P _ _ ?_
 refine po hb ?_
 simp only [iX]
 refine aQ (x := ()) (mF hk) ?_
 refine aQ (pn hk) ?_
 unfold w9 at g
 cases ha : qL k l 0 with
 | none =>
  rw [ha] at g
  simp only
  have hz0 : br P (zeroValue et) M = some z := by rw [iy]; simp [zeroOf, hi, hz]
  refine aQ hz0 ?_
  refine aQ (x := (z, false)) rfl ?_
  exact g
 | some x =>
  rw [ha] at g
  exact g
end
theorem Bb {C : Ctx} {g : Nat} {args : List Value} {M : Mem} {K : Value → Mem → Prop} {Kp : List PanicEntry → Mem → Prop} (hg : 1 < g ∧ g < C.ok) (h : aa C.P g args.toArray M K Kp) : gn C (.func (.func g) #[] #[]) args M K Kp := by
 unfold gn
 simp only
 rw [if_pos hg]
 simpa using h
theorem gB {z : Int} (h0 : 0 ≤ z) (h : z < 9223372036854775807) : IntKind.wrap .i64 (z + 1) = z + 1 := by
 obtain ⟨n, rfl⟩ := Int.eq_ofNat_of_zero_le h0
 have := lU (n := n + 1) (by omega)
 exact_mod_cast this
theorem Hp.CX {α : Type} {E : gi α} {R : Mem} {L : List HP} {M : Mem} {T c : Nat} {A : Option Addr} {l r : List α} {P : Program} {t bytes ty d m : Nat} {zero : List Value} {B : Option Addr} {K : Value → Mem → Prop} {Kp : List PanicEntry → Mem → Prop}
  (h : Hp R (b8 E T A c l :: L) M) (El : bn P t T E.z bytes zero) (hr : Sl M B (E.cells r)) (hm : m = r.length) (hb : (l.length + r.length) * bytes ≤ 140737488355328)
  (g : ∀ A' c' M', Hp R (b8 E T A' c' (l ++ r) :: L) M' → K (.slice A' (l ++ r).length c') M') :
  bh P (Builtin.append_ #[t, t] ty #[.slice A l.length c, .slice B m d]) M K Kp := by
 subst hm
 have h2 : Hp R (own E.z T A l.length c (E.cells l) :: L) M := by
  have := h; unfold b8 at this; exact this
 refine h2.append El hr E.cG E.jb hb fun A' c' M' h => ?_
 have := g A' c' M' (by unfold b8; rw [List.length_append, E.mX]; exact h)
 rwa [List.length_append] at this
theorem Hp.vA {α : Type} {E : gi α} {R : Mem} {L L' kN : List HP} {M : Mem} {T c n : Nat} {A : Option Addr} {l : List α} {P : Program} {t bytes ty k d m : Nat} {zero rc : List Value} {K : Value → Mem → Prop} {Kp : List PanicEntry → Mem → Prop}
  (h : Hp R L M) [ha : bZ A L α E T c l L'] [hk : iF k L' rc T kN] (El : bn P t T E.z bytes zero) (r : List α) (he : rc = E.cells r) (hn : n = l.length) (hm : m = r.length) (hb : (l.length + r.length) * bytes ≤ 140737488355328)
  (g : ∀ A' c' M', Hp R (b8 E T A' c' (l ++ r) :: kN) M' → K (.slice A' (n + m) c') M') :
  bh P (Builtin.append_ #[t, t] ty #[.slice A n c, .slice (some ⟨k, 0, none⟩) m d]) M K Kp := by
 subst hn
 refine h.bu (A := A) El r he hm hb fun A' c' M' h => ?_
 have := g A' c' M' h
 rwa [hm, ← List.length_append] at this
end Go.AF
namespace Go.Proofs
open Go.AF
set_option maxRecDepth 100000
set_option maxHeartbeats 1000000
attribute [local irreducible] aE cY gh cz ay fL az aF aX bh bJ aK
abbrev qN (A : Option Addr) (c : Nat) (l : List gm) : HP := b8 hJ 275 A c l
theorem Iz : bn Tryz.prog 226 275 11 88 (hJ.f ⟨0, 0, [], 0⟩) := bn.mk' (zv := .agg #[.int .i64 0, .int .i64 0, .int .i64 0, .int .i64 0, .int .i64 0, .int .i64 0, .int .i64 0, .int .i64 0, .int .i64 0, .int .i64 0, .int .i64 0]) (by kernel_rfl) (by kernel_rfl) rfl (by omega)
theorem gm.set_set {f : gm} {q u v : Int} : (f.set q u).set q v = f.set q v := by
 unfold gm.set
 congr 1
 apply List.map_congr_left
 intro i hi
 by_cases h : i = q.toNat
 ·rw [if_pos h, if_pos h]
 ·rw [if_neg h, if_neg h]
  simp [List.mem_range.1 hi, h]
section
variable {R : Mem} {L L' : List HP} {M : Mem} {K : Value → Mem → Prop} {Kp : List PanicEntry → Mem → Prop} {b i c : Nat} {l : List gm} {f : gm} {x : eD}
theorem qO {q : Int} {o : Nat} {G : Int → Prop} (h : Hp R L M) [p : bZ (some ⟨b, 0, none⟩) L gm hJ 275 c l L'] (hi : l[i]? = some f) (hq : bz q) (e : o = i * 11 + 2 + q.toNat) (g : G (f.bL q)) : aE (M.ld ⟨b, o, none⟩) .i64 G := by
 refine aW (Src.at (h.src (A := some ⟨b, 0, none⟩)) h (i := i) (j := 2 + q.toNat) hi (Na hq.1 hq.2) ?_) g
 show _ = 0 + (i * 11 + (2 + q.toNat)); omega
theorem sj {q v : Int} {o : Nat} {G : Mem → Prop} (h : Hp R L M) [p : bZ (some ⟨b, 0, none⟩) L gm hJ 275 c l L'] (hi : l[i]? = some f) (hq : bz q) (e : o = i * 11 + 2 + q.toNat)
  (k : ∀ M', Hp R (qN (some ⟨b, 0, none⟩) c (l.set i (f.set q v)) :: L') M' → G M') : aF M ⟨b, o, none⟩ (.int .i64 v) G := by
 obtain ⟨q0, q8⟩ := hq
 refine gp i (2 + q.toNat) h hi ?_ (Ka q0 q8) ?_ k
 ·show _ < 11; omega
 ·show _ = i * 11 + (2 + q.toNat); omega
theorem vB {o : Nat} {G : Int → Prop} (h : Hp R L M) [p : bZ (some ⟨b, 0, none⟩) L gm hJ 275 c l L'] (hi : l[i]? = some f) (e : o = i * 11 + 1) (g : G f.pc) : aE (M.ld ⟨b, o, none⟩) .i64 G := by
 refine aW (Src.at (h.src (A := some ⟨b, 0, none⟩)) h (i := i) (j := 1) hi rfl ?_) g
 show _ = 0 + (i * 11 + 1); omega
theorem vC {v : Int} {o : Nat} {G : Mem → Prop} (h : Hp R L M) [p : bZ (some ⟨b, 0, none⟩) L gm hJ 275 c l L'] (hi : l[i]? = some f) (e : o = i * 11 + 1)
  (k : ∀ M', Hp R (qN (some ⟨b, 0, none⟩) c (l.set i { f with pc := v }) :: L') M' → G M') : aF M ⟨b, o, none⟩ (.int .i64 v) G := by
 refine gp i 1 h hi (by show 1 < 11; omega) Nb ?_ k
 show _ = i * 11 + 1; omega
theorem fV {α : Type} {l : List α} {i : Nat} {u v : α} : (l.set i u).set i v = l.set i v := by simp
def RC : List Nat := [225, 226, 227, 228, 229, 230, 231, 232, 233]
theorem IA (h : Hp R L M) [p : bZ (some ⟨b, 0, none⟩) L gm hJ 275 c l L'] (hi : l[i]? = some f) (hx : x.ju) (n : Nat) (hn : x.op = (n : Int)) (h8 : n ≤ 8)
  (k : ∀ M', Hp R (qN (some ⟨b, 0, none⟩) c (l.set i (f.pure x)) :: L') M' → K (.tuple #[]) M') :
  aa Tryz.prog (RC.getD n 0) #[.pointer (some ⟨b, i * 11, none⟩), .agg #[.int .i64 x.op, .int .i64 x.a, .int .i64 x.b, .int .i64 x.c]] M K Kp := by
 obtain ⟨op, xa, xb, xc⟩ := x
 obtain ⟨o1, o2, o3⟩ := hx
 dsimp only at hn o1 o2 o3 k ⊢
 have hsame : l.set i f = l := by obtain ⟨hl, rfl⟩ := List.getElem?_eq_some_iff.1 hi; simp
 subst hn
 have hlt := (List.getElem?_eq_some_iff.1 hi).1
 obtain rfl | rfl | rfl | rfl | rfl | rfl | rfl | rfl | rfl : n = 0 ∨ n = 1 ∨ n = 2 ∨ n = 3 ∨ n = 4 ∨ n = 5 ∨ n = 6 ∨ n = 7 ∨ n = 8 := by omega
 ·refine oW ?_
  have e : f.pure ⟨((0 : Nat) : Int), xa, xb, xc⟩ = f := rfl
  rw [e, hsame] at k
  repeat (first|(refine aj h ?_;clear h;intro kb M h)|(refine ak h ?_;clear h;intro M h)|refine St.to h ?_|(apply Exists.intro;(repeat apply Exists.intro);refine And.intro rfl ?_)|refine aq ?_|refine af ?_|refine ai ?_)
  exact k _ ((h.row (some ⟨b, 0, none⟩)).bH)
 ·have ra : bz xa := o1 (by simp)
  refine jP ?_
  repeat (first|(refine aj h ?_;clear h;intro kb M h)|(refine ak h ?_;clear h;intro M h)|refine St.to h ?_|(apply Exists.intro;(repeat apply Exists.intro);refine And.intro rfl ?_)|refine aq ?_|refine af ?_|refine ai ?_)
  refine ⟨ra.1, ra.2, sj h hi ra rfl fun M h => ?_⟩
  exact k _ h.bH
 ·obtain ⟨ra, rb⟩ := o2 rfl
  refine nJ ?_
  repeat (first|(refine aj h ?_;clear h;intro kb M h)|(refine ak h ?_;clear h;intro M h)|refine St.to h ?_|(apply Exists.intro;(repeat apply Exists.intro);refine And.intro rfl ?_)|refine aq ?_|refine af ?_|refine ai ?_)
  refine ⟨rb.1, rb.2, qO h hi rb rfl ?_⟩
  refine ⟨ra.1, ra.2, sj h hi ra rfl fun M h => ?_⟩
  exact k _ h.bH
 ·obtain ⟨ra, rb, rc⟩ := o3 (by simp)
  refine oX ?_
  repeat (first|(refine aj h ?_;clear h;intro kb M h)|(refine ak h ?_;clear h;intro M h)|refine St.to h ?_|(apply Exists.intro;(repeat apply Exists.intro);refine And.intro rfl ?_)|refine aq ?_|refine af ?_|refine ai ?_)
  refine ⟨rb.1, rb.2, qO h hi rb rfl ?_⟩
  repeat (first|(refine aj h ?_;clear h;intro kb M h)|(refine ak h ?_;clear h;intro M h)|refine St.to h ?_|(apply Exists.intro;(repeat apply Exists.intro);refine And.intro rfl ?_)|refine aq ?_|refine af ?_|refine ai ?_)
  refine ⟨rc.1, rc.2, qO h hi rc rfl ?_⟩
  refine ⟨ra.1, ra.2, sj h hi ra rfl fun M h => ?_⟩
  exact k _ h.bH
 ·obtain ⟨ra, rb, rc⟩ := o3 (by simp)
  refine oY ?_
  repeat (first|(refine aj h ?_;clear h;intro kb M h)|(refine ak h ?_;clear h;intro M h)|refine St.to h ?_|(apply Exists.intro;(repeat apply Exists.intro);refine And.intro rfl ?_)|refine aq ?_|refine af ?_|refine ai ?_)
  refine ⟨rb.1, rb.2, qO h hi rb rfl ?_⟩
  repeat (first|(refine aj h ?_;clear h;intro kb M h)|(refine ak h ?_;clear h;intro M h)|refine St.to h ?_|(apply Exists.intro;(repeat apply Exists.intro);refine And.intro rfl ?_)|refine aq ?_|refine af ?_|refine ai ?_)
  refine ⟨rc.1, rc.2, qO h hi rc rfl ?_⟩
  refine ⟨ra.1, ra.2, sj h hi ra rfl fun M h => ?_⟩
  exact k _ h.bH
 ·obtain ⟨ra, rb, rc⟩ := o3 (by simp)
  refine oZ ?_
  repeat (first|(refine aj h ?_;clear h;intro kb M h)|(refine ak h ?_;clear h;intro M h)|refine St.to h ?_|(apply Exists.intro;(repeat apply Exists.intro);refine And.intro rfl ?_)|refine aq ?_|refine af ?_|refine ai ?_)
  refine ⟨rb.1, rb.2, qO h hi rb rfl ?_⟩
  repeat (first|(refine aj h ?_;clear h;intro kb M h)|(refine ak h ?_;clear h;intro M h)|refine St.to h ?_|(apply Exists.intro;(repeat apply Exists.intro);refine And.intro rfl ?_)|refine aq ?_|refine af ?_|refine ai ?_)
  refine ⟨rc.1, rc.2, qO h hi rc rfl ?_⟩
  refine ⟨ra.1, ra.2, sj h hi ra rfl fun M h => ?_⟩
  exact k _ h.bH
 ·obtain ⟨ra, rb, rc⟩ := o3 (by simp)
  refine nK ?_
  repeat (first|(refine aj h ?_;clear h;intro kb M h)|(refine ak h ?_;clear h;intro M h)|refine St.to h ?_|(apply Exists.intro;(repeat apply Exists.intro);refine And.intro rfl ?_)|refine aq ?_|refine af ?_|refine ai ?_)
  refine ⟨rb.1, rb.2, qO h hi rb rfl ?_⟩
  repeat (first|(refine aj h ?_;clear h;intro kb M h)|(refine ak h ?_;clear h;intro M h)|refine St.to h ?_|(apply Exists.intro;(repeat apply Exists.intro);refine And.intro rfl ?_)|refine aq ?_|refine af ?_|refine ai ?_)
  refine ⟨rc.1, rc.2, qO h hi rc rfl ?_⟩
  repeat (first|(refine aj h ?_;clear h;intro kb M h)|(refine ak h ?_;clear h;intro M h)|refine St.to h ?_|(apply Exists.intro;(repeat apply Exists.intro);refine And.intro rfl ?_)|refine aq ?_|refine af ?_|refine ai ?_)
  refine ⟨ra.1, ra.2, sj h hi ra rfl fun M h => ?_⟩
  have e : f.pure ⟨((6 : Nat) : Int), xa, xb, xc⟩ = f.set xa (if f.bL xb < f.bL xc then 1 else 0) := rfl
  rw [e] at k
  refine aH.2 ⟨fun hl => ?_, fun hl => ?_⟩
  ·rw [if_pos hl] at k
   repeat (first|(refine aj h ?_;clear h;intro kb M h)|(refine ak h ?_;clear h;intro M h)|refine St.to h ?_|(apply Exists.intro;(repeat apply Exists.intro);refine And.intro rfl ?_)|refine aq ?_|refine af ?_|refine ai ?_)
   have Is : (l.set i (f.set xa 0))[i]? = some (f.set xa 0) := by simp [hlt]
   refine ⟨ra.1, ra.2, sj h Is ra rfl fun M h => ?_⟩
   rw [fV, gm.set_set] at h
   exact k _ h.bH
  ·rw [if_neg hl] at k
   exact k _ h.bH
 ·refine nL ?_
  repeat (first|(refine aj h ?_;clear h;intro kb M h)|(refine ak h ?_;clear h;intro M h)|refine St.to h ?_|(apply Exists.intro;(repeat apply Exists.intro);refine And.intro rfl ?_)|refine aq ?_|refine af ?_|refine ai ?_)
  refine vC h hi rfl fun M h => ?_
  exact k _ h.bH
 ·have ra : bz xa := o1 (by simp)
  refine lj ?_
  repeat (first|(refine aj h ?_;clear h;intro kb M h)|(refine ak h ?_;clear h;intro M h)|refine St.to h ?_|(apply Exists.intro;(repeat apply Exists.intro);refine And.intro rfl ?_)|refine aq ?_|refine af ?_|refine ai ?_)
  have e : f.pure ⟨((8 : Nat) : Int), xa, xb, xc⟩ = if f.bL xa ≠ 0 then { f with pc := xb } else f := rfl
  rw [e] at k
  refine ⟨ra.1, ra.2, qO h hi ra rfl ?_⟩
  refine bM.2 ⟨fun hl => ?_, fun hl => ?_⟩
  ·rw [if_pos hl] at k
   repeat (first|(refine aj h ?_;clear h;intro kb M h)|(refine ak h ?_;clear h;intro M h)|refine St.to h ?_|(apply Exists.intro;(repeat apply Exists.intro);refine And.intro rfl ?_)|refine aq ?_|refine af ?_|refine ai ?_)
   refine vC h hi rfl fun M h => ?_
   exact k _ h.bH
  ·rw [if_neg (by simpa using hl), hsame] at k
   exact k _ ((h.row (some ⟨b, 0, none⟩)).bH)
def KZ : AL := (List.range 9).map fun n : Nat => ((n : Int), .func (.func (RC.getD n 0)) #[] #[])
theorem Bc (h : Hp R L M) (k : ∀ m M', Hp R (ob m (iX KZ) :: L) M' → K (.map (some m)) M') : aa Tryz.prog 203 #[] M K Kp := by
 refine uX ?_
 refine Lw h ?_
 clear h
 intro m M h
 replace h : Hp R (ob m (iX []) :: L) M := h
 have hu : Tryz.prog.underlying 361 = some (.map 25 359) := by kernel_rfl
 have hk : Tryz.prog.underlying 25 = some (.int .i64) := by kernel_rfl
 iterate 9
  refine s9 h hu hk ?_
  clear h
  intro M h
 exact k _ _ h
theorem CY (h : Hp R L M) [p : bZ (some ⟨b, 0, none⟩) L gm hJ 275 c l L'] (hi : l[i]? = some f) (hx : x.ju) (h0 : 0 ≤ x.op) (hs : 0 ≤ f.pc ∧ f.pc < 1000000000)
  (k1 : x.op ≤ 8 → ∀ M', Hp R (qN (some ⟨b, 0, none⟩) c (l.set i (f.next.pure x)) :: L') M' → K (.bool true) M')
  (k2 : 8 < x.op → ∀ M', Hp R (qN (some ⟨b, 0, none⟩) c l :: L') M' → K (.bool false) M') :
  aa Tryz.prog 190 #[.pointer (some ⟨b, i * 11, none⟩), .agg #[.int .i64 x.op, .int .i64 x.a, .int .i64 x.b, .int .i64 x.c]] M K Kp := by
 have hlt := (List.getElem?_eq_some_iff.1 hi).1
 obtain ⟨q, hq⟩ := Int.eq_ofNat_of_zero_le h0
 refine nx ?_
 repeat (first|(refine aj h ?_;clear h;intro kb M h)|(refine ak h ?_;clear h;intro M h)|refine St.to h ?_|(apply Exists.intro;(repeat apply Exists.intro);refine And.intro rfl ?_)|refine aq ?_|refine af ?_|refine ai ?_)
 refine Bc h ?_
 clear h
 intro m M h
 repeat (first|(refine aj h ?_;clear h;intro kb M h)|(refine ak h ?_;clear h;intro M h)|refine St.to h ?_|(apply Exists.intro;(repeat apply Exists.intro);refine And.intro rfl ?_)|refine aq ?_|refine af ?_|refine ai ?_)
 have hu : Tryz.prog.underlying 361 = some (.map 25 359) := by kernel_rfl
 have hk : Tryz.prog.underlying 25 = some (.int .i64) := by kernel_rfl
 obtain ⟨ti, SU, htz⟩ : ∃ ti, Tryz.prog.info? 359 = some ti ∧ ti.zero = some .nilFunc := ⟨_, rfl, rfl⟩
 refine Fy h hu hk SU htz ?_
 refine ⟨_, _, rfl, cH h, ?_⟩
 by_cases h8 : x.op ≤ 8
 ·have hq8 : q ≤ 8 := by omega
  have hl : w9 KZ x.op = some (.func (.func (RC.getD q 0)) #[] #[]) := by
   rw [hq]
   obtain rfl | rfl | rfl | rfl | rfl | rfl | rfl | rfl | rfl : q = 0 ∨ q = 1 ∨ q = 2 ∨ q = 3 ∨ q = 4 ∨ q = 5 ∨ q = 6 ∨ q = 7 ∨ q = 8 := by omega
   all_goals rfl
  rw [hl]
  refine af ?_
  refine vB h hi rfl ?_
  rw [gB (by omega) (by omega)]
  refine vC h hi rfl ?_
  clear h
  intro M h
  have Is : (l.set i { f with pc := f.pc + 1 })[i]? = some f.next := by simp [hlt, gm.next]
  repeat (first|(refine aj h ?_;clear h;intro kb M h)|(refine ak h ?_;clear h;intro M h)|refine St.to h ?_|(apply Exists.intro;(repeat apply Exists.intro);refine And.intro rfl ?_)|refine aq ?_|refine af ?_|refine ai ?_)
  have hg : 1 < RC.getD q 0 ∧ RC.getD q 0 < Cx.ok := by
   obtain rfl | rfl | rfl | rfl | rfl | rfl | rfl | rfl | rfl : q = 0 ∨ q = 1 ∨ q = 2 ∨ q = 3 ∨ q = 4 ∨ q = 5 ∨ q = 6 ∨ q = 7 ∨ q = 8 := by omega
   all_goals exact ⟨by decide, by show _ < 255; decide⟩
  refine Bb hg ?_
  refine IA (f := f.next) h Is hx q hq hq8 ?_
  clear h
  intro M h
  rw [fV] at h
  exact ⟨rfl, k1 h8 _ h.bH⟩
 ·have hl : w9 KZ x.op = none := by
   rw [KW, xU]
   have : KZ.map (·.1) = [0, 1, 2, 3, 4, 5, 6, 7, 8] := by decide
   rw [this]; simp; omega
  rw [hl]
  refine ai ?_
  exact k2 (by omega) _ ((h.row (some ⟨b, 0, none⟩)).bH)
end
section
variable {R : Mem} {L L' : List HP} {M : Mem} {K : Value → Mem → Prop} {Kp : List PanicEntry → Mem → Prop} {b i c : Nat} {l : List gm} {f : gm} {x : eD}
theorem jT {m : Nat} (hm : 0 < m) (h2 : m ≤ 1000000000) (k : K (.pointer (some ⟨b, (m - 1) * 11, none⟩)) M) : aa Tryz.prog 189 #[.slice (some ⟨b, 0, none⟩) m c] M K Kp := by
 refine oR ?_
 have e : IntKind.wrap .i64 ((m : Int) - 1) = ((m - 1 : Nat) : Int) := wn (by omega) (by omega)
 refine bB.2 ⟨fun h0 => by omega, fun _ => ?_⟩
 rw [e]
 refine ⟨by omega, by omega, aS ?_⟩
 simp only [Int.toNat_natCast, Nat.zero_add]
 exact k
theorem mG {fn v : Int} (h : Hp R L M) (k : ∀ b M', Hp R (qN (some ⟨b, 0, none⟩) 1 [gm.begin fn v] :: L) M' → K (.slice (some ⟨b, 0, none⟩) 1 1) M') : aa Tryz.prog 112 #[.int .i64 fn, .int .i64 v] M K Kp := by
 refine uV ?_
 refine aj h ?_
 clear h
 intro b M h
 exact k b M (h.oG (E := hJ) (l := [gm.begin fn v]) rfl)
theorem CZ {fn v qk : Int} {A : Option Addr} (h : Hp R L M) [p : bZ A L gm hJ 275 c l L'] (hl : 0 < l.length)
  (k1 : 16 ≤ l.length → K (.tuple #[.slice A l.length c, .bool false]) M)
  (k2 : l.length < 16 → ∀ b c' M', Hp R (qN (some ⟨b, 0, none⟩) c' (l ++ [⟨fn, 0, [v, 0, 0, 0, 0, 0, 0, 0], qk⟩]) :: L) M' → K (.tuple #[.slice (some ⟨b, 0, none⟩) (l.length + 1) c', .bool true]) M') :
  aa Tryz.prog 241 #[.slice A l.length c, .int .i64 fn, .int .i64 v, .int .i64 qk] M K Kp := by
 refine nO ?_
 have hcap := h.gT A
 refine aH.2 ⟨fun PI => k1 (by omega), fun PI => ?_⟩
 refine ⟨by omega, by omega, by omega, by omega, by omega, by omega, ?_⟩
 refine aj h ?_
 clear h
 intro kb M h
 simp only [Int.toNat_natCast, Nat.sub_zero]
 have e : iO A 0 l.length 11 = A := by
  obtain ⟨bb, rfl⟩ := h.bj (A := A) hl (by decide)
  unfold iO
  rw [if_neg (by omega)]
  rfl
 rw [e]
 refine Hp.KY (E := hJ) (r := [⟨fn, 0, [v, 0, 0, 0, 0, 0, 0, 0], qk⟩]) h (h.src (A := A)) rfl Iz rfl rfl (by omega) (by simp; omega) ?_
 clear h
 intro b c' M h
 refine aY ?_
 have := k2 (by omega) b c' M h
 rwa [List.length_append]
theorem zj {v : Int} {A : Option Addr} (h : Hp R L M) [p : bZ A L gm hJ 275 c l L'] (hl : 0 < l.length) (hs : l.length ≤ 1000000)
  (RD : l[l.length - 1]? = some f) (hin : bz f.qk)
  (k1 : l.length < 2 → K (.tuple #[.slice none 0 0, .bool false]) M)
  (k2 : 2 ≤ l.length → ∀ b c' M', ∀ g, l[l.length - 2]? = some g → Hp R (qN (some ⟨b, 0, none⟩) c' ((l.take (l.length - 1)).set (l.length - 2) (g.set f.qk v)) :: L) M' → K (.tuple #[.slice (some ⟨b, 0, none⟩) (l.length - 1) c', .bool true]) M') :
  aa Tryz.prog 242 #[.slice A l.length c, .int .i64 v] M K Kp := by
 refine lp ?_
 have hcap := h.gT A
 refine aH.2 ⟨fun PI => k1 (by omega), fun PI => ?_⟩
 have e : IntKind.wrap .i64 ((l.length : Int) - 1) = ((l.length - 1 : Nat) : Int) := wn (by omega) (by omega)
 obtain ⟨ba, rfl⟩ := h.bj (A := A) hl (by decide)
 refine aj h ?_
 clear h
 intro kb M h
 rw [e]
 refine ⟨by omega, by omega, by omega, by omega, by omega, by omega, ?_⟩
 simp only [Int.toNat_natCast, Nat.sub_zero]
 have e2 : iO (some ⟨ba, 0, none⟩) 0 c 11 = some ⟨ba, 0, none⟩ := by
  unfold iO
  rw [if_neg (by omega)]
  rfl
 rw [e2]
 refine h.jc hJ Iz (l.take (l.length - 1)) ((h.src (A := some ⟨ba, 0, none⟩)).Ly _) (by simp) (by simp; omega) ?_
 clear h
 intro A' c' M h
 have hlen : (l.take (l.length - 1)).length = l.length - 1 := by simp
 obtain ⟨b', rfl⟩ := h.bj (A := A') (by omega) (by decide)
 refine aY ?_
 rw [hlen]
 refine jT (by omega) (by omega) ?_
 refine gK (aS ?_)
 refine jT (by omega) (by omega) ?_
 refine gK (aS ?_)
 refine aW (Src.at (h.src (A := some ⟨ba, 0, none⟩)) h (i := l.length - 1) (j := 10) RD rfl (by show _ = 0 + ((l.length - 1) * 11 + 10); omega)) ?_
 obtain ⟨g, hg⟩ := aL (l := l) (i := l.length - 2) (by omega)
 refine ⟨hin.1, hin.2, ?_⟩
 have Fz : (l.take (l.length - 1))[l.length - 2]? = some g := by rw [List.getElem?_take, if_pos (by omega)]; exact hg
 refine sj h Fz hin (by omega) ?_
 clear h
 intro M h
 exact k2 (by omega) b' c' M g hg h
abbrev iY (A : Option Addr) (c : Nat) (l : List Int) : HP := b8 bq 3 A c l
def ef : pE Lk := ⟨fun b x => exs fun A : Option Addr => exs fun c : Nat => sep [pt b [.int .i64 x.owner, .slice A x.waits.length c] 307, iY A c x.waits]⟩
def Lk.take (x : Lk) (g : Int) : Lk × Bool := if x.owner = -1 then (⟨g, x.waits⟩, true) else (⟨x.owner, x.waits ++ [g]⟩, false)
def Lk.pq (x : Lk) (g : Int) : Lk × Int × Int :=
 if x.owner = -1 ∨ x.owner ≠ g then (x, -1, 5) else (⟨x.waits.headD (-1), x.waits.tail⟩, x.waits.headD (-1), 0)
variable {y : Lk}
theorem xV (h : Hp R L M) [o : bO ef b L y L'] : ∃ A c, Hp R (pt b [.int .i64 y.owner, .slice A y.waits.length c] 307 :: iY A c y.waits :: L') M := by
 have := h.obj ef b
 simpa only [ef, Hp.cP, Hp.aO, List.cons_append, List.nil_append] using this
theorem fD {A : Option Addr} {n c : Nat} {o : Int} {ws : List Int} {L1 L2 : List HP} (h : Hp R L M) (b : Nat) [p : iF b L [.int .i64 o, .slice A n c] 307 L1] [p1 : bZ A L1 Int bq 3 c ws L2] (e : n = ws.length := by first | rfl | simp) : Hp R (ax ef b ⟨o, ws⟩ :: L2) M := by
 subst e
 refine Hp.tu ?_
 simp only [ef, Hp.cP, Hp.aO, List.cons_append, List.nil_append]
 exact ⟨_, _, h.sub (.cons p.pick (.cons p1.pick .refl))⟩
theorem xX (h : Hp R L M) (k : ∀ b M', Hp R (ax ef b ⟨-1, []⟩ :: L) M' → K (.pointer (some ⟨b, 0, none⟩)) M') : aa Tryz.prog 114 #[] M K Kp := by
 refine yX ?_
 refine aj h ?_
 clear h
 intro b M h
 have h := h.ck bq 3
 exact k b M (fD h b)
theorem C0 {g : Int} (h : Hp R L M) [o : bO ef b L y L'] (hs : y.waits.length ≤ 1000000000) (k : ∀ M', Hp R (ax ef b (y.take g).1 :: L') M' → K (.bool (y.take g).2) M') :
  aa Tryz.prog 245 #[.pointer (some ⟨b, 0, none⟩), .int .i64 g] M K Kp := by
 refine o5 ?_
 have h' := xV h (b := b)
 clear h
 obtain ⟨A, c, h⟩ := h'
 repeat (first|(refine aj h ?_;clear h;intro kb M h)|(refine ak h ?_;clear h;intro M h)|refine St.to h ?_|(apply Exists.intro;(repeat apply Exists.intro);refine And.intro rfl ?_)|refine aq ?_|refine af ?_|refine ai ?_)
 unfold Lk.take at k
 refine bM.2 ⟨fun hn => ?_, fun hn => ?_⟩
 ·rw [if_neg hn] at k
  repeat (first|(refine aj h ?_;clear h;intro kb M h)|(refine ak h ?_;clear h;intro M h)|refine St.to h ?_|(apply Exists.intro;(repeat apply Exists.intro);refine And.intro rfl ?_)|refine aq ?_|refine af ?_|refine ai ?_)
  refine h.bu yW [g] rfl rfl (by simp; omega) ?_
  clear h
  intro A' c' M h
  repeat (first|(refine aj h ?_;clear h;intro kb M h)|(refine ak h ?_;clear h;intro M h)|refine St.to h ?_|(apply Exists.intro;(repeat apply Exists.intro);refine And.intro rfl ?_)|refine aq ?_|refine af ?_|refine ai ?_)
  exact k _ (fD h b).bH
 ·rw [if_pos hn] at k
  repeat (first|(refine aj h ?_;clear h;intro kb M h)|(refine ak h ?_;clear h;intro M h)|refine St.to h ?_|(apply Exists.intro;(repeat apply Exists.intro);refine And.intro rfl ?_)|refine aq ?_|refine af ?_|refine ai ?_)
  exact k _ (fD h b).bH
theorem C1 {g : Int} (h : Hp R L M) [o : bO ef b L y L'] (hs : y.waits.length ≤ 1000000000) (k : ∀ M', Hp R (ax ef b (y.pq g).1 :: L') M' → K (.tuple #[.int .i64 (y.pq g).2.1, .int .i64 (y.pq g).2.2]) M') :
  aa Tryz.prog 246 #[.pointer (some ⟨b, 0, none⟩), .int .i64 g] M K Kp := by
 refine o6 ?_
 obtain ⟨ow, ws⟩ := y
 have h' := xV h (b := b)
 clear h
 obtain ⟨A, c, h⟩ := h'
 dsimp only at h hs
 repeat (first|(refine aj h ?_;clear h;intro kb M h)|(refine ak h ?_;clear h;intro M h)|refine St.to h ?_|(apply Exists.intro;(repeat apply Exists.intro);refine And.intro rfl ?_)|refine aq ?_|refine af ?_|refine ai ?_)
 unfold Lk.pq at k
 refine bB.2 ⟨fun hn => ?_, fun hn => ?_⟩
 ·rw [if_pos (.inl hn)] at k
  exact k _ (fD h b).bH
 repeat (first|(refine aj h ?_;clear h;intro kb M h)|(refine ak h ?_;clear h;intro M h)|refine St.to h ?_|(apply Exists.intro;(repeat apply Exists.intro);refine And.intro rfl ?_)|refine aq ?_|refine af ?_|refine ai ?_)
 refine bM.2 ⟨fun yE => ?_, fun yE => ?_⟩
 ·rw [if_pos (.inr yE)] at k
  exact k _ (fD h b).bH
 rw [if_neg (by rintro (h | h) <;> contradiction)] at k
 repeat (first|(refine aj h ?_;clear h;intro kb M h)|(refine ak h ?_;clear h;intro M h)|refine St.to h ?_|(apply Exists.intro;(repeat apply Exists.intro);refine And.intro rfl ?_)|refine aq ?_|refine af ?_|refine ai ?_)
 refine aH.2 ⟨fun hr => ?_, fun hr => ?_⟩
 ·cases ws with
  | nil => simp at hr
  | cons w r =>
   repeat (first|(refine aj h ?_;clear h;intro kb M h)|(refine ak h ?_;clear h;intro M h)|refine St.to h ?_|(apply Exists.intro;(repeat apply Exists.intro);refine And.intro rfl ?_)|refine aq ?_|refine af ?_|refine ai ?_)
   obtain ⟨q, rfl⟩ := h.bj (A := A) (by simp) (by decide)
   repeat (first|(refine aj h ?_;clear h;intro kb M h)|(refine ak h ?_;clear h;intro M h)|refine St.to h ?_|(apply Exists.intro;(repeat apply Exists.intro);refine And.intro rfl ?_)|refine aq ?_|refine af ?_|refine ai ?_)
   refine aW (Src.at (h.src (A := some ⟨q, 0, none⟩)) h (i := 0) (j := 0) rfl rfl (by simp [bq])) ?_
   have hcap := h.gT (some ⟨q, 0, none⟩)
   have hlen : r.length + 1 ≤ 1000000000 := by simpa using hs
   repeat (first|(refine aj h ?_;clear h;intro kb M h)|(refine ak h ?_;clear h;intro M h)|refine St.to h ?_|(apply Exists.intro;(repeat apply Exists.intro);refine And.intro rfl ?_)|refine aq ?_|refine af ?_|refine ai ?_)
   simp only [Int.toNat_natCast]
   refine h.jc bq yW r ((h.src (A := some ⟨q, 0, none⟩)).drop (m := 1) hcap) (by simp) (by omega) ?_
   clear h
   intro A' c' M h
   repeat (first|(refine aj h ?_;clear h;intro kb M h)|(refine ak h ?_;clear h;intro M h)|refine St.to h ?_|(apply Exists.intro;(repeat apply Exists.intro);refine And.intro rfl ?_)|refine aq ?_|refine af ?_|refine ai ?_)
   exact k _ (fD h b).bH
 ·cases ws with
  | cons v l => simp at hr
  | nil =>
   repeat (first|(refine aj h ?_;clear h;intro kb M h)|(refine ak h ?_;clear h;intro M h)|refine St.to h ?_|(apply Exists.intro;(repeat apply Exists.intro);refine And.intro rfl ?_)|refine aq ?_|refine af ?_|refine ai ?_)
   exact k _ (fD h b).bH
end
structure PA where
 f : Option Addr
 fc : Nat
 c : Option Addr
 cc : Nat
 k : Option Addr
 kc : Nat
abbrev GA := Option Addr × Nat
abbrev mH (y : pJ) (A : Option Addr) (c : Nat) : List Value := [.int .i64 y.st, .slice A y.fs.length c, .int .i64 y.wt.op, .int .i64 y.wt.a, .int .i64 y.wt.b, .int .i64 y.wt.c]
def eA : pE (pJ × GA) := ⟨fun b x => sep [pt b (mH x.1 x.2.1 x.2.2) 229, qN x.2.1 x.2.2 x.1.fs]⟩
structure WA where
 ag : Option Addr
 cg : Nat
 gb : List Nat
 ac : Option Addr
 cc : Nat
 cb : List Nat
 al : Option Addr
 cl : Nat
 lb : List Nat
 ah : Option Addr
 ch : Nat
 ao : Option Addr
 co : Nat
 ar : Option Addr
 cr : Nat
abbrev jv (pa : PA) (p : cM) (dr : Value) (a : WA) (x : Wd) : List Value :=
 [.slice pa.f p.funcs.length pa.fc, .slice pa.c p.kC.length pa.cc, .int .i64 p.bE, .slice pa.k p.cases.length pa.kc, .slice a.ag a.gb.length a.cg, .int .u64 x.clock,
  .slice a.ac a.cb.length a.cc, .slice a.al a.lb.length a.cl, .slice a.ah x.hl.length a.ch, .int .u64 x.jO, .slice a.ao x.out.length a.co, .int .i64 x.end_, .int .i64 x.code, .slice a.ar x.ready.length a.cr, dr]
abbrev vD (A : Option Addr) (c : Nat) (l : List Nat) : HP := b8 js 224 A c l
abbrev vE (A : Option Addr) (c : Nat) (l : List Nat) : HP := b8 js 230 A c l
abbrev vF (A : Option Addr) (c : Nat) (l : List Nat) : HP := b8 js 232 A c l
abbrev eG (A : Option Addr) (c : Nat) (l : List bI) : HP := b8 ql 203 A c l
abbrev ov (a : WA) (x : Wd) (L : List HP) : List HP :=
 vD a.ag a.cg a.gb :: vE a.ac a.cc a.cb :: aP bg a.cb x.aI :: vF a.al a.cl a.lb :: aP ef a.lb x.bE :: eG a.ah a.ch x.hl :: qf a.ao a.co x.out :: iY a.ar a.cr x.ready :: L
def dz (gg : List GA) (a : WA) (x : Wd) : Prop := a.gb.length = x.gs.length ∧ gg.length = x.gs.length ∧ a.cb.length = x.aI.length ∧ a.lb.length = x.bE.length
def aU (pa : PA) (p : cM) (gg : List GA) (dr : Value) : pE Wd := ⟨fun b x => exs fun a : WA =>
 sep (pt b (jv pa p dr a x) 161 :: aP eA a.gb (x.gs.zip gg) :: fact (dz gg a x) :: ov a x [])⟩
class sk (b : Nat) (L : List HP) (pa : outParam PA) (p : outParam cM) (gg : outParam (List GA)) (dr : outParam Value) (x : outParam Wd) (L' : outParam (List HP)) : Prop where
 pick : cv L (ax (aU pa p gg dr) b x) L'
instance sk.here {pa : PA} {p : cM} {gg : List GA} {dr : Value} {b : Nat} {x : Wd} {L : List HP} : sk b (ax (aU pa p gg dr) b x :: L) pa p gg dr x L := ⟨.here⟩
instance (priority := low) sk.there {pa : PA} {p : cM} {gg : List GA} {dr : Value} {b : Nat} {x : Wd} {Q : HP} {L L' : List HP} [h : sk b L pa p gg dr x L'] : sk b (Q :: L) pa p gg dr x (Q :: L') := ⟨.there h.pick⟩
section
variable {R : Mem} {L L' : List HP} {M : Mem} {K : Value → Mem → Prop} {Kp : List PanicEntry → Mem → Prop} {pa : PA} {p : cM} {gg : List GA} {dr : Value} {b : Nat} {x : Wd}
theorem bS (h : Hp R L M) [o : sk b L pa p gg dr x L'] : ∃ a : WA, dz gg a x ∧ Hp R (pt b (jv pa p dr a x) 161 :: aP eA a.gb (x.gs.zip gg) :: ov a x L') M := by
 have := h.pick o.pick
 unfold ax at this
 simp only [aU, ov, Hp.cP, Hp.aO, List.cons_append, List.nil_append] at this
 obtain ⟨a, h⟩ := this
 have h2 := h.pick (P := fact (dz gg a x)) (.there (.there .here))
 exact ⟨a, (Hp.dZ.1 h2).1, (Hp.dZ.1 h2).2⟩
theorem gP {a : WA} (hl : dz gg a x) (h : Hp R (pt b (jv pa p dr a x) 161 :: aP eA a.gb (x.gs.zip gg) :: ov a x L) M) : Hp R (ax (aU pa p gg dr) b x :: L) M := by
 refine Hp.tu ?_
 simp only [aU, ov, Hp.cP, Hp.aO, List.cons_append, List.nil_append]
 refine ⟨a, ?_⟩
 have h2 : Hp R (fact (dz gg a x) :: pt b (jv pa p dr a x) 161 :: aP eA a.gb (x.gs.zip gg) :: ov a x L) M := Hp.dZ.2 ⟨hl, h⟩
 exact h2.j9 (.there (.there .here))
theorem aM {a : WA} {L0 L1 L2 L3 L4 L5 L6 L7 L8 L9 : List HP} (hl : dz gg a x) (h : Hp R L M) (b : Nat)
  [p0 : iF b L (jv pa p dr a x) 161 L0] [p1 : dW eA L0 a.gb (x.gs.zip gg) L1] [p2 : bZ a.ag L1 Nat js 224 a.cg a.gb L2] [p3 : bZ a.ac L2 Nat js 230 a.cc a.cb L3]
  [p4 : dW bg L3 a.cb x.aI L4] [p5 : bZ a.al L4 Nat js 232 a.cl a.lb L5] [p6 : dW ef L5 a.lb x.bE L6] [p7 : bZ a.ah L6 bI ql 203 a.ch x.hl L7] [p8 : bZ a.ao L7 Int bq 2 a.co x.out L8]
  [p9 : bZ a.ar L8 Int bq 3 a.cr x.ready L9] : Hp R (ax (aU pa p gg dr) b x :: L9) M :=
 gP hl (h.sub (.cons p0.pick (.cons p1.pick (.cons p2.pick (.cons p3.pick (.cons p4.pick (.cons p5.pick (.cons p6.pick (.cons p7.pick (.cons p8.pick (.cons p9.pick .refl)))))))))))
theorem Bd {α β : Type} : ∀ {l : List α} {m : List β} {i : Nat} {u : α} {v : β}, m[i]? = some v → (l.zip m).set i (u, v) = (l.set i u).zip m
 | [], _, _, _, _, _ => by simp
 | a :: l, [], i, u, v, h => by simp at h
 | a :: l, w :: m, 0, u, v, h => by simp at h; subst h; rfl
 | a :: l, w :: m, i + 1, u, v, h => by
  have := Bd (l := l) (u := u) (show m[i]? = some v from by simpa using h)
  simp [this]
theorem kH {α β : Type} : ∀ {l : List α} {m : List β} {i : Nat} {u : α} {v : β}, l[i]? = some u → m[i]? = some v → (l.zip m)[i]? = some (u, v)
 | [], _, _, _, _, h, _ => by simp at h
 | a :: l, [], i, u, v, _, h => by simp at h
 | a :: l, w :: m, 0, u, v, h, g => by simp at h g; subst h; subst g; rfl
 | a :: l, w :: m, i + 1, u, v, h, g => by simpa using kH (show l[i]? = some u from by simpa using h) (show m[i]? = some v from by simpa using g)
theorem jU {c : Nat} {y : pJ} {A : Option Addr} (h : Hp R L M) [o : bO eA b L (y, (A, c)) L'] : Hp R (pt b (mH y A c) 229 :: qN A c y.fs :: L') M := by
 have := h.obj eA b
 simpa only [eA, Hp.aO, List.cons_append, List.nil_append] using this
theorem jV {A : Option Addr} {n c : Nat} {st o1 o2 o3 o4 : Int} {fs : List gm} {L1 L2 : List HP} (h : Hp R L M) (b : Nat) [p : iF b L [.int .i64 st, .slice A n c, .int .i64 o1, .int .i64 o2, .int .i64 o3, .int .i64 o4] 229 L1] [p1 : bZ A L1 gm hJ 275 c fs L2]
  (e : n = fs.length := by first | rfl | simp) : Hp R (ax eA b (⟨st, fs, ⟨o1, o2, o3, o4⟩⟩, (A, c)) :: L2) M := by
 subst e
 refine Hp.tu ?_
 simp only [eA, Hp.aO, List.cons_append, List.nil_append]
 exact h.sub (.cons p.pick (.cons p1.pick .refl))
theorem gQ {g : Int} (h : Hp R L M) [o : sk b L pa p gg dr x L'] (h0 : 0 ≤ g) (hg : g < x.gs.length) :
  ∃ (a : WA) (gb : Nat) (A : Option Addr) (c : Nat), dz gg a x ∧ a.gb[g.toNat]? = some gb ∧ gg[g.toNat]? = some (A, c) ∧
   Hp R (pt gb (mH (au x g) A c) 229 :: qN A c (au x g).fs :: pt b (jv pa p dr a x) 161 :: jg eA a.gb (x.gs.zip gg) g.toNat :: ov a x L') M := by
 obtain ⟨a, hl, h1⟩ := bS h (b := b)
 obtain ⟨l1, l2, l3, l4⟩ := hl
 obtain ⟨gb, ei⟩ := aL (l := a.gb) (i := g.toNat) (by omega)
 obtain ⟨⟨A, c⟩, dh⟩ := aL (l := gg) (i := g.toNat) (by omega)
 obtain ⟨y, hy⟩ := aL (l := x.gs) (i := g.toNat) (by omega)
 have e : au x g = y := by simp [au, hy]
 rw [e]
 have h2 := h1.cw eA ei (kH hy dh)
 have h3 := jU (b := gb) h2
 exact ⟨a, gb, A, c, ⟨l1, l2, l3, l4⟩, ei, dh, h3.sub bG⟩
theorem b6 {a : WA} {A : Option Addr} {c n : Nat} {g : Int} {st o1 o2 o3 o4 : Int} {fs : List gm} {L1 L2 L3 : List HP} (h : Hp R L M) (gb : Nat) (hl : dz gg a x) (ei : a.gb[g.toNat]? = some gb) (dh : gg[g.toNat]? = some (A, c))
  [p1 : iF gb L [.int .i64 st, .slice A n c, .int .i64 o1, .int .i64 o2, .int .i64 o3, .int .i64 o4] 229 L1] [p2 : bZ A L1 gm hJ 275 c fs L2]
  [p3 : sU eA L2 a.gb (x.gs.zip gg) g.toNat L3] (e : n = fs.length := by first | rfl | simp) : Hp R (aP eA a.gb ((x.gs.set g.toNat ⟨st, fs, ⟨o1, o2, o3, o4⟩⟩).zip gg) :: L3) M := by
 have h1 := jV h gb e
 obtain ⟨l1, l2, l3, l4⟩ := hl
 have hi := (List.getElem?_eq_some_iff.1 ei).1
 have h2 := h1.cQ eA gb ei (by rw [List.length_zip]; omega)
 rwa [Bd dh] at h2
end
section
variable {R : Mem} {L L' : List HP} {M : Mem} {K : Value → Mem → Prop} {Kp : List PanicEntry → Mem → Prop} {pa : PA} {p : cM} {gg : List GA} {dr : Value} {b : Nat} {x : Wd}
theorem ON {A : Option Addr} {l : List Nat} {T c q i bb : Nat} (h : Hp R L M) [r : bZ A L Nat js T c l L'] (hq : A = some ⟨q, 0, none⟩) (hb : l[i]? = some bb) : M.ld ⟨q, 0 + i, none⟩ = some (.pointer (some ⟨bb, 0, none⟩)) := by
 subst hq
 exact Src.at (h.src (A := some ⟨q, 0, none⟩)) h (i := i) (j := 0) hb rfl (by simp [js])
theorem ry {A : Option Addr} {l : List Nat} {T c bb i : Nat} {G : Nat → Nat → Option Addr → Prop} (h : Hp R L M) [r : bZ A L Nat js T c l L'] (hb : l[i]? = some bb) (k : ∀ q, A = some ⟨q, 0, none⟩ → G q 0 (some ⟨bb, 0, none⟩)) :
  az A fun k4 k5 => cz (M.ld ⟨k4, k5 + i, none⟩) fun A6 => G k4 k5 A6 := by
 obtain ⟨q, hq⟩ := h.bj (A := A) (by have := (List.getElem?_eq_some_iff.1 hb).1; omega) (by decide)
 have h2 := ON h hq hb
 subst hq
 refine aS ?_
 rw [h2]
 exact gK (k q rfl)
theorem fE {g : Int} (h : Hp R L M) [o : sk b L pa p gg dr x L'] (h0 : 0 ≤ g) (hg : g < x.gs.length) (hr : x.ready.length ≤ 1000000000)
  (k : ∀ M', Hp R (ax (aU pa p gg dr) b (x.kY g) :: L') M' → K (.tuple #[]) M') : aa Tryz.prog 158 #[.pointer (some ⟨b, 0, none⟩), .int .i64 g] M K Kp := by
 refine nw ?_
 have h' := gQ h (b := b) h0 hg
 clear h
 obtain ⟨a, gb, A, c, hl, ei, dh, h⟩ := h'
 have hl' := hl
 obtain ⟨l1, l2, l3, l4⟩ := hl'
 repeat (first|(refine aj h ?_;clear h;intro kb M h)|(refine ak h ?_;clear h;intro M h)|refine St.to h ?_|(apply Exists.intro;(repeat apply Exists.intro);refine And.intro rfl ?_)|refine aq ?_|refine af ?_|refine ai ?_)
 refine ry h ei fun q hq => ?_
 repeat (first|(refine aj h ?_;clear h;intro kb M h)|(refine ak h ?_;clear h;intro M h)|refine St.to h ?_|(apply Exists.intro;(repeat apply Exists.intro);refine And.intro rfl ?_)|refine aq ?_|refine af ?_|refine ai ?_)
 refine h.bu yW [g] rfl rfl (by simp; omega) ?_
 clear h
 intro A' c' M h
 repeat (first|(refine aj h ?_;clear h;intro kb M h)|(refine ak h ?_;clear h;intro M h)|refine St.to h ?_|(apply Exists.intro;(repeat apply Exists.intro);refine And.intro rfl ?_)|refine aq ?_|refine af ?_|refine ai ?_)
 replace h := b6 h gb hl ei dh
 exact k _ (gP (a := { a with ar := A', cr := c' }) ⟨by simpa [Wd.kY, Wd.b9] using l1, by simpa [Wd.kY, Wd.b9] using l2, l3, l4⟩ (h.sub bG))
theorem cV {y : pJ} (h : 0 < y.fs.length) : y.fs[y.fs.length - 1]? = some y.top := by
 unfold pJ.top
 rw [List.getD_eq_getElem?_getD, List.getElem?_eq_getElem (by omega)]; rfl
theorem cy {a : WA} {g : Int} {y : pJ} (hl : dz gg a x) : dz gg a (x.b9 g y) := by
 obtain ⟨l1, l2, l3, l4⟩ := hl
 exact ⟨by simpa [Wd.b9] using l1, by simpa [Wd.b9] using l2, l3, l4⟩
theorem ji {g : Int} {i : eD} (h : Hp R L M) [o : sk b L pa p gg dr x L'] (h0 : 0 ≤ g) (hg : g < x.gs.length)
  (k : ∀ M', Hp R (ax (aU pa p gg dr) b (x.block g i) :: L') M' → K (.tuple #[]) M') : aa Tryz.prog 208 #[.pointer (some ⟨b, 0, none⟩), .int .i64 g, .agg #[.int .i64 i.op, .int .i64 i.a, .int .i64 i.b, .int .i64 i.c]] M K Kp := by
 refine mg ?_
 have h' := gQ h (b := b) h0 hg
 clear h
 obtain ⟨a, gb, A, c, hl, ei, dh, h⟩ := h'
 have hl' := hl
 obtain ⟨l1, l2, l3, l4⟩ := hl'
 repeat (first|(refine aj h ?_;clear h;intro kb M h)|(refine ak h ?_;clear h;intro M h)|refine St.to h ?_|(apply Exists.intro;(repeat apply Exists.intro);refine And.intro rfl ?_)|refine aq ?_|refine af ?_|refine ai ?_)
 refine ry h ei fun q hq => ?_
 repeat (first|(refine aj h ?_;clear h;intro kb M h)|(refine ak h ?_;clear h;intro M h)|refine St.to h ?_|(apply Exists.intro;(repeat apply Exists.intro);refine And.intro rfl ?_)|refine aq ?_|refine af ?_|refine ai ?_)
 refine ry h ei fun q2 m9 => ?_
 repeat (first|(refine aj h ?_;clear h;intro kb M h)|(refine ak h ?_;clear h;intro M h)|refine St.to h ?_|(apply Exists.intro;(repeat apply Exists.intro);refine And.intro rfl ?_)|refine aq ?_|refine af ?_|refine ai ?_)
 replace h := b6 h gb hl ei dh
 exact k _ (gP (a := a) (cy hl) (h.sub bG))
theorem qP {g kk : Int} (h : Hp R L M) [o : sk b L pa p gg dr x L'] (hg : bA x g) (hc : bz (au x g).wt.c) (hs : x.Sm)
  (k : ∀ M', Hp R (ax (aU pa p gg dr) b (x.mc g kk) :: L') M' → K (.tuple #[]) M') : aa Tryz.prog 251 #[.pointer (some ⟨b, 0, none⟩), .int .i64 g, .int .i64 kk] M K Kp := by
 refine lq ?_
 obtain ⟨h0, h1, h2, h3⟩ := hg
 obtain ⟨s1, s2, s3, s4, s5, s6, s7, s8⟩ := hs
 have h' := gQ h (b := b) h0 h1
 clear h
 obtain ⟨a, gb, A, c, hl, ei, dh, h⟩ := h'
 have hl' := hl
 obtain ⟨l1, l2, l3, l4⟩ := hl'
 repeat (first|(refine aj h ?_;clear h;intro kb M h)|(refine ak h ?_;clear h;intro M h)|refine St.to h ?_|(apply Exists.intro;(repeat apply Exists.intro);refine And.intro rfl ?_)|refine aq ?_|refine af ?_|refine ai ?_)
 refine ry h ei fun q hq => ?_
 repeat (first|(refine aj h ?_;clear h;intro kb M h)|(refine ak h ?_;clear h;intro M h)|refine St.to h ?_|(apply Exists.intro;(repeat apply Exists.intro);refine And.intro rfl ?_)|refine aq ?_|refine af ?_|refine ai ?_)
 refine ry h ei fun q2 m9 => ?_
 repeat (first|(refine aj h ?_;clear h;intro kb M h)|(refine ak h ?_;clear h;intro M h)|refine St.to h ?_|(apply Exists.intro;(repeat apply Exists.intro);refine And.intro rfl ?_)|refine aq ?_|refine af ?_|refine ai ?_)
 obtain ⟨bs, rfl⟩ := h.bj (A := A) h2 (by decide)
 refine jT h2 (by omega) ?_
 repeat (first|(refine aj h ?_;clear h;intro kb M h)|(refine ak h ?_;clear h;intro M h)|refine St.to h ?_|(apply Exists.intro;(repeat apply Exists.intro);refine And.intro rfl ?_)|refine aq ?_|refine af ?_|refine ai ?_)
 refine ⟨hc.1, hc.2, sj h (cV h2) hc rfl ?_⟩
 clear h
 intro M h
 repeat (first|(refine aj h ?_;clear h;intro kb M h)|(refine ak h ?_;clear h;intro M h)|refine St.to h ?_|(apply Exists.intro;(repeat apply Exists.intro);refine And.intro rfl ?_)|refine aq ?_|refine af ?_|refine ai ?_)
 refine Ax h (Src.row (A := a.ac)) rfl (by omega) l3 (fun c hc => (s1 c hc).mono (by omega)) ?_
 clear h
 intro M h
 refine ⟨rfl, ?_⟩
 replace h := b6 h gb hl ei dh
 exact k _ (gP (a := a) (x := x.mc g kk) ⟨by simpa [Wd.mc, Wd.leave, Wd.cn, Wd.b9] using l1, by simpa [Wd.mc, Wd.leave, Wd.cn, Wd.b9] using l2, by simpa [Wd.mc, Wd.leave, Wd.cn, Wd.b9] using l3, l4⟩ (h.sub bG))
end
theorem fW {x : Wd} {g q v : Int} (h : bA x g) : au (x.cn g q v) g = (au x g).dw ((au x g).top.set q v) := rZ h.1 h.2.1
theorem fX {x : Wd} {g q v : Int} (h : bA x g) : bA (x.cn g q v) g := by
 obtain ⟨h0, h1, h2, h3⟩ := h
 refine ⟨h0, by simpa [Wd.cn, Wd.b9] using h1, ?_, ?_⟩ <;> rw [fW ⟨h0, h1, h2, h3⟩] <;> simpa [pJ.dw]
theorem FA {x : Wd} {g q v : Int} (h : bA x g) : (au (x.cn g q v) g).wt = (au x g).wt := by rw [fW h]; rfl
theorem qQ {x : Wd} {g k : Int} (h : bA x g) : bA (x.mc g k) g := fX h
theorem D8 {x : Wd} {g : Int} {y : pJ} (h : x.Sm) : (x.b9 g y).Sm := by
 obtain ⟨s1, s2, s3, s4⟩ := h
 exact ⟨s1, s2, by simpa [Wd.b9] using s3, s4⟩
theorem dH {z : Int} (h0 : 0 ≤ z) (h : z < 9223372036854775808) : IntKind.wrap .i64 z = z := by
 obtain ⟨n, rfl⟩ := Int.eq_ofNat_of_zero_le h0
 exact lU (by omega)
section
variable {R : Mem} {L L' : List HP} {M : Mem} {K : Value → Mem → Prop} {Kp : List PanicEntry → Mem → Prop} {pa : PA} {p : cM} {gg : List GA} {dr : Value} {b : Nat} {x : Wd}
theorem OO {A : Option Addr} {c : Nat} {l : List pI} {q : Int} {G : Nat → Nat → Int → Prop} (h : Hp R L M) (hp : RS uT R A c l) (h0 : 0 ≤ q) (hq : q < l.length) (k : ∀ b o, G b o (l.getD q.toNat ⟨0, 0, 0⟩).bL) :
  az A fun b o => aE (M.ld ⟨b, ((o + q.toNat * 3) + 2), none⟩) .i64 fun n => G b o n := by
 obtain ⟨bb, o, rfl⟩ := hp.some (by omega) (by decide)
 obtain ⟨y, hy⟩ := aL (l := l) (i := q.toNat) (by omega)
 have e : l.getD q.toNat ⟨0, 0, 0⟩ = y := by simp [hy]
 refine aS ?_
 refine aW (Src.at (hp.src (L := L)) h (i := q.toNat) (j := 2) hy rfl (by show _ = o + (q.toNat * 3 + 2); omega)) ?_
 have := k bb o
 rwa [e] at this
theorem mI {v : Wt} {some : Int} (h : Hp R L M) [o : sk b L pa p gg dr x L'] (hp : RS uT R pa.k pa.kc p.cases) (hv : uU p x v) (hs : x.Sm)
  (k : ∀ M', Hp R (ax (aU pa p gg dr) b (x.received p v some) :: L') M' → K (.tuple #[]) M') : aa Tryz.prog 238 #[.pointer (Option.some ⟨b, 0, none⟩), .agg #[.int .i64 v.g, .int .i64 v.cs, .int .i64 v.v], .int .i64 some] M K Kp := by
 refine jQ ?_
 obtain ⟨hg, hv⟩ := hv
 have zk := hg
 obtain ⟨h0, h1, h2, h3⟩ := zk
 have hs' := hs
 obtain ⟨s1, s2, s3, s4, s5, s6, s7, s8⟩ := hs'
 have h' := gQ h (b := b) h0 h1
 clear h
 obtain ⟨a, gb, A, c, hl, ei, dh, h⟩ := h'
 have hl' := hl
 obtain ⟨l1, l2, l3, l4⟩ := hl'
 repeat (first|(refine aj h ?_;clear h;intro kb M h)|(refine ak h ?_;clear h;intro M h)|refine St.to h ?_|(apply Exists.intro;(repeat apply Exists.intro);refine And.intro rfl ?_)|refine aq ?_|refine af ?_|refine ai ?_)
 refine ry h ei fun q hq => ?_
 repeat (first|(refine aj h ?_;clear h;intro kb M h)|(refine ak h ?_;clear h;intro M h)|refine St.to h ?_|(apply Exists.intro;(repeat apply Exists.intro);refine And.intro rfl ?_)|refine aq ?_|refine af ?_|refine ai ?_)
 refine ry h ei fun q2 m9 => ?_
 repeat (first|(refine aj h ?_;clear h;intro kb M h)|(refine ak h ?_;clear h;intro M h)|refine St.to h ?_|(apply Exists.intro;(repeat apply Exists.intro);refine And.intro rfl ?_)|refine aq ?_|refine af ?_|refine ai ?_)
 obtain ⟨bs, rfl⟩ := h.bj (A := A) h2 (by decide)
 refine jT h2 (by omega) ?_
 repeat (first|(refine aj h ?_;clear h;intro kb M h)|(refine ak h ?_;clear h;intro M h)|refine St.to h ?_|(apply Exists.intro;(repeat apply Exists.intro);refine And.intro rfl ?_)|refine aq ?_|refine af ?_|refine ai ?_)
 refine ⟨ON h m9 ei, ?_⟩
 repeat (first|(refine aj h ?_;clear h;intro kb M h)|(refine ak h ?_;clear h;intro M h)|refine St.to h ?_|(apply Exists.intro;(repeat apply Exists.intro);refine And.intro rfl ?_)|refine aq ?_|refine af ?_|refine ai ?_)
 refine ⟨ON h m9 ei, ?_⟩
 repeat (first|(refine aj h ?_;clear h;intro kb M h)|(refine ak h ?_;clear h;intro M h)|refine St.to h ?_|(apply Exists.intro;(repeat apply Exists.intro);refine And.intro rfl ?_)|refine aq ?_|refine af ?_|refine ai ?_)
 unfold Wd.received at k
 refine bB.2 ⟨fun D9 => ?_, fun D9 => ?_⟩
 ·simp only [D9, if_true] at k hv
  obtain ⟨v1, v2, v3, v4, v5⟩ := hv
  repeat (first|(refine aj h ?_;clear h;intro kb M h)|(refine ak h ?_;clear h;intro M h)|refine St.to h ?_|(apply Exists.intro;(repeat apply Exists.intro);refine And.intro rfl ?_)|refine aq ?_|refine af ?_|refine ai ?_)
  rw [dH v1 (by omega)]
  refine ⟨v1, by omega, OO (q := (au x v.g).wt.a + v.cs) h hp v1 v2 fun _ _ => ?_⟩
  repeat (first|(refine aj h ?_;clear h;intro kb M h)|(refine ak h ?_;clear h;intro M h)|refine St.to h ?_|(apply Exists.intro;(repeat apply Exists.intro);refine And.intro rfl ?_)|refine aq ?_|refine af ?_|refine ai ?_)
  refine ⟨v4.1, v4.2, sj h (cV h2) v4 rfl ?_⟩
  clear h
  intro M h
  repeat (first|(refine aj h ?_;clear h;intro kb M h)|(refine ak h ?_;clear h;intro M h)|refine St.to h ?_|(apply Exists.intro;(repeat apply Exists.intro);refine And.intro rfl ?_)|refine aq ?_|refine af ?_|refine ai ?_)
  replace h := b6 h gb hl ei dh
  replace h := aM (a := a) (p := p) (pa := pa) (dr := dr) (gg := gg) (x := x.cn v.g (Ay p ((au x v.g).wt.a + v.cs)).bL v.v) (cy hl) h b
  have v5' := v5
  rw [← FA (q := (Ay p ((au x v.g).wt.a + v.cs)).bL) (v := v.v) hg] at v5'
  refine qP (b := b) h (fX hg) v5' (D8 hs) ?_
  clear h
  intro M h
  repeat (first|(refine aj h ?_;clear h;intro kb M h)|(refine ak h ?_;clear h;intro M h)|refine St.to h ?_|(apply Exists.intro;(repeat apply Exists.intro);refine And.intro rfl ?_)|refine aq ?_|refine af ?_|refine ai ?_)
  have Fz := qQ (k := v.cs) (fX (q := (Ay p ((au x v.g).wt.a + v.cs)).bL) (v := v.v) hg)
  refine fE (b := b) h Fz.1 Fz.2.1 (by show x.ready.length ≤ _; omega) ?_
  clear h
  intro M h
  exact ⟨rfl, k _ h.bH⟩
 ·simp only [D9, if_false] at k hv
  obtain ⟨v1, v2⟩ := hv
  repeat (first|(refine aj h ?_;clear h;intro kb M h)|(refine ak h ?_;clear h;intro M h)|refine St.to h ?_|(apply Exists.intro;(repeat apply Exists.intro);refine And.intro rfl ?_)|refine aq ?_|refine af ?_|refine ai ?_)
  refine ⟨v1.1, v1.2, ?_⟩
  repeat (first|(refine aj h ?_;clear h;intro kb M h)|(refine ak h ?_;clear h;intro M h)|refine St.to h ?_|(apply Exists.intro;(repeat apply Exists.intro);refine And.intro rfl ?_)|refine aq ?_|refine af ?_|refine ai ?_)
  refine sj h (cV h2) v1 rfl ?_
  clear h
  intro M h
  repeat (first|(refine aj h ?_;clear h;intro kb M h)|(refine ak h ?_;clear h;intro M h)|refine St.to h ?_|(apply Exists.intro;(repeat apply Exists.intro);refine And.intro rfl ?_)|refine aq ?_|refine af ?_|refine ai ?_)
  have Is : ((au x v.g).fs.set ((au x v.g).fs.length - 1) ((au x v.g).top.set (au x v.g).wt.b v.v))[(au x v.g).fs.length - 1]? = Option.some ((au x v.g).top.set (au x v.g).wt.b v.v) := by
   rw [List.getElem?_set_self]; omega
  refine ⟨v2.1, v2.2, sj h Is v2 rfl ?_⟩
  clear h
  intro M h
  rw [fV] at h
  repeat (first|(refine aj h ?_;clear h;intro kb M h)|(refine ak h ?_;clear h;intro M h)|refine St.to h ?_|(apply Exists.intro;(repeat apply Exists.intro);refine And.intro rfl ?_)|refine aq ?_|refine af ?_|refine ai ?_)
  replace h := b6 h gb hl ei dh (by simp)
  have ex : (x.cn v.g (au x v.g).wt.b v.v).cn v.g (au x v.g).wt.c some = x.b9 v.g ((au x v.g).dw (((au x v.g).top.set (au x v.g).wt.b v.v).set (au x v.g).wt.c some)) := by
   have e1 := fW (q := (au x v.g).wt.b) (v := v.v) hg
   have e2 : ∀ (z : Wd) (q u : Int), z.cn v.g q u = z.b9 v.g ((au z v.g).dw ((au z v.g).top.set q u)) := fun _ _ _ => rfl
   rw [e2 (x.cn v.g (au x v.g).wt.b v.v), e1]
   have e3 : ((au x v.g).dw ((au x v.g).top.set (au x v.g).wt.b v.v)).top = (au x v.g).top.set (au x v.g).wt.b v.v := by
    unfold pJ.top pJ.dw
    dsimp only
    rw [List.length_set, List.getD_eq_getElem?_getD, List.getElem?_set_self (by omega)]; rfl
   rw [e3]
   simp [Wd.cn, Wd.b9, pJ.dw]
  rw [ex] at k
  replace h := aM (a := a) (p := p) (pa := pa) (dr := dr) (gg := gg) (x := x.b9 v.g ((au x v.g).dw (((au x v.g).top.set (au x v.g).wt.b v.v).set (au x v.g).wt.c some))) (cy hl) h b
  refine fE (b := b) h h0 (by simpa [Wd.b9] using h1) (by show x.ready.length ≤ _; omega) ?_
  clear h
  intro M h
  exact ⟨rfl, k _ h.bH⟩
theorem C2 {v : Wt} (h : Hp R L M) [o : sk b L pa p gg dr x L'] (hv : Az x v) (hs : x.Sm)
  (k : ∀ M', Hp R (ax (aU pa p gg dr) b (x.sent v) :: L') M' → K (.tuple #[]) M') : aa Tryz.prog 240 #[.pointer (some ⟨b, 0, none⟩), .agg #[.int .i64 v.g, .int .i64 v.cs, .int .i64 v.v]] M K Kp := by
 refine nN ?_
 obtain ⟨hg, hv⟩ := hv
 have zk := hg
 obtain ⟨h0, h1, h2, h3⟩ := zk
 have hs' := hs
 obtain ⟨s1, s2, s3, s4, s5, s6, s7, s8⟩ := hs'
 have h' := gQ h (b := b) h0 h1
 clear h
 obtain ⟨a, gb, A, c, hl, ei, dh, h⟩ := h'
 have hl' := hl
 obtain ⟨l1, l2, l3, l4⟩ := hl'
 repeat (first|(refine aj h ?_;clear h;intro kb M h)|(refine ak h ?_;clear h;intro M h)|refine St.to h ?_|(apply Exists.intro;(repeat apply Exists.intro);refine And.intro rfl ?_)|refine aq ?_|refine af ?_|refine ai ?_)
 refine ry h ei fun q hq => ?_
 repeat (first|(refine aj h ?_;clear h;intro kb M h)|(refine ak h ?_;clear h;intro M h)|refine St.to h ?_|(apply Exists.intro;(repeat apply Exists.intro);refine And.intro rfl ?_)|refine aq ?_|refine af ?_|refine ai ?_)
 unfold Wd.sent at k
 have ex : x.b9 v.g (au x v.g) = x := by
  obtain ⟨y, hy⟩ := aL (l := x.gs) (i := v.g.toNat) (by omega)
  have e : au x v.g = y := by simp [au, hy]
  rw [e]
  obtain ⟨hi, rfl⟩ := List.getElem?_eq_some_iff.1 hy
  simp [Wd.b9]
 refine bB.2 ⟨fun D9 => ?_, fun D9 => ?_⟩
 ·simp only [D9, if_true] at k hv
  repeat (first|(refine aj h ?_;clear h;intro kb M h)|(refine ak h ?_;clear h;intro M h)|refine St.to h ?_|(apply Exists.intro;(repeat apply Exists.intro);refine And.intro rfl ?_)|refine aq ?_|refine af ?_|refine ai ?_)
  replace h := b6 h gb hl ei dh
  replace h := aM (a := a) (p := p) (pa := pa) (dr := dr) (gg := gg) (x := x.b9 v.g (au x v.g)) (cy hl) h b
  rw [ex] at h
  refine qP (b := b) (x := x) h hg (hv trivial) hs ?_
  clear h
  intro M h
  repeat (first|(refine aj h ?_;clear h;intro kb M h)|(refine ak h ?_;clear h;intro M h)|refine St.to h ?_|(apply Exists.intro;(repeat apply Exists.intro);refine And.intro rfl ?_)|refine aq ?_|refine af ?_|refine ai ?_)
  have Fz := qQ (k := v.cs) hg
  refine fE (b := b) h Fz.1 Fz.2.1 (by show x.ready.length ≤ _; omega) ?_
  clear h
  intro M h
  exact ⟨rfl, k _ h.bH⟩
 ·simp only [D9, if_false] at k
  repeat (first|(refine aj h ?_;clear h;intro kb M h)|(refine ak h ?_;clear h;intro M h)|refine St.to h ?_|(apply Exists.intro;(repeat apply Exists.intro);refine And.intro rfl ?_)|refine aq ?_|refine af ?_|refine ai ?_)
  replace h := b6 h gb hl ei dh
  replace h := aM (a := a) (p := p) (pa := pa) (dr := dr) (gg := gg) (x := x.b9 v.g (au x v.g)) (cy hl) h b
  rw [ex] at h
  refine fE (b := b) (x := x) h h0 h1 (by omega) ?_
  clear h
  intro M h
  exact ⟨rfl, k _ h.bH⟩
end
def C3 (x : Wd) (k : Int) : Prop := 0 ≤ k ∧ k < x.aI.length
instance (x : Wd) (k : Int) : Decidable (C3 x k) := by unfold C3; infer_instance
def qR (p : cM) (x : Wd) (k v : Int) : Prop := C3 x k ∧ (((dL x.aI k).send v).2.2.1 = true → uU p x ((dL x.aI k).send v).2.1) ∧ ((dL x.aI k).send v).1.Small 1000000
instance (p : cM) (x : Wd) (k v : Int) : Decidable (qR p x k v) := by unfold qR; infer_instance
def vG (x : Wd) (k : Int) : Prop := C3 x k ∧ ((dL x.aI k).recv.2.2.2.2.1 = true → Az x (dL x.aI k).recv.2.2.2.1) ∧ (dL x.aI k).recv.1.Small 1000000
instance (x : Wd) (k : Int) : Decidable (vG x k) := by unfold vG; infer_instance
theorem Be {x : Wd} {k : Int} {c : aZ} (h : x.Sm) (hc : c.Small 1000000) : (x.eT k c).Sm := by
 obtain ⟨s1, s2, s3⟩ := h
 refine ⟨fun d hd => ?_, by simpa [Wd.eT] using s2, s3⟩
 rcases mem_set hd with h | rfl
 ·exact s1 d h
 ·exact hc
section
variable {R : Mem} {L L' : List HP} {M : Mem} {K : Value → Mem → Prop} {Kp : List PanicEntry → Mem → Prop} {pa : PA} {p : cM} {gg : List GA} {dr : Value} {b : Nat} {x : Wd}
theorem nf {a : WA} {k : Int} {c : aZ} (hl : dz gg a x) : dz gg a (x.eT k c) := by
 obtain ⟨l1, l2, l3, l4⟩ := hl
 exact ⟨l1, l2, by simpa [Wd.eT] using l3, l4⟩
theorem IB {a : WA} {k : Int} (h : Hp R L M) [q : dW bg L a.cb x.aI L'] (hl : dz gg a x) (hk : C3 x k) : ∃ cb, a.cb[k.toNat]? = some cb ∧ x.aI[k.toNat]? = some (dL x.aI k) ∧ Hp R (ax bg cb (dL x.aI k) :: jg bg a.cb x.aI k.toNat :: L') M := by
 obtain ⟨l1, l2, l3, l4⟩ := hl
 obtain ⟨k0, k1⟩ := hk
 obtain ⟨cb, hcb⟩ := aL (l := a.cb) (i := k.toNat) (by omega)
 obtain ⟨y, hy⟩ := aL (l := x.aI) (i := k.toNat) (by omega)
 have e : dL x.aI k = y := by simp [dL, hy]
 rw [e]
 exact ⟨cb, hcb, hy, h.cw bg hcb hy⟩
theorem xY {k v : Int} (h : Hp R L M) [o : sk b L pa p gg dr x L'] (hp : RS uT R pa.k pa.kc p.cases) (hk : qR p x k v) (hs : x.Sm)
  (k1 : ∀ y ok M', x.put p k v = .on (y, ok) → Hp R (ax (aU pa p gg dr) b y :: L') M' → K (.bool ok) M')
  (k2 : ∀ y n M', x.put p k v = .eF n y → Hp R (ax (aU pa p gg dr) b y :: L') M' → Kp [{ v := .iface 340 (.int .i64 n), recovered := false }] M') :
  aa Tryz.prog 209 #[.pointer (some ⟨b, 0, none⟩), .int .i64 k, .int .i64 v] M K Kp := by
 refine oU ?_
 obtain ⟨hc, hr, D0⟩ := hk
 have hs' := hs
 obtain ⟨s1, s2, s3, s4, s5, s6, s7, s8⟩ := hs'
 have h' := bS h (b := b)
 clear h
 obtain ⟨a, hl, h⟩ := h'
 have hl' := hl
 obtain ⟨l1, l2, l3, l4⟩ := hl'
 have BV := hc
 obtain ⟨c0, c1⟩ := BV
 have h' := IB h hl hc
 clear h
 obtain ⟨cb, hcb, vz, h⟩ := h'
 repeat (first|(refine aj h ?_;clear h;intro kb M h)|(refine ak h ?_;clear h;intro M h)|refine St.to h ?_|(apply Exists.intro;(repeat apply Exists.intro);refine And.intro rfl ?_)|refine aq ?_|refine af ?_|refine ai ?_)
 refine ry h hcb fun q hq => ?_
 have hsc : (dL x.aI k).Small 1000000 := s1 _ (qj c0 c1)
 refine CD h (hsc.mono (by omega)) ?_
 clear h
 intro M h
 replace h := h.cQ bg cb hcb (by omega)
 unfold Wd.put at k1 k2
 dsimp only at k1 k2
 generalize (dL x.aI k).send v = s at h k1 k2 hr D0
 obtain ⟨c', w, ok, e⟩ := s
 dsimp only [LH] at h k1 k2 hr D0 ⊢
 refine ⟨w.g, w.cs, w.v, ok, e, rfl, ?_⟩
 repeat (first|(refine aj h ?_;clear h;intro kb M h)|(refine ak h ?_;clear h;intro M h)|refine St.to h ?_|(apply Exists.intro;(repeat apply Exists.intro);refine And.intro rfl ?_)|refine aq ?_|refine af ?_|refine ai ?_)
 refine bB.2 ⟨fun e10 => ?_, fun e10 => ?_⟩
 ·rw [if_pos e10] at k2
  replace h := aM (a := a) (p := p) (pa := pa) (dr := dr) (gg := gg) (x := x.eT k c') (nf hl) h b
  exact k2 _ _ _ rfl h.bH
 ·rw [if_neg e10] at k1
  replace h := aM (a := a) (p := p) (pa := pa) (dr := dr) (gg := gg) (x := x.eT k c') (nf hl) h b
  refine eZ.2 ⟨fun ht => ?_, fun ht => ?_⟩
  ·subst ht
   simp only [if_true] at k1
   repeat (first|(refine aj h ?_;clear h;intro kb M h)|(refine ak h ?_;clear h;intro M h)|refine St.to h ?_|(apply Exists.intro;(repeat apply Exists.intro);refine And.intro rfl ?_)|refine aq ?_|refine af ?_|refine ai ?_)
   refine mI (b := b) (v := w) h hp (show uU p (x.eT k c') w from hr rfl) (Be hs D0) ?_
   clear h
   intro M h
   exact ⟨rfl, k1 _ _ _ rfl h.bH⟩
  ·subst ht
   simp only [Bool.false_eq_true, if_false] at k1
   exact k1 _ _ _ rfl h.bH
theorem xZ {k : Int} (h : Hp R L M) [o : sk b L pa p gg dr x L'] (hk : vG x k) (hs : x.Sm)
  (k1 : ∀ M', Hp R (ax (aU pa p gg dr) b (x.get k).1 :: L') M' → K (.tuple #[.int .i64 (x.get k).2.1, .int .i64 (x.get k).2.2.1, .bool (x.get k).2.2.2]) M') :
  aa Tryz.prog 210 #[.pointer (some ⟨b, 0, none⟩), .int .i64 k] M K Kp := by
 refine oV ?_
 obtain ⟨hc, hr, D0⟩ := hk
 have hs' := hs
 obtain ⟨s1, s2, s3, s4, s5, s6, s7, s8⟩ := hs'
 have h' := bS h (b := b)
 clear h
 obtain ⟨a, hl, h⟩ := h'
 have hl' := hl
 obtain ⟨l1, l2, l3, l4⟩ := hl'
 have BV := hc
 obtain ⟨c0, c1⟩ := BV
 have h' := IB h hl hc
 clear h
 obtain ⟨cb, hcb, vz, h⟩ := h'
 repeat (first|(refine aj h ?_;clear h;intro kb M h)|(refine ak h ?_;clear h;intro M h)|refine St.to h ?_|(apply Exists.intro;(repeat apply Exists.intro);refine And.intro rfl ?_)|refine aq ?_|refine af ?_|refine ai ?_)
 refine ry h hcb fun q hq => ?_
 have hsc : (dL x.aI k).Small 1000000 := s1 _ (qj c0 c1)
 refine CE h (hsc.mono (by omega)) ?_
 clear h
 intro M h
 replace h := h.cQ bg cb hcb (by omega)
 unfold Wd.get at k1
 dsimp only at k1
 generalize (dL x.aI k).recv = s at h k1 hr D0
 obtain ⟨c', v, some, w, LX, e⟩ := s
 dsimp only [LI] at h k1 hr D0 ⊢
 refine ⟨v, some, w.g, w.cs, w.v, LX, e, rfl, ?_⟩
 repeat (first|(refine aj h ?_;clear h;intro kb M h)|(refine ak h ?_;clear h;intro M h)|refine St.to h ?_|(apply Exists.intro;(repeat apply Exists.intro);refine And.intro rfl ?_)|refine aq ?_|refine af ?_|refine ai ?_)
 replace h := aM (a := a) (p := p) (pa := pa) (dr := dr) (gg := gg) (x := x.eT k c') (nf hl) h b
 refine eZ.2 ⟨fun ht => ?_, fun ht => ?_⟩
 ·subst ht
  simp only [if_true] at k1
  repeat (first|(refine aj h ?_;clear h;intro kb M h)|(refine ak h ?_;clear h;intro M h)|refine St.to h ?_|(apply Exists.intro;(repeat apply Exists.intro);refine And.intro rfl ?_)|refine aq ?_|refine af ?_|refine ai ?_)
  refine C2 (b := b) (v := w) h (show Az (x.eT k c') w from hr rfl) (Be hs D0) ?_
  clear h
  intro M h
  repeat (first|(refine aj h ?_;clear h;intro kb M h)|(refine ak h ?_;clear h;intro M h)|refine St.to h ?_|(apply Exists.intro;(repeat apply Exists.intro);refine And.intro rfl ?_)|refine aq ?_|refine af ?_|refine ai ?_)
  refine eZ.2 ⟨fun hb => ?_, fun hb => ?_⟩
  ·subst hb
   repeat (first|(refine aj h ?_;clear h;intro kb M h)|(refine ak h ?_;clear h;intro M h)|refine St.to h ?_|(apply Exists.intro;(repeat apply Exists.intro);refine And.intro rfl ?_)|refine aq ?_|refine af ?_|refine ai ?_)
   exact k1 _ h.bH
  ·subst hb
   exact k1 _ h.bH
 ·subst ht
  simp only [Bool.false_eq_true, if_false] at k1
  repeat (first|(refine aj h ?_;clear h;intro kb M h)|(refine ak h ?_;clear h;intro M h)|refine St.to h ?_|(apply Exists.intro;(repeat apply Exists.intro);refine And.intro rfl ?_)|refine aq ?_|refine af ?_|refine ai ?_)
  refine eZ.2 ⟨fun hb => ?_, fun hb => ?_⟩
  ·subst hb
   repeat (first|(refine aj h ?_;clear h;intro kb M h)|(refine ak h ?_;clear h;intro M h)|refine St.to h ?_|(apply Exists.intro;(repeat apply Exists.intro);refine And.intro rfl ?_)|refine aq ?_|refine af ?_|refine ai ?_)
   exact k1 _ h.bH
  ·subst hb
   exact k1 _ h.bH
end
end Go.Proofs
namespace Go.Proofs
open Go.AF
def bt (x : Wd) (g q : Int) : Int := (au x g).top.bL q
def Wd.IC (x : Wd) (k g v : Int) : Wd := x.eT k { dL x.aI k with snd := (dL x.aI k).snd ++ [⟨g, 0, v⟩] }
def Wd.ID (x : Wd) (k g : Int) : Wd := x.eT k { dL x.aI k with jd := (dL x.aI k).jd ++ [⟨g, 0, 0⟩] }
def Wd.send (p : cM) (x : Wd) (g : Int) (i : eD) : Out Wd := match x.put p i.a (bt x g i.b) with
 | .eF n y => .eF n y
 | .ee l y => .ee l y
 | .on (y, true) => .on y
 | .on (y, false) => .on ((y.IC i.a g (bt y g i.b)).block g i)
def Wd.recv (x : Wd) (g : Int) (i : eD) : Wd :=
 if (x.get i.a).2.2.2 then ((x.get i.a).1.cn g i.b (x.get i.a).2.1).cn g i.c (x.get i.a).2.2.1
 else ((x.get i.a).1.ID i.a g).block g i
def fx (p : cM) (x : Wd) (v : Wt) : Wd := if (au x v.g).st = 2 then x.received p { v with v := 0 } 0 else x
def Wd.shut (p : cM) (x : Wd) (i : eD) : Out Wd :=
 let s := (dL x.aI i.a).close
 let y := x.eT i.a s.1
 if s.2.2.2 ≠ 0 then .eF (-2) y else if 0 < s.2.2.1.length then .eF (-1) y else .on (s.2.1.foldl (fx p) y)
def vH (p : cM) (x : Wd) : List Wt → Prop
 | [] => True
 | v :: l => x.Sm ∧ 0 ≤ v.g ∧ v.g < x.gs.length ∧ ((au x v.g).st = 2 → uU p x { v with v := 0 }) ∧ vH p (fx p x v) l
instance C4 (p : cM) : ∀ (l : List Wt) (x : Wd), Decidable (vH p x l)
 | [], _ => isTrue trivial
 | v :: l, x => by
  have := C4 p l (fx p x v)
  unfold vH; infer_instance
theorem ya {p : cM} : ∀ {l : List Wt} {x : Wd} {i : Nat} {v : Wt}, vH p x l → l[i]? = some v →
  let y := (l.take i).foldl (fx p) x
  y.Sm ∧ 0 ≤ v.g ∧ v.g < y.gs.length ∧ ((au y v.g).st = 2 → uU p y { v with v := 0 })
 | [], _, _, _, _, h => by simp at h
 | w :: l, x, 0, v, h, hv => by simp at hv; subst hv; exact ⟨h.1, h.2.1, h.2.2.1, h.2.2.2.1⟩
 | w :: l, x, i + 1, v, h, hv => ya (l := l) h.2.2.2.2 (by simpa using hv)
def Wd.emit (x : Wd) (g : Int) (i : eD) : Out Wd := if x.out.length ≥ 1000 then .eF (-6) x else .on { x with out := x.out ++ [bt x g i.a] }
def Wd.spawn (x : Wd) (g : Int) (i : eD) : Out Wd := if x.gs.length ≥ 100 then .eF (-5) x else
 .on ((Wd.kY { x with gs := x.gs ++ [⟨0, [gm.begin i.a (bt x g i.b)], .zero⟩] } (x.gs.length : Int)).cn g i.c (x.gs.length : Int))
def Wd.call (x : Wd) (g : Int) (i : eD) : Out Wd := if (au x g).fs.length ≥ 16 then .eF (-4) x else
 .on (x.b9 g { au x g with fs := (au x g).fs ++ [⟨i.a, 0, [bt x g i.b, 0, 0, 0, 0, 0, 0, 0], i.c⟩] })
def pJ.back (y : pJ) (v : Int) : pJ := { y with fs := (y.fs.take (y.fs.length - 1)).set (y.fs.length - 2) ((y.fs.getD (y.fs.length - 2) ⟨0, 0, [], 0⟩).set y.top.qk v) }
def Wd.back (x : Wd) (g : Int) (i : eD) : Wd := if 2 ≤ (au x g).fs.length then x.b9 g ((au x g).back (bt x g i.a))
 else if g = 0 then { x.b9 g { au x g with st := 4 } with end_ := 1 } else x.b9 g { au x g with st := 4 }
end Go.Proofs
namespace Go.Proofs
open Go.AF
set_option maxRecDepth 100000
set_option maxHeartbeats 1000000
attribute [local irreducible] aE cY gh cz ay fL az aF aX bh bJ aK
section
variable {R : Mem} {L L' : List HP} {M : Mem} {K : Value → Mem → Prop} {Kp : List PanicEntry → Mem → Prop} {pa : PA} {p : cM} {gg : List GA} {dr : Value} {b : Nat} {x : Wd}
theorem e7 {g : Int} {A : Option Addr} {c : Nat} (h : Hp R L M) [o : sk b L pa p gg dr x L'] (h0 : 0 ≤ g) (hg : g < x.gs.length) (dh : gg[g.toNat]? = some (A, c)) :
  ∃ (a : WA) (gb : Nat), dz gg a x ∧ a.gb[g.toNat]? = some gb ∧
   Hp R (pt gb (mH (au x g) A c) 229 :: qN A c (au x g).fs :: pt b (jv pa p dr a x) 161 :: jg eA a.gb (x.gs.zip gg) g.toNat :: ov a x L') M := by
 obtain ⟨a, gb, A', c', hl, ei, RE, h1⟩ := gQ h (b := b) h0 hg
 rw [dh] at RE
 cases RE
 exact ⟨a, gb, hl, ei, h1⟩
theorem Bf {g q : Int} {bs c oo : Nat} {G : Int → Prop} (h : Hp R L M) [o : sk b L pa p gg dr x L'] (hg : bA x g) (dh : gg[g.toNat]? = some (some ⟨bs, 0, none⟩, c)) (hq : bz q) (e : oo = ((au x g).fs.length - 1) * 11 + 2 + q.toNat)
  (k : G (bt x g q)) : aE (M.ld ⟨bs, oo, none⟩) .i64 G := by
 obtain ⟨h0, h1, h2, h3⟩ := hg
 obtain ⟨a, gb, hl, ei, h4⟩ := e7 h (b := b) h0 h1 dh
 exact qO h4 (cV h2) hq e k
theorem jj {g q v : Int} {bs c oo : Nat} {G : Mem → Prop} (h : Hp R L M) [o : sk b L pa p gg dr x L'] (hg : bA x g) (dh : gg[g.toNat]? = some (some ⟨bs, 0, none⟩, c)) (hq : bz q) (e : oo = ((au x g).fs.length - 1) * 11 + 2 + q.toNat)
  (k : ∀ M', Hp R (ax (aU pa p gg dr) b (x.cn g q v) :: L') M' → G M') : aF M ⟨bs, oo, none⟩ (.int .i64 v) G := by
 obtain ⟨h0, h1, h2, h3⟩ := hg
 obtain ⟨a, gb, hl, ei, h4⟩ := e7 h (b := b) h0 h1 dh
 refine sj h4 (cV h2) hq e fun M' h5 => ?_
 replace h5 := b6 h5 gb hl ei dh (by simp)
 exact k M' (aM (a := a) (p := p) (pa := pa) (dr := dr) (gg := gg) (x := x.cn g q v) (cy hl) h5 b)
theorem LY {G : Option Addr → Nat → Nat → Prop} (h : Hp R L M) [o : sk b L pa p gg dr x L'] (k1 : ∀ a : WA, dz gg a x → Hp R (pt b (jv pa p dr a x) 161 :: aP eA a.gb (x.gs.zip gg) :: ov a x L') M → G a.ac a.cb.length a.cc) : ay (M.ld ⟨b, 0 + 6, none⟩) G := by
 obtain ⟨a, hl, h1⟩ := bS h (b := b)
 exact av h1 (k1 a hl h1)
def Out.Ok {α : Type} (r : Out α) (k1 : α → Prop) (k2 : Int → Wd → Prop) (k3 : List PanicEntry → Wd → Prop := fun _ _ => True) : Prop := match r with
 | .on y => k1 y
 | .eF n y => k2 n y
 | .ee l y => k3 l y
def vI (x : Wd) (k : Int) : Prop := C3 x k ∧ (dL x.aI k).Small 999999
instance (x : Wd) (k : Int) : Decidable (vI x k) := by unfold vI; infer_instance
def C5 (p : cM) (x : Wd) (g : Int) (i : eD) : Prop := bA x g ∧ bz i.b ∧ qR p x i.a (bt x g i.b) ∧
 match x.put p i.a (bt x g i.b) with
 | .on (y, false) => bA y g ∧ (au y g).fs.length = (au x g).fs.length ∧ vI y i.a
 | _ => True
theorem C6 {g : Int} {i : eD} {bs c : Nat} (h : Hp R L M) [o : sk b L pa p gg dr x L'] (hp : RS uT R pa.k pa.kc p.cases) (dh : gg[g.toNat]? = some (some ⟨bs, 0, none⟩, c)) (hk : C5 p x g i) (hs : x.Sm)
  (k : Out.Ok (x.send p g i) (fun y => ∀ M', Hp R (ax (aU pa p gg dr) b y :: L') M' → K (.tuple #[]) M')
   (fun n y => ∀ M', Hp R (ax (aU pa p gg dr) b y :: L') M' → Kp [{ v := .iface 340 (.int .i64 n), recovered := false }] M')) :
  aa Tryz.prog 215 #[.pointer (some ⟨b, 0, none⟩), .int .i64 g, .pointer (some ⟨bs, ((au x g).fs.length - 1) * 11, none⟩), .agg #[.int .i64 i.op, .int .i64 i.a, .int .i64 i.b, .int .i64 i.c]] M K Kp := by
 refine nD ?_
 obtain ⟨hg, hb, hput, hw⟩ := hk
 repeat (first|(refine aj h ?_;clear h;intro kb M h)|(refine ak h ?_;clear h;intro M h)|refine St.to h ?_|(apply Exists.intro;(repeat apply Exists.intro);refine And.intro rfl ?_)|refine aq ?_|refine af ?_|refine ai ?_)
 refine ⟨hb.1, hb.2, Bf (b := b) h hg dh hb rfl ?_⟩
 unfold Wd.send at k
 refine xY (b := b) h hp hput hs ?_ ?_
 ·intro y ok M' e h
  rw [e] at k hw
  cases ok with
  | true =>
   dsimp only at k
   refine eC (ai ?_)
   exact k _ h.bH
  | false =>
   dsimp only at k hw
   obtain ⟨Bg, hfl, vz, D0⟩ := hw
   refine eC (af ?_)
   refine LY h fun a hl h => ?_
   have hl' := hl
   obtain ⟨l1, l2, l3, l4⟩ := hl'
   have BV := vz
   obtain ⟨c0, c1⟩ := BV
   have h' := IB h hl vz
   clear h
   obtain ⟨cb, hcb, OP, h⟩ := h'
   repeat (first|(refine aj h ?_;clear h;intro kb M h)|(refine ak h ?_;clear h;intro M h)|refine St.to h ?_|(apply Exists.intro;(repeat apply Exists.intro);refine And.intro rfl ?_)|refine aq ?_|refine af ?_|refine ai ?_)
   refine ry h hcb fun q hq => ?_
   repeat (first|(refine aj h ?_;clear h;intro kb M h)|(refine ak h ?_;clear h;intro M h)|refine St.to h ?_|(apply Exists.intro;(repeat apply Exists.intro);refine And.intro rfl ?_)|refine aq ?_|refine af ?_|refine ai ?_)
   refine ⟨hb.1, hb.2, ?_⟩
   have h2 := h.rX bg cb hcb OP
   have h3 := aM (a := a) (p := p) (pa := pa) (dr := dr) (gg := gg) (x := y) hl h2 b
   refine Bf (b := b) h3 Bg dh hb (by rw [hfl]) ?_
   clear h2 h3
   refine l9 (w := ⟨g, 0, bt y g i.b⟩) h (D0.mono (by omega)) ?_
   clear h
   intro M h
   replace h := h.cQ bg cb hcb (by omega)
   replace h := aM (a := a) (p := p) (pa := pa) (dr := dr) (gg := gg) (x := y.IC i.a g (bt y g i.b)) (nf hl) h b
   repeat (first|(refine aj h ?_;clear h;intro kb M h)|(refine ak h ?_;clear h;intro M h)|refine St.to h ?_|(apply Exists.intro;(repeat apply Exists.intro);refine And.intro rfl ?_)|refine aq ?_|refine af ?_|refine ai ?_)
   refine ji (b := b) (i := i) (x := y.IC i.a g (bt y g i.b)) h Bg.1 Bg.2.1 ?_
   clear h
   intro M h
   exact ⟨rfl, k _ h.bH⟩
 ·intro y n M' e h
  rw [e] at k
  exact k _ h.bH
def vJ (x : Wd) (g : Int) (i : eD) : Prop := bA x g ∧ bz i.b ∧ bz i.c ∧ vG x i.a ∧ bA (x.get i.a).1 g ∧ (au (x.get i.a).1 g).fs.length = (au x g).fs.length ∧ ((x.get i.a).2.2.2 = false → vI (x.get i.a).1 i.a)
theorem C7 {g : Int} {i : eD} {bs c : Nat} (h : Hp R L M) [o : sk b L pa p gg dr x L'] (dh : gg[g.toNat]? = some (some ⟨bs, 0, none⟩, c)) (hk : vJ x g i) (hs : x.Sm)
  (k : ∀ M', Hp R (ax (aU pa p gg dr) b (x.recv g i) :: L') M' → K (.tuple #[]) M') :
  aa Tryz.prog 216 #[.pointer (some ⟨b, 0, none⟩), .int .i64 g, .pointer (some ⟨bs, ((au x g).fs.length - 1) * 11, none⟩), .agg #[.int .i64 i.op, .int .i64 i.a, .int .i64 i.b, .int .i64 i.c]] M K Kp := by
 refine nE ?_
 obtain ⟨hg, hb, hc, OQ, Bg, hfl, hw⟩ := hk
 repeat (first|(refine aj h ?_;clear h;intro kb M h)|(refine ak h ?_;clear h;intro M h)|refine St.to h ?_|(apply Exists.intro;(repeat apply Exists.intro);refine And.intro rfl ?_)|refine aq ?_|refine af ?_|refine ai ?_)
 refine xZ (b := b) h OQ hs ?_
 clear h
 intro M h
 unfold Wd.recv at k
 generalize x.get i.a = r at h k Bg hfl hw
 obtain ⟨y, v, sm, ok⟩ := r
 dsimp only at h k Bg hfl hw ⊢
 refine ⟨v, sm, ok, rfl, ?_⟩
 cases ok with
 | true =>
  simp only [if_true] at k
  refine ai ?_
  repeat (first|(refine aj h ?_;clear h;intro kb M h)|(refine ak h ?_;clear h;intro M h)|refine St.to h ?_|(apply Exists.intro;(repeat apply Exists.intro);refine And.intro rfl ?_)|refine aq ?_|refine af ?_|refine ai ?_)
  refine ⟨hb.1, hb.2, ?_⟩
  repeat (first|(refine aj h ?_;clear h;intro kb M h)|(refine ak h ?_;clear h;intro M h)|refine St.to h ?_|(apply Exists.intro;(repeat apply Exists.intro);refine And.intro rfl ?_)|refine aq ?_|refine af ?_|refine ai ?_)
  refine jj (b := b) h Bg dh hb (by rw [hfl]) ?_
  clear h
  intro M h
  repeat (first|(refine aj h ?_;clear h;intro kb M h)|(refine ak h ?_;clear h;intro M h)|refine St.to h ?_|(apply Exists.intro;(repeat apply Exists.intro);refine And.intro rfl ?_)|refine aq ?_|refine af ?_|refine ai ?_)
  have Fz := fX (q := i.b) (v := v) Bg
  have pR : (au (y.cn g i.b v) g).fs.length = (au x g).fs.length := by rw [fW Bg]; simpa [pJ.dw] using hfl
  refine ⟨hc.1, hc.2, jj (b := b) h Fz dh hc (by rw [pR]) ?_⟩
  clear h
  intro M h
  repeat (first|(refine aj h ?_;clear h;intro kb M h)|(refine ak h ?_;clear h;intro M h)|refine St.to h ?_|(apply Exists.intro;(repeat apply Exists.intro);refine And.intro rfl ?_)|refine aq ?_|refine af ?_|refine ai ?_)
  exact k _ h.bH
 | false =>
  simp only [Bool.false_eq_true, if_false] at k
  refine af ?_
  obtain ⟨vz, D0⟩ := hw rfl
  refine LY h fun a hl h => ?_
  have hl' := hl
  obtain ⟨l1, l2, l3, l4⟩ := hl'
  have BV := vz
  obtain ⟨c0, c1⟩ := BV
  have h' := IB h hl vz
  clear h
  obtain ⟨cb, hcb, OP, h⟩ := h'
  repeat (first|(refine aj h ?_;clear h;intro kb M h)|(refine ak h ?_;clear h;intro M h)|refine St.to h ?_|(apply Exists.intro;(repeat apply Exists.intro);refine And.intro rfl ?_)|refine aq ?_|refine af ?_|refine ai ?_)
  refine ry h hcb fun q hq => ?_
  refine mb (w := ⟨g, 0, 0⟩) h (D0.mono (by omega)) ?_
  clear h
  intro M h
  replace h := h.cQ bg cb hcb (by omega)
  replace h := aM (a := a) (p := p) (pa := pa) (dr := dr) (gg := gg) (x := y.ID i.a g) (nf hl) h b
  repeat (first|(refine aj h ?_;clear h;intro kb M h)|(refine ak h ?_;clear h;intro M h)|refine St.to h ?_|(apply Exists.intro;(repeat apply Exists.intro);refine And.intro rfl ?_)|refine aq ?_|refine af ?_|refine ai ?_)
  refine ji (b := b) (i := i) (x := y.ID i.a g) h Bg.1 Bg.2.1 ?_
  clear h
  intro M h
  exact ⟨rfl, k _ h.bH⟩
theorem C8 {g : Int} {i : eD} {bs c : Nat} (h : Hp R L M) [o : sk b L pa p gg dr x L'] (dh : gg[g.toNat]? = some (some ⟨bs, 0, none⟩, c)) (hg : bA x g) (ha : bz i.a) (hs : x.Sm)
  (k : Out.Ok (x.emit g i) (fun y => ∀ M', Hp R (ax (aU pa p gg dr) b y :: L') M' → K (.tuple #[]) M')
   (fun n y => ∀ M', Hp R (ax (aU pa p gg dr) b y :: L') M' → Kp [{ v := .iface 340 (.int .i64 n), recovered := false }] M')) :
  aa Tryz.prog 221 #[.pointer (some ⟨b, 0, none⟩), .int .i64 g, .pointer (some ⟨bs, ((au x g).fs.length - 1) * 11, none⟩), .agg #[.int .i64 i.op, .int .i64 i.a, .int .i64 i.b, .int .i64 i.c]] M K Kp := by
 refine nH ?_
 obtain ⟨s1, s2, s3, s4, s5, s6, s7, s8⟩ := hs
 have zk := hg
 obtain ⟨h0, h1, h2, h3⟩ := zk
 unfold Wd.emit at k
 refine aj h ?_
 clear h
 intro kb M h
 have h' := e7 h (b := b) h0 h1 dh
 clear h
 obtain ⟨a, gb, hl, ei, h⟩ := h'
 have hl' := hl
 obtain ⟨l1, l2, l3, l4⟩ := hl'
 have ex : x.b9 g (au x g) = x := by
  obtain ⟨y, hy⟩ := aL (l := x.gs) (i := g.toNat) (by omega)
  have e : au x g = y := by simp [au, hy]
  rw [e]
  obtain ⟨hi, rfl⟩ := List.getElem?_eq_some_iff.1 hy
  simp [Wd.b9]
 repeat (first|(refine aj h ?_;clear h;intro kb M h)|(refine ak h ?_;clear h;intro M h)|refine St.to h ?_|(apply Exists.intro;(repeat apply Exists.intro);refine And.intro rfl ?_)|refine aq ?_|refine af ?_|refine ai ?_)
 refine aH.2 ⟨fun hn => ?_, fun hn => ?_⟩
 ·rw [if_pos (by omega)] at k
  replace h := b6 h gb hl ei dh
  have jt := cy (y := au x g) (g := g) hl
  replace h := aM (a := a) (p := p) (pa := pa) (dr := dr) (gg := gg) (x := x.b9 g (au x g)) jt h b
  rw [ex] at h
  exact k _ h.bH
 ·rw [if_neg (by omega)] at k
  repeat (first|(refine aj h ?_;clear h;intro kb M h)|(refine ak h ?_;clear h;intro M h)|refine St.to h ?_|(apply Exists.intro;(repeat apply Exists.intro);refine And.intro rfl ?_)|refine aq ?_|refine af ?_|refine ai ?_)
  refine ⟨ha.1, ha.2, qO h (cV h2) ha rfl ?_⟩
  repeat (first|(refine aj h ?_;clear h;intro kb M h)|(refine ak h ?_;clear h;intro M h)|refine St.to h ?_|(apply Exists.intro;(repeat apply Exists.intro);refine And.intro rfl ?_)|refine aq ?_|refine af ?_|refine ai ?_)
  refine h.bu uR [bt x g i.a] rfl rfl (by simp; omega) ?_
  clear h
  intro A' c' M h
  repeat (first|(refine aj h ?_;clear h;intro kb M h)|(refine ak h ?_;clear h;intro M h)|refine St.to h ?_|(apply Exists.intro;(repeat apply Exists.intro);refine And.intro rfl ?_)|refine aq ?_|refine af ?_|refine ai ?_)
  replace h := b6 h gb hl ei dh
  have jt := cy (y := au x g) (g := g) hl
  have h5 := aM (a := { a with ao := A', co := c' }) (p := p) (pa := pa) (dr := dr) (gg := gg) (x := { x.b9 g (au x g) with out := x.out ++ [bt x g i.a] }) jt h b
  rw [ex] at h5
  exact k _ h5.bH
end
theorem LZ : bn Tryz.prog 155 224 1 8 [.pointer none] := bn.mk' (zv := .pointer none) (by kernel_rfl) (by kernel_rfl) rfl (by omega)
section
variable {R : Mem} {L L' : List HP} {M : Mem} {K : Value → Mem → Prop} {Kp : List PanicEntry → Mem → Prop} {pa : PA} {p : cM} {gg : List GA} {dr : Value} {b : Nat} {x : Wd}
def so (x : Wd) (fn v : Int) : Wd := { x with gs := x.gs ++ [⟨0, [gm.begin fn v], .zero⟩] }
theorem IE {a : WA} {k bs : Nat} {A' : Option Addr} {c' : Nat} {fn v : Int} (hl : dz gg a x)
  (h : Hp R (pt b (jv pa p dr { a with ag := A', cg := c', gb := a.gb ++ [k] } x) 161 :: vD A' c' (a.gb ++ [k]) :: pt k [.int .i64 0, .slice (some ⟨bs, 0, none⟩) 1 1, .int .i64 0, .int .i64 0, .int .i64 0, .int .i64 0] 229 ::
   qN (some ⟨bs, 0, none⟩) 1 [gm.begin fn v] :: aP eA a.gb (x.gs.zip gg) :: vE a.ac a.cc a.cb :: aP bg a.cb x.aI :: vF a.al a.cl a.lb :: aP ef a.lb x.bE :: eG a.ah a.ch x.hl :: qf a.ao a.co x.out :: iY a.ar a.cr x.ready :: L) M) :
  Hp R (ax (aU pa p (gg ++ [(some ⟨bs, 0, none⟩, 1)]) dr) b (so x fn v) :: L) M := by
 obtain ⟨l1, l2, l3, l4⟩ := hl
 have h1 := jV h k
 have h2 := h1.ik eA k (by rw [List.length_zip]; omega)
 have e : x.gs.zip gg ++ [(⟨0, [gm.begin fn v], ⟨0, 0, 0, 0⟩⟩, (some ⟨bs, 0, none⟩, 1))] = (so x fn v).gs.zip (gg ++ [(some ⟨bs, 0, none⟩, 1)]) := by
  unfold so
  rw [List.zip_append (by omega)]; rfl
 rw [e] at h2
 exact aM (a := { a with ag := A', cg := c', gb := a.gb ++ [k] }) (p := p) (pa := pa) (dr := dr) (gg := gg ++ [(some ⟨bs, 0, none⟩, 1)]) (x := so x fn v) ⟨by simp [so, l1], by simp [so, l2], l3, l4⟩ h2 b
theorem C9 {g fn v : Int} (hg : bA x g) : au (so x fn v) g = au x g := by
 obtain ⟨h0, h1, h2, h3⟩ := hg
 unfold au so
 dsimp only
 rw [List.getD_eq_getElem?_getD, List.getElem?_append_left (by omega), ← List.getD_eq_getElem?_getD]
theorem Bh {g : Int} {i : eD} {bs c : Nat} (h : Hp R L M) [o : sk b L pa p gg dr x L'] (dh : gg[g.toNat]? = some (some ⟨bs, 0, none⟩, c)) (hg : bA x g) (hb : bz i.b) (hc : bz i.c) (hs : x.Sm)
  (k : Out.Ok (x.spawn g i) (fun y => ∀ jk M', Hp R (ax (aU pa p jk dr) b y :: L') M' → K (.tuple #[]) M')
   (fun n y => ∀ M', Hp R (ax (aU pa p gg dr) b y :: L') M' → Kp [{ v := .iface 340 (.int .i64 n), recovered := false }] M')) :
  aa Tryz.prog 213 #[.pointer (some ⟨b, 0, none⟩), .int .i64 g, .pointer (some ⟨bs, ((au x g).fs.length - 1) * 11, none⟩), .agg #[.int .i64 i.op, .int .i64 i.a, .int .i64 i.b, .int .i64 i.c]] M K Kp := by
 refine mh ?_
 obtain ⟨s1, s2, s3, s4, s5, s6, s7, s8⟩ := hs
 unfold Wd.spawn at k
 refine aj h ?_
 clear h
 intro kb M h
 have hC := h
 have h' := bS h (b := b)
 clear h
 obtain ⟨a, hl, h⟩ := h'
 have hl' := hl
 obtain ⟨l1, l2, l3, l4⟩ := hl'
 refine av h ?_
 refine aH.2 ⟨fun hn => ?_, fun hn => ?_⟩
 ·rw [if_pos (by omega)] at k
  exact k _ (hC.drop.pick o.pick)
 rw [if_neg (by omega)] at k
 refine av h ?_
 refine ⟨fun vs M => ∃ bs', Hp R (ax (aU pa p (gg ++ [(some ⟨bs', 0, none⟩, 1)]) dr) b (so x i.a (bt x g i.b)) :: pt kb [.int .i64 i.op, .int .i64 i.a, .int .i64 i.b, .int .i64 i.c] 27 :: L') M, ?_, ?_⟩
 ·repeat (first|(refine aj h ?_;clear h;intro kb M h)|(refine ak h ?_;clear h;intro M h)|refine St.to h ?_|(apply Exists.intro;(repeat apply Exists.intro);refine And.intro rfl ?_)|refine aq ?_|refine af ?_|refine ai ?_)
  refine ⟨hb.1, hb.2, Bf (b := b) hC hg dh hb rfl ?_⟩
  clear hC
  refine ⟨?_, ?_, trivial⟩
  ·repeat (first|(refine aj h ?_;clear h;intro kb M h)|(refine ak h ?_;clear h;intro M h)|refine St.to h ?_|(apply Exists.intro;(repeat apply Exists.intro);refine And.intro rfl ?_)|refine aq ?_|refine af ?_|refine ai ?_)
   refine mG h ?_
   clear h
   intro bs' M h
   repeat (first|(refine aj h ?_;clear h;intro kb M h)|(refine ak h ?_;clear h;intro M h)|refine St.to h ?_|(apply Exists.intro;(repeat apply Exists.intro);refine And.intro rfl ?_)|refine aq ?_|refine af ?_|refine ai ?_)
   refine h.bu LZ [_] rfl rfl (by simp; omega) ?_
   clear h
   intro A' c' M h
   repeat (first|(refine aj h ?_;clear h;intro kb M h)|(refine ak h ?_;clear h;intro M h)|refine St.to h ?_|(apply Exists.intro;(repeat apply Exists.intro);refine And.intro rfl ?_)|refine aq ?_|refine af ?_|refine ai ?_)
   exact ⟨bs', IE hl (h.sub bG)⟩
  ·refine mG h ?_
   clear h
   intro bs' M h
   repeat (first|(refine aj h ?_;clear h;intro kb M h)|(refine ak h ?_;clear h;intro M h)|refine St.to h ?_|(apply Exists.intro;(repeat apply Exists.intro);refine And.intro rfl ?_)|refine aq ?_|refine af ?_|refine ai ?_)
   refine h.bu LZ [_] rfl rfl (by simp; omega) ?_
   clear h
   intro A' c' M h
   repeat (first|(refine aj h ?_;clear h;intro kb M h)|(refine ak h ?_;clear h;intro M h)|refine St.to h ?_|(apply Exists.intro;(repeat apply Exists.intro);refine And.intro rfl ?_)|refine aq ?_|refine af ?_|refine ai ?_)
   exact ⟨bs', IE hl (h.sub bG)⟩
 ·clear h hC
  rintro _ M ⟨bs', h⟩
  have hlen : (so x i.a (bt x g i.b)).gs.length = x.gs.length + 1 := by simp [so]
  have yE : (x.gs.length : Int) = (a.gb.length : Int) := by omega
  rw [← yE]
  refine fE (b := b) h (by omega) (by omega) (by show x.ready.length ≤ _; omega) ?_
  clear h
  intro M h
  repeat (first|(refine aj h ?_;clear h;intro kb M h)|(refine ak h ?_;clear h;intro M h)|refine St.to h ?_|(apply Exists.intro;(repeat apply Exists.intro);refine And.intro rfl ?_)|refine aq ?_|refine af ?_|refine ai ?_)
  have Fz : au ((so x i.a (bt x g i.b)).kY (x.gs.length : Int)) g = au x g := by
   rw [← C9 (fn := i.a) (v := bt x g i.b) hg]
   obtain ⟨h0, h1, _⟩ := hg
   have hne : x.gs.length ≠ g.toNat := by omega
   simp [au, Wd.kY, Wd.b9, List.getElem?_set, hne]
  have hg3 : bA ((so x i.a (bt x g i.b)).kY (x.gs.length : Int)) g := by
   refine ⟨hg.1, ?_, ?_, ?_⟩
   ·have h1 := hg.2.1
    simp only [Wd.kY, Wd.b9, List.length_set, hlen]; omega
   ·rw [Fz]; exact hg.2.2.1
   ·rw [Fz]; exact hg.2.2.2
  have RF : (gg ++ [(some (⟨bs', 0, none⟩ : Addr), 1)])[g.toNat]? = some (some ⟨bs, 0, none⟩, c) := by
   rw [List.getElem?_append_left (by have := hg.2.1; have := hg.1; omega)]; exact dh
  refine ⟨hc.1, hc.2, jj (b := b) h hg3 RF hc (by rw [Fz]) ?_⟩
  clear h
  intro M h
  repeat (first|(refine aj h ?_;clear h;intro kb M h)|(refine ak h ?_;clear h;intro M h)|refine St.to h ?_|(apply Exists.intro;(repeat apply Exists.intro);refine And.intro rfl ?_)|refine aq ?_|refine af ?_|refine ai ?_)
  exact k _ _ h.bH
end
section
variable {R : Mem} {L L' : List HP} {M : Mem} {K : Value → Mem → Prop} {Kp : List PanicEntry → Mem → Prop} {pa : PA} {p : cM} {gg : List GA} {dr : Value} {b : Nat} {x : Wd}
def qS (p : cM) (x : Wd) (i : eD) : Prop := C3 x i.a ∧ (dL x.aI i.a).jd.length ≤ 1000000 ∧
 ((dL x.aI i.a).close.2.2.2 = 0 → (dL x.aI i.a).close.2.2.1 = [] → vH p (x.eT i.a (dL x.aI i.a).close.1) (dL x.aI i.a).close.2.1)
theorem Da {g : Int} {i : eD} {f : Value} {bf of' : Nat} (h : Hp R L M) [o : sk b L pa p gg dr x L'] (hp : RS uT R pa.k pa.kc p.cases) (hk : qS p x i) (hs : x.Sm)
  (k : Out.Ok (x.shut p i) (fun y => ∀ M', Hp R (ax (aU pa p gg dr) b y :: L') M' → K (.tuple #[]) M')
   (fun n y => ∀ M', Hp R (ax (aU pa p gg dr) b y :: L') M' → Kp [{ v := .iface 340 (.int .i64 n), recovered := false }] M')) :
  aa Tryz.prog 217 #[.pointer (some ⟨b, 0, none⟩), .int .i64 g, .pointer (some ⟨bf, of', none⟩), .agg #[.int .i64 i.op, .int .i64 i.a, .int .i64 i.b, .int .i64 i.c]] M K Kp := by
 refine nF ?_
 obtain ⟨vz, hlen, hsh⟩ := hk
 obtain ⟨s1, s2, s3, s4, s5, s6, s7, s8⟩ := hs
 unfold Wd.shut at k
 dsimp only at k
 refine aj h ?_
 clear h
 intro kb M h
 have h' := bS h (b := b)
 clear h
 obtain ⟨a, hl, h⟩ := h'
 have hl' := hl
 obtain ⟨l1, l2, l3, l4⟩ := hl'
 have BV := vz
 obtain ⟨c0, c1⟩ := BV
 have h' := IB h hl vz
 clear h
 obtain ⟨cb, hcb, OP, h⟩ := h'
 repeat (first|(refine aj h ?_;clear h;intro kb M h)|(refine ak h ?_;clear h;intro M h)|refine St.to h ?_|(apply Exists.intro;(repeat apply Exists.intro);refine And.intro rfl ?_)|refine aq ?_|refine af ?_|refine ai ?_)
 refine ry h hcb fun q hq => ?_
 have jr : (dL x.aI i.a).close.2.1.length ≤ 1000000 := by
  unfold aZ.close; split <;> simp [hlen]
 refine Au h ?_
 clear h
 intro A ca B cb' M h
 replace h := h.cQ bg cb hcb (by omega)
 generalize (dL x.aI i.a).close = s at h k hsh jr
 obtain ⟨c', r, sn, e⟩ := s
 dsimp only at h k hsh jr ⊢
 refine ⟨A, _, ca, B, _, cb', e, rfl, ?_⟩
 replace h := aM (a := a) (p := p) (pa := pa) (dr := dr) (gg := gg) (x := x.eT i.a c') (nf hl) h b
 refine bM.2 ⟨fun he => ?_, fun he => ?_⟩
 ·rw [if_pos he] at k
  exact k _ h.bH
 rw [if_neg (by simpa using he)] at k
 refine aH.2 ⟨fun hn => ?_, fun hn => ?_⟩
 ·rw [if_pos (by omega)] at k
  exact k _ h.bH
 rw [if_neg (by omega)] at k
 have RG : sn = [] := by cases sn with
  | nil => rfl
  | cons _ _ => simp at hn
 have hok := hsh he RG
 refine ⟨fun d vs M => ∃ (j : Nat), vs = [.int .i64 (j : Int)] ∧ d = r.length - j ∧ j ≤ r.length ∧ Hp R (ax (aU pa p gg dr) b ((r.take j).foldl (fx p) (x.eT i.a c')) :: qg A ca r :: L') M, ⟨_, 0, rfl, rfl, by omega, h.sub bG⟩, ?_⟩
 clear h
 rintro d _ nn M ⟨j, ta, hd, hj, h⟩
 simp only [List.cons.injEq, Value.int.injEq, and_true, true_and] at ta
 subst ta
 refine aH.2 ⟨fun hlt => ?_, fun hge => ?_⟩
 ·obtain ⟨w, hw⟩ := aL (l := r) (i := j) (by omega)
  obtain ⟨t1, t2, t3, t4⟩ := ya hok hw
  have hstep : (r.take (j + 1)).foldl (fx p) (x.eT i.a c') = fx p ((r.take j).foldl (fx p) (x.eT i.a c')) w := by
   rw [c5 hw, List.foldl_append]; rfl
  generalize (r.take j).foldl (fx p) (x.eT i.a c') = y at h t1 t3 t4 hstep
  obtain ⟨qa, rfl⟩ := h.bj (A := A) (by omega) (by decide)
  refine ⟨by omega, hlt, aS ?_⟩
  simp only [Int.toNat_natCast]
  refine aW (Src.at (h.src (A := some ⟨qa, 0, none⟩)) h (i := j) (j := 0) hw rfl (by simp [gq])) ?_
  refine aW (Src.at (h.src (A := some ⟨qa, 0, none⟩)) h (i := j) (j := 1) hw rfl (by simp [gq])) ?_
  refine aW (Src.at (h.src (A := some ⟨qa, 0, none⟩)) h (i := j) (j := 2) hw rfl (by simp [gq])) ?_
  refine aj h ?_
  clear h
  intro kw M h
  refine ak h ?_
  clear h; intro M h
  refine ak h ?_
  clear h; intro M h
  refine ak h ?_
  clear h; intro M h
  have hC := h
  have h' := gQ h (b := b) t2 t3
  clear h
  obtain ⟨a2, gb, A2, c2, jt, ei, RF, h⟩ := h'
  have OR := jt
  obtain ⟨m1, m2, m3, m4⟩ := OR
  repeat (first|(refine aj h ?_;clear h;intro kb M h)|(refine ak h ?_;clear h;intro M h)|refine St.to h ?_|(apply Exists.intro;(repeat apply Exists.intro);refine And.intro rfl ?_)|refine aq ?_|refine af ?_|refine ai ?_)
  refine ry h ei fun q2 m9 => ?_
  repeat (first|(refine aj h ?_;clear h;intro kb M h)|(refine ak h ?_;clear h;intro M h)|refine St.to h ?_|(apply Exists.intro;(repeat apply Exists.intro);refine And.intro rfl ?_)|refine aq ?_|refine af ?_|refine ai ?_)
  clear h
  have h := hC
  clear hC
  rw [aV (by omega)]
  have hst : fx p y w = if (au y w.g).st = 2 then y.received p { w with v := 0 } 0 else y := rfl
  rw [hst] at hstep
  refine bB.2 ⟨fun e2 => ?_, fun e2 => ?_⟩
  ·rw [if_pos e2] at hstep
   refine ak h ?_
   clear h; intro M h
   repeat (first|(refine aj h ?_;clear h;intro kb M h)|(refine ak h ?_;clear h;intro M h)|refine St.to h ?_|(apply Exists.intro;(repeat apply Exists.intro);refine And.intro rfl ?_)|refine aq ?_|refine af ?_|refine ai ?_)
   refine mI (b := b) (v := { w with v := 0 }) h hp (t4 e2) t1 ?_
   clear h; intro M h
   refine ⟨rfl, r.length - (j + 1), by omega, j + 1, rfl, rfl, by omega, ?_⟩
   rw [hstep]
   exact h.bH
  ·rw [if_neg e2] at hstep
   refine ⟨r.length - (j + 1), by omega, j + 1, rfl, rfl, by omega, ?_⟩
   rw [hstep]
   exact h.sub bG
 ·obtain rfl : j = r.length := by omega
  rw [List.take_length] at h
  exact k _ h.bH
end
theorem ng : bn Tryz.prog 36 3 1 8 [.int .i64 0] := bn.mk' (zv := .int .i64 0) (by kernel_rfl) (by kernel_rfl) rfl (by omega)
structure Rg where
 room : Nat
 l : List Int
def Rg.Ok (x : Rg) (head : Nat) (slots : List Int) : Prop := slots.length = x.room ∧ 0 < x.room ∧ x.room ≤ 1024 ∧ head < x.room ∧ x.l.length ≤ x.room ∧ ∀ i v, x.l[i]? = some v → slots[(head + i) % x.room]? = some v
def dB : pE Rg := ⟨fun b x => exs fun A : Option Addr => exs fun c : Nat => exs fun head : Nat => exs fun slots : List Int =>
 sep [fact (x.Ok head slots), pt b [.slice A x.room c, .int .i64 (head : Int), .int .i64 (x.l.length : Int)] 309, b8 bq 3 A c slots]⟩
section
variable {R : Mem} {L L' : List HP} {M : Mem} {K : Value → Mem → Prop} {Kp : List PanicEntry → Mem → Prop} {b : Nat} {x : Rg}
theorem iq (h : Hp R L M) [o : bO dB b L x L'] : ∃ A c head slots, x.Ok head slots ∧ Hp R (pt b [.slice A x.room c, .int .i64 (head : Int), .int .i64 (x.l.length : Int)] 309 :: b8 bq 3 A c slots :: L') M := by
 have := h.obj dB b
 simpa only [dB, Hp.cP, Hp.aO, List.cons_append, List.nil_append, Hp.dZ] using this
theorem qT {A : Option Addr} {c head : Nat} {slots : List Int} (ok : x.Ok head slots) (h : Hp R (pt b [.slice A x.room c, .int .i64 (head : Int), .int .i64 (x.l.length : Int)] 309 :: b8 bq 3 A c slots :: L) M) : Hp R (ax dB b x :: L) M := by
 refine Hp.tu ?_
 simp only [dB, Hp.cP, Hp.aO, List.cons_append, List.nil_append, Hp.dZ]
 exact ⟨_, _, _, _, ok, h⟩
def e8 (n : Int) : Nat := (min (max n 1) 1024).toNat
theorem K0 (n : Int) : 0 < e8 n ∧ e8 n ≤ 1024 := by unfold e8; omega
theorem IF {n : Int} (h : Hp R L M) (k : ∀ b M', Hp R (ax dB b ⟨e8 n, []⟩ :: L) M' → K (.pointer (some ⟨b, 0, none⟩)) M') : aa Tryz.prog 115 #[.int .i64 n] M K Kp := by
 refine AE ?_
 have e : (if (1024 : Int) < (if (1 : Int) > n then 1 else n) then 1024 else (if (1 : Int) > n then 1 else n)) = ((e8 n : Nat) : Int) := by unfold e8; split <;> split <;> omega
 have bd := K0 n
 rw [e]
 refine h.J1 (E := bq) (a := 0) ng (by omega) ?_
 clear h
 intro kb M h
 repeat (first|(refine aj h ?_;clear h;intro kb M h)|(refine ak h ?_;clear h;intro M h)|refine St.to h ?_|(apply Exists.intro;(repeat apply Exists.intro);refine And.intro rfl ?_)|refine aq ?_|refine af ?_|refine ai ?_)
 refine k _ _ (qT (head := 0) (slots := List.replicate (e8 n) 0) ⟨by simp, bd.1, bd.2, bd.1, by simp, fun i v hv => by simp at hv⟩ (h.sub bG))
theorem yb (h : Hp R L M) [o : bO dB b L x L'] (k : K (.int .i64 (x.room : Int)) M) : aa Tryz.prog 183 #[.pointer (some ⟨b, 0, none⟩)] M K Kp := by
 refine qz ?_
 have h' := iq h (b := b)
 clear h
 obtain ⟨A, c, head, slots, ok, h⟩ := h'
 repeat (first|(refine aj h ?_;clear h;intro kb M h)|(refine ak h ?_;clear h;intro M h)|refine St.to h ?_|(apply Exists.intro;(repeat apply Exists.intro);refine And.intro rfl ?_)|refine aq ?_|refine af ?_|refine ai ?_)
 exact k
theorem qU (h : Hp R L M) [o : bO dB b L x L'] (k : K (.int .i64 (x.l.length : Int)) M) : aa Tryz.prog 181 #[.pointer (some ⟨b, 0, none⟩)] M K Kp := by
 refine r7 ?_
 have h' := iq h (b := b)
 clear h
 obtain ⟨A, c, head, slots, ok, h⟩ := h'
 repeat (first|(refine aj h ?_;clear h;intro kb M h)|(refine ak h ?_;clear h;intro M h)|refine St.to h ?_|(apply Exists.intro;(repeat apply Exists.intro);refine And.intro rfl ?_)|refine aq ?_|refine af ?_|refine ai ?_)
 exact k
theorem uJ {a b : Nat} : Int.tmod (a : Int) (b : Int) = ((a % b : Nat) : Int) := rfl
theorem nh {v : Int} (h : Hp R L M) [o : bO dB b L x L'] (k1 : x.l.length = x.room → ∀ M', Hp R (ax dB b x :: L') M' → K (.bool false) M') (k2 : x.l.length < x.room → ∀ M', Hp R (ax dB b ⟨x.room, x.l ++ [v]⟩ :: L') M' → K (.bool true) M') :
  aa Tryz.prog 184 #[.pointer (some ⟨b, 0, none⟩), .int .i64 v] M K Kp := by
 refine qA ?_
 have h' := iq h (b := b)
 clear h
 obtain ⟨A, c, head, slots, ok, h⟩ := h'
 have ok0 := ok
 obtain ⟨h1, h2, h3, h4, h5, h6⟩ := ok0
 repeat (first|(refine aj h ?_;clear h;intro kb M h)|(refine ak h ?_;clear h;intro M h)|refine St.to h ?_|(apply Exists.intro;(repeat apply Exists.intro);refine And.intro rfl ?_)|refine aq ?_|refine af ?_|refine ai ?_)
 refine bB.2 ⟨fun e => ?_, fun e => ?_⟩
 ·exact k1 (by omega) _ (qT ok h)
 ·have hlt : x.l.length < x.room := by omega
  repeat (first|(refine aj h ?_;clear h;intro kb M h)|(refine ak h ?_;clear h;intro M h)|refine St.to h ?_|(apply Exists.intro;(repeat apply Exists.intro);refine And.intro rfl ?_)|refine aq ?_|refine af ?_|refine ai ?_)
  have e1 : IntKind.wrap .i64 ((head : Int) + (x.l.length : Int)) = ((head + x.l.length : Nat) : Int) := wn (by simp) (by omega)
  rw [e1, uJ]
  have hm := Nat.mod_lt (head + x.l.length) h2
  obtain ⟨b2, rfl⟩ := h.bj (A := A) (by omega) (by decide)
  obtain ⟨w, hw⟩ := aL (l := slots) (i := (head + x.l.length) % x.room) (by omega)
  repeat (first|(refine aj h ?_;clear h;intro kb M h)|(refine ak h ?_;clear h;intro M h)|refine St.to h ?_|(apply Exists.intro;(repeat apply Exists.intro);refine And.intro rfl ?_)|refine aq ?_|refine af ?_|refine ai ?_)
  simp only [Int.toNat_natCast]
  refine gp (a' := v) ((head + x.l.length) % x.room) 0 h hw (by decide) rfl (by simp [bq]) ?_
  clear h; intro M h
  repeat (first|(refine aj h ?_;clear h;intro kb M h)|(refine ak h ?_;clear h;intro M h)|refine St.to h ?_|(apply Exists.intro;(repeat apply Exists.intro);refine And.intro rfl ?_)|refine aq ?_|refine af ?_|refine ai ?_)
  have e2 : IntKind.wrap .i64 ((x.l.length : Int) + 1) = ((x.l.length + 1 : Nat) : Int) := aV (by omega)
  rw [e2] at h
  refine k2 hlt _ (qT (x := ⟨x.room, x.l ++ [v]⟩) (head := head) (slots := slots.set ((head + x.l.length) % x.room) v) ⟨by simpa using h1, h2, h3, h4, by simp; omega, fun i u hu => ?_⟩ (by simpa using h.sub bG))
  dsimp only at hu ⊢
  rcases Nat.lt_or_ge i x.l.length with hi | hi
  ·rw [List.getElem?_append_left hi] at hu
   have hne : (head + i) % x.room ≠ (head + x.l.length) % x.room := by
    intro he
    have a1 : (head + i) % x.room = if head + i < x.room then head + i else head + i - x.room := by
     split
     ·exact Nat.mod_eq_of_lt (by omega)
     ·rw [Nat.mod_eq_sub_mod (by omega)]; exact Nat.mod_eq_of_lt (by omega)
    have a2 : (head + x.l.length) % x.room = if head + x.l.length < x.room then head + x.l.length else head + x.l.length - x.room := by
     split
     ·exact Nat.mod_eq_of_lt (by omega)
     ·rw [Nat.mod_eq_sub_mod (by omega)]; exact Nat.mod_eq_of_lt (by omega)
    rw [a1, a2] at he
    split at he <;> split at he <;> omega
   rw [List.getElem?_set_ne (Ne.symm hne)]
   exact h6 i u hu
  ·rw [List.getElem?_append_right hi] at hu
   have : i = x.l.length := by
    have := (List.getElem?_eq_some_iff.1 hu).1
    simp at this; omega
   subst this
   simp at hu; subst hu
   rw [List.getElem?_set_self (by omega)]
theorem Bi (h : Hp R L M) [o : bO dB b L x L'] (k1 : x.l = [] → ∀ M', Hp R (ax dB b x :: L') M' → K (.tuple #[.int .i64 0, .bool false]) M')
  (k2 : ∀ v l, x.l = v :: l → ∀ M', Hp R (ax dB b ⟨x.room, l⟩ :: L') M' → K (.tuple #[.int .i64 v, .bool true]) M') :
  aa Tryz.prog 177 #[.pointer (some ⟨b, 0, none⟩)] M K Kp := by
 refine r6 ?_
 have h' := iq h (b := b)
 clear h
 obtain ⟨A, c, head, slots, ok, h⟩ := h'
 have ok0 := ok
 obtain ⟨h1, h2, h3, h4, h5, h6⟩ := ok0
 obtain ⟨room, l⟩ := x
 dsimp only at *
 repeat (first|(refine aj h ?_;clear h;intro kb M h)|(refine ak h ?_;clear h;intro M h)|refine St.to h ?_|(apply Exists.intro;(repeat apply Exists.intro);refine And.intro rfl ?_)|refine aq ?_|refine af ?_|refine ai ?_)
 refine bB.2 ⟨fun e => ?_, fun e => ?_⟩
 ·exact k1 (List.length_eq_zero_iff.1 (by omega)) _ (qT ok h)
 ·cases l with
  | nil => simp at e
  | cons v l =>
  have hv := h6 0 v rfl
  rw [Nat.add_zero, Nat.mod_eq_of_lt h4] at hv
  obtain ⟨b2, rfl⟩ := h.bj (A := A) (by omega) (by decide)
  have s0 := h.src (A := some ⟨b2, 0, none⟩)
  repeat (first|(refine aj h ?_;clear h;intro kb M h)|(refine ak h ?_;clear h;intro M h)|refine St.to h ?_|(apply Exists.intro;(repeat apply Exists.intro);refine And.intro rfl ?_)|refine aq ?_|refine af ?_|refine ai ?_)
  simp only [Int.toNat_natCast]
  refine aW (s0.at h (i := head) (j := 0) hv rfl (by simp [bq])) ?_
  repeat (first|(refine aj h ?_;clear h;intro kb M h)|(refine ak h ?_;clear h;intro M h)|refine St.to h ?_|(apply Exists.intro;(repeat apply Exists.intro);refine And.intro rfl ?_)|refine aq ?_|refine af ?_|refine ai ?_)
  have e1 : IntKind.wrap .i64 ((head : Int) + 1) = ((head + 1 : Nat) : Int) := aV (by omega)
  rw [e1, uJ] at h
  have e2 : IntKind.wrap .i64 ((((v :: l).length : Nat) : Int) - 1) = ((l.length : Nat) : Int) := by rw [j8 (by simp only [List.length_cons]; omega) (by simp only [List.length_cons] at h5 ⊢; omega)]; simp
  rw [e2] at h
  have h5' : l.length + 1 ≤ room := by simpa using h5
  refine k2 v l rfl _ (qT (x := ⟨room, l⟩) (head := (head + 1) % room) (slots := slots) ⟨h1, h2, h3, Nat.mod_lt _ h2, by dsimp only; omega, fun i u hu => ?_⟩ (h.sub bG))
  dsimp only at hu ⊢
  have := h6 (i + 1) u (by simpa using hu)
  rw [Nat.mod_add_mod, ← this]
  congr 2; omega
theorem yc {n : Int} (h : Hp R L M) [o : bO dB b L x L'] (k : ∀ A c M', Hp R (b8 bq 3 A c (x.l.take n.toNat) :: ax dB b ⟨x.room, x.l.drop n.toNat⟩ :: L') M' → K (.slice A (x.l.take n.toNat).length c) M') :
  aa Tryz.prog 182 #[.pointer (some ⟨b, 0, none⟩), .int .i64 n] M K Kp := by
 replace h := h.front dB b
 have hx : x.l.length ≤ 1024 := by
  obtain ⟨A, c, head, slots, ok, _⟩ := iq h (b := b)
  have := ok.2.2.1; have := ok.2.2.2.2.1; omega
 refine qy ⟨fun d ws M => ∃ (i : Nat) (A : Option Addr) (c : Nat), ws = [.slice A (x.l.take i).length c] ∧ d = n.toNat - i ∧ i ≤ n.toNat ∧ i ≤ x.l.length ∧
  Hp R (b8 bq 3 A c (x.l.take i) :: ax dB b ⟨x.room, x.l.drop i⟩ :: L') M, ⟨_, 0, none, 0, rfl, rfl, by omega, by omega, h.ck _ _⟩, ?_⟩
 clear h
 rintro d _ A n1 c M ⟨i, _, _, he, hd, hi, hil, h⟩
 simp only [List.cons.injEq, Value.slice.injEq, and_true, true_and] at he
 obtain ⟨rfl, rfl, rfl⟩ := he
 have hlen : (x.l.take i).length = i := by rw [List.length_take]; omega
 refine aH.2 ⟨fun hlt => ?_, fun hge => ?_⟩
 ·refine Bi h (fun e M' h' => ?_) fun v l e M' h' => ?_
  ·repeat (first|(refine aj h ?_;clear h;intro kb M h)|(refine ak h ?_;clear h;intro M h)|refine St.to h ?_|(apply Exists.intro;(repeat apply Exists.intro);refine And.intro rfl ?_)|refine aq ?_|refine af ?_|refine ai ?_)
   have : x.l.length ≤ i := by
    have := congrArg List.length e; simp at this; omega
   rw [List.take_of_length_le this] at h' ⊢
   rw [List.drop_of_length_le this] at h'
   have h1 : x.l.take n.toNat = x.l := List.take_of_length_le (by omega)
   have h2 : x.l.drop n.toNat = [] := List.drop_of_length_le (by omega)
   rw [h1, h2] at k
   exact k _ _ _ h'.swap
  ·clear h
   have h := h'.swap
   clear h'
   dsimp only at e
   have hv : x.l[i]? = some v := by
    have := congrArg (fun l => l[0]?) e
    simpa using this
   have e3 : x.l.drop (i + 1) = l := by
    have := congrArg (List.drop 1) e
    simpa using this
   repeat (first|(refine aj h ?_;clear h;intro kb M h)|(refine ak h ?_;clear h;intro M h)|refine St.to h ?_|(apply Exists.intro;(repeat apply Exists.intro);refine And.intro rfl ?_)|refine aq ?_|refine af ?_|refine ai ?_)
   refine h.bu ng [v] rfl rfl (by simp; omega) ?_
   clear h
   intro A' c' M h
   repeat (first|(refine aj h ?_;clear h;intro kb M h)|(refine ak h ?_;clear h;intro M h)|refine St.to h ?_|(apply Exists.intro;(repeat apply Exists.intro);refine And.intro rfl ?_)|refine aq ?_|refine af ?_|refine ai ?_)
   rw [← c5 hv] at h ⊢
   have jt := (List.getElem?_eq_some_iff.1 hv).1
   refine ⟨n.toNat - (i + 1), by omega, i + 1, A', c', rfl, rfl, by omega, by omega, ?_⟩
   rw [e3]; exact h.sub bG
 ·obtain rfl : i = n.toNat := by omega
  exact k _ _ _ h
end
structure Loc where
 next : Int
 room : Nat
 l : List Int
def Loc.put (x : Loc) (v : Int) (g : List Int) : Loc × List Int × Nat :=
 if x.l.length < x.room then ({ x with l := x.l ++ [v] }, g, 0) else ({ x with l := x.l.drop (x.l.length / 2) }, g ++ (x.l.take (x.l.length / 2) ++ [v]), x.l.length / 2 + 1)
def Loc.ready (x : Loc) (v : Int) (g : List Int) : Loc × List Int × Nat := if x.next = -1 then ({ x with next := v }, g, 0) else ({ x with next := v } : Loc).put x.next g
def Loc.get (x : Loc) : Loc × Int := if x.next ≠ -1 then ({ x with next := -1 }, x.next) else match x.l with
 | [] => (x, -1)
 | v :: l => ({ x with l := l }, v)
def Loc.vK (x : Loc) (g : List Int) : Loc × List Int × Nat := if x.next = -1 then (x, g, 0) else ({ x with next := -1 } : Loc).put x.next g
def Loc.dx (x : Loc) (g : List Int) (p : Int) : Nat := if p < 1 then 1 else min (g.length / p.toNat + 1) (x.room - x.l.length + 1)
def Loc.g6 (x : Loc) (g : List Int) (p : Int) : Loc × List Int × Int := match g.take (x.dx g p) with
 | [] => (x, g, -1)
 | v :: out => ({ x with l := x.l ++ out }, g.drop (x.dx g p), v)
def Loc.gW (x f : Loc) : Nat := min (f.l.length - f.l.length / 2) (x.room - x.l.length + 1)
def Loc.g7 (x f : Loc) : Loc × Loc × Int := match f.l.take (x.gW f) with
 | [] => (x, { f with next := -1 }, f.next)
 | v :: out => ({ x with l := x.l ++ out }, { f with l := f.l.drop (x.gW f) }, v)
def Loc.Ok (x : Loc) : Prop := x.l.length ≤ x.room ∧ x.room ≤ 1024 ∧ 0 < x.room
def bl : pE Loc := ⟨fun b x => exs fun rb : Nat => sep [pt b [.int .i64 x.next, .pointer (some ⟨rb, 0, none⟩)] 237, ax dB rb ⟨x.room, x.l⟩]⟩
structure Ma (gb go : Nat) (P : Option Addr → Nat → Nat → HP) : Prop where
 Db : ∀ (R : Mem) (L : List HP) (M : Mem) (A : Option Addr) (n c : Nat), Hp R (P A n c :: L) M → M.ld ⟨gb, go, none⟩ = some (.slice A n c)
 RH : ∀ (R : Mem) (L : List HP) (M : Mem) (A A' : Option Addr) (n c n' c' : Nat) (G : Mem → Prop), Hp R (P A n c :: L) M → (∀ M', Hp R (P A' n' c' :: L) M' → G M') → aF M ⟨gb, go, none⟩ (.slice A' n' c') G
def fe (P : Option Addr → Nat → Nat → HP) (l : List Int) : HP := exs fun A : Option Addr => exs fun c : Nat => sep [P A l.length c, b8 bq 3 A c l]
class pz (P : Option Addr → Nat → Nat → HP) (L : List HP) (g : outParam (List Int)) (L' : outParam (List HP)) : Prop where
 pick : cv L (fe P g) L'
instance pz.here {P : Option Addr → Nat → Nat → HP} {g : List Int} {L : List HP} : pz P (fe P g :: L) g L := ⟨.here⟩
instance (priority := low) pz.there {P : Option Addr → Nat → Nat → HP} {g : List Int} {Q : HP} {L L' : List HP} [h : pz P L g L'] : pz P (Q :: L) g (Q :: L') := ⟨.there h.pick⟩
section
variable {R : Mem} {L L' kN : List HP} {M : Mem} {K : Value → Mem → Prop} {Kp : List PanicEntry → Mem → Prop} {b gb go b' : Nat} {P : Option Addr → Nat → Nat → HP} {x f : Loc} {g : List Int}
theorem fY (h : Hp R L M) [o : bO bl b L x L'] : ∃ rb, Hp R (pt b [.int .i64 x.next, .pointer (some ⟨rb, 0, none⟩)] 237 :: ax dB rb ⟨x.room, x.l⟩ :: L') M := by
 have := h.obj bl b
 simpa only [bl, Hp.cP, Hp.aO, List.cons_append, List.nil_append] using this
theorem OS {rb : Nat} (h : Hp R (pt b [.int .i64 x.next, .pointer (some ⟨rb, 0, none⟩)] 237 :: ax dB rb ⟨x.room, x.l⟩ :: L) M) : Hp R (ax bl b x :: L) M := by
 refine Hp.tu ?_
 simp only [bl, Hp.cP, Hp.aO, List.cons_append, List.nil_append]
 exact ⟨_, h⟩
theorem bY {next : Int} {rb room : Nat} {l : List Int} {L1 L2 : List HP} (h : Hp R L M) (b : Nat) [p : iF b L [.int .i64 next, .pointer (some ⟨rb, 0, none⟩)] 237 L1] [o : bO dB rb L1 ⟨room, l⟩ L2] : Hp R (ax bl b ⟨next, room, l⟩ :: L2) M :=
 OS (h.sub (.cons p.pick (.cons o.pick .refl)))
theorem gJ (h : Hp R L M) [o : pz P L g L'] : ∃ A c, Hp R (P A g.length c :: b8 bq 3 A c g :: L') M := by
 have := h.pick o.pick
 simpa only [fe, Hp.cP, Hp.aO, List.cons_append, List.nil_append] using this
theorem Ea {A : Option Addr} {c n : Nat} (h : Hp R (P A n c :: b8 bq 3 A c g :: L) M) (e : n = g.length := by first | rfl | simp) : Hp R (fe P g :: L) M := by
 subst e
 simp only [fe, Hp.cP, Hp.aO, List.cons_append, List.nil_append]
 exact ⟨_, _, h⟩
theorem K2 {rb : Nat} {r : Rg} (h : Hp R L M) [o : bO dB rb L r L'] : r.l.length ≤ r.room ∧ r.room ≤ 1024 ∧ 0 < r.room := by
 obtain ⟨A, c, head, slots, ok, _⟩ := iq h (b := rb)
 exact ⟨ok.2.2.2.2.1, ok.2.2.1, ok.2.1⟩
theorem sq (h : Hp R L M) [o : bO bl b L x L'] : x.Ok := by
 obtain ⟨rb, h2⟩ := fY h (b := b)
 exact K2 (rb := rb) h2
theorem yd {room : Int} (h : Hp R L M) (k : ∀ b M', Hp R (ax bl b ⟨-1, e8 room, []⟩ :: L) M' → K (.pointer (some ⟨b, 0, none⟩)) M') : aa Tryz.prog 57 #[.int .i64 room] M K Kp := by
 refine y6 ?_
 refine IF h ?_
 clear h
 intro rb M h
 repeat (first|(refine aj h ?_;clear h;intro kb M h)|(refine ak h ?_;clear h;intro M h)|refine St.to h ?_|(apply Exists.intro;(repeat apply Exists.intro);refine And.intro rfl ?_)|refine aq ?_|refine af ?_|refine ai ?_)
 exact k _ _ (bY h kb)
theorem Dc (h : Hp R L M) [o : bO bl b L x L'] (k : K (.int .i64 x.next) M) : aa Tryz.prog 148 #[.pointer (some ⟨b, 0, none⟩)] M K Kp := by
 refine nT ?_
 have h' := fY h (b := b)
 clear h
 obtain ⟨rb, h⟩ := h'
 repeat (first|(refine aj h ?_;clear h;intro kb M h)|(refine ak h ?_;clear h;intro M h)|refine St.to h ?_|(apply Exists.intro;(repeat apply Exists.intro);refine And.intro rfl ?_)|refine aq ?_|refine af ?_|refine ai ?_)
 exact k
theorem Dd (D : Ma gb go P) (h : Hp R L M) [o : pz P L g L'] (k : K (.int .i64 (g.length : Int)) M) : aa Tryz.prog 202 #[.pointer (some ⟨gb, go, none⟩)] M K Kp := by
 refine nV ?_
 have h' := gJ h (P := P)
 clear h
 obtain ⟨A, c, h⟩ := h'
 rw [D.Db _ _ _ _ _ _ h]
 exact aY k
theorem kI (D : Ma gb go P) {B : Option Addr} {n c : Nat} {l : List Int} (h : Hp R L M) [o : pz P L g L'] (hB : Src R L' B (bq.cells l)) (hn : n = l.length) (hs : g.length + l.length ≤ 1000000000) (k : ∀ M', Hp R (fe P (g ++ l) :: L') M' → K (.tuple #[]) M') :
  aa Tryz.prog 58 #[.pointer (some ⟨gb, go, none⟩), .slice B n c] M K Kp := by
 refine nS ?_
 have h' := gJ h (P := P)
 clear h
 obtain ⟨A, cg, h⟩ := h'
 rw [D.Db _ _ _ _ _ _ h]
 refine aY ?_
 refine h.EX (A := A) (r := l) ng hB.cons.cons hn (by omega) ?_
 clear h
 intro A' c' M h
 refine aY ?_
 refine D.RH _ _ _ _ _ _ _ _ _ _ h.swap ?_
 clear h; intro M h
 exact k _ (Ea h)
theorem mJ (D : Ma gb go P) {n : Int} (h : Hp R L M) [o : pz P L g L'] (hs : g.length ≤ 1000000000) (k : ∀ A c M', Hp R (b8 bq 3 A c (g.take n.toNat) :: fe P (g.drop n.toNat) :: L') M' → K (.slice A (g.take n.toNat).length c) M') :
  aa Tryz.prog 179 #[.pointer (some ⟨gb, go, none⟩), .int .i64 n] M K Kp := by
 refine mw ?_
 have h' := gJ h (P := P)
 clear h
 obtain ⟨A, cg, h⟩ := h'
 have hcap := h.gT A
 have e : (if ((g.length : Nat) : Int) < (if (0 : Int) > n then 0 else n) then ((g.length : Nat) : Int) else (if (0 : Int) > n then 0 else n)) = ((min n.toNat g.length : Nat) : Int) := by split <;> split <;> omega
 have hq : g.take n.toNat = g.take (min n.toNat g.length) ∧ g.drop n.toNat = g.drop (min n.toNat g.length) := by
  rcases Nat.le_total n.toNat g.length with hl | hl
  ·rw [Nat.min_eq_left hl]; exact ⟨rfl, rfl⟩
  ·rw [Nat.min_eq_right hl, List.take_of_length_le hl, List.drop_of_length_le hl]; simp
 rw [hq.1, hq.2] at k
 have hql : min n.toNat g.length ≤ g.length := Nat.min_le_right ..
 rw [D.Db _ _ _ _ _ _ h]
 refine aY ?_
 rw [e]
 generalize min n.toNat g.length = q at *
 have el : (g.take q).length = q := by rw [List.length_take]; omega
 refine aj h ?_
 clear h; intro kb M h
 rw [D.Db _ _ _ _ _ _ h.swap]
 refine aY ?_
 simp only [Int.toNat_natCast, Nat.sub_zero]
 refine ⟨by omega, by omega, by omega, by omega, by omega, by omega, ?_⟩
 refine h.jc bq ng (g.take q) (Src.pre1 (h.src (A := A)) hcap q) (by rw [el]) (by rw [el]; omega) ?_
 clear h
 intro A' c' M h
 refine aY ?_
 refine aj h ?_
 clear h; intro kb2 M h
 replace h : Hp R (P A g.length cg :: b8 bq 3 A cg g :: pt kb2 [] 3 :: b8 bq 3 A' c' (g.take q) :: L') M := h.sub bG
 rw [D.Db _ _ _ _ _ _ h]
 refine aY ?_
 refine ⟨by omega, by omega, by omega, by omega, by omega, by omega, ?_⟩
 refine h.jc bq ng (g.drop q) (Src.KU (h.src (A := A)) hcap q) (by rw [List.length_drop]) (by rw [List.length_drop]; omega) ?_
 clear h
 intro A2 c2 M h
 refine aY ?_
 replace h : Hp R (P A g.length cg :: b8 bq 3 A2 c2 (g.drop q) :: b8 bq 3 A' c' (g.take q) :: L') M := h.sub bG
 refine D.RH _ _ _ _ _ _ _ _ _ _ h ?_
 clear h; intro M h
 rw [← el]
 rw [el]
 exact k _ _ _ ((Ea (P := P) h).swap)
theorem ye (D : Ma gb go P) {v : Int} (h : Hp R L M) [o : bO bl b L x L'] [og : pz P L' g kN] (hs : g.length ≤ 100000000)
  (k : ∀ M', Hp R (ax bl b (x.put v g).1 :: fe P (x.put v g).2.1 :: kN) M' → K (.int .i64 ((x.put v g).2.2 : Int)) M') :
  aa Tryz.prog 185 #[.pointer (some ⟨b, 0, none⟩), .int .i64 v, .pointer (some ⟨gb, go, none⟩)] M K Kp := by
 have bd := sq h (b := b)
 have h0 : Hp R (ax bl b x :: fe P g :: kN) M := (h.pick o.pick).map fun _ hs => hs.tail (fun _ => bF.pick og.pick)
 clear h
 have h := h0
 clear h0
 refine o9 ?_
 have h' := fY h (b := b)
 clear h
 obtain ⟨rb, h⟩ := h'
 repeat (first|(refine aj h ?_;clear h;intro kb M h)|(refine ak h ?_;clear h;intro M h)|refine St.to h ?_|(apply Exists.intro;(repeat apply Exists.intro);refine And.intro rfl ?_)|refine aq ?_|refine af ?_|refine ai ?_)
 refine nh h (fun e M' h' => ?_) fun e M' h' => ?_
 ·clear h
  have h := h'
  clear h'
  dsimp only at e
  have hp : x.put v g = ({ x with l := x.l.drop (x.l.length / 2) }, g ++ (x.l.take (x.l.length / 2) ++ [v]), x.l.length / 2 + 1) := by unfold Loc.put; rw [if_neg (by omega)]
  rw [hp] at k
  repeat (first|(refine aj h ?_;clear h;intro kb M h)|(refine ak h ?_;clear h;intro M h)|refine St.to h ?_|(apply Exists.intro;(repeat apply Exists.intro);refine And.intro rfl ?_)|refine aq ?_|refine af ?_|refine ai ?_)
  refine qU h ?_
  repeat (first|(refine aj h ?_;clear h;intro kb M h)|(refine ak h ?_;clear h;intro M h)|refine St.to h ?_|(apply Exists.intro;(repeat apply Exists.intro);refine And.intro rfl ?_)|refine aq ?_|refine af ?_|refine ai ?_)
  have e2 : IntKind.wrap .i64 (Int.tdiv (x.l.length : Int) 2) = ((x.l.length / 2 : Nat) : Int) := wn rfl (by have := bd.1; have := bd.2.1; omega)
  simp only [e2]
  refine yc h ?_
  clear h
  intro A c M h
  simp only [Int.toNat_natCast] at h ⊢
  repeat (first|(refine aj h ?_;clear h;intro kb M h)|(refine ak h ?_;clear h;intro M h)|refine St.to h ?_|(apply Exists.intro;(repeat apply Exists.intro);refine And.intro rfl ?_)|refine aq ?_|refine af ?_|refine ai ?_)
  have SV : (x.l.take (x.l.length / 2)).length = x.l.length / 2 := by rw [List.length_take]; omega
  refine h.bu ng [v] rfl rfl (by have := bd.2.1; have := bd.1; simp; omega) ?_
  clear h
  intro A' c' M h
  repeat (first|(refine aj h ?_;clear h;intro kb M h)|(refine ak h ?_;clear h;intro M h)|refine St.to h ?_|(apply Exists.intro;(repeat apply Exists.intro);refine And.intro rfl ?_)|refine aq ?_|refine af ?_|refine ai ?_)
  replace h := h.sub (show Sub _ (fe P g :: b8 bq 3 A' c' (x.l.take (x.l.length / 2) ++ [v]) :: ax dB rb ⟨x.room, x.l.drop (x.l.length / 2)⟩ :: pt b [.int .i64 x.next, .pointer (some ⟨rb, 0, none⟩)] 237 :: kN) from bG)
  refine kI D h Src.row rfl (by have := bd.2.1; have := bd.1; simp; omega) ?_
  clear h
  intro M h
  repeat (first|(refine aj h ?_;clear h;intro kb M h)|(refine ak h ?_;clear h;intro M h)|refine St.to h ?_|(apply Exists.intro;(repeat apply Exists.intro);refine And.intro rfl ?_)|refine aq ?_|refine af ?_|refine ai ?_)
  have e3 : (((x.l.take (x.l.length / 2) ++ [v]).length : Nat) : Int) = ((x.l.length / 2 + 1 : Nat) : Int) := by simp; omega
  rw [e3]
  exact k _ ((bY h b).sub bG)
 ·clear h
  have h := h'
  clear h'
  dsimp only at e
  have hp : x.put v g = ({ x with l := x.l ++ [v] }, g, 0) := by unfold Loc.put; rw [if_pos e]
  rw [hp] at k
  repeat (first|(refine aj h ?_;clear h;intro kb M h)|(refine ak h ?_;clear h;intro M h)|refine St.to h ?_|(apply Exists.intro;(repeat apply Exists.intro);refine And.intro rfl ?_)|refine aq ?_|refine af ?_|refine ai ?_)
  exact k _ ((bY h b).sub bG)
theorem zl (h : Hp R L M) [o : bO bl b L x L'] [og : pz P L' g kN] : Hp R (ax bl b x :: fe P g :: kN) M := (h.pick o.pick).map fun _ hs => hs.tail (fun _ => bF.pick og.pick)
theorem Bj (D : Ma gb go P) {v : Int} (h : Hp R L M) [o : bO bl b L x L'] [og : pz P L' g kN] (hs : g.length ≤ 100000000)
  (k : ∀ M', Hp R (ax bl b (x.ready v g).1 :: fe P (x.ready v g).2.1 :: kN) M' → K (.int .i64 ((x.ready v g).2.2 : Int)) M') :
  aa Tryz.prog 152 #[.pointer (some ⟨b, 0, none⟩), .int .i64 v, .pointer (some ⟨gb, go, none⟩)] M K Kp := by
 replace h := zl (P := P) h (b := b)
 refine mu ?_
 have h' := fY h (b := b)
 clear h
 obtain ⟨rb, h⟩ := h'
 repeat (first|(refine aj h ?_;clear h;intro kb M h)|(refine ak h ?_;clear h;intro M h)|refine St.to h ?_|(apply Exists.intro;(repeat apply Exists.intro);refine And.intro rfl ?_)|refine aq ?_|refine af ?_|refine ai ?_)
 refine bB.2 ⟨fun e => ?_, fun e => ?_⟩
 ·have hp : x.ready v g = ({ x with next := v }, g, 0) := by unfold Loc.ready; rw [if_pos e]
  rw [hp] at k
  repeat (first|(refine aj h ?_;clear h;intro kb M h)|(refine ak h ?_;clear h;intro M h)|refine St.to h ?_|(apply Exists.intro;(repeat apply Exists.intro);refine And.intro rfl ?_)|refine aq ?_|refine af ?_|refine ai ?_)
  exact k _ ((bY h b).sub bG)
 ·have hp : x.ready v g = ({ x with next := v } : Loc).put x.next g := by unfold Loc.ready; rw [if_neg e]
  rw [hp] at k
  replace h := bY h b
  refine ye D h hs ?_
  clear h
  intro M h
  repeat (first|(refine aj h ?_;clear h;intro kb M h)|(refine ak h ?_;clear h;intro M h)|refine St.to h ?_|(apply Exists.intro;(repeat apply Exists.intro);refine And.intro rfl ?_)|refine aq ?_|refine af ?_|refine ai ?_)
  exact k _ h
theorem De (D : Ma gb go P) (h : Hp R L M) [o : bO bl b L x L'] [og : pz P L' g kN] (hs : g.length ≤ 100000000)
  (k : ∀ M', Hp R (ax bl b (x.vK g).1 :: fe P (x.vK g).2.1 :: kN) M' → K (.int .i64 ((x.vK g).2.2 : Int)) M') :
  aa Tryz.prog 178 #[.pointer (some ⟨b, 0, none⟩), .pointer (some ⟨gb, go, none⟩)] M K Kp := by
 replace h := zl (P := P) h (b := b)
 refine nU ?_
 have h' := fY h (b := b)
 clear h
 obtain ⟨rb, h⟩ := h'
 repeat (first|(refine aj h ?_;clear h;intro kb M h)|(refine ak h ?_;clear h;intro M h)|refine St.to h ?_|(apply Exists.intro;(repeat apply Exists.intro);refine And.intro rfl ?_)|refine aq ?_|refine af ?_|refine ai ?_)
 refine bB.2 ⟨fun e => ?_, fun e => ?_⟩
 ·have hp : x.vK g = (x, g, 0) := by unfold Loc.vK; rw [if_pos e]
  rw [hp] at k
  exact k _ ((bY h b).sub bG)
 ·have hp : x.vK g = ({ x with next := -1 } : Loc).put x.next g := by unfold Loc.vK; rw [if_neg e]
  rw [hp] at k
  repeat (first|(refine aj h ?_;clear h;intro kb M h)|(refine ak h ?_;clear h;intro M h)|refine St.to h ?_|(apply Exists.intro;(repeat apply Exists.intro);refine And.intro rfl ?_)|refine aq ?_|refine af ?_|refine ai ?_)
  replace h := bY h b
  refine ye D h hs ?_
  clear h
  intro M h
  repeat (first|(refine aj h ?_;clear h;intro kb M h)|(refine ak h ?_;clear h;intro M h)|refine St.to h ?_|(apply Exists.intro;(repeat apply Exists.intro);refine And.intro rfl ?_)|refine aq ?_|refine af ?_|refine ai ?_)
  exact k _ h
theorem yf (h : Hp R L M) [o : bO bl b L x L']
  (k : ∀ t M', (x.get.2 = -1 → x.next = -1 → x.l = [] → t = false) → (x.next ≠ -1 ∨ x.l ≠ [] → t = true) → Hp R (ax bl b x.get.1 :: L') M' → K (.tuple #[.int .i64 x.get.2, .bool t]) M') :
  aa Tryz.prog 149 #[.pointer (some ⟨b, 0, none⟩)] M K Kp := by
 refine o8 ?_
 have h' := fY h (b := b)
 clear h
 obtain ⟨rb, h⟩ := h'
 obtain ⟨next, room, l⟩ := x
 dsimp only at h
 repeat (first|(refine aj h ?_;clear h;intro kb M h)|(refine ak h ?_;clear h;intro M h)|refine St.to h ?_|(apply Exists.intro;(repeat apply Exists.intro);refine And.intro rfl ?_)|refine aq ?_|refine af ?_|refine ai ?_)
 refine bM.2 ⟨fun e => ?_, fun e => ?_⟩
 ·have hp : (Loc.mk next room l).get = (⟨-1, room, l⟩, next) := by unfold Loc.get; dsimp only; rw [if_pos e]
  rw [hp] at k
  repeat (first|(refine aj h ?_;clear h;intro kb M h)|(refine ak h ?_;clear h;intro M h)|refine St.to h ?_|(apply Exists.intro;(repeat apply Exists.intro);refine And.intro rfl ?_)|refine aq ?_|refine af ?_|refine ai ?_)
  exact k true _ (fun _ h2 => absurd h2 e) (fun _ => rfl) ((bY h b).sub bG)
 ·repeat (first|(refine aj h ?_;clear h;intro kb M h)|(refine ak h ?_;clear h;intro M h)|refine St.to h ?_|(apply Exists.intro;(repeat apply Exists.intro);refine And.intro rfl ?_)|refine aq ?_|refine af ?_|refine ai ?_)
  refine Bi h (fun e2 M' h' => ?_) fun v l2 e2 M' h' => ?_
  ·dsimp only at e2
   subst e2
   have hp : (Loc.mk next room []).get = (⟨next, room, []⟩, -1) := by unfold Loc.get; dsimp only; rw [if_neg (by simpa using e)]
   rw [hp] at k
   repeat (first|(refine aj h ?_;clear h;intro kb M h)|(refine ak h ?_;clear h;intro M h)|refine St.to h ?_|(apply Exists.intro;(repeat apply Exists.intro);refine And.intro rfl ?_)|refine aq ?_|refine af ?_|refine ai ?_)
   exact k false _ (fun _ _ _ => rfl) (fun hx => by rcases hx with hx | hx; exact absurd e hx; exact absurd rfl hx) ((bY h' b).sub bG)
  ·dsimp only at e2
   subst e2
   have hp : (Loc.mk next room (v :: l2)).get = (⟨next, room, l2⟩, v) := by unfold Loc.get; dsimp only; rw [if_neg (by simpa using e)]
   rw [hp] at k
   repeat (first|(refine aj h ?_;clear h;intro kb M h)|(refine ak h ?_;clear h;intro M h)|refine St.to h ?_|(apply Exists.intro;(repeat apply Exists.intro);refine And.intro rfl ?_)|refine aq ?_|refine af ?_|refine ai ?_)
   exact k true _ (fun _ _ hx => by simp at hx) (fun _ => rfl) ((bY h' b).sub bG)
end
section
variable {R : Mem} {L L' kN : List HP} {M : Mem} {K : Value → Mem → Prop} {Kp : List PanicEntry → Mem → Prop} {b gb go b' : Nat} {P : Option Addr → Nat → Nat → HP} {x f : Loc} {g : List Int}
theorem OT {b b' T T' : Nat} {cs cs' : List Value} (h : Hp R (pt b cs T :: L) M) [p : iF b' L cs' T' L'] : b ≠ b' := by
 rintro rfl
 have h2 : Hp R (pt b cs T :: pt b cs' T' :: L') M := h.map fun _ hs => hs.tail fun _ => bF.pick p.pick
 obtain ⟨B, rfl, h1, X, Y, rfl, h2, hp, X2, Y2, rfl, h3, hp2, hs⟩ := h2
 unfold AF.pt at hp hp2
 rcases h2 b with h | h
 ·rw [hp] at h; cases h
 ·rw [Mem.union_left hp2] at h; cases h
theorem OU {a : Addr} {b : Nat} {G : Bool → Prop} (hne : a.block ≠ b) (h1 : iA M a.block) (h2 : iA M b) (g : G false) : ptrEq M (some a) (some ⟨b, 0, none⟩) G :=
 ⟨fun e => absurd (by rw [e]) hne, fun _ => ⟨.inr ⟨h1, h2⟩, g⟩⟩
theorem Bk {b T : Nat} {cs : List Value} (h : Hp R L M) [p : iF b L cs T L'] : iA M b := ⟨_, _, (h.pick p.pick).xJ⟩
theorem Bl (D : Ma gb go P) {p : Int} (h : Hp R L M) [o : bO bl b L x L'] [og : pz P L' g kN] (hs : g.length ≤ 100000000) (hp9 : p < 9223372036854775808)
  (k : ∀ t M', ((x.g6 g p).2.2 = -1 → g = [] → t = false) → (g ≠ [] → t = true) → Hp R (ax bl b (x.g6 g p).1 :: fe P (x.g6 g p).2.1 :: kN) M' → K (.tuple #[.int .i64 (x.g6 g p).2.2, .bool t]) M') :
  aa Tryz.prog 180 #[.pointer (some ⟨b, 0, none⟩), .pointer (some ⟨gb, go, none⟩), .int .i64 p] M K Kp := by
 have bd := sq h (b := b)
 obtain ⟨bd1, bd2, bd3⟩ := bd
 replace h := zl (P := P) h (b := b)
 refine my ?_
 have h' := fY h (b := b)
 clear h
 obtain ⟨rb, h⟩ := h'
 repeat (first|(refine aj h ?_;clear h;intro kb M h)|(refine ak h ?_;clear h;intro M h)|refine St.to h ?_|(apply Exists.intro;(repeat apply Exists.intro);refine And.intro rfl ?_)|refine aq ?_|refine af ?_|refine ai ?_)
 refine Dd D h ?_
 repeat (first|(refine aj h ?_;clear h;intro kb M h)|(refine ak h ?_;clear h;intro M h)|refine St.to h ?_|(apply Exists.intro;(repeat apply Exists.intro);refine And.intro rfl ?_)|refine aq ?_|refine af ?_|refine ai ?_)
 refine yb h ?_
 repeat (first|(refine aj h ?_;clear h;intro kb M h)|(refine ak h ?_;clear h;intro M h)|refine St.to h ?_|(apply Exists.intro;(repeat apply Exists.intro);refine And.intro rfl ?_)|refine aq ?_|refine af ?_|refine ai ?_)
 refine qU h ?_
 repeat (first|(refine aj h ?_;clear h;intro kb M h)|(refine ak h ?_;clear h;intro M h)|refine St.to h ?_|(apply Exists.intro;(repeat apply Exists.intro);refine And.intro rfl ?_)|refine aq ?_|refine af ?_|refine ai ?_)
 dsimp only at *
 have hn0 : 1 ≤ x.dx g p := by unfold Loc.dx; generalize g.length / p.toNat = q; split <;> omega
 have RI : x.l.length + (x.dx g p - 1) ≤ x.room := by unfold Loc.dx; generalize g.length / p.toNat = q; split <;> omega
 have key : ∀ n : Int, n.toNat = x.dx g p → ∀ {Q : Prop}, Q → Q := fun _ _ _ q => q
 refine aH.2 ⟨fun PJ => ?_, fun PJ => ?_⟩
 ·have hn : (1 : Int).toNat = x.dx g p := by unfold Loc.dx; rw [if_pos PJ]; rfl
  refine mJ D h (by omega) ?_
  clear h
  intro A c M h
  rw [hn] at h ⊢
  repeat (first|(refine aj h ?_;clear h;intro kb M h)|(refine ak h ?_;clear h;intro M h)|refine St.to h ?_|(apply Exists.intro;(repeat apply Exists.intro);refine And.intro rfl ?_)|refine aq ?_|refine af ?_|refine ai ?_)
  cases hg : g.take (x.dx g p) with
  | nil =>
   have OV : g = [] := by
    have := congrArg List.length hg
    rw [List.length_take, List.length_nil] at this
    exact List.length_eq_zero_iff.1 (by omega)
   have hp : x.g6 g p = (x, g, -1) := by unfold Loc.g6; rw [hg]
   rw [hp] at k
   refine eu rfl ?_
   have e3 : g.drop (x.dx g p) = g := by rw [OV]; simp
   rw [e3] at h
   exact k false _ (fun _ _ => rfl) (fun h1 => absurd OV h1) ((bY h b).sub bG)
  | cons v out =>
   have hp : x.g6 g p = ({ x with l := x.l ++ out }, g.drop (x.dx g p), v) := by unfold Loc.g6; rw [hg]
   rw [hp] at k
   have Pr : out.length + 1 ≤ x.dx g p := by
    have := congrArg List.length hg
    rw [List.length_take, List.length_cons] at this
    omega
   refine lW (by simp; omega) ?_
   rw [hg] at h
   generalize g.drop (x.dx g p) = g2 at *
   have RJ : g ≠ [] := by rintro rfl; simp at hg
   obtain ⟨A0, Mb⟩ : ∃ A0, A0 = iO A 1 c 1 := ⟨_, rfl⟩
   have hcap := h.gT A
   rw [List.length_cons] at hcap
   simp only [Int.toNat_natCast, List.length_cons]
   repeat (first|(refine aj h ?_;clear h;intro kb M h)|(refine ak h ?_;clear h;intro M h)|refine St.to h ?_|(apply Exists.intro;(repeat apply Exists.intro);refine And.intro rfl ?_)|refine aq ?_|refine af ?_|refine ai ?_)
   refine ⟨fun d ws M => ∃ i : Nat, ws = [.int .i64 (i : Int)] ∧ d = out.length - i ∧ i ≤ out.length ∧
    Hp R (b8 bq 3 A c (v :: out) :: pt b [.int .i64 x.next, .pointer (some ⟨rb, 0, none⟩)] 237 :: ax dB rb ⟨x.room, x.l ++ out.take i⟩ :: fe P g2 :: kN) M,
    ⟨_, 0, rfl, rfl, by omega, by rw [List.take_zero, List.append_nil]; exact h.sub bG⟩, ?_⟩
   clear h
   rintro d _ ii M ⟨i, he, hd, hi, h⟩
   simp only [List.cons.injEq, Value.int.injEq, and_true, true_and] at he
   subst he
   refine aH.2 ⟨fun hlt => ?_, fun hge => ?_⟩
   ·obtain ⟨w, hw⟩ := aL (l := out) (i := i) (by omega)
    have s0 := Src.KU (h.src (A := A)) (by rw [List.length_cons]; exact hcap) 1
    rw [← Mb] at s0 ⊢
    rw [show (v :: out).drop 1 = out from rfl] at s0
    obtain ⟨b0, o0, rfl⟩ := s0.fa h (by omega) (by decide)
    repeat (first|(refine aj h ?_;clear h;intro kb M h)|(refine ak h ?_;clear h;intro M h)|refine St.to h ?_|(apply Exists.intro;(repeat apply Exists.intro);refine And.intro rfl ?_)|refine aq ?_|refine af ?_|refine ai ?_)
    simp only [Int.toNat_natCast]
    refine aW (s0.at h (i := i) (j := 0) hw rfl (by simp [bq])) ?_
    repeat (first|(refine aj h ?_;clear h;intro kb M h)|(refine ak h ?_;clear h;intro M h)|refine St.to h ?_|(apply Exists.intro;(repeat apply Exists.intro);refine And.intro rfl ?_)|refine aq ?_|refine af ?_|refine ai ?_)
    refine nh (v := w) h (fun e M' h' => ?_) fun e M' h' => ?_
    ·exfalso
     simp only [List.length_append, List.length_take] at e
     omega
    ·clear h
     have h := h'
     clear h'
     repeat (first|(refine aj h ?_;clear h;intro kb M h)|(refine ak h ?_;clear h;intro M h)|refine St.to h ?_|(apply Exists.intro;(repeat apply Exists.intro);refine And.intro rfl ?_)|refine aq ?_|refine af ?_|refine ai ?_)
     rw [aV (by omega)]
     refine ⟨out.length - (i + 1), by omega, i + 1, rfl, rfl, by omega, ?_⟩
     rw [c5 hw, ← List.append_assoc]
     exact h.sub bG
   ·obtain rfl : i = out.length := by omega
    rw [List.take_length] at h
    have s0 := h.src (A := A)
    obtain ⟨b0, rfl⟩ := h.bj (A := A) (by simp) (by decide)
    repeat (first|(refine aj h ?_;clear h;intro kb M h)|(refine ak h ?_;clear h;intro M h)|refine St.to h ?_|(apply Exists.intro;(repeat apply Exists.intro);refine And.intro rfl ?_)|refine aq ?_|refine af ?_|refine ai ?_)
    refine aW (s0.at h (i := 0) (j := 0) rfl rfl (by simp [bq])) ?_
    repeat (first|(refine aj h ?_;clear h;intro kb M h)|(refine ak h ?_;clear h;intro M h)|refine St.to h ?_|(apply Exists.intro;(repeat apply Exists.intro);refine And.intro rfl ?_)|refine aq ?_|refine af ?_|refine ai ?_)
    exact k true _ (fun _ h1 => absurd h1 RJ) (fun _ => rfl) ((bY h b).sub bG)
 ·have hn : (if IntKind.wrap .i64 (IntKind.wrap .i64 ((x.room : Int) - (x.l.length : Int)) + 1) < IntKind.wrap .i64 (IntKind.wrap .i64 (Int.tdiv (g.length : Int) (if (1 : Int) > p then 1 else p)) + 1) then IntKind.wrap .i64 (IntKind.wrap .i64 ((x.room : Int) - (x.l.length : Int)) + 1) else IntKind.wrap .i64 (IntKind.wrap .i64 (Int.tdiv (g.length : Int) (if (1 : Int) > p then 1 else p)) + 1)).toNat = x.dx g p := by
   obtain ⟨q, rfl⟩ := Int.eq_ofNat_of_zero_le (show 0 ≤ p by omega)
   have e1 : (if (1 : Int) > (q : Int) then 1 else (q : Int)) = (q : Int) := by split <;> omega
   rw [e1]
   have hd : g.length / q ≤ g.length := Nat.div_le_self ..
   have e2 : IntKind.wrap .i64 (Int.tdiv (g.length : Int) (q : Int)) = ((g.length / q : Nat) : Int) := wn rfl (by omega)
   rw [e2, aV (by omega), j8 (n := (x.room : Int) - (x.l.length : Int)) (by omega) (by omega), j8 (n := (x.room : Int) - (x.l.length : Int) + 1) (by omega) (by omega)]
   unfold Loc.dx
   rw [if_neg PJ, Int.toNat_natCast]
   generalize g.length / q = z at *
   split <;> omega
  revert hn
  generalize (if IntKind.wrap .i64 (IntKind.wrap .i64 ((x.room : Int) - (x.l.length : Int)) + 1) < IntKind.wrap .i64 (IntKind.wrap .i64 (Int.tdiv (g.length : Int) (if (1 : Int) > p then 1 else p)) + 1) then IntKind.wrap .i64 (IntKind.wrap .i64 ((x.room : Int) - (x.l.length : Int)) + 1) else IntKind.wrap .i64 (IntKind.wrap .i64 (Int.tdiv (g.length : Int) (if (1 : Int) > p then 1 else p)) + 1)) = n
  intro hn
  refine mJ D h (by omega) ?_
  clear h
  intro A c M h
  rw [hn] at h ⊢
  repeat (first|(refine aj h ?_;clear h;intro kb M h)|(refine ak h ?_;clear h;intro M h)|refine St.to h ?_|(apply Exists.intro;(repeat apply Exists.intro);refine And.intro rfl ?_)|refine aq ?_|refine af ?_|refine ai ?_)
  cases hg : g.take (x.dx g p) with
  | nil =>
   have OV : g = [] := by
    have := congrArg List.length hg
    rw [List.length_take, List.length_nil] at this
    exact List.length_eq_zero_iff.1 (by omega)
   have hp : x.g6 g p = (x, g, -1) := by unfold Loc.g6; rw [hg]
   rw [hp] at k
   refine eu rfl ?_
   have e3 : g.drop (x.dx g p) = g := by rw [OV]; simp
   rw [e3] at h
   exact k false _ (fun _ _ => rfl) (fun h1 => absurd OV h1) ((bY h b).sub bG)
  | cons v out =>
   have hp : x.g6 g p = ({ x with l := x.l ++ out }, g.drop (x.dx g p), v) := by unfold Loc.g6; rw [hg]
   rw [hp] at k
   have Pr : out.length + 1 ≤ x.dx g p := by
    have := congrArg List.length hg
    rw [List.length_take, List.length_cons] at this
    omega
   refine lW (by simp; omega) ?_
   rw [hg] at h
   generalize g.drop (x.dx g p) = g2 at *
   have RJ : g ≠ [] := by rintro rfl; simp at hg
   obtain ⟨A0, Mb⟩ : ∃ A0, A0 = iO A 1 c 1 := ⟨_, rfl⟩
   have hcap := h.gT A
   rw [List.length_cons] at hcap
   simp only [Int.toNat_natCast, List.length_cons]
   repeat (first|(refine aj h ?_;clear h;intro kb M h)|(refine ak h ?_;clear h;intro M h)|refine St.to h ?_|(apply Exists.intro;(repeat apply Exists.intro);refine And.intro rfl ?_)|refine aq ?_|refine af ?_|refine ai ?_)
   refine ⟨fun d ws M => ∃ i : Nat, ws = [.int .i64 (i : Int)] ∧ d = out.length - i ∧ i ≤ out.length ∧
    Hp R (b8 bq 3 A c (v :: out) :: pt b [.int .i64 x.next, .pointer (some ⟨rb, 0, none⟩)] 237 :: ax dB rb ⟨x.room, x.l ++ out.take i⟩ :: fe P g2 :: kN) M,
    ⟨_, 0, rfl, rfl, by omega, by rw [List.take_zero, List.append_nil]; exact h.sub bG⟩, ?_⟩
   clear h
   rintro d _ ii M ⟨i, he, hd, hi, h⟩
   simp only [List.cons.injEq, Value.int.injEq, and_true, true_and] at he
   subst he
   refine aH.2 ⟨fun hlt => ?_, fun hge => ?_⟩
   ·obtain ⟨w, hw⟩ := aL (l := out) (i := i) (by omega)
    have s0 := Src.KU (h.src (A := A)) (by rw [List.length_cons]; exact hcap) 1
    rw [← Mb] at s0 ⊢
    rw [show (v :: out).drop 1 = out from rfl] at s0
    obtain ⟨b0, o0, rfl⟩ := s0.fa h (by omega) (by decide)
    repeat (first|(refine aj h ?_;clear h;intro kb M h)|(refine ak h ?_;clear h;intro M h)|refine St.to h ?_|(apply Exists.intro;(repeat apply Exists.intro);refine And.intro rfl ?_)|refine aq ?_|refine af ?_|refine ai ?_)
    simp only [Int.toNat_natCast]
    refine aW (s0.at h (i := i) (j := 0) hw rfl (by simp [bq])) ?_
    repeat (first|(refine aj h ?_;clear h;intro kb M h)|(refine ak h ?_;clear h;intro M h)|refine St.to h ?_|(apply Exists.intro;(repeat apply Exists.intro);refine And.intro rfl ?_)|refine aq ?_|refine af ?_|refine ai ?_)
    refine nh (v := w) h (fun e M' h' => ?_) fun e M' h' => ?_
    ·exfalso
     simp only [List.length_append, List.length_take] at e
     omega
    ·clear h
     have h := h'
     clear h'
     repeat (first|(refine aj h ?_;clear h;intro kb M h)|(refine ak h ?_;clear h;intro M h)|refine St.to h ?_|(apply Exists.intro;(repeat apply Exists.intro);refine And.intro rfl ?_)|refine aq ?_|refine af ?_|refine ai ?_)
     rw [aV (by omega)]
     refine ⟨out.length - (i + 1), by omega, i + 1, rfl, rfl, by omega, ?_⟩
     rw [c5 hw, ← List.append_assoc]
     exact h.sub bG
   ·obtain rfl : i = out.length := by omega
    rw [List.take_length] at h
    have s0 := h.src (A := A)
    obtain ⟨b0, rfl⟩ := h.bj (A := A) (by simp) (by decide)
    repeat (first|(refine aj h ?_;clear h;intro kb M h)|(refine ak h ?_;clear h;intro M h)|refine St.to h ?_|(apply Exists.intro;(repeat apply Exists.intro);refine And.intro rfl ?_)|refine aq ?_|refine af ?_|refine ai ?_)
    refine aW (s0.at h (i := 0) (j := 0) rfl rfl (by simp [bq])) ?_
    repeat (first|(refine aj h ?_;clear h;intro kb M h)|(refine ak h ?_;clear h;intro M h)|refine St.to h ?_|(apply Exists.intro;(repeat apply Exists.intro);refine And.intro rfl ?_)|refine aq ?_|refine af ?_|refine ai ?_)
    exact k true _ (fun _ h1 => absurd h1 RJ) (fun _ => rfl) ((bY h b).sub bG)
theorem Bm (h : Hp R L M) [o : bO bl b L x L'] [of : bO bl b' L' f kN]
  (k : ∀ t M', ((x.g7 f).2.2 = -1 → f.l = [] → t = false) → ((x.g7 f).2.2 ≠ -1 ∨ f.l ≠ [] → t = true) → Hp R (ax bl b (x.g7 f).1 :: ax bl b' (x.g7 f).2.1 :: kN) M' → K (.tuple #[.int .i64 (x.g7 f).2.2, .bool t]) M') :
  aa Tryz.prog 151 #[.pointer (some ⟨b, 0, none⟩), .pointer (some ⟨b', 0, none⟩)] M K Kp := by
 have bd := sq h (b := b)
 obtain ⟨bd1, bd2, bd3⟩ := bd
 have h0 : Hp R (ax bl b x :: ax bl b' f :: kN) M := (h.pick o.pick).map fun _ hs => hs.tail (fun _ => bF.pick of.pick)
 clear h
 have h := h0
 clear h0
 have bdf := sq h (b := b')
 obtain ⟨bf1, bf2, bf3⟩ := bdf
 refine gO ?_
 have h' := fY h (b := b)
 clear h
 obtain ⟨rb, h⟩ := h'
 have h' := fY h (b := b')
 clear h
 obtain ⟨rf, h⟩ := h'
 have hne : b' ≠ b := OT h
 refine OU (Ne.symm hne) (Bk h (b := b)) (Bk h (b := b')) ?_
 repeat (first|(refine aj h ?_;clear h;intro kb M h)|(refine ak h ?_;clear h;intro M h)|refine St.to h ?_|(apply Exists.intro;(repeat apply Exists.intro);refine And.intro rfl ?_)|refine aq ?_|refine af ?_|refine ai ?_)
 refine qU h ?_
 repeat (first|(refine aj h ?_;clear h;intro kb M h)|(refine ak h ?_;clear h;intro M h)|refine St.to h ?_|(apply Exists.intro;(repeat apply Exists.intro);refine And.intro rfl ?_)|refine aq ?_|refine af ?_|refine ai ?_)
 dsimp only at *
 refine bB.2 ⟨fun e => ?_, fun e => ?_⟩
 ·have hl : f.l = [] := List.length_eq_zero_iff.1 (by omega)
  have hp : x.g7 f = (x, { f with next := -1 }, f.next) := by unfold Loc.g7; rw [hl, List.take_nil]
  rw [hp] at k
  repeat (first|(refine aj h ?_;clear h;intro kb M h)|(refine ak h ?_;clear h;intro M h)|refine St.to h ?_|(apply Exists.intro;(repeat apply Exists.intro);refine And.intro rfl ?_)|refine aq ?_|refine af ?_|refine ai ?_)
  have h2 := bY (bY h b) b'
  exact k _ _ (fun h1 _ => by dsimp only at h1; rw [h1]; rfl) (fun h1 => by rcases h1 with h1 | h1; exact bne_iff_ne.2 h1; exact absurd hl h1) (h2.sub bG)
 ·have hn0 : 1 ≤ x.gW f := by unfold Loc.gW; omega
  have RI : x.l.length + (x.gW f - 1) ≤ x.room := by unfold Loc.gW; omega
  repeat (first|(refine aj h ?_;clear h;intro kb M h)|(refine ak h ?_;clear h;intro M h)|refine St.to h ?_|(apply Exists.intro;(repeat apply Exists.intro);refine And.intro rfl ?_)|refine aq ?_|refine af ?_|refine ai ?_)
  refine yb h ?_
  repeat (first|(refine aj h ?_;clear h;intro kb M h)|(refine ak h ?_;clear h;intro M h)|refine St.to h ?_|(apply Exists.intro;(repeat apply Exists.intro);refine And.intro rfl ?_)|refine aq ?_|refine af ?_|refine ai ?_)
  refine qU h ?_
  repeat (first|(refine aj h ?_;clear h;intro kb M h)|(refine ak h ?_;clear h;intro M h)|refine St.to h ?_|(apply Exists.intro;(repeat apply Exists.intro);refine And.intro rfl ?_)|refine aq ?_|refine af ?_|refine ai ?_)
  dsimp only at *
  have hn : (if IntKind.wrap .i64 (IntKind.wrap .i64 ((x.room : Int) - (x.l.length : Int)) + 1) < IntKind.wrap .i64 ((f.l.length : Int) - IntKind.wrap .i64 (Int.tdiv (f.l.length : Int) 2)) then IntKind.wrap .i64 (IntKind.wrap .i64 ((x.room : Int) - (x.l.length : Int)) + 1) else IntKind.wrap .i64 ((f.l.length : Int) - IntKind.wrap .i64 (Int.tdiv (f.l.length : Int) 2))).toNat = x.gW f := by
   have e2 : IntKind.wrap .i64 (Int.tdiv (f.l.length : Int) 2) = ((f.l.length / 2 : Nat) : Int) := wn rfl (by omega)
   rw [e2, j8 (n := (x.room : Int) - (x.l.length : Int)) (by omega) (by omega), j8 (n := (x.room : Int) - (x.l.length : Int) + 1) (by omega) (by omega), j8 (n := (f.l.length : Int) - ((f.l.length / 2 : Nat) : Int)) (by omega) (by omega)]
   unfold Loc.gW
   split <;> omega
  revert hn
  generalize (if IntKind.wrap .i64 (IntKind.wrap .i64 ((x.room : Int) - (x.l.length : Int)) + 1) < IntKind.wrap .i64 ((f.l.length : Int) - IntKind.wrap .i64 (Int.tdiv (f.l.length : Int) 2)) then IntKind.wrap .i64 (IntKind.wrap .i64 ((x.room : Int) - (x.l.length : Int)) + 1) else IntKind.wrap .i64 ((f.l.length : Int) - IntKind.wrap .i64 (Int.tdiv (f.l.length : Int) 2))) = n
  intro hn
  refine yc h ?_
  clear h
  intro A c M h
  rw [hn] at h ⊢
  repeat (first|(refine aj h ?_;clear h;intro kb M h)|(refine ak h ?_;clear h;intro M h)|refine St.to h ?_|(apply Exists.intro;(repeat apply Exists.intro);refine And.intro rfl ?_)|refine aq ?_|refine af ?_|refine ai ?_)
  cases hg : f.l.take (x.gW f) with
  | nil =>
   exfalso
   have := congrArg List.length hg
   rw [List.length_take, List.length_nil] at this
   omega
  | cons v out =>
   have hp : x.g7 f = ({ x with l := x.l ++ out }, { f with l := f.l.drop (x.gW f) }, v) := by unfold Loc.g7; rw [hg]
   rw [hp] at k
   have Pr : out.length + 1 ≤ x.gW f := by
    have := congrArg List.length hg
    rw [List.length_take, List.length_cons] at this
    omega
   dsimp only at h
   rw [hg] at h
   generalize f.l.drop (x.gW f) = f2 at *
   have RJ : f.l ≠ [] := by intro e0; rw [e0] at hg; simp at hg
   obtain ⟨A0, Mb⟩ : ∃ A0, A0 = iO A 1 c 1 := ⟨_, rfl⟩
   have hcap := h.gT A
   rw [List.length_cons] at hcap
   simp only [Int.toNat_natCast, List.length_cons]
   repeat (first|(refine aj h ?_;clear h;intro kb M h)|(refine ak h ?_;clear h;intro M h)|refine St.to h ?_|(apply Exists.intro;(repeat apply Exists.intro);refine And.intro rfl ?_)|refine aq ?_|refine af ?_|refine ai ?_)
   refine ⟨fun d ws M => ∃ i : Nat, ws = [.int .i64 (i : Int)] ∧ d = out.length - i ∧ i ≤ out.length ∧
    Hp R (b8 bq 3 A c (v :: out) :: pt b [.int .i64 x.next, .pointer (some ⟨rb, 0, none⟩)] 237 :: ax dB rb ⟨x.room, x.l ++ out.take i⟩ :: ax dB rf ⟨f.room, f2⟩ :: pt b' [.int .i64 f.next, .pointer (some ⟨rf, 0, none⟩)] 237 :: kN) M,
    ⟨_, 0, rfl, rfl, by omega, by rw [List.take_zero, List.append_nil]; exact h.sub bG⟩, ?_⟩
   clear h
   rintro d _ ii M ⟨i, he, hd, hi, h⟩
   simp only [List.cons.injEq, Value.int.injEq, and_true, true_and] at he
   subst he
   refine aH.2 ⟨fun hlt => ?_, fun hge => ?_⟩
   ·obtain ⟨w, hw⟩ := aL (l := out) (i := i) (by omega)
    have s0 := Src.KU (h.src (A := A)) (by rw [List.length_cons]; exact hcap) 1
    rw [← Mb] at s0 ⊢
    rw [show (v :: out).drop 1 = out from rfl] at s0
    obtain ⟨b0, o0, rfl⟩ := s0.fa h (by omega) (by decide)
    repeat (first|(refine aj h ?_;clear h;intro kb M h)|(refine ak h ?_;clear h;intro M h)|refine St.to h ?_|(apply Exists.intro;(repeat apply Exists.intro);refine And.intro rfl ?_)|refine aq ?_|refine af ?_|refine ai ?_)
    simp only [Int.toNat_natCast]
    refine aW (s0.at h (i := i) (j := 0) hw rfl (by simp [bq])) ?_
    repeat (first|(refine aj h ?_;clear h;intro kb M h)|(refine ak h ?_;clear h;intro M h)|refine St.to h ?_|(apply Exists.intro;(repeat apply Exists.intro);refine And.intro rfl ?_)|refine aq ?_|refine af ?_|refine ai ?_)
    refine nh (v := w) h (fun e M' h' => ?_) fun e M' h' => ?_
    ·exfalso
     simp only [List.length_append, List.length_take] at e
     omega
    ·clear h
     have h := h'
     clear h'
     repeat (first|(refine aj h ?_;clear h;intro kb M h)|(refine ak h ?_;clear h;intro M h)|refine St.to h ?_|(apply Exists.intro;(repeat apply Exists.intro);refine And.intro rfl ?_)|refine aq ?_|refine af ?_|refine ai ?_)
     rw [aV (by omega)]
     refine ⟨out.length - (i + 1), by omega, i + 1, rfl, rfl, by omega, ?_⟩
     rw [c5 hw, ← List.append_assoc]
     exact h.sub bG
   ·obtain rfl : i = out.length := by omega
    rw [List.take_length] at h
    have s0 := h.src (A := A)
    obtain ⟨b0, rfl⟩ := h.bj (A := A) (by simp) (by decide)
    repeat (first|(refine aj h ?_;clear h;intro kb M h)|(refine ak h ?_;clear h;intro M h)|refine St.to h ?_|(apply Exists.intro;(repeat apply Exists.intro);refine And.intro rfl ?_)|refine aq ?_|refine af ?_|refine ai ?_)
    refine aW (s0.at h (i := 0) (j := 0) rfl rfl (by simp [bq])) ?_
    repeat (first|(refine aj h ?_;clear h;intro kb M h)|(refine ak h ?_;clear h;intro M h)|refine St.to h ?_|(apply Exists.intro;(repeat apply Exists.intro);refine And.intro rfl ?_)|refine aq ?_|refine af ?_|refine ai ?_)
    have h2 := bY (bY h b) b'
    exact k true _ (fun _ h1 => absurd h1 RJ) (fun _ => rfl) (h2.sub bG)
end
end Go.Proofs
namespace Go.Proofs
def Loc.all (x : Loc) : List Int := (if x.next = -1 then [] else [x.next]) ++ x.l
end Go.Proofs
