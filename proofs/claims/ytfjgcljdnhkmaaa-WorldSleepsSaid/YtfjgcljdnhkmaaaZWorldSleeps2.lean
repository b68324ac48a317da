/- A part of proofs about one program. -/
import Derived.Test.YtfjgcljdnhkmaaaZWorldSleepsArgs
import Derived.Test.YtfjgcljdnhkmaaaZWorldSleeps0
set_option linter.unusedVariables false
namespace Go.AF
theorem wn {z : Int} {n : Nat} (e : z = (n : Int)) (h : n < 9223372036854775808) : IntKind.wrap .i64 z = (n : Int) := by rw [e]; exact iq h
theorem Src.row {α : Type} {E : gY α} {R : Mem} {L L' : List HP} {A : Option Addr} {T c : Nat} {l : List α} [hp : bN A L α E T c l L'] : Src R L A (E.cells l) := fun M h => h.src (A := A) M h
end Go.AF
namespace Go.AF
abbrev AL := List (Int × Value)
def bY : Nat → AL → List MapEntry
 | _, [] => []
 | i, (k, v) :: l => ⟨.int .i64 k, v, i⟩ :: bY (i + 1) l
def gK (l : AL) : Obj := .map (bY 0 l).toArray l.length
def nK (k : Int) : AL → Nat → Option (Nat × Value)
 | [], _ => none
 | (k', v) :: l, i => if k = k' then some (i, v) else nK k l (i + 1)
def sr (l : AL) (k : Int) : Option Value := (nK k l 0).map (·.2)
def Df (l : AL) (k : Int) (v : Value) : AL := match nK k l 0 with
 | some (i, _) => l.set i (k, v)
 | none => l ++ [(k, v)]
theorem nL {kd : IntKind} (k : Int) : ∀ (l : AL) (i b : Nat), Instr.findNow (.int kd) (.int .i64 k) (bY b l) i = some (nK k l i)
 | [], _, _ => rfl
 | (k', v) :: l, i, b => by
  simp only [bY, Instr.findNow, Instr.sameNow, if_true, nK]
  by_cases h : k = k'
  ·simp [h]
  ·have : (k == k') = false := by simp [h]
   rw [this, if_neg h]
   exact nL k l (i + 1) (b + 1)
theorem yF {k : Int} : ∀ {l : AL} {i j : Nat} {v : Value}, nK k l i = some (j, v) → i ≤ j ∧ l[j - i]? = some (k, v)
 | [], _, _, _, h => by simp [nK] at h
 | (k', v') :: l, i, j, v, h => by
  simp only [nK] at h
  split at h
  ·rename_i e; cases h; subst e; exact ⟨Nat.le_refl _, by simp⟩
  ·obtain ⟨h1, h2⟩ := yF h
   refine ⟨by omega, ?_⟩
   rw [show j - i = (j - (i + 1)) + 1 from by omega, List.getElem?_cons_succ]; exact h2
theorem yG : ∀ {l : AL} {i b : Nat} {k : Int} {v : Value}, l[i]? = some (k, v) → (bY b l)[i]? = some ⟨.int .i64 k, v, b + i⟩
 | [], _, _, _, _, h => by simp at h
 | (k', v') :: l, 0, b, k, v, h => by simp at h; obtain ⟨rfl, rfl⟩ := h; rfl
 | (k', v') :: l, i + 1, b, k, v, h => by
  have := yG (b := b + 1) (show l[i]? = some (k, v) from by simpa using h)
  simp only [bY, List.getElem?_cons_succ, this]
  congr 2; omega
theorem vM : ∀ {l : AL} {i b : Nat} {k : Int} {v w : Value}, l[i]? = some (k, w) → (bY b l).modify i (fun e => { e with key := .int .i64 k, val := v }) = bY b (l.set i (k, v))
 | [], _, _, _, _, _, h => by simp at h
 | (k', v') :: l, 0, b, k, v, w, h => by simp at h; obtain ⟨rfl, rfl⟩ := h; rfl
 | (k', v') :: l, i + 1, b, k, v, w, h => by
  have := vM (b := b + 1) (v := v) (show l[i]? = some (k, w) from by simpa using h)
  simp only [bY, List.modify_succ_cons, List.set_cons_succ, this]
theorem vN : ∀ (l m : AL) (b : Nat), bY b (l ++ m) = bY b l ++ bY (b + l.length) m
 | [], m, b => by simp [bY]
 | (k, v) :: l, m, b => by simp only [List.cons_append, bY, vN l m (b + 1), List.length_cons]; congr 3; omega
def q9 : AL → Int → Option Value
 | [], _ => none
 | (k', v) :: l, k => if k = k' then some v else q9 l k
theorem vO (k : Int) : ∀ (l : AL) (i : Nat), (nK k l i).map (·.2) = q9 l k
 | [], _ => rfl
 | (k', v) :: l, i => by
  simp only [nK, q9]
  split
  ·rfl
  ·exact vO k l (i + 1)
theorem Dg (l : AL) (k : Int) : sr l k = q9 l k := vO k l 0
theorem tq {k : Int} : ∀ {l : AL}, q9 l k = none ↔ k ∉ l.map (·.1)
 | [] => by simp [q9]
 | (q, w) :: l => by
  have ih := tq (k := k) (l := l)
  simp only [q9, List.map_cons, List.mem_cons, not_or]
  by_cases h : k = q
  ·rw [if_pos h]; simp [h]
  ·rw [if_neg h]; simp [h, ih]
section
variable {R : Mem} {L L' : List HP} {M : Mem} {P : Program} {t kt et : TypeId} {r : Nat} {l : AL} {k : Int} {kd : IntKind}
class vP (b : Nat) (L : List HP) (o : outParam Obj) (L' : outParam (List HP)) : Prop where
 pick : cu L (ob b o) L'
instance vP.here {b : Nat} {o : Obj} {L : List HP} : vP b (ob b o :: L) o L := ⟨.here⟩
instance (priority := low) vP.there {b : Nat} {o : Obj} {Q : HP} {L L' : List HP} [h : vP b L o L'] : vP b (Q :: L) o (Q :: L') := ⟨.there h.pick⟩
theorem kF {P : Program} {M : Mem} {b : Bool} (hk : P.underlying kt = some (.int kd)) : aV P (Instr.checkKey b 10000 kt (.int .i64 k)) M = some () := by
 unfold Instr.checkKey
 rw [az, ax hk]; rfl
theorem mN {P : Program} {M : Mem} (hk : P.underlying kt = some (.int kd)) : aV P (Instr.findKey kt (.int .i64 k) (bY 0 l)) M = some (nK k l 0) := by
 unfold Instr.findKey
 rw [az, ax hk, Option.bind_some, nL]; rfl
theorem mO {P : Program} {α : Type} {M : Mem} {r : Nat} {l : AL} {f : Obj → Sem α} {K : α → Mem → Prop} {Kp : Value → Mem → Prop} (hb : M r = some (gK l)) (h : cj P (f (gK l)) M K Kp) : cj P (getObj r >>= f) M K Kp := by
 refine dB P _ _ ?_
 unfold getObj
 simp only [cj, hb, gK]
 exact h
theorem BM {z : Value} {i : TypeInfo} {K : Value → Mem → Prop} {Kp : List PanicEntry → Mem → Prop} (h : Hp R L M) [p : vP r L (gK l) L'] (hu : P.underlying t = some (.map kt et)) (hk : P.underlying kt = some (.int kd)) (hi : P.info? et = some i) (hz : i.zero = some z)
  (g : K ((sr l k).getD z) M) : aW P (Instr.lookup t (.map (some r)) (.int .i64 k) false) M K Kp := by
 have hb : M r = some (gK l) := (h.pick p.pick).AX
 unfold aW Instr.lookup
 refine aK (ax hu M) ?_
 simp only
 refine dB P _ _ ?_
 refine mO hb ?_
 simp only [gK]
 refine aK (x := ()) (kF hk) ?_
 refine aK (mN hk) ?_
 unfold sr at g
 cases ha : nK k l 0 with
 | none =>
  rw [ha] at g
  simp only
  have Dh : aV P (zeroValue et) M = some z := by rw [gv]; simp [zeroOf, hi, hz]
  refine aK Dh ?_
  refine aK (x := (z, false)) rfl ?_
  exact g
 | some x =>
  rw [ha] at g
  exact g
theorem pE {v : Value} {K : Mem → Prop} {Kp : List PanicEntry → Mem → Prop} (h : Hp R L M) [p : vP r L (gK l) L'] (hu : P.underlying t = some (.map kt et)) (hk : P.underlying kt = some (.int kd))
  (g : ∀ M', Hp R (ob r (gK (Df l k v)) :: L') M' → K M') : bD P (Instr.mapUpdate t (.map (some r)) (.int .i64 k) v) M K Kp := by
 have h1 := h.pick p.pick
 have hb : M r = some (gK l) := h1.AX
 have fin : ∀ o, o = gK (Df l k v) → K (M.set r o) := fun o e => by
  subst e
  exact g _ (h1.set (x := gK l) (fun A ha => by unfold ob at ha; exact ha) fun A ha => by unfold ob; exact di)
 unfold bD Instr.mapUpdate
 refine aK (ax hu M) ?_
 simp only
 refine mO hb ?_
 simp only [gK]
 refine aK (x := ()) (kF hk) ?_
 refine aK (mN hk) ?_
 have Is : ∀ o : Obj, K (M.set r o) → cj P (setObj r o) M (fun _ => K) (fun v M' => Kp [{ v, recovered := false }] M') := fun o hK => by
  unfold setObj
  simp only [cj, hb, gK]
  exact hK
 cases ha : nK k l 0 with
 | none =>
  simp only
  refine Is _ (fin _ ?_)
  unfold Df gK
  rw [ha]
  simp only [List.push_toArray, List.length_append, List.length_singleton]
  rw [vN]; simp [bY]
 | some x =>
  obtain ⟨i, w⟩ := x
  obtain ⟨_, hw⟩ := yF ha
  rw [Nat.sub_zero] at hw
  simp only
  have he := yG (b := 0) hw
  refine aK (x := Value.int .i64 k) ?_ ?_
  ·have : (((bY 0 l).toArray[i]?).map (·.key)).getD (.int .i64 k) = .int .i64 k := by simp [he]
   rw [this]
   unfold Instr.keyThatStays
   simp [Instr.sameBits]; rfl
  ·refine Is _ (fin _ ?_)
   unfold Df gK
   rw [ha]
   simp only [List.length_set]
   rw [← vM (v := v) hw]
   simp [List.modify_toArray]
end
end Go.AF
namespace Go.AF
theorem uo {P : Program} {t t' e ty : TypeId} {i : TypeInfo} {zv : Value} {A B : Option Addr} {n c m d : Nat} {l r : List Value} {M : Mem} {K : Value → Mem → Prop} {Kp : List PanicEntry → Mem → Prop}
  (hu : P.underlying t = some (.slice e)) (DW : P.underlying t' = some (.slice e)) (hi : P.info? e = some i) (hz : i.zero = some zv) (hs : zv.cells.size = i.size)
  (EX : Sl M A l) (hl : l.length = n * i.size) (hr : Sl M B r) (j2 : r.length = m * i.size) (hc : c < n + m) (hb : (n + m) * i.bytes ≤ 140737488355328) (hby : 0 < i.bytes)
  (h : ∀ k c' M', M k = none → mX M' i.size e (some ⟨k, 0, none⟩) (n + m) c' (l ++ r) → iS [] M M' → K (.slice (some ⟨k, 0, none⟩) (n + m) c') M') :
  aW P (Builtin.append_ #[t, t'] ty #[.slice A n c, .slice B m d]) M K Kp := by
 unfold aW Builtin.append_
 simp only [List.getElem?_toArray, List.getElem?_cons_zero, List.getElem?_cons_succ]
 refine aK (ax hu M) ?_
 simp only
 refine aK (da hi M) ?_
 refine aK (ax DW M) ?_
 refine aK (x := false) rfl ?_
 refine aK (x := m) rfl ?_
 simp only [Bool.not_false, if_true]
 rw [if_neg (by omega)]
 refine aK (bE hi M) ?_
 rw [if_neg (by simp; omega)]
 refine aK (bE hi M) ?_
 rw [if_neg (by have := growslice_fits (need := n + m) (old := c) (bytes := i.bytes) (by omega) hb; omega)]
 show ∀ q, _
 intro q
 have hcap : n + m ≤ Question.cut (.appendCap (n + m) c e) q := by simp only [Question.cut]; omega
 generalize Question.cut (.appendCap (n + m) c e) q = nc at hcap
 refine aK (x := nc) rfl ?_
 refine aK (bE hi M) ?_
 refine dB P _ _ ?_
 have room : ∀ (X : Prop) , X → cj P (askRoom (nc * i.bytes)) M (fun _ M' => M' = M) (fun _ _ => False) := by
  intro X _
  unfold askRoom
  split
  ·exact rfl
  ·exact rfl
 refine eP P _ (room True trivial) (fun _ M' JK => ?_) (fun _ _ hf => hf.elim)
 subst JK
 refine aK (ef EX hl) ?_
 refine aK (ef hr j2) ?_
 refine aK (x := zv) (by rw [gv]; simp [zeroOf, hi, hz]) ?_
 intro k hk
 refine h k nc _ hk ⟨by rw [List.length_append, hl, j2, Nat.add_mul], .inr ⟨k, _, rfl, di, ?_, hcap, fun j hj => ?_⟩⟩ ((iS.refl _ _).set (.inr hk))
 ·simp only [Array.size_append, List.size_toArray, hl, j2]
  have : (Builtin.zeroCells zv.cells (nc - (n + m))).size = (nc - (n + m)) * i.size := by simp [Builtin.zeroCells, hs]
  rw [this, ← Nat.add_mul, ← Nat.add_mul]; congr 1; omega
 ·rw [Nat.add_mul] at hj
  rw [Array.getElem?_append_left (by simp [hl, j2]; omega)]
  simp
theorem Hp.Di {α : Type} {E : gY α} {R : Mem} {L L' : List HP} {M : Mem} {T : Nat} {P : Program} {t bytes ty d m k n c : Nat} {zero rc : List Value} {A : Option Addr} {l r : List α} {K : Value → Mem → Prop} {Kp : List PanicEntry → Mem → Prop}
  (h : Hp R L M) [hk : lA k L rc T L'] (hA : Src R L A (E.cells l)) (hn : n = l.length) (El : bt P t T E.z bytes zero) (he : rc = E.cells r) (hm : m = r.length) (hc : c < n + m) (hb : (l.length + r.length) * bytes ≤ 140737488355328)
  (g : ∀ b c' M', Hp R (dm E T (some ⟨b, 0, none⟩) c' (l ++ r) :: L') M' → K (.slice (some ⟨b, 0, none⟩) (l ++ r).length c') M') :
  aW P (Builtin.append_ #[t, t] ty #[.slice A n c, .slice (some ⟨k, 0, none⟩) m d]) M K Kp := by
 subst hm; subst he; subst hn
 have hB : Sl M (some ⟨k, 0, none⟩) (E.cells r) := h.Ba hk.pick
 obtain ⟨hu, i, zv, hi, hs, hby, hz, rfl, hl, hpos⟩ := El
 refine uo hu hu hi hz (by rw [hs, ← hl]; simp) (hA M h) (by rw [hs]; exact E.cm) hB (by rw [hs]; exact E.cm) hc (by rw [hby]; exact hb) (by omega) fun b c' M' PF ho tr => ?_
 have h2 : Hp R (dm E T (some ⟨b, 0, none⟩) c' (l ++ r) :: L) M' := by
  have h3 : Hp R (fact True :: L) M := Hp.fF.2 ⟨trivial, h⟩
  refine h3.change (D := []) (D' := [b]) (fun A hA x hx => by cases hx) tr (fun x hx => by simp only [List.mem_singleton] at hx; subst hx; exact .inr PF) ?_
  unfold dm own
  rw [List.length_append, E.oF]
  rw [hs] at ho
  have := ho.xm
  simpa [r6] using this
 have := g b c' M' (h2.map fun _ hs => hs.tail fun _ hx => (bF.pick hk.pick hx).drop)
 rwa [List.length_append] at this
section
variable {R : Mem} {L L' : List HP} {M : Mem} {P : Program} {t kt et : TypeId} {r : Nat} {l : AL} {k : Int} {kd : IntKind}
theorem zI {z : Value} {i : TypeInfo} {K : Value → Mem → Prop} {Kp : List PanicEntry → Mem → Prop} (h : Hp R L M) [p : vP r L (gK l) L'] (hu : P.underlying t = some (.map kt et)) (hk : P.underlying kt = some (.int kd)) (hi : P.info? et = some i) (hz : i.zero = some z)
  (g : K (.tuple #[(sr l k).getD z, .bool (sr l k).isSome]) M) : aW P (Instr.lookup t (.map (some r)) (.int .i64 k) true) M K Kp := by
 have hb : M r = some (gK l) := (h.pick p.pick).AX
 unfold aW Instr.lookup
 refine aK (ax hu M) ?_
 simp only
 refine dB P _ _ ?_
 refine mO hb ?_
 simp only [gK]
 refine aK (x := ()) (kF hk) ?_
 refine aK (mN hk) ?_
 unfold sr at g
 cases ha : nK k l 0 with
 | none =>
  rw [ha] at g
  simp only
  have Dh : aV P (zeroValue et) M = some z := by rw [gv]; simp [zeroOf, hi, hz]
  refine aK Dh ?_
  refine aK (x := (z, false)) rfl ?_
  exact g
 | some x =>
  rw [ha] at g
  exact g
end
theorem vQ {C : Ctx} {g : Nat} {args : List Value} {M : Mem} {K : Value → Mem → Prop} {Kp : List PanicEntry → Mem → Prop} (hg : 1 < g ∧ g < C.ok) (h : ae C.P g args.toArray M K Kp) : lY C (.func (.func g) #[] #[]) args M K Kp := by
 unfold lY
 simp only
 rw [if_pos hg]
 simpa using h
theorem gF {z : Int} (h0 : 0 ≤ z) (h : z < 9223372036854775807) : IntKind.wrap .i64 (z + 1) = z + 1 := by
 obtain ⟨n, rfl⟩ := Int.eq_ofNat_of_zero_le h0
 have := iq (n := n + 1) (by omega)
 exact_mod_cast this
theorem Hp.xG {α : Type} {E : gY α} {R : Mem} {L : List HP} {M : Mem} {T c : Nat} {A : Option Addr} {l r : List α} {P : Program} {t bytes ty d m : Nat} {zero : List Value} {B : Option Addr} {K : Value → Mem → Prop} {Kp : List PanicEntry → Mem → Prop}
  (h : Hp R (dm E T A c l :: L) M) (El : bt P t T E.z bytes zero) (hr : Sl M B (E.cells r)) (hm : m = r.length) (hb : (l.length + r.length) * bytes ≤ 140737488355328)
  (g : ∀ A' c' M', Hp R (dm E T A' c' (l ++ r) :: L) M' → K (.slice A' (l ++ r).length c') M') :
  aW P (Builtin.append_ #[t, t] ty #[.slice A l.length c, .slice B m d]) M K Kp := by
 subst hm
 have h2 : Hp R (own E.z T A l.length c (E.cells l) :: L) M := by
  have := h; unfold dm at this; exact this
 refine h2.append El hr E.cm E.j5 hb fun A' c' M' h => ?_
 have := g A' c' M' (by unfold dm; rw [List.length_append, E.oF]; exact h)
 rwa [List.length_append] at this
theorem Hp.vR {α : Type} {E : gY α} {R : Mem} {L L' vA : List HP} {M : Mem} {T c n : Nat} {A : Option Addr} {l : List α} {P : Program} {t bytes ty k d m : Nat} {zero rc : List Value} {K : Value → Mem → Prop} {Kp : List PanicEntry → Mem → Prop}
  (h : Hp R L M) [ha : bN A L α E T c l L'] [hk : lA k L' rc T vA] (El : bt P t T E.z bytes zero) (r : List α) (he : rc = E.cells r) (hn : n = l.length) (hm : m = r.length) (hb : (l.length + r.length) * bytes ≤ 140737488355328)
  (g : ∀ A' c' M', Hp R (dm E T A' c' (l ++ r) :: vA) M' → K (.slice A' (n + m) c') M') :
  aW P (Builtin.append_ #[t, t] ty #[.slice A n c, .slice (some ⟨k, 0, none⟩) m d]) M K Kp := by
 subst hn
 refine h.be (A := A) El r he hm hb fun A' c' M' h => ?_
 have := g A' c' M' h
 rwa [hm, ← List.length_append] at this
end Go.AF
namespace Go.Proofs
open Go.AF
set_option maxRecDepth 100000
set_option maxHeartbeats 1000000
attribute [local irreducible] bG dz fN dU aE fL aB bW bq aW bD aX
abbrev nM (A : Option Addr) (c : Nat) (l : List cB) : HP := dm gd 53 A c l
theorem BN : bt Try.prog 43 53 11 88 (gd.f ⟨0, 0, [], 0⟩) := bt.mk' (zv := .agg #[.int .i64 0, .int .i64 0, .int .i64 0, .int .i64 0, .int .i64 0, .int .i64 0, .int .i64 0, .int .i64 0, .int .i64 0, .int .i64 0, .int .i64 0]) (by kernel_rfl) (by kernel_rfl) rfl (by omega)
theorem cB.set_set {f : cB} {q u v : Int} : (f.set q u).set q v = f.set q v := by
 unfold cB.set
 congr 1
 apply List.map_congr_left
 intro i hi
 by_cases h : i = q.toNat
 ·rw [if_pos h, if_pos h]
 ·rw [if_neg h, if_neg h]
  simp [List.mem_range.1 hi, h]
section
variable {R : Mem} {L L' : List HP} {M : Mem} {K : Value → Mem → Prop} {Kp : List PanicEntry → Mem → Prop} {b i c : Nat} {l : List cB} {f : cB} {x : cn}
theorem nN {q : Int} {o : Nat} {G : Int → Prop} (h : Hp R L M) [p : bN (some ⟨b, 0, none⟩) L cB gd 53 c l L'] (hi : l[i]? = some f) (hq : aQ q) (e : o = i * 11 + 2 + q.toNat) (g : G (f.bL q)) : bG (M.ld ⟨b, o, none⟩) .i64 G := by
 refine bl (Src.at (h.src (A := some ⟨b, 0, none⟩)) h (i := i) (j := 2 + q.toNat) hi (Fl hq.1 hq.2) ?_) g
 show _ = 0 + (i * 11 + (2 + q.toNat)); omega
theorem oN {q v : Int} {o : Nat} {G : Mem → Prop} (h : Hp R L M) [p : bN (some ⟨b, 0, none⟩) L cB gd 53 c l L'] (hi : l[i]? = some f) (hq : aQ q) (e : o = i * 11 + 2 + q.toNat)
  (k : ∀ M', Hp R (nM (some ⟨b, 0, none⟩) c (l.set i (f.set q v)) :: L') M' → G M') : bW M ⟨b, o, none⟩ (.int .i64 v) G := by
 obtain ⟨q0, q8⟩ := hq
 refine vC i (2 + q.toNat) h hi ?_ (C8 q0 q8) ?_ k
 ·show _ < 11; omega
 ·show _ = i * 11 + (2 + q.toNat); omega
theorem rf {o : Nat} {G : Int → Prop} (h : Hp R L M) [p : bN (some ⟨b, 0, none⟩) L cB gd 53 c l L'] (hi : l[i]? = some f) (e : o = i * 11 + 1) (g : G f.pc) : bG (M.ld ⟨b, o, none⟩) .i64 G := by
 refine bl (Src.at (h.src (A := some ⟨b, 0, none⟩)) h (i := i) (j := 1) hi rfl ?_) g
 show _ = 0 + (i * 11 + 1); omega
theorem rh {v : Int} {o : Nat} {G : Mem → Prop} (h : Hp R L M) [p : bN (some ⟨b, 0, none⟩) L cB gd 53 c l L'] (hi : l[i]? = some f) (e : o = i * 11 + 1)
  (k : ∀ M', Hp R (nM (some ⟨b, 0, none⟩) c (l.set i { f with pc := v }) :: L') M' → G M') : bW M ⟨b, o, none⟩ (.int .i64 v) G := by
 refine vC i 1 h hi (by show 1 < 11; omega) Fm ?_ k
 show _ = i * 11 + 1; omega
theorem kG {α : Type} {l : List α} {i : Nat} {u v : α} : (l.set i u).set i v = l.set i v := by simp
def It : List Nat := [60, 61, 62, 63, 64, 65, 66, 67, 68]
theorem BO (h : Hp R L M) [p : bN (some ⟨b, 0, none⟩) L cB gd 53 c l L'] (hi : l[i]? = some f) (hx : x.eZ) (n : Nat) (hn : x.op = (n : Int)) (h8 : n ≤ 8)
  (k : ∀ M', Hp R (nM (some ⟨b, 0, none⟩) c (l.set i (f.pure x)) :: L') M' → K (.tuple #[]) M') :
  ae Try.prog (It.getD n 0) #[.pointer (some ⟨b, i * 11, none⟩), .agg #[.int .i64 x.op, .int .i64 x.a, .int .i64 x.b, .int .i64 x.c]] M K Kp := by
 obtain ⟨op, xa, xb, xc⟩ := x
 obtain ⟨o1, o2, o3⟩ := hx
 dsimp only at hn o1 o2 o3 k ⊢
 have hsame : l.set i f = l := by obtain ⟨hl, rfl⟩ := List.getElem?_eq_some_iff.1 hi; simp
 subst hn
 have hlt := (List.getElem?_eq_some_iff.1 hi).1
 obtain rfl | rfl | rfl | rfl | rfl | rfl | rfl | rfl | rfl : n = 0 ∨ n = 1 ∨ n = 2 ∨ n = 3 ∨ n = 4 ∨ n = 5 ∨ n = 6 ∨ n = 7 ∨ n = 8 := by omega
 ·refine mG ?_
  have e : f.pure ⟨((0 : Nat) : Int), xa, xb, xc⟩ = f := rfl
  rw [e, hsame] at k
  repeat (first|(refine aj h ?_;clear h;intro kb M h)|(refine ak h ?_;clear h;intro M h)|refine St.to h ?_|(apply Exists.intro;(repeat apply Exists.intro);refine And.intro rfl ?_)|refine aq ?_|refine af ?_|refine ai ?_)
  exact k _ ((h.row (some ⟨b, 0, none⟩)).bB)
 ·have ra : aQ xa := o1 (by simp)
  refine iz ?_
  repeat (first|(refine aj h ?_;clear h;intro kb M h)|(refine ak h ?_;clear h;intro M h)|refine St.to h ?_|(apply Exists.intro;(repeat apply Exists.intro);refine And.intro rfl ?_)|refine aq ?_|refine af ?_|refine ai ?_)
  refine ⟨ra.1, ra.2, oN h hi ra rfl fun M h => ?_⟩
  exact k _ h.bB
 ·obtain ⟨ra, rb⟩ := o2 rfl
  refine lR ?_
  repeat (first|(refine aj h ?_;clear h;intro kb M h)|(refine ak h ?_;clear h;intro M h)|refine St.to h ?_|(apply Exists.intro;(repeat apply Exists.intro);refine And.intro rfl ?_)|refine aq ?_|refine af ?_|refine ai ?_)
  refine ⟨rb.1, rb.2, nN h hi rb rfl ?_⟩
  refine ⟨ra.1, ra.2, oN h hi ra rfl fun M h => ?_⟩
  exact k _ h.bB
 ·obtain ⟨ra, rb, rc⟩ := o3 (by simp)
  refine mH ?_
  repeat (first|(refine aj h ?_;clear h;intro kb M h)|(refine ak h ?_;clear h;intro M h)|refine St.to h ?_|(apply Exists.intro;(repeat apply Exists.intro);refine And.intro rfl ?_)|refine aq ?_|refine af ?_|refine ai ?_)
  refine ⟨rb.1, rb.2, nN h hi rb rfl ?_⟩
  repeat (first|(refine aj h ?_;clear h;intro kb M h)|(refine ak h ?_;clear h;intro M h)|refine St.to h ?_|(apply Exists.intro;(repeat apply Exists.intro);refine And.intro rfl ?_)|refine aq ?_|refine af ?_|refine ai ?_)
  refine ⟨rc.1, rc.2, nN h hi rc rfl ?_⟩
  refine ⟨ra.1, ra.2, oN h hi ra rfl fun M h => ?_⟩
  exact k _ h.bB
 ·obtain ⟨ra, rb, rc⟩ := o3 (by simp)
  refine mI ?_
  repeat (first|(refine aj h ?_;clear h;intro kb M h)|(refine ak h ?_;clear h;intro M h)|refine St.to h ?_|(apply Exists.intro;(repeat apply Exists.intro);refine And.intro rfl ?_)|refine aq ?_|refine af ?_|refine ai ?_)
  refine ⟨rb.1, rb.2, nN h hi rb rfl ?_⟩
  repeat (first|(refine aj h ?_;clear h;intro kb M h)|(refine ak h ?_;clear h;intro M h)|refine St.to h ?_|(apply Exists.intro;(repeat apply Exists.intro);refine And.intro rfl ?_)|refine aq ?_|refine af ?_|refine ai ?_)
  refine ⟨rc.1, rc.2, nN h hi rc rfl ?_⟩
  refine ⟨ra.1, ra.2, oN h hi ra rfl fun M h => ?_⟩
  exact k _ h.bB
 ·obtain ⟨ra, rb, rc⟩ := o3 (by simp)
  refine mJ ?_
  repeat (first|(refine aj h ?_;clear h;intro kb M h)|(refine ak h ?_;clear h;intro M h)|refine St.to h ?_|(apply Exists.intro;(repeat apply Exists.intro);refine And.intro rfl ?_)|refine aq ?_|refine af ?_|refine ai ?_)
  refine ⟨rb.1, rb.2, nN h hi rb rfl ?_⟩
  repeat (first|(refine aj h ?_;clear h;intro kb M h)|(refine ak h ?_;clear h;intro M h)|refine St.to h ?_|(apply Exists.intro;(repeat apply Exists.intro);refine And.intro rfl ?_)|refine aq ?_|refine af ?_|refine ai ?_)
  refine ⟨rc.1, rc.2, nN h hi rc rfl ?_⟩
  refine ⟨ra.1, ra.2, oN h hi ra rfl fun M h => ?_⟩
  exact k _ h.bB
 ·obtain ⟨ra, rb, rc⟩ := o3 (by simp)
  refine lS ?_
  repeat (first|(refine aj h ?_;clear h;intro kb M h)|(refine ak h ?_;clear h;intro M h)|refine St.to h ?_|(apply Exists.intro;(repeat apply Exists.intro);refine And.intro rfl ?_)|refine aq ?_|refine af ?_|refine ai ?_)
  refine ⟨rb.1, rb.2, nN h hi rb rfl ?_⟩
  repeat (first|(refine aj h ?_;clear h;intro kb M h)|(refine ak h ?_;clear h;intro M h)|refine St.to h ?_|(apply Exists.intro;(repeat apply Exists.intro);refine And.intro rfl ?_)|refine aq ?_|refine af ?_|refine ai ?_)
  refine ⟨rc.1, rc.2, nN h hi rc rfl ?_⟩
  repeat (first|(refine aj h ?_;clear h;intro kb M h)|(refine ak h ?_;clear h;intro M h)|refine St.to h ?_|(apply Exists.intro;(repeat apply Exists.intro);refine And.intro rfl ?_)|refine aq ?_|refine af ?_|refine ai ?_)
  refine ⟨ra.1, ra.2, oN h hi ra rfl fun M h => ?_⟩
  have e : f.pure ⟨((6 : Nat) : Int), xa, xb, xc⟩ = f.set xa (if f.bL xb < f.bL xc then 1 else 0) := rfl
  rw [e] at k
  refine aG.2 ⟨fun hl => ?_, fun hl => ?_⟩
  ·rw [if_pos hl] at k
   repeat (first|(refine aj h ?_;clear h;intro kb M h)|(refine ak h ?_;clear h;intro M h)|refine St.to h ?_|(apply Exists.intro;(repeat apply Exists.intro);refine And.intro rfl ?_)|refine aq ?_|refine af ?_|refine ai ?_)
   have Iu : (l.set i (f.set xa 0))[i]? = some (f.set xa 0) := by simp [hlt]
   refine ⟨ra.1, ra.2, oN h Iu ra rfl fun M h => ?_⟩
   rw [kG, cB.set_set] at h
   exact k _ h.bB
  ·rw [if_neg hl] at k
   exact k _ h.bB
 ·refine lT ?_
  repeat (first|(refine aj h ?_;clear h;intro kb M h)|(refine ak h ?_;clear h;intro M h)|refine St.to h ?_|(apply Exists.intro;(repeat apply Exists.intro);refine And.intro rfl ?_)|refine aq ?_|refine af ?_|refine ai ?_)
  refine rh h hi rfl fun M h => ?_
  exact k _ h.bB
 ·have ra : aQ xa := o1 (by simp)
  refine jF ?_
  repeat (first|(refine aj h ?_;clear h;intro kb M h)|(refine ak h ?_;clear h;intro M h)|refine St.to h ?_|(apply Exists.intro;(repeat apply Exists.intro);refine And.intro rfl ?_)|refine aq ?_|refine af ?_|refine ai ?_)
  have e : f.pure ⟨((8 : Nat) : Int), xa, xb, xc⟩ = if f.bL xa ≠ 0 then { f with pc := xb } else f := rfl
  rw [e] at k
  refine ⟨ra.1, ra.2, nN h hi ra rfl ?_⟩
  refine fA.2 ⟨fun hl => ?_, fun hl => ?_⟩
  ·rw [if_pos hl] at k
   repeat (first|(refine aj h ?_;clear h;intro kb M h)|(refine ak h ?_;clear h;intro M h)|refine St.to h ?_|(apply Exists.intro;(repeat apply Exists.intro);refine And.intro rfl ?_)|refine aq ?_|refine af ?_|refine ai ?_)
   refine rh h hi rfl fun M h => ?_
   exact k _ h.bB
  ·rw [if_neg (by simpa using hl), hsame] at k
   exact k _ ((h.row (some ⟨b, 0, none⟩)).bB)
def Dj : AL := (List.range 9).map fun n : Nat => ((n : Int), .func (.func (It.getD n 0)) #[] #[])
theorem vS (h : Hp R L M) (k : ∀ m M', Hp R (ob m (gK Dj) :: L) M' → K (.map (some m)) M') : ae Try.prog 37 #[] M K Kp := by
 refine qZ ?_
 refine D1 h ?_
 clear h
 intro m M h
 replace h : Hp R (ob m (gK []) :: L) M := h
 have hu : Try.prog.underlying 104 = some (.map 29 102) := by kernel_rfl
 have hk : Try.prog.underlying 29 = some (.int .i64) := by kernel_rfl
 iterate 9
  refine pE h hu hk ?_
  clear h
  intro M h
 exact k _ _ h
theorem xH (h : Hp R L M) [p : bN (some ⟨b, 0, none⟩) L cB gd 53 c l L'] (hi : l[i]? = some f) (hx : x.eZ) (h0 : 0 ≤ x.op) (hs : 0 ≤ f.pc ∧ f.pc < 1000000000)
  (k1 : x.op ≤ 8 → ∀ M', Hp R (nM (some ⟨b, 0, none⟩) c (l.set i (f.next.pure x)) :: L') M' → K (.bool true) M')
  (k2 : 8 < x.op → ∀ M', Hp R (nM (some ⟨b, 0, none⟩) c l :: L') M' → K (.bool false) M') :
  ae Try.prog 32 #[.pointer (some ⟨b, i * 11, none⟩), .agg #[.int .i64 x.op, .int .i64 x.a, .int .i64 x.b, .int .i64 x.c]] M K Kp := by
 have hlt := (List.getElem?_eq_some_iff.1 hi).1
 obtain ⟨q, hq⟩ := Int.eq_ofNat_of_zero_le h0
 refine lF ?_
 repeat (first|(refine aj h ?_;clear h;intro kb M h)|(refine ak h ?_;clear h;intro M h)|refine St.to h ?_|(apply Exists.intro;(repeat apply Exists.intro);refine And.intro rfl ?_)|refine aq ?_|refine af ?_|refine ai ?_)
 refine vS h ?_
 clear h
 intro m M h
 repeat (first|(refine aj h ?_;clear h;intro kb M h)|(refine ak h ?_;clear h;intro M h)|refine St.to h ?_|(apply Exists.intro;(repeat apply Exists.intro);refine And.intro rfl ?_)|refine aq ?_|refine af ?_|refine ai ?_)
 have hu : Try.prog.underlying 104 = some (.map 29 102) := by kernel_rfl
 have hk : Try.prog.underlying 29 = some (.int .i64) := by kernel_rfl
 obtain ⟨ti, LU, LV⟩ : ∃ ti, Try.prog.info? 102 = some ti ∧ ti.zero = some .nilFunc := ⟨_, rfl, rfl⟩
 refine zI h hu hk LU LV ?_
 refine ⟨_, _, rfl, eO h, ?_⟩
 by_cases h8 : x.op ≤ 8
 ·have Nh : q ≤ 8 := by omega
  have hl : sr Dj x.op = some (.func (.func (It.getD q 0)) #[] #[]) := by
   rw [hq]
   obtain rfl | rfl | rfl | rfl | rfl | rfl | rfl | rfl | rfl : q = 0 ∨ q = 1 ∨ q = 2 ∨ q = 3 ∨ q = 4 ∨ q = 5 ∨ q = 6 ∨ q = 7 ∨ q = 8 := by omega
   all_goals rfl
  rw [hl]
  refine af ?_
  refine rf h hi rfl ?_
  rw [gF (by omega) (by omega)]
  refine rh h hi rfl ?_
  clear h
  intro M h
  have Iu : (l.set i { f with pc := f.pc + 1 })[i]? = some f.next := by simp [hlt, cB.next]
  repeat (first|(refine aj h ?_;clear h;intro kb M h)|(refine ak h ?_;clear h;intro M h)|refine St.to h ?_|(apply Exists.intro;(repeat apply Exists.intro);refine And.intro rfl ?_)|refine aq ?_|refine af ?_|refine ai ?_)
  have hg : 1 < It.getD q 0 ∧ It.getD q 0 < Cx.ok := by
   obtain rfl | rfl | rfl | rfl | rfl | rfl | rfl | rfl | rfl : q = 0 ∨ q = 1 ∨ q = 2 ∨ q = 3 ∨ q = 4 ∨ q = 5 ∨ q = 6 ∨ q = 7 ∨ q = 8 := by omega
   all_goals exact ⟨by decide, by show _ < 91; decide⟩
  refine vQ hg ?_
  refine BO (f := f.next) h Iu hx q hq Nh ?_
  clear h
  intro M h
  rw [kG] at h
  exact ⟨rfl, k1 h8 _ h.bB⟩
 ·have hl : sr Dj x.op = none := by
   rw [Dg, tq]
   have : Dj.map (·.1) = [0, 1, 2, 3, 4, 5, 6, 7, 8] := by decide
   rw [this]; simp; omega
  rw [hl]
  refine ai ?_
  exact k2 (by omega) _ ((h.row (some ⟨b, 0, none⟩)).bB)
end
section
variable {R : Mem} {L L' : List HP} {M : Mem} {K : Value → Mem → Prop} {Kp : List PanicEntry → Mem → Prop} {b i c : Nat} {l : List cB} {f : cB} {x : cn}
theorem iB {m : Nat} (hm : 0 < m) (h2 : m ≤ 1000000000) (k : K (.pointer (some ⟨b, (m - 1) * 11, none⟩)) M) : ae Try.prog 11 #[.slice (some ⟨b, 0, none⟩) m c] M K Kp := by
 refine mB ?_
 have e : IntKind.wrap .i64 ((m : Int) - 1) = ((m - 1 : Nat) : Int) := wn (by omega) (by omega)
 refine cL.2 ⟨fun h0 => by omega, fun _ => ?_⟩
 rw [e]
 refine ⟨by omega, by omega, bh ?_⟩
 simp only [Int.toNat_natCast, Nat.zero_add]
 exact k
theorem kH {fn v : Int} (h : Hp R L M) (k : ∀ b M', Hp R (nM (some ⟨b, 0, none⟩) 1 [cB.begin fn v] :: L) M' → K (.slice (some ⟨b, 0, none⟩) 1 1) M') : ae Try.prog 22 #[.int .i64 fn, .int .i64 v] M K Kp := by
 refine qX ?_
 refine aj h ?_
 clear h
 intro b M h
 exact k b M (h.j6 (E := gd) (l := [cB.begin fn v]) rfl)
theorem xI {fn v lC : Int} {A : Option Addr} (h : Hp R L M) [p : bN A L cB gd 53 c l L'] (hl : 0 < l.length)
  (k1 : 16 ≤ l.length → K (.tuple #[.slice A l.length c, .bool false]) M)
  (k2 : l.length < 16 → ∀ b c' M', Hp R (nM (some ⟨b, 0, none⟩) c' (l ++ [⟨fn, 0, [v, 0, 0, 0, 0, 0, 0, 0], lC⟩]) :: L) M' → K (.tuple #[.slice (some ⟨b, 0, none⟩) (l.length + 1) c', .bool true]) M') :
  ae Try.prog 76 #[.slice A l.length c, .int .i64 fn, .int .i64 v, .int .i64 lC] M K Kp := by
 refine lV ?_
 have hcap := h.j7 A
 refine aG.2 ⟨fun nO => k1 (by omega), fun nO => ?_⟩
 refine ⟨by omega, by omega, by omega, by omega, by omega, by omega, ?_⟩
 refine aj h ?_
 clear h
 intro kb M h
 simp only [Int.toNat_natCast, Nat.sub_zero]
 have e : mW A 0 l.length 11 = A := by
  obtain ⟨bb, rfl⟩ := h.bO (A := A) hl (by decide)
  unfold mW
  rw [if_neg (by omega)]
  rfl
 rw [e]
 refine Hp.Di (E := gd) (r := [⟨fn, 0, [v, 0, 0, 0, 0, 0, 0, 0], lC⟩]) h (h.src (A := A)) rfl BN rfl rfl (by omega) (by simp; omega) ?_
 clear h
 intro b c' M h
 refine bu ?_
 have := k2 (by omega) b c' M h
 rwa [List.length_append]
theorem uq {v : Int} {A : Option Addr} (h : Hp R L M) [p : bN A L cB gd 53 c l L'] (hl : 0 < l.length) (hs : l.length ≤ 1000000)
  (vT : l[l.length - 1]? = some f) (hin : aQ f.lC)
  (k1 : l.length < 2 → K (.tuple #[.slice none 0 0, .bool false]) M)
  (k2 : 2 ≤ l.length → ∀ b c' M', ∀ g, l[l.length - 2]? = some g → Hp R (nM (some ⟨b, 0, none⟩) c' ((l.take (l.length - 1)).set (l.length - 2) (g.set f.lC v)) :: L) M' → K (.tuple #[.slice (some ⟨b, 0, none⟩) (l.length - 1) c', .bool true]) M') :
  ae Try.prog 77 #[.slice A l.length c, .int .i64 v] M K Kp := by
 refine jG ?_
 have hcap := h.j7 A
 refine aG.2 ⟨fun nO => k1 (by omega), fun nO => ?_⟩
 have e : IntKind.wrap .i64 ((l.length : Int) - 1) = ((l.length - 1 : Nat) : Int) := wn (by omega) (by omega)
 obtain ⟨ba, rfl⟩ := h.bO (A := A) hl (by decide)
 refine aj h ?_
 clear h
 intro kb M h
 rw [e]
 refine ⟨by omega, by omega, by omega, by omega, by omega, by omega, ?_⟩
 simp only [Int.toNat_natCast, Nat.sub_zero]
 have e2 : mW (some ⟨ba, 0, none⟩) 0 c 11 = some ⟨ba, 0, none⟩ := by
  unfold mW
  rw [if_neg (by omega)]
  rfl
 rw [e2]
 refine h.nv gd BN (l.take (l.length - 1)) ((h.src (A := some ⟨ba, 0, none⟩)).Hf _) (by simp) (by simp; omega) ?_
 clear h
 intro A' c' M h
 have hlen : (l.take (l.length - 1)).length = l.length - 1 := by simp
 obtain ⟨b', rfl⟩ := h.bO (A := A') (by omega) (by decide)
 refine bu ?_
 rw [hlen]
 refine iB (by omega) (by omega) ?_
 refine sW (bh ?_)
 refine iB (by omega) (by omega) ?_
 refine sW (bh ?_)
 refine bl (Src.at (h.src (A := some ⟨ba, 0, none⟩)) h (i := l.length - 1) (j := 10) vT rfl (by show _ = 0 + ((l.length - 1) * 11 + 10); omega)) ?_
 obtain ⟨g, hg⟩ := aP (l := l) (i := l.length - 2) (by omega)
 refine ⟨hin.1, hin.2, ?_⟩
 have zJ : (l.take (l.length - 1))[l.length - 2]? = some g := by rw [List.getElem?_take, if_pos (by omega)]; exact hg
 refine oN h zJ hin (by omega) ?_
 clear h
 intro M h
 exact k2 (by omega) b' c' M g hg h
abbrev ur (A : Option Addr) (c : Nat) (l : List Int) : HP := dm cI 3 A c l
def c9 : qI Lk := ⟨fun b x => exs fun A : Option Addr => exs fun c : Nat => sep [pt b [.int .i64 x.owner, .slice A x.waits.length c] 91, ur A c x.waits]⟩
def Lk.take (x : Lk) (g : Int) : Lk × Bool := if x.owner = -1 then (⟨g, x.waits⟩, true) else (⟨x.owner, x.waits ++ [g]⟩, false)
def Lk.lW (x : Lk) (g : Int) : Lk × Int × Int :=
 if x.owner = -1 ∨ x.owner ≠ g then (x, -1, 5) else (⟨x.waits.headD (-1), x.waits.tail⟩, x.waits.headD (-1), 0)
variable {y : Lk}
theorem tu (h : Hp R L M) [o : dI c9 b L y L'] : ∃ A c, Hp R (pt b [.int .i64 y.owner, .slice A y.waits.length c] 91 :: ur A c y.waits :: L') M := by
 have := h.obj c9 b
 simpa only [c9, Hp.iT, Hp.bC, List.cons_append, List.nil_append] using this
theorem eC {A : Option Addr} {n c : Nat} {o : Int} {ws : List Int} {L1 L2 : List HP} (h : Hp R L M) (b : Nat) [p : lA b L [.int .i64 o, .slice A n c] 91 L1] [p1 : bN A L1 Int cI 3 c ws L2] (e : n = ws.length := by first | rfl | simp) : Hp R (aM c9 b ⟨o, ws⟩ :: L2) M := by
 subst e
 refine Hp.Bg ?_
 simp only [c9, Hp.iT, Hp.bC, List.cons_append, List.nil_append]
 exact ⟨_, _, h.sub (.cons p.pick (.cons p1.pick .refl))⟩
theorem tv (h : Hp R L M) (k : ∀ b M', Hp R (aM c9 b ⟨-1, []⟩ :: L) M' → K (.pointer (some ⟨b, 0, none⟩)) M') : ae Try.prog 24 #[] M K Kp := by
 refine uk ?_
 refine aj h ?_
 clear h
 intro b M h
 have h := h.cE cI 3
 exact k b M (eC h b)
theorem xJ {g : Int} (h : Hp R L M) [o : dI c9 b L y L'] (hs : y.waits.length ≤ 1000000000) (k : ∀ M', Hp R (aM c9 b (y.take g).1 :: L') M' → K (.bool (y.take g).2) M') :
  ae Try.prog 80 #[.pointer (some ⟨b, 0, none⟩), .int .i64 g] M K Kp := by
 refine mK ?_
 have h' := tu h (b := b)
 clear h
 obtain ⟨A, c, h⟩ := h'
 repeat (first|(refine aj h ?_;clear h;intro kb M h)|(refine ak h ?_;clear h;intro M h)|refine St.to h ?_|(apply Exists.intro;(repeat apply Exists.intro);refine And.intro rfl ?_)|refine aq ?_|refine af ?_|refine ai ?_)
 unfold Lk.take at k
 refine fA.2 ⟨fun hn => ?_, fun hn => ?_⟩
 ·rw [if_neg hn] at k
  repeat (first|(refine aj h ?_;clear h;intro kb M h)|(refine ak h ?_;clear h;intro M h)|refine St.to h ?_|(apply Exists.intro;(repeat apply Exists.intro);refine And.intro rfl ?_)|refine aq ?_|refine af ?_|refine ai ?_)
  refine h.be uj [g] rfl rfl (by simp; omega) ?_
  clear h
  intro A' c' M h
  repeat (first|(refine aj h ?_;clear h;intro kb M h)|(refine ak h ?_;clear h;intro M h)|refine St.to h ?_|(apply Exists.intro;(repeat apply Exists.intro);refine And.intro rfl ?_)|refine aq ?_|refine af ?_|refine ai ?_)
  exact k _ (eC h b).bB
 ·rw [if_pos hn] at k
  repeat (first|(refine aj h ?_;clear h;intro kb M h)|(refine ak h ?_;clear h;intro M h)|refine St.to h ?_|(apply Exists.intro;(repeat apply Exists.intro);refine And.intro rfl ?_)|refine aq ?_|refine af ?_|refine ai ?_)
  exact k _ (eC h b).bB
theorem xK {g : Int} (h : Hp R L M) [o : dI c9 b L y L'] (hs : y.waits.length ≤ 1000000000) (k : ∀ M', Hp R (aM c9 b (y.lW g).1 :: L') M' → K (.tuple #[.int .i64 (y.lW g).2.1, .int .i64 (y.lW g).2.2]) M') :
  ae Try.prog 81 #[.pointer (some ⟨b, 0, none⟩), .int .i64 g] M K Kp := by
 refine mL ?_
 obtain ⟨ow, ws⟩ := y
 have h' := tu h (b := b)
 clear h
 obtain ⟨A, c, h⟩ := h'
 dsimp only at h hs
 repeat (first|(refine aj h ?_;clear h;intro kb M h)|(refine ak h ?_;clear h;intro M h)|refine St.to h ?_|(apply Exists.intro;(repeat apply Exists.intro);refine And.intro rfl ?_)|refine aq ?_|refine af ?_|refine ai ?_)
 unfold Lk.lW at k
 refine cL.2 ⟨fun hn => ?_, fun hn => ?_⟩
 ·rw [if_pos (.inl hn)] at k
  exact k _ (eC h b).bB
 repeat (first|(refine aj h ?_;clear h;intro kb M h)|(refine ak h ?_;clear h;intro M h)|refine St.to h ?_|(apply Exists.intro;(repeat apply Exists.intro);refine And.intro rfl ?_)|refine aq ?_|refine af ?_|refine ai ?_)
 refine fA.2 ⟨fun sM => ?_, fun sM => ?_⟩
 ·rw [if_pos (.inr sM)] at k
  exact k _ (eC h b).bB
 rw [if_neg (by rintro (h | h) <;> contradiction)] at k
 repeat (first|(refine aj h ?_;clear h;intro kb M h)|(refine ak h ?_;clear h;intro M h)|refine St.to h ?_|(apply Exists.intro;(repeat apply Exists.intro);refine And.intro rfl ?_)|refine aq ?_|refine af ?_|refine ai ?_)
 refine aG.2 ⟨fun hr => ?_, fun hr => ?_⟩
 ·cases ws with
  | nil => simp at hr
  | cons w r =>
   repeat (first|(refine aj h ?_;clear h;intro kb M h)|(refine ak h ?_;clear h;intro M h)|refine St.to h ?_|(apply Exists.intro;(repeat apply Exists.intro);refine And.intro rfl ?_)|refine aq ?_|refine af ?_|refine ai ?_)
   obtain ⟨q, rfl⟩ := h.bO (A := A) (by simp) (by decide)
   repeat (first|(refine aj h ?_;clear h;intro kb M h)|(refine ak h ?_;clear h;intro M h)|refine St.to h ?_|(apply Exists.intro;(repeat apply Exists.intro);refine And.intro rfl ?_)|refine aq ?_|refine af ?_|refine ai ?_)
   refine bl (Src.at (h.src (A := some ⟨q, 0, none⟩)) h (i := 0) (j := 0) rfl rfl (by simp [cI])) ?_
   have hcap := h.j7 (some ⟨q, 0, none⟩)
   have hlen : r.length + 1 ≤ 1000000000 := by simpa using hs
   repeat (first|(refine aj h ?_;clear h;intro kb M h)|(refine ak h ?_;clear h;intro M h)|refine St.to h ?_|(apply Exists.intro;(repeat apply Exists.intro);refine And.intro rfl ?_)|refine aq ?_|refine af ?_|refine ai ?_)
   simp only [Int.toNat_natCast]
   refine h.nv cI uj r ((h.src (A := some ⟨q, 0, none⟩)).drop (m := 1) hcap) (by simp) (by omega) ?_
   clear h
   intro A' c' M h
   repeat (first|(refine aj h ?_;clear h;intro kb M h)|(refine ak h ?_;clear h;intro M h)|refine St.to h ?_|(apply Exists.intro;(repeat apply Exists.intro);refine And.intro rfl ?_)|refine aq ?_|refine af ?_|refine ai ?_)
   exact k _ (eC h b).bB
 ·cases ws with
  | cons v l => simp at hr
  | nil =>
   repeat (first|(refine aj h ?_;clear h;intro kb M h)|(refine ak h ?_;clear h;intro M h)|refine St.to h ?_|(apply Exists.intro;(repeat apply Exists.intro);refine And.intro rfl ?_)|refine aq ?_|refine af ?_|refine ai ?_)
   exact k _ (eC h b).bB
end
structure PA where
 f : Option Addr
 fc : Nat
 c : Option Addr
 cc : Nat
 k : Option Addr
 kc : Nat
abbrev GA := Option Addr × Nat
abbrev kI (y : eB) (A : Option Addr) (c : Nat) : List Value := [.int .i64 y.st, .slice A y.fs.length c, .int .i64 y.wt.op, .int .i64 y.wt.a, .int .i64 y.wt.b, .int .i64 y.wt.c]
def dk : qI (eB × GA) := ⟨fun b x => sep [pt b (kI x.1 x.2.1 x.2.2) 68, nM x.2.1 x.2.2 x.1.fs]⟩
structure WA where
 ag : Option Addr
 cg : Nat
 gb : List Nat
 ac : Option Addr
 cc : Nat
 cb : List Nat
 al : Option Addr
 cl : Nat
 lb : List Nat
 ah : Option Addr
 ch : Nat
 ao : Option Addr
 co : Nat
 ar : Option Addr
 cr : Nat
abbrev g7 (pa : PA) (p : cR) (dr : Value) (a : WA) (x : Wd) : List Value :=
 [.slice pa.f p.funcs.length pa.fc, .slice pa.c p.mA.length pa.cc, .int .i64 p.aH, .slice pa.k p.cases.length pa.kc, .slice a.ag a.gb.length a.cg, .int .u64 x.clock,
  .slice a.ac a.cb.length a.cc, .slice a.al a.lb.length a.cl, .slice a.ah x.hl.length a.ch, .int .u64 x.fO, .slice a.ao x.out.length a.co, .int .i64 x.end_, .int .i64 x.code, .slice a.ar x.ready.length a.cr, dr]
abbrev pF (A : Option Addr) (c : Nat) (l : List Nat) : HP := dm gZ 65 A c l
abbrev pG (A : Option Addr) (c : Nat) (l : List Nat) : HP := dm gZ 77 A c l
abbrev pH (A : Option Addr) (c : Nat) (l : List Nat) : HP := dm gZ 79 A c l
abbrev cJ (A : Option Addr) (c : Nat) (l : List ay) : HP := dm kq 86 A c l
abbrev l8 (a : WA) (x : Wd) (L : List HP) : List HP :=
 pF a.ag a.cg a.gb :: pG a.ac a.cc a.cb :: bn aS a.cb x.au :: pH a.al a.cl a.lb :: bn c9 a.lb x.aH :: cJ a.ah a.ch x.hl :: oK a.ao a.co x.out :: ur a.ar a.cr x.ready :: L
def cU (gg : List GA) (a : WA) (x : Wd) : Prop := a.gb.length = x.gs.length ∧ gg.length = x.gs.length ∧ a.cb.length = x.au.length ∧ a.lb.length = x.aH.length
def aO (pa : PA) (p : cR) (gg : List GA) (dr : Value) : qI Wd := ⟨fun b x => exs fun a : WA =>
 sep (pt b (g7 pa p dr a x) 76 :: bn dk a.gb (x.gs.zip gg) :: fact (cU gg a x) :: l8 a x [])⟩
class oO (b : Nat) (L : List HP) (pa : outParam PA) (p : outParam cR) (gg : outParam (List GA)) (dr : outParam Value) (x : outParam Wd) (L' : outParam (List HP)) : Prop where
 pick : cu L (aM (aO pa p gg dr) b x) L'
instance oO.here {pa : PA} {p : cR} {gg : List GA} {dr : Value} {b : Nat} {x : Wd} {L : List HP} : oO b (aM (aO pa p gg dr) b x :: L) pa p gg dr x L := ⟨.here⟩
instance (priority := low) oO.there {pa : PA} {p : cR} {gg : List GA} {dr : Value} {b : Nat} {x : Wd} {Q : HP} {L L' : List HP} [h : oO b L pa p gg dr x L'] : oO b (Q :: L) pa p gg dr x (Q :: L') := ⟨.there h.pick⟩
section
variable {R : Mem} {L L' : List HP} {M : Mem} {K : Value → Mem → Prop} {Kp : List PanicEntry → Mem → Prop} {pa : PA} {p : cR} {gg : List GA} {dr : Value} {b : Nat} {x : Wd}
theorem bz (h : Hp R L M) [o : oO b L pa p gg dr x L'] : ∃ a : WA, cU gg a x ∧ Hp R (pt b (g7 pa p dr a x) 76 :: bn dk a.gb (x.gs.zip gg) :: l8 a x L') M := by
 have := h.pick o.pick
 unfold aM at this
 simp only [aO, l8, Hp.iT, Hp.bC, List.cons_append, List.nil_append] at this
 obtain ⟨a, h⟩ := this
 have h2 := h.pick (P := fact (cU gg a x)) (.there (.there .here))
 exact ⟨a, (Hp.fF.1 h2).1, (Hp.fF.1 h2).2⟩
theorem fG {a : WA} (hl : cU gg a x) (h : Hp R (pt b (g7 pa p dr a x) 76 :: bn dk a.gb (x.gs.zip gg) :: l8 a x L) M) : Hp R (aM (aO pa p gg dr) b x :: L) M := by
 refine Hp.Bg ?_
 simp only [aO, l8, Hp.iT, Hp.bC, List.cons_append, List.nil_append]
 refine ⟨a, ?_⟩
 have h2 : Hp R (fact (cU gg a x) :: pt b (g7 pa p dr a x) 76 :: bn dk a.gb (x.gs.zip gg) :: l8 a x L) M := Hp.fF.2 ⟨hl, h⟩
 exact h2.oD (.there (.there .here))
theorem aD {a : WA} {L0 L1 L2 L3 L4 L5 L6 L7 L8 L9 : List HP} (hl : cU gg a x) (h : Hp R L M) (b : Nat)
  [p0 : lA b L (g7 pa p dr a x) 76 L0] [p1 : dZ dk L0 a.gb (x.gs.zip gg) L1] [p2 : bN a.ag L1 Nat gZ 65 a.cg a.gb L2] [p3 : bN a.ac L2 Nat gZ 77 a.cc a.cb L3]
  [p4 : dZ aS L3 a.cb x.au L4] [p5 : bN a.al L4 Nat gZ 79 a.cl a.lb L5] [p6 : dZ c9 L5 a.lb x.aH L6] [p7 : bN a.ah L6 ay kq 86 a.ch x.hl L7] [p8 : bN a.ao L7 Int cI 2 a.co x.out L8]
  [p9 : bN a.ar L8 Int cI 3 a.cr x.ready L9] : Hp R (aM (aO pa p gg dr) b x :: L9) M :=
 fG hl (h.sub (.cons p0.pick (.cons p1.pick (.cons p2.pick (.cons p3.pick (.cons p4.pick (.cons p5.pick (.cons p6.pick (.cons p7.pick (.cons p8.pick (.cons p9.pick .refl)))))))))))
theorem vU {α β : Type} : ∀ {l : List α} {m : List β} {i : Nat} {u : α} {v : β}, m[i]? = some v → (l.zip m).set i (u, v) = (l.set i u).zip m
 | [], _, _, _, _, _ => by simp
 | a :: l, [], i, u, v, h => by simp at h
 | a :: l, w :: m, 0, u, v, h => by simp at h; subst h; rfl
 | a :: l, w :: m, i + 1, u, v, h => by
  have := vU (l := l) (u := u) (show m[i]? = some v from by simpa using h)
  simp [this]
theorem lf {α β : Type} : ∀ {l : List α} {m : List β} {i : Nat} {u : α} {v : β}, l[i]? = some u → m[i]? = some v → (l.zip m)[i]? = some (u, v)
 | [], _, _, _, _, h, _ => by simp at h
 | a :: l, [], i, u, v, _, h => by simp at h
 | a :: l, w :: m, 0, u, v, h, g => by simp at h g; subst h; subst g; rfl
 | a :: l, w :: m, i + 1, u, v, h, g => by simpa using lf (show l[i]? = some u from by simpa using h) (show m[i]? = some v from by simpa using g)
theorem kJ {c : Nat} {y : eB} {A : Option Addr} (h : Hp R L M) [o : dI dk b L (y, (A, c)) L'] : Hp R (pt b (kI y A c) 68 :: nM A c y.fs :: L') M := by
 have := h.obj dk b
 simpa only [dk, Hp.bC, List.cons_append, List.nil_append] using this
theorem iC {A : Option Addr} {n c : Nat} {st o1 o2 o3 o4 : Int} {fs : List cB} {L1 L2 : List HP} (h : Hp R L M) (b : Nat) [p : lA b L [.int .i64 st, .slice A n c, .int .i64 o1, .int .i64 o2, .int .i64 o3, .int .i64 o4] 68 L1] [p1 : bN A L1 cB gd 53 c fs L2]
  (e : n = fs.length := by first | rfl | simp) : Hp R (aM dk b (⟨st, fs, ⟨o1, o2, o3, o4⟩⟩, (A, c)) :: L2) M := by
 subst e
 refine Hp.Bg ?_
 simp only [dk, Hp.bC, List.cons_append, List.nil_append]
 exact h.sub (.cons p.pick (.cons p1.pick .refl))
theorem fH {g : Int} (h : Hp R L M) [o : oO b L pa p gg dr x L'] (h0 : 0 ≤ g) (hg : g < x.gs.length) :
  ∃ (a : WA) (gb : Nat) (A : Option Addr) (c : Nat), cU gg a x ∧ a.gb[g.toNat]? = some gb ∧ gg[g.toNat]? = some (A, c) ∧
   Hp R (pt gb (kI (aa x g) A c) 68 :: nM A c (aa x g).fs :: pt b (g7 pa p dr a x) 76 :: pB dk a.gb (x.gs.zip gg) g.toNat :: l8 a x L') M := by
 obtain ⟨a, hl, h1⟩ := bz h (b := b)
 obtain ⟨l1, l2, l3, l4⟩ := hl
 obtain ⟨gb, dx⟩ := aP (l := a.gb) (i := g.toNat) (by omega)
 obtain ⟨⟨A, c⟩, cS⟩ := aP (l := gg) (i := g.toNat) (by omega)
 obtain ⟨y, hy⟩ := aP (l := x.gs) (i := g.toNat) (by omega)
 have e : aa x g = y := by simp [aa, hy]
 rw [e]
 have h2 := h1.cZ dk dx (lf hy cS)
 have h3 := kJ (b := gb) h2
 exact ⟨a, gb, A, c, ⟨l1, l2, l3, l4⟩, dx, cS, h3.sub eX⟩
theorem bI {a : WA} {A : Option Addr} {c n : Nat} {g : Int} {st o1 o2 o3 o4 : Int} {fs : List cB} {L1 L2 L3 : List HP} (h : Hp R L M) (gb : Nat) (hl : cU gg a x) (dx : a.gb[g.toNat]? = some gb) (cS : gg[g.toNat]? = some (A, c))
  [p1 : lA gb L [.int .i64 st, .slice A n c, .int .i64 o1, .int .i64 o2, .int .i64 o3, .int .i64 o4] 68 L1] [p2 : bN A L1 cB gd 53 c fs L2]
  [p3 : pC dk L2 a.gb (x.gs.zip gg) g.toNat L3] (e : n = fs.length := by first | rfl | simp) : Hp R (bn dk a.gb ((x.gs.set g.toNat ⟨st, fs, ⟨o1, o2, o3, o4⟩⟩).zip gg) :: L3) M := by
 have h1 := iC h gb e
 obtain ⟨l1, l2, l3, l4⟩ := hl
 have hi := (List.getElem?_eq_some_iff.1 dx).1
 have h2 := h1.dw dk gb dx (by rw [List.length_zip]; omega)
 rwa [vU cS] at h2
end
section
variable {R : Mem} {L L' : List HP} {M : Mem} {K : Value → Mem → Prop} {Kp : List PanicEntry → Mem → Prop} {pa : PA} {p : cR} {gg : List GA} {dr : Value} {b : Nat} {x : Wd}
theorem FB {A : Option Addr} {l : List Nat} {T c q i bb : Nat} (h : Hp R L M) [r : bN A L Nat gZ T c l L'] (hq : A = some ⟨q, 0, none⟩) (hb : l[i]? = some bb) : M.ld ⟨q, 0 + i, none⟩ = some (.pointer (some ⟨bb, 0, none⟩)) := by
 subst hq
 exact Src.at (h.src (A := some ⟨q, 0, none⟩)) h (i := i) (j := 0) hb rfl (by simp [gZ])
theorem oP {A : Option Addr} {l : List Nat} {T c bb i : Nat} {G : Nat → Nat → Option Addr → Prop} (h : Hp R L M) [r : bN A L Nat gZ T c l L'] (hb : l[i]? = some bb) (k : ∀ q, A = some ⟨q, 0, none⟩ → G q 0 (some ⟨bb, 0, none⟩)) :
  aB A fun k4 k5 => dU (M.ld ⟨k4, k5 + i, none⟩) fun A6 => G k4 k5 A6 := by
 obtain ⟨q, hq⟩ := h.bO (A := A) (by have := (List.getElem?_eq_some_iff.1 hb).1; omega) (by decide)
 have h2 := FB h hq hb
 subst hq
 refine bh ?_
 rw [h2]
 exact sW (k q rfl)
theorem eD {g : Int} (h : Hp R L M) [o : oO b L pa p gg dr x L'] (h0 : 0 ≤ g) (hg : g < x.gs.length) (hr : x.ready.length ≤ 1000000000)
  (k : ∀ M', Hp R (aM (aO pa p gg dr) b (x.bX g) :: L') M' → K (.tuple #[]) M') : ae Try.prog 29 #[.pointer (some ⟨b, 0, none⟩), .int .i64 g] M K Kp := by
 refine lE ?_
 have h' := fH h (b := b) h0 hg
 clear h
 obtain ⟨a, gb, A, c, hl, dx, cS, h⟩ := h'
 have hl' := hl
 obtain ⟨l1, l2, l3, l4⟩ := hl'
 repeat (first|(refine aj h ?_;clear h;intro kb M h)|(refine ak h ?_;clear h;intro M h)|refine St.to h ?_|(apply Exists.intro;(repeat apply Exists.intro);refine And.intro rfl ?_)|refine aq ?_|refine af ?_|refine ai ?_)
 refine oP h dx fun q hq => ?_
 repeat (first|(refine aj h ?_;clear h;intro kb M h)|(refine ak h ?_;clear h;intro M h)|refine St.to h ?_|(apply Exists.intro;(repeat apply Exists.intro);refine And.intro rfl ?_)|refine aq ?_|refine af ?_|refine ai ?_)
 refine h.be uj [g] rfl rfl (by simp; omega) ?_
 clear h
 intro A' c' M h
 repeat (first|(refine aj h ?_;clear h;intro kb M h)|(refine ak h ?_;clear h;intro M h)|refine St.to h ?_|(apply Exists.intro;(repeat apply Exists.intro);refine And.intro rfl ?_)|refine aq ?_|refine af ?_|refine ai ?_)
 replace h := bI h gb hl dx cS
 exact k _ (fG (a := { a with ar := A', cr := c' }) ⟨by simpa [Wd.bX, Wd.aJ] using l1, by simpa [Wd.bX, Wd.aJ] using l2, l3, l4⟩ (h.sub eX))
theorem cF {y : eB} (h : 0 < y.fs.length) : y.fs[y.fs.length - 1]? = some y.top := by
 unfold eB.top
 rw [List.getD_eq_getElem?_getD, List.getElem?_eq_getElem (by omega)]; rfl
theorem bP {a : WA} {g : Int} {y : eB} (hl : cU gg a x) : cU gg a (x.aJ g y) := by
 obtain ⟨l1, l2, l3, l4⟩ := hl
 exact ⟨by simpa [Wd.aJ] using l1, by simpa [Wd.aJ] using l2, l3, l4⟩
theorem gO {g : Int} {i : cn} (h : Hp R L M) [o : oO b L pa p gg dr x L'] (h0 : 0 ≤ g) (hg : g < x.gs.length)
  (k : ∀ M', Hp R (aM (aO pa p gg dr) b (x.block g i) :: L') M' → K (.tuple #[]) M') : ae Try.prog 42 #[.pointer (some ⟨b, 0, none⟩), .int .i64 g, .agg #[.int .i64 i.op, .int .i64 i.a, .int .i64 i.b, .int .i64 i.c]] M K Kp := by
 refine kA ?_
 have h' := fH h (b := b) h0 hg
 clear h
 obtain ⟨a, gb, A, c, hl, dx, cS, h⟩ := h'
 have hl' := hl
 obtain ⟨l1, l2, l3, l4⟩ := hl'
 repeat (first|(refine aj h ?_;clear h;intro kb M h)|(refine ak h ?_;clear h;intro M h)|refine St.to h ?_|(apply Exists.intro;(repeat apply Exists.intro);refine And.intro rfl ?_)|refine aq ?_|refine af ?_|refine ai ?_)
 refine oP h dx fun q hq => ?_
 repeat (first|(refine aj h ?_;clear h;intro kb M h)|(refine ak h ?_;clear h;intro M h)|refine St.to h ?_|(apply Exists.intro;(repeat apply Exists.intro);refine And.intro rfl ?_)|refine aq ?_|refine af ?_|refine ai ?_)
 refine oP h dx fun q2 yH => ?_
 repeat (first|(refine aj h ?_;clear h;intro kb M h)|(refine ak h ?_;clear h;intro M h)|refine St.to h ?_|(apply Exists.intro;(repeat apply Exists.intro);refine And.intro rfl ?_)|refine aq ?_|refine af ?_|refine ai ?_)
 replace h := bI h gb hl dx cS
 exact k _ (fG (a := a) (bP hl) (h.sub eX))
theorem nP {g kk : Int} (h : Hp R L M) [o : oO b L pa p gg dr x L'] (hg : aI x g) (hc : aQ (aa x g).wt.c) (hs : x.Sm)
  (k : ∀ M', Hp R (aM (aO pa p gg dr) b (x.dJ g kk) :: L') M' → K (.tuple #[]) M') : ae Try.prog 87 #[.pointer (some ⟨b, 0, none⟩), .int .i64 g, .int .i64 kk] M K Kp := by
 refine jH ?_
 obtain ⟨h0, h1, h2, h3⟩ := hg
 obtain ⟨s1, s2, s3, s4, s5, s6, s7, s8⟩ := hs
 have h' := fH h (b := b) h0 h1
 clear h
 obtain ⟨a, gb, A, c, hl, dx, cS, h⟩ := h'
 have hl' := hl
 obtain ⟨l1, l2, l3, l4⟩ := hl'
 repeat (first|(refine aj h ?_;clear h;intro kb M h)|(refine ak h ?_;clear h;intro M h)|refine St.to h ?_|(apply Exists.intro;(repeat apply Exists.intro);refine And.intro rfl ?_)|refine aq ?_|refine af ?_|refine ai ?_)
 refine oP h dx fun q hq => ?_
 repeat (first|(refine aj h ?_;clear h;intro kb M h)|(refine ak h ?_;clear h;intro M h)|refine St.to h ?_|(apply Exists.intro;(repeat apply Exists.intro);refine And.intro rfl ?_)|refine aq ?_|refine af ?_|refine ai ?_)
 refine oP h dx fun q2 yH => ?_
 repeat (first|(refine aj h ?_;clear h;intro kb M h)|(refine ak h ?_;clear h;intro M h)|refine St.to h ?_|(apply Exists.intro;(repeat apply Exists.intro);refine And.intro rfl ?_)|refine aq ?_|refine af ?_|refine ai ?_)
 obtain ⟨bs, rfl⟩ := h.bO (A := A) h2 (by decide)
 refine iB h2 (by omega) ?_
 repeat (first|(refine aj h ?_;clear h;intro kb M h)|(refine ak h ?_;clear h;intro M h)|refine St.to h ?_|(apply Exists.intro;(repeat apply Exists.intro);refine And.intro rfl ?_)|refine aq ?_|refine af ?_|refine ai ?_)
 refine ⟨hc.1, hc.2, oN h (cF h2) hc rfl ?_⟩
 clear h
 intro M h
 repeat (first|(refine aj h ?_;clear h;intro kb M h)|(refine ak h ?_;clear h;intro M h)|refine St.to h ?_|(apply Exists.intro;(repeat apply Exists.intro);refine And.intro rfl ?_)|refine aq ?_|refine af ?_|refine ai ?_)
 refine vK h (Src.row (A := a.ac)) rfl (by omega) l3 (fun c hc => (s1 c hc).mono (by omega)) ?_
 clear h
 intro M h
 refine ⟨rfl, ?_⟩
 replace h := bI h gb hl dx cS
 exact k _ (fG (a := a) (x := x.dJ g kk) ⟨by simpa [Wd.dJ, Wd.leave, Wd.aN, Wd.aJ] using l1, by simpa [Wd.dJ, Wd.leave, Wd.aN, Wd.aJ] using l2, by simpa [Wd.dJ, Wd.leave, Wd.aN, Wd.aJ] using l3, l4⟩ (h.sub eX))
end
theorem e8 {x : Wd} {g q v : Int} (h : aI x g) : aa (x.aN g q v) g = (aa x g).bj ((aa x g).top.set q v) := cq h.1 h.2.1
theorem fa {x : Wd} {g q v : Int} (h : aI x g) : aI (x.aN g q v) g := by
 obtain ⟨h0, h1, h2, h3⟩ := h
 refine ⟨h0, by simpa [Wd.aN, Wd.aJ] using h1, ?_, ?_⟩ <;> rw [e8 ⟨h0, h1, h2, h3⟩] <;> simpa [eB.bj]
theorem zK {x : Wd} {g q v : Int} (h : aI x g) : (aa (x.aN g q v) g).wt = (aa x g).wt := by rw [e8 h]; rfl
theorem nQ {x : Wd} {g k : Int} (h : aI x g) : aI (x.dJ g k) g := fa h
theorem yI {x : Wd} {g : Int} {y : eB} (h : x.Sm) : (x.aJ g y).Sm := by
 obtain ⟨s1, s2, s3, s4⟩ := h
 exact ⟨s1, s2, by simpa [Wd.aJ] using s3, s4⟩
theorem cG {z : Int} (h0 : 0 ≤ z) (h : z < 9223372036854775808) : IntKind.wrap .i64 z = z := by
 obtain ⟨n, rfl⟩ := Int.eq_ofNat_of_zero_le h0
 exact iq (by omega)
section
variable {R : Mem} {L L' : List HP} {M : Mem} {K : Value → Mem → Prop} {Kp : List PanicEntry → Mem → Prop} {pa : PA} {p : cR} {gg : List GA} {dr : Value} {b : Nat} {x : Wd}
theorem FC {A : Option Addr} {c : Nat} {l : List kZ} {q : Int} {G : Nat → Nat → Int → Prop} (h : Hp R L M) (hp : RS qW R A c l) (h0 : 0 ≤ q) (hq : q < l.length) (k : ∀ b o, G b o (l.getD q.toNat ⟨0, 0, 0⟩).bL) :
  aB A fun b o => bG (M.ld ⟨b, ((o + q.toNat * 3) + 2), none⟩) .i64 fun n => G b o n := by
 obtain ⟨bb, o, rfl⟩ := hp.some (by omega) (by decide)
 obtain ⟨y, hy⟩ := aP (l := l) (i := q.toNat) (by omega)
 have e : l.getD q.toNat ⟨0, 0, 0⟩ = y := by simp [hy]
 refine bh ?_
 refine bl (Src.at (hp.src (L := L)) h (i := q.toNat) (j := 2) hy rfl (by show _ = o + (q.toNat * 3 + 2); omega)) ?_
 have := k bb o
 rwa [e] at this
theorem kK {v : Wt} {some : Int} (h : Hp R L M) [o : oO b L pa p gg dr x L'] (hp : RS qW R pa.k pa.kc p.cases) (hv : kx p x v) (hs : x.Sm)
  (k : ∀ M', Hp R (aM (aO pa p gg dr) b (x.received p v some) :: L') M' → K (.tuple #[]) M') : ae Try.prog 73 #[.pointer (Option.some ⟨b, 0, none⟩), .agg #[.int .i64 v.g, .int .i64 v.cs, .int .i64 v.v], .int .i64 some] M K Kp := by
 refine iA ?_
 obtain ⟨hg, hv⟩ := hv
 have uu := hg
 obtain ⟨h0, h1, h2, h3⟩ := uu
 have hs' := hs
 obtain ⟨s1, s2, s3, s4, s5, s6, s7, s8⟩ := hs'
 have h' := fH h (b := b) h0 h1
 clear h
 obtain ⟨a, gb, A, c, hl, dx, cS, h⟩ := h'
 have hl' := hl
 obtain ⟨l1, l2, l3, l4⟩ := hl'
 repeat (first|(refine aj h ?_;clear h;intro kb M h)|(refine ak h ?_;clear h;intro M h)|refine St.to h ?_|(apply Exists.intro;(repeat apply Exists.intro);refine And.intro rfl ?_)|refine aq ?_|refine af ?_|refine ai ?_)
 refine oP h dx fun q hq => ?_
 repeat (first|(refine aj h ?_;clear h;intro kb M h)|(refine ak h ?_;clear h;intro M h)|refine St.to h ?_|(apply Exists.intro;(repeat apply Exists.intro);refine And.intro rfl ?_)|refine aq ?_|refine af ?_|refine ai ?_)
 refine oP h dx fun q2 yH => ?_
 repeat (first|(refine aj h ?_;clear h;intro kb M h)|(refine ak h ?_;clear h;intro M h)|refine St.to h ?_|(apply Exists.intro;(repeat apply Exists.intro);refine And.intro rfl ?_)|refine aq ?_|refine af ?_|refine ai ?_)
 obtain ⟨bs, rfl⟩ := h.bO (A := A) h2 (by decide)
 refine iB h2 (by omega) ?_
 repeat (first|(refine aj h ?_;clear h;intro kb M h)|(refine ak h ?_;clear h;intro M h)|refine St.to h ?_|(apply Exists.intro;(repeat apply Exists.intro);refine And.intro rfl ?_)|refine aq ?_|refine af ?_|refine ai ?_)
 refine ⟨FB h yH dx, ?_⟩
 repeat (first|(refine aj h ?_;clear h;intro kb M h)|(refine ak h ?_;clear h;intro M h)|refine St.to h ?_|(apply Exists.intro;(repeat apply Exists.intro);refine And.intro rfl ?_)|refine aq ?_|refine af ?_|refine ai ?_)
 refine ⟨FB h yH dx, ?_⟩
 repeat (first|(refine aj h ?_;clear h;intro kb M h)|(refine ak h ?_;clear h;intro M h)|refine St.to h ?_|(apply Exists.intro;(repeat apply Exists.intro);refine And.intro rfl ?_)|refine aq ?_|refine af ?_|refine ai ?_)
 unfold Wd.received at k
 refine cL.2 ⟨fun yJ => ?_, fun yJ => ?_⟩
 ·simp only [yJ, if_true] at k hv
  obtain ⟨v1, v2, v3, v4, v5⟩ := hv
  repeat (first|(refine aj h ?_;clear h;intro kb M h)|(refine ak h ?_;clear h;intro M h)|refine St.to h ?_|(apply Exists.intro;(repeat apply Exists.intro);refine And.intro rfl ?_)|refine aq ?_|refine af ?_|refine ai ?_)
  rw [cG v1 (by omega)]
  refine ⟨v1, by omega, FC (q := (aa x v.g).wt.a + v.cs) h hp v1 v2 fun _ _ => ?_⟩
  repeat (first|(refine aj h ?_;clear h;intro kb M h)|(refine ak h ?_;clear h;intro M h)|refine St.to h ?_|(apply Exists.intro;(repeat apply Exists.intro);refine And.intro rfl ?_)|refine aq ?_|refine af ?_|refine ai ?_)
  refine ⟨v4.1, v4.2, oN h (cF h2) v4 rfl ?_⟩
  clear h
  intro M h
  repeat (first|(refine aj h ?_;clear h;intro kb M h)|(refine ak h ?_;clear h;intro M h)|refine St.to h ?_|(apply Exists.intro;(repeat apply Exists.intro);refine And.intro rfl ?_)|refine aq ?_|refine af ?_|refine ai ?_)
  replace h := bI h gb hl dx cS
  replace h := aD (a := a) (p := p) (pa := pa) (dr := dr) (gg := gg) (x := x.aN v.g (ku p ((aa x v.g).wt.a + v.cs)).bL v.v) (bP hl) h b
  have Ni := v5
  rw [← zK (q := (ku p ((aa x v.g).wt.a + v.cs)).bL) (v := v.v) hg] at Ni
  refine nP (b := b) h (fa hg) Ni (yI hs) ?_
  clear h
  intro M h
  repeat (first|(refine aj h ?_;clear h;intro kb M h)|(refine ak h ?_;clear h;intro M h)|refine St.to h ?_|(apply Exists.intro;(repeat apply Exists.intro);refine And.intro rfl ?_)|refine aq ?_|refine af ?_|refine ai ?_)
  have zJ := nQ (k := v.cs) (fa (q := (ku p ((aa x v.g).wt.a + v.cs)).bL) (v := v.v) hg)
  refine eD (b := b) h zJ.1 zJ.2.1 (by show x.ready.length ≤ _; omega) ?_
  clear h
  intro M h
  exact ⟨rfl, k _ h.bB⟩
 ·simp only [yJ, if_false] at k hv
  obtain ⟨v1, v2⟩ := hv
  repeat (first|(refine aj h ?_;clear h;intro kb M h)|(refine ak h ?_;clear h;intro M h)|refine St.to h ?_|(apply Exists.intro;(repeat apply Exists.intro);refine And.intro rfl ?_)|refine aq ?_|refine af ?_|refine ai ?_)
  refine ⟨v1.1, v1.2, ?_⟩
  repeat (first|(refine aj h ?_;clear h;intro kb M h)|(refine ak h ?_;clear h;intro M h)|refine St.to h ?_|(apply Exists.intro;(repeat apply Exists.intro);refine And.intro rfl ?_)|refine aq ?_|refine af ?_|refine ai ?_)
  refine oN h (cF h2) v1 rfl ?_
  clear h
  intro M h
  repeat (first|(refine aj h ?_;clear h;intro kb M h)|(refine ak h ?_;clear h;intro M h)|refine St.to h ?_|(apply Exists.intro;(repeat apply Exists.intro);refine And.intro rfl ?_)|refine aq ?_|refine af ?_|refine ai ?_)
  have Iu : ((aa x v.g).fs.set ((aa x v.g).fs.length - 1) ((aa x v.g).top.set (aa x v.g).wt.b v.v))[(aa x v.g).fs.length - 1]? = Option.some ((aa x v.g).top.set (aa x v.g).wt.b v.v) := by
   rw [List.getElem?_set_self]; omega
  refine ⟨v2.1, v2.2, oN h Iu v2 rfl ?_⟩
  clear h
  intro M h
  rw [kG] at h
  repeat (first|(refine aj h ?_;clear h;intro kb M h)|(refine ak h ?_;clear h;intro M h)|refine St.to h ?_|(apply Exists.intro;(repeat apply Exists.intro);refine And.intro rfl ?_)|refine aq ?_|refine af ?_|refine ai ?_)
  replace h := bI h gb hl dx cS (by simp)
  have ex : (x.aN v.g (aa x v.g).wt.b v.v).aN v.g (aa x v.g).wt.c some = x.aJ v.g ((aa x v.g).bj (((aa x v.g).top.set (aa x v.g).wt.b v.v).set (aa x v.g).wt.c some)) := by
   have e1 := e8 (q := (aa x v.g).wt.b) (v := v.v) hg
   have e2 : ∀ (z : Wd) (q u : Int), z.aN v.g q u = z.aJ v.g ((aa z v.g).bj ((aa z v.g).top.set q u)) := fun _ _ _ => rfl
   rw [e2 (x.aN v.g (aa x v.g).wt.b v.v), e1]
   have e3 : ((aa x v.g).bj ((aa x v.g).top.set (aa x v.g).wt.b v.v)).top = (aa x v.g).top.set (aa x v.g).wt.b v.v := by
    unfold eB.top eB.bj
    dsimp only
    rw [List.length_set, List.getD_eq_getElem?_getD, List.getElem?_set_self (by omega)]; rfl
   rw [e3]
   simp [Wd.aN, Wd.aJ, eB.bj]
  rw [ex] at k
  replace h := aD (a := a) (p := p) (pa := pa) (dr := dr) (gg := gg) (x := x.aJ v.g ((aa x v.g).bj (((aa x v.g).top.set (aa x v.g).wt.b v.v).set (aa x v.g).wt.c some))) (bP hl) h b
  refine eD (b := b) h h0 (by simpa [Wd.aJ] using h1) (by show x.ready.length ≤ _; omega) ?_
  clear h
  intro M h
  exact ⟨rfl, k _ h.bB⟩
theorem xL {v : Wt} (h : Hp R L M) [o : oO b L pa p gg dr x L'] (hv : pD x v) (hs : x.Sm)
  (k : ∀ M', Hp R (aM (aO pa p gg dr) b (x.sent v) :: L') M' → K (.tuple #[]) M') : ae Try.prog 75 #[.pointer (some ⟨b, 0, none⟩), .agg #[.int .i64 v.g, .int .i64 v.cs, .int .i64 v.v]] M K Kp := by
 refine lU ?_
 obtain ⟨hg, hv⟩ := hv
 have uu := hg
 obtain ⟨h0, h1, h2, h3⟩ := uu
 have hs' := hs
 obtain ⟨s1, s2, s3, s4, s5, s6, s7, s8⟩ := hs'
 have h' := fH h (b := b) h0 h1
 clear h
 obtain ⟨a, gb, A, c, hl, dx, cS, h⟩ := h'
 have hl' := hl
 obtain ⟨l1, l2, l3, l4⟩ := hl'
 repeat (first|(refine aj h ?_;clear h;intro kb M h)|(refine ak h ?_;clear h;intro M h)|refine St.to h ?_|(apply Exists.intro;(repeat apply Exists.intro);refine And.intro rfl ?_)|refine aq ?_|refine af ?_|refine ai ?_)
 refine oP h dx fun q hq => ?_
 repeat (first|(refine aj h ?_;clear h;intro kb M h)|(refine ak h ?_;clear h;intro M h)|refine St.to h ?_|(apply Exists.intro;(repeat apply Exists.intro);refine And.intro rfl ?_)|refine aq ?_|refine af ?_|refine ai ?_)
 unfold Wd.sent at k
 have ex : x.aJ v.g (aa x v.g) = x := by
  obtain ⟨y, hy⟩ := aP (l := x.gs) (i := v.g.toNat) (by omega)
  have e : aa x v.g = y := by simp [aa, hy]
  rw [e]
  obtain ⟨hi, rfl⟩ := List.getElem?_eq_some_iff.1 hy
  simp [Wd.aJ]
 refine cL.2 ⟨fun yJ => ?_, fun yJ => ?_⟩
 ·simp only [yJ, if_true] at k hv
  repeat (first|(refine aj h ?_;clear h;intro kb M h)|(refine ak h ?_;clear h;intro M h)|refine St.to h ?_|(apply Exists.intro;(repeat apply Exists.intro);refine And.intro rfl ?_)|refine aq ?_|refine af ?_|refine ai ?_)
  replace h := bI h gb hl dx cS
  replace h := aD (a := a) (p := p) (pa := pa) (dr := dr) (gg := gg) (x := x.aJ v.g (aa x v.g)) (bP hl) h b
  rw [ex] at h
  refine nP (b := b) (x := x) h hg (hv trivial) hs ?_
  clear h
  intro M h
  repeat (first|(refine aj h ?_;clear h;intro kb M h)|(refine ak h ?_;clear h;intro M h)|refine St.to h ?_|(apply Exists.intro;(repeat apply Exists.intro);refine And.intro rfl ?_)|refine aq ?_|refine af ?_|refine ai ?_)
  have zJ := nQ (k := v.cs) hg
  refine eD (b := b) h zJ.1 zJ.2.1 (by show x.ready.length ≤ _; omega) ?_
  clear h
  intro M h
  exact ⟨rfl, k _ h.bB⟩
 ·simp only [yJ, if_false] at k
  repeat (first|(refine aj h ?_;clear h;intro kb M h)|(refine ak h ?_;clear h;intro M h)|refine St.to h ?_|(apply Exists.intro;(repeat apply Exists.intro);refine And.intro rfl ?_)|refine aq ?_|refine af ?_|refine ai ?_)
  replace h := bI h gb hl dx cS
  replace h := aD (a := a) (p := p) (pa := pa) (dr := dr) (gg := gg) (x := x.aJ v.g (aa x v.g)) (bP hl) h b
  rw [ex] at h
  refine eD (b := b) (x := x) h h0 h1 (by omega) ?_
  clear h
  intro M h
  exact ⟨rfl, k _ h.bB⟩
end
def nR (x : Wd) (k : Int) : Prop := 0 ≤ k ∧ k < x.au.length
instance (x : Wd) (k : Int) : Decidable (nR x k) := by unfold nR; infer_instance
def jt (p : cR) (x : Wd) (k v : Int) : Prop := nR x k ∧ (((b7 x.au k).send v).2.2.1 = true → kx p x ((b7 x.au k).send v).2.1) ∧ ((b7 x.au k).send v).1.Small 1000000
instance (p : cR) (x : Wd) (k v : Int) : Decidable (jt p x k v) := by unfold jt; infer_instance
def nS (x : Wd) (k : Int) : Prop := nR x k ∧ ((b7 x.au k).recv.2.2.2.2.1 = true → pD x (b7 x.au k).recv.2.2.2.1) ∧ (b7 x.au k).recv.1.Small 1000000
instance (x : Wd) (k : Int) : Decidable (nS x k) := by unfold nS; infer_instance
theorem vV {x : Wd} {k : Int} {c : aC} (h : x.Sm) (hc : c.Small 1000000) : (x.bx k c).Sm := by
 obtain ⟨s1, s2, s3⟩ := h
 refine ⟨fun d hd => ?_, by simpa [Wd.bx] using s2, s3⟩
 rcases mem_set hd with h | rfl
 ·exact s1 d h
 ·exact hc
section
variable {R : Mem} {L L' : List HP} {M : Mem} {K : Value → Mem → Prop} {Kp : List PanicEntry → Mem → Prop} {pa : PA} {p : cR} {gg : List GA} {dr : Value} {b : Nat} {x : Wd}
theorem lg {a : WA} {k : Int} {c : aC} (hl : cU gg a x) : cU gg a (x.bx k c) := by
 obtain ⟨l1, l2, l3, l4⟩ := hl
 exact ⟨l1, l2, by simpa [Wd.bx] using l3, l4⟩
theorem BP {a : WA} {k : Int} (h : Hp R L M) [q : dZ aS L a.cb x.au L'] (hl : cU gg a x) (hk : nR x k) : ∃ cb, a.cb[k.toNat]? = some cb ∧ x.au[k.toNat]? = some (b7 x.au k) ∧ Hp R (aM aS cb (b7 x.au k) :: pB aS a.cb x.au k.toNat :: L') M := by
 obtain ⟨l1, l2, l3, l4⟩ := hl
 obtain ⟨k0, k1⟩ := hk
 obtain ⟨cb, hcb⟩ := aP (l := a.cb) (i := k.toNat) (by omega)
 obtain ⟨y, hy⟩ := aP (l := x.au) (i := k.toNat) (by omega)
 have e : b7 x.au k = y := by simp [b7, hy]
 rw [e]
 exact ⟨cb, hcb, hy, h.cZ aS hcb hy⟩
theorem tw {k v : Int} (h : Hp R L M) [o : oO b L pa p gg dr x L'] (hp : RS qW R pa.k pa.kc p.cases) (hk : jt p x k v) (hs : x.Sm)
  (k1 : ∀ y ok M', x.put p k v = .on (y, ok) → Hp R (aM (aO pa p gg dr) b y :: L') M' → K (.bool ok) M')
  (k2 : ∀ y n M', x.put p k v = .cT n y → Hp R (aM (aO pa p gg dr) b y :: L') M' → Kp [{ v := .iface 92 (.int .i64 n), recovered := false }] M') :
  ae Try.prog 43 #[.pointer (some ⟨b, 0, none⟩), .int .i64 k, .int .i64 v] M K Kp := by
 refine mE ?_
 obtain ⟨hc, hr, yE⟩ := hk
 have hs' := hs
 obtain ⟨s1, s2, s3, s4, s5, s6, s7, s8⟩ := hs'
 have h' := bz h (b := b)
 clear h
 obtain ⟨a, hl, h⟩ := h'
 have hl' := hl
 obtain ⟨l1, l2, l3, l4⟩ := hl'
 have zD := hc
 obtain ⟨c0, c1⟩ := zD
 have h' := BP h hl hc
 clear h
 obtain ⟨cb, hcb, tr, h⟩ := h'
 repeat (first|(refine aj h ?_;clear h;intro kb M h)|(refine ak h ?_;clear h;intro M h)|refine St.to h ?_|(apply Exists.intro;(repeat apply Exists.intro);refine And.intro rfl ?_)|refine aq ?_|refine af ?_|refine ai ?_)
 refine oP h hcb fun q hq => ?_
 have hsc : (b7 x.au k).Small 1000000 := s1 _ (nD c0 c1)
 refine xw h (hsc.mono (by omega)) ?_
 clear h
 intro M h
 replace h := h.dw aS cb hcb (by omega)
 unfold Wd.put at k1 k2
 dsimp only at k1 k2
 generalize (b7 x.au k).send v = s at h k1 k2 hr yE
 obtain ⟨c', w, ok, e⟩ := s
 dsimp only [Ec] at h k1 k2 hr yE ⊢
 refine ⟨w.g, w.cs, w.v, ok, e, rfl, ?_⟩
 repeat (first|(refine aj h ?_;clear h;intro kb M h)|(refine ak h ?_;clear h;intro M h)|refine St.to h ?_|(apply Exists.intro;(repeat apply Exists.intro);refine And.intro rfl ?_)|refine aq ?_|refine af ?_|refine ai ?_)
 refine cL.2 ⟨fun LW => ?_, fun LW => ?_⟩
 ·rw [if_pos LW] at k2
  replace h := aD (a := a) (p := p) (pa := pa) (dr := dr) (gg := gg) (x := x.bx k c') (lg hl) h b
  exact k2 _ _ _ rfl h.bB
 ·rw [if_neg LW] at k1
  replace h := aD (a := a) (p := p) (pa := pa) (dr := dr) (gg := gg) (x := x.bx k c') (lg hl) h b
  refine dO.2 ⟨fun ht => ?_, fun ht => ?_⟩
  ·subst ht
   simp only [if_true] at k1
   repeat (first|(refine aj h ?_;clear h;intro kb M h)|(refine ak h ?_;clear h;intro M h)|refine St.to h ?_|(apply Exists.intro;(repeat apply Exists.intro);refine And.intro rfl ?_)|refine aq ?_|refine af ?_|refine ai ?_)
   refine kK (b := b) (v := w) h hp (show kx p (x.bx k c') w from hr rfl) (vV hs yE) ?_
   clear h
   intro M h
   exact ⟨rfl, k1 _ _ _ rfl h.bB⟩
  ·subst ht
   simp only [Bool.false_eq_true, if_false] at k1
   exact k1 _ _ _ rfl h.bB
theorem tx {k : Int} (h : Hp R L M) [o : oO b L pa p gg dr x L'] (hk : nS x k) (hs : x.Sm)
  (k1 : ∀ M', Hp R (aM (aO pa p gg dr) b (x.get k).1 :: L') M' → K (.tuple #[.int .i64 (x.get k).2.1, .int .i64 (x.get k).2.2.1, .bool (x.get k).2.2.2]) M') :
  ae Try.prog 44 #[.pointer (some ⟨b, 0, none⟩), .int .i64 k] M K Kp := by
 refine mF ?_
 obtain ⟨hc, hr, yE⟩ := hk
 have hs' := hs
 obtain ⟨s1, s2, s3, s4, s5, s6, s7, s8⟩ := hs'
 have h' := bz h (b := b)
 clear h
 obtain ⟨a, hl, h⟩ := h'
 have hl' := hl
 obtain ⟨l1, l2, l3, l4⟩ := hl'
 have zD := hc
 obtain ⟨c0, c1⟩ := zD
 have h' := BP h hl hc
 clear h
 obtain ⟨cb, hcb, tr, h⟩ := h'
 repeat (first|(refine aj h ?_;clear h;intro kb M h)|(refine ak h ?_;clear h;intro M h)|refine St.to h ?_|(apply Exists.intro;(repeat apply Exists.intro);refine And.intro rfl ?_)|refine aq ?_|refine af ?_|refine ai ?_)
 refine oP h hcb fun q hq => ?_
 have hsc : (b7 x.au k).Small 1000000 := s1 _ (nD c0 c1)
 refine xx h (hsc.mono (by omega)) ?_
 clear h
 intro M h
 replace h := h.dw aS cb hcb (by omega)
 unfold Wd.get at k1
 dsimp only at k1
 generalize (b7 x.au k).recv = s at h k1 hr yE
 obtain ⟨c', v, some, w, yK, e⟩ := s
 dsimp only [Ed] at h k1 hr yE ⊢
 refine ⟨v, some, w.g, w.cs, w.v, yK, e, rfl, ?_⟩
 repeat (first|(refine aj h ?_;clear h;intro kb M h)|(refine ak h ?_;clear h;intro M h)|refine St.to h ?_|(apply Exists.intro;(repeat apply Exists.intro);refine And.intro rfl ?_)|refine aq ?_|refine af ?_|refine ai ?_)
 replace h := aD (a := a) (p := p) (pa := pa) (dr := dr) (gg := gg) (x := x.bx k c') (lg hl) h b
 refine dO.2 ⟨fun ht => ?_, fun ht => ?_⟩
 ·subst ht
  simp only [if_true] at k1
  repeat (first|(refine aj h ?_;clear h;intro kb M h)|(refine ak h ?_;clear h;intro M h)|refine St.to h ?_|(apply Exists.intro;(repeat apply Exists.intro);refine And.intro rfl ?_)|refine aq ?_|refine af ?_|refine ai ?_)
  refine xL (b := b) (v := w) h (show pD (x.bx k c') w from hr rfl) (vV hs yE) ?_
  clear h
  intro M h
  repeat (first|(refine aj h ?_;clear h;intro kb M h)|(refine ak h ?_;clear h;intro M h)|refine St.to h ?_|(apply Exists.intro;(repeat apply Exists.intro);refine And.intro rfl ?_)|refine aq ?_|refine af ?_|refine ai ?_)
  refine dO.2 ⟨fun hb => ?_, fun hb => ?_⟩
  ·subst hb
   repeat (first|(refine aj h ?_;clear h;intro kb M h)|(refine ak h ?_;clear h;intro M h)|refine St.to h ?_|(apply Exists.intro;(repeat apply Exists.intro);refine And.intro rfl ?_)|refine aq ?_|refine af ?_|refine ai ?_)
   exact k1 _ h.bB
  ·subst hb
   exact k1 _ h.bB
 ·subst ht
  simp only [Bool.false_eq_true, if_false] at k1
  repeat (first|(refine aj h ?_;clear h;intro kb M h)|(refine ak h ?_;clear h;intro M h)|refine St.to h ?_|(apply Exists.intro;(repeat apply Exists.intro);refine And.intro rfl ?_)|refine aq ?_|refine af ?_|refine ai ?_)
  refine dO.2 ⟨fun hb => ?_, fun hb => ?_⟩
  ·subst hb
   repeat (first|(refine aj h ?_;clear h;intro kb M h)|(refine ak h ?_;clear h;intro M h)|refine St.to h ?_|(apply Exists.intro;(repeat apply Exists.intro);refine And.intro rfl ?_)|refine aq ?_|refine af ?_|refine ai ?_)
   exact k1 _ h.bB
  ·subst hb
   exact k1 _ h.bB
end
end Go.Proofs
namespace Go.Proofs
open Go.AF
def aF (x : Wd) (g q : Int) : Int := (aa x g).top.bL q
def Wd.yL (x : Wd) (k g v : Int) : Wd := x.bx k { b7 x.au k with snd := (b7 x.au k).snd ++ [⟨g, 0, v⟩] }
def Wd.yM (x : Wd) (k g : Int) : Wd := x.bx k { b7 x.au k with cQ := (b7 x.au k).cQ ++ [⟨g, 0, 0⟩] }
def Wd.send (p : cR) (x : Wd) (g : Int) (i : cn) : Out Wd := match x.put p i.a (aF x g i.b) with
 | .cT n y => .cT n y
 | .e7 l y => .e7 l y
 | .on (y, true) => .on y
 | .on (y, false) => .on ((y.yL i.a g (aF y g i.b)).block g i)
def Wd.recv (x : Wd) (g : Int) (i : cn) : Wd :=
 if (x.get i.a).2.2.2 then ((x.get i.a).1.aN g i.b (x.get i.a).2.1).aN g i.c (x.get i.a).2.2.1
 else ((x.get i.a).1.yM i.a g).block g i
def b8 (p : cR) (x : Wd) (v : Wt) : Wd := if (aa x v.g).st = 2 then x.received p { v with v := 0 } 0 else x
def Wd.shut (p : cR) (x : Wd) (i : cn) : Out Wd :=
 let s := (b7 x.au i.a).close
 let y := x.bx i.a s.1
 if s.2.2.2 ≠ 0 then .cT (-2) y else if 0 < s.2.2.1.length then .cT (-1) y else .on (s.2.1.foldl (b8 p) y)
def oQ (p : cR) (x : Wd) : List Wt → Prop
 | [] => True
 | v :: l => x.Sm ∧ 0 ≤ v.g ∧ v.g < x.gs.length ∧ ((aa x v.g).st = 2 → kx p x { v with v := 0 }) ∧ oQ p (b8 p x v) l
instance xM (p : cR) : ∀ (l : List Wt) (x : Wd), Decidable (oQ p x l)
 | [], _ => isTrue trivial
 | v :: l, x => by
  have := xM p l (b8 p x v)
  unfold oQ; infer_instance
theorem tB {p : cR} : ∀ {l : List Wt} {x : Wd} {i : Nat} {v : Wt}, oQ p x l → l[i]? = some v →
  let y := (l.take i).foldl (b8 p) x
  y.Sm ∧ 0 ≤ v.g ∧ v.g < y.gs.length ∧ ((aa y v.g).st = 2 → kx p y { v with v := 0 })
 | [], _, _, _, _, h => by simp at h
 | w :: l, x, 0, v, h, hv => by simp at hv; subst hv; exact ⟨h.1, h.2.1, h.2.2.1, h.2.2.2.1⟩
 | w :: l, x, i + 1, v, h, hv => tB (l := l) h.2.2.2.2 (by simpa using hv)
def Wd.emit (x : Wd) (g : Int) (i : cn) : Out Wd := if x.out.length ≥ 1000 then .cT (-6) x else .on { x with out := x.out ++ [aF x g i.a] }
def Wd.spawn (x : Wd) (g : Int) (i : cn) : Out Wd := if x.gs.length ≥ 100 then .cT (-5) x else
 .on ((Wd.bX { x with gs := x.gs ++ [⟨0, [cB.begin i.a (aF x g i.b)], .zero⟩] } (x.gs.length : Int)).aN g i.c (x.gs.length : Int))
def Wd.call (x : Wd) (g : Int) (i : cn) : Out Wd := if (aa x g).fs.length ≥ 16 then .cT (-4) x else
 .on (x.aJ g { aa x g with fs := (aa x g).fs ++ [⟨i.a, 0, [aF x g i.b, 0, 0, 0, 0, 0, 0, 0], i.c⟩] })
def eB.back (y : eB) (v : Int) : eB := { y with fs := (y.fs.take (y.fs.length - 1)).set (y.fs.length - 2) ((y.fs.getD (y.fs.length - 2) ⟨0, 0, [], 0⟩).set y.top.lC v) }
def Wd.back (x : Wd) (g : Int) (i : cn) : Wd := if 2 ≤ (aa x g).fs.length then x.aJ g ((aa x g).back (aF x g i.a))
 else if g = 0 then { x.aJ g { aa x g with st := 4 } with end_ := 1 } else x.aJ g { aa x g with st := 4 }
end Go.Proofs
namespace Go.Proofs
open Go.AF
set_option maxRecDepth 100000
set_option maxHeartbeats 1000000
attribute [local irreducible] bG dz fN dU aE fL aB bW bq aW bD aX
section
variable {R : Mem} {L L' : List HP} {M : Mem} {K : Value → Mem → Prop} {Kp : List PanicEntry → Mem → Prop} {pa : PA} {p : cR} {gg : List GA} {dr : Value} {b : Nat} {x : Wd}
theorem dP {g : Int} {A : Option Addr} {c : Nat} (h : Hp R L M) [o : oO b L pa p gg dr x L'] (h0 : 0 ≤ g) (hg : g < x.gs.length) (cS : gg[g.toNat]? = some (A, c)) :
  ∃ (a : WA) (gb : Nat), cU gg a x ∧ a.gb[g.toNat]? = some gb ∧
   Hp R (pt gb (kI (aa x g) A c) 68 :: nM A c (aa x g).fs :: pt b (g7 pa p dr a x) 76 :: pB dk a.gb (x.gs.zip gg) g.toNat :: l8 a x L') M := by
 obtain ⟨a, gb, A', c', hl, dx, Iv, h1⟩ := fH h (b := b) h0 hg
 rw [cS] at Iv
 cases Iv
 exact ⟨a, gb, hl, dx, h1⟩
theorem vW {g q : Int} {bs c oo : Nat} {G : Int → Prop} (h : Hp R L M) [o : oO b L pa p gg dr x L'] (hg : aI x g) (cS : gg[g.toNat]? = some (some ⟨bs, 0, none⟩, c)) (hq : aQ q) (e : oo = ((aa x g).fs.length - 1) * 11 + 2 + q.toNat)
  (k : G (aF x g q)) : bG (M.ld ⟨bs, oo, none⟩) .i64 G := by
 obtain ⟨h0, h1, h2, h3⟩ := hg
 obtain ⟨a, gb, hl, dx, h4⟩ := dP h (b := b) h0 h1 cS
 exact nN h4 (cF h2) hq e k
theorem gP {g q v : Int} {bs c oo : Nat} {G : Mem → Prop} (h : Hp R L M) [o : oO b L pa p gg dr x L'] (hg : aI x g) (cS : gg[g.toNat]? = some (some ⟨bs, 0, none⟩, c)) (hq : aQ q) (e : oo = ((aa x g).fs.length - 1) * 11 + 2 + q.toNat)
  (k : ∀ M', Hp R (aM (aO pa p gg dr) b (x.aN g q v) :: L') M' → G M') : bW M ⟨bs, oo, none⟩ (.int .i64 v) G := by
 obtain ⟨h0, h1, h2, h3⟩ := hg
 obtain ⟨a, gb, hl, dx, h4⟩ := dP h (b := b) h0 h1 cS
 refine oN h4 (cF h2) hq e fun M' h5 => ?_
 replace h5 := bI h5 gb hl dx cS (by simp)
 exact k M' (aD (a := a) (p := p) (pa := pa) (dr := dr) (gg := gg) (x := x.aN g q v) (bP hl) h5 b)
theorem Eg {G : Option Addr → Nat → Nat → Prop} (h : Hp R L M) [o : oO b L pa p gg dr x L'] (k1 : ∀ a : WA, cU gg a x → Hp R (pt b (g7 pa p dr a x) 76 :: bn dk a.gb (x.gs.zip gg) :: l8 a x L') M → G a.ac a.cb.length a.cc) : aE (M.ld ⟨b, 0 + 6, none⟩) G := by
 obtain ⟨a, hl, h1⟩ := bz h (b := b)
 exact bQ h1 (k1 a hl h1)
def Out.Ok {α : Type} (r : Out α) (k1 : α → Prop) (k2 : Int → Wd → Prop) (k3 : List PanicEntry → Wd → Prop := fun _ _ => True) : Prop := match r with
 | .on y => k1 y
 | .cT n y => k2 n y
 | .e7 l y => k3 l y
def ri (x : Wd) (k : Int) : Prop := nR x k ∧ (b7 x.au k).Small 999999
instance (x : Wd) (k : Int) : Decidable (ri x k) := by unfold ri; infer_instance
def xN (p : cR) (x : Wd) (g : Int) (i : cn) : Prop := aI x g ∧ aQ i.b ∧ jt p x i.a (aF x g i.b) ∧
 match x.put p i.a (aF x g i.b) with
 | .on (y, false) => aI y g ∧ (aa y g).fs.length = (aa x g).fs.length ∧ ri y i.a
 | _ => True
theorem xO {g : Int} {i : cn} {bs c : Nat} (h : Hp R L M) [o : oO b L pa p gg dr x L'] (hp : RS qW R pa.k pa.kc p.cases) (cS : gg[g.toNat]? = some (some ⟨bs, 0, none⟩, c)) (hk : xN p x g i) (hs : x.Sm)
  (k : Out.Ok (x.send p g i) (fun y => ∀ M', Hp R (aM (aO pa p gg dr) b y :: L') M' → K (.tuple #[]) M')
   (fun n y => ∀ M', Hp R (aM (aO pa p gg dr) b y :: L') M' → Kp [{ v := .iface 92 (.int .i64 n), recovered := false }] M')) :
  ae Try.prog 49 #[.pointer (some ⟨b, 0, none⟩), .int .i64 g, .pointer (some ⟨bs, ((aa x g).fs.length - 1) * 11, none⟩), .agg #[.int .i64 i.op, .int .i64 i.a, .int .i64 i.b, .int .i64 i.c]] M K Kp := by
 refine lK ?_
 obtain ⟨hg, hb, hput, hw⟩ := hk
 repeat (first|(refine aj h ?_;clear h;intro kb M h)|(refine ak h ?_;clear h;intro M h)|refine St.to h ?_|(apply Exists.intro;(repeat apply Exists.intro);refine And.intro rfl ?_)|refine aq ?_|refine af ?_|refine ai ?_)
 refine ⟨hb.1, hb.2, vW (b := b) h hg cS hb rfl ?_⟩
 unfold Wd.send at k
 refine tw (b := b) h hp hput hs ?_ ?_
 ·intro y ok M' e h
  rw [e] at k hw
  cases ok with
  | true =>
   dsimp only at k
   refine j4 (ai ?_)
   exact k _ h.bB
  | false =>
   dsimp only at k hw
   obtain ⟨vX, hfl, tr, yE⟩ := hw
   refine j4 (af ?_)
   refine Eg h fun a hl h => ?_
   have hl' := hl
   obtain ⟨l1, l2, l3, l4⟩ := hl'
   have zD := tr
   obtain ⟨c0, c1⟩ := zD
   have h' := BP h hl tr
   clear h
   obtain ⟨cb, hcb, FD, h⟩ := h'
   repeat (first|(refine aj h ?_;clear h;intro kb M h)|(refine ak h ?_;clear h;intro M h)|refine St.to h ?_|(apply Exists.intro;(repeat apply Exists.intro);refine And.intro rfl ?_)|refine aq ?_|refine af ?_|refine ai ?_)
   refine oP h hcb fun q hq => ?_
   repeat (first|(refine aj h ?_;clear h;intro kb M h)|(refine ak h ?_;clear h;intro M h)|refine St.to h ?_|(apply Exists.intro;(repeat apply Exists.intro);refine And.intro rfl ?_)|refine aq ?_|refine af ?_|refine ai ?_)
   refine ⟨hb.1, hb.2, ?_⟩
   have h2 := h.oL aS cb hcb FD
   have h3 := aD (a := a) (p := p) (pa := pa) (dr := dr) (gg := gg) (x := y) hl h2 b
   refine vW (b := b) h3 vX cS hb (by rw [hfl]) ?_
   clear h2 h3
   refine kn (w := ⟨g, 0, aF y g i.b⟩) h (yE.mono (by omega)) ?_
   clear h
   intro M h
   replace h := h.dw aS cb hcb (by omega)
   replace h := aD (a := a) (p := p) (pa := pa) (dr := dr) (gg := gg) (x := y.yL i.a g (aF y g i.b)) (lg hl) h b
   repeat (first|(refine aj h ?_;clear h;intro kb M h)|(refine ak h ?_;clear h;intro M h)|refine St.to h ?_|(apply Exists.intro;(repeat apply Exists.intro);refine And.intro rfl ?_)|refine aq ?_|refine af ?_|refine ai ?_)
   refine gO (b := b) (i := i) (x := y.yL i.a g (aF y g i.b)) h vX.1 vX.2.1 ?_
   clear h
   intro M h
   exact ⟨rfl, k _ h.bB⟩
 ·intro y n M' e h
  rw [e] at k
  exact k _ h.bB
def oR (x : Wd) (g : Int) (i : cn) : Prop := aI x g ∧ aQ i.b ∧ aQ i.c ∧ nS x i.a ∧ aI (x.get i.a).1 g ∧ (aa (x.get i.a).1 g).fs.length = (aa x g).fs.length ∧ ((x.get i.a).2.2.2 = false → ri (x.get i.a).1 i.a)
theorem xP {g : Int} {i : cn} {bs c : Nat} (h : Hp R L M) [o : oO b L pa p gg dr x L'] (cS : gg[g.toNat]? = some (some ⟨bs, 0, none⟩, c)) (hk : oR x g i) (hs : x.Sm)
  (k : ∀ M', Hp R (aM (aO pa p gg dr) b (x.recv g i) :: L') M' → K (.tuple #[]) M') :
  ae Try.prog 50 #[.pointer (some ⟨b, 0, none⟩), .int .i64 g, .pointer (some ⟨bs, ((aa x g).fs.length - 1) * 11, none⟩), .agg #[.int .i64 i.op, .int .i64 i.a, .int .i64 i.b, .int .i64 i.c]] M K Kp := by
 refine lM ?_
 obtain ⟨hg, hb, hc, FE, vX, hfl, hw⟩ := hk
 repeat (first|(refine aj h ?_;clear h;intro kb M h)|(refine ak h ?_;clear h;intro M h)|refine St.to h ?_|(apply Exists.intro;(repeat apply Exists.intro);refine And.intro rfl ?_)|refine aq ?_|refine af ?_|refine ai ?_)
 refine tx (b := b) h FE hs ?_
 clear h
 intro M h
 unfold Wd.recv at k
 generalize x.get i.a = r at h k vX hfl hw
 obtain ⟨y, v, sm, ok⟩ := r
 dsimp only at h k vX hfl hw ⊢
 refine ⟨v, sm, ok, rfl, ?_⟩
 cases ok with
 | true =>
  simp only [if_true] at k
  refine ai ?_
  repeat (first|(refine aj h ?_;clear h;intro kb M h)|(refine ak h ?_;clear h;intro M h)|refine St.to h ?_|(apply Exists.intro;(repeat apply Exists.intro);refine And.intro rfl ?_)|refine aq ?_|refine af ?_|refine ai ?_)
  refine ⟨hb.1, hb.2, ?_⟩
  repeat (first|(refine aj h ?_;clear h;intro kb M h)|(refine ak h ?_;clear h;intro M h)|refine St.to h ?_|(apply Exists.intro;(repeat apply Exists.intro);refine And.intro rfl ?_)|refine aq ?_|refine af ?_|refine ai ?_)
  refine gP (b := b) h vX cS hb (by rw [hfl]) ?_
  clear h
  intro M h
  repeat (first|(refine aj h ?_;clear h;intro kb M h)|(refine ak h ?_;clear h;intro M h)|refine St.to h ?_|(apply Exists.intro;(repeat apply Exists.intro);refine And.intro rfl ?_)|refine aq ?_|refine af ?_|refine ai ?_)
  have zJ := fa (q := i.b) (v := v) vX
  have wZ : (aa (y.aN g i.b v) g).fs.length = (aa x g).fs.length := by rw [e8 vX]; simpa [eB.bj] using hfl
  refine ⟨hc.1, hc.2, gP (b := b) h zJ cS hc (by rw [wZ]) ?_⟩
  clear h
  intro M h
  repeat (first|(refine aj h ?_;clear h;intro kb M h)|(refine ak h ?_;clear h;intro M h)|refine St.to h ?_|(apply Exists.intro;(repeat apply Exists.intro);refine And.intro rfl ?_)|refine aq ?_|refine af ?_|refine ai ?_)
  exact k _ h.bB
 | false =>
  simp only [Bool.false_eq_true, if_false] at k
  refine af ?_
  obtain ⟨tr, yE⟩ := hw rfl
  refine Eg h fun a hl h => ?_
  have hl' := hl
  obtain ⟨l1, l2, l3, l4⟩ := hl'
  have zD := tr
  obtain ⟨c0, c1⟩ := zD
  have h' := BP h hl tr
  clear h
  obtain ⟨cb, hcb, FD, h⟩ := h'
  repeat (first|(refine aj h ?_;clear h;intro kb M h)|(refine ak h ?_;clear h;intro M h)|refine St.to h ?_|(apply Exists.intro;(repeat apply Exists.intro);refine And.intro rfl ?_)|refine aq ?_|refine af ?_|refine ai ?_)
  refine oP h hcb fun q hq => ?_
  refine ko (w := ⟨g, 0, 0⟩) h (yE.mono (by omega)) ?_
  clear h
  intro M h
  replace h := h.dw aS cb hcb (by omega)
  replace h := aD (a := a) (p := p) (pa := pa) (dr := dr) (gg := gg) (x := y.yM i.a g) (lg hl) h b
  repeat (first|(refine aj h ?_;clear h;intro kb M h)|(refine ak h ?_;clear h;intro M h)|refine St.to h ?_|(apply Exists.intro;(repeat apply Exists.intro);refine And.intro rfl ?_)|refine aq ?_|refine af ?_|refine ai ?_)
  refine gO (b := b) (i := i) (x := y.yM i.a g) h vX.1 vX.2.1 ?_
  clear h
  intro M h
  exact ⟨rfl, k _ h.bB⟩
theorem xQ {g : Int} {i : cn} {bs c : Nat} (h : Hp R L M) [o : oO b L pa p gg dr x L'] (cS : gg[g.toNat]? = some (some ⟨bs, 0, none⟩, c)) (hg : aI x g) (ha : aQ i.a) (hs : x.Sm)
  (k : Out.Ok (x.emit g i) (fun y => ∀ M', Hp R (aM (aO pa p gg dr) b y :: L') M' → K (.tuple #[]) M')
   (fun n y => ∀ M', Hp R (aM (aO pa p gg dr) b y :: L') M' → Kp [{ v := .iface 92 (.int .i64 n), recovered := false }] M')) :
  ae Try.prog 55 #[.pointer (some ⟨b, 0, none⟩), .int .i64 g, .pointer (some ⟨bs, ((aa x g).fs.length - 1) * 11, none⟩), .agg #[.int .i64 i.op, .int .i64 i.a, .int .i64 i.b, .int .i64 i.c]] M K Kp := by
 refine lP ?_
 obtain ⟨s1, s2, s3, s4, s5, s6, s7, s8⟩ := hs
 have uu := hg
 obtain ⟨h0, h1, h2, h3⟩ := uu
 unfold Wd.emit at k
 refine aj h ?_
 clear h
 intro kb M h
 have h' := dP h (b := b) h0 h1 cS
 clear h
 obtain ⟨a, gb, hl, dx, h⟩ := h'
 have hl' := hl
 obtain ⟨l1, l2, l3, l4⟩ := hl'
 have ex : x.aJ g (aa x g) = x := by
  obtain ⟨y, hy⟩ := aP (l := x.gs) (i := g.toNat) (by omega)
  have e : aa x g = y := by simp [aa, hy]
  rw [e]
  obtain ⟨hi, rfl⟩ := List.getElem?_eq_some_iff.1 hy
  simp [Wd.aJ]
 repeat (first|(refine aj h ?_;clear h;intro kb M h)|(refine ak h ?_;clear h;intro M h)|refine St.to h ?_|(apply Exists.intro;(repeat apply Exists.intro);refine And.intro rfl ?_)|refine aq ?_|refine af ?_|refine ai ?_)
 refine aG.2 ⟨fun hn => ?_, fun hn => ?_⟩
 ·rw [if_pos (by omega)] at k
  replace h := bI h gb hl dx cS
  have jA := bP (y := aa x g) (g := g) hl
  replace h := aD (a := a) (p := p) (pa := pa) (dr := dr) (gg := gg) (x := x.aJ g (aa x g)) jA h b
  rw [ex] at h
  exact k _ h.bB
 ·rw [if_neg (by omega)] at k
  repeat (first|(refine aj h ?_;clear h;intro kb M h)|(refine ak h ?_;clear h;intro M h)|refine St.to h ?_|(apply Exists.intro;(repeat apply Exists.intro);refine And.intro rfl ?_)|refine aq ?_|refine af ?_|refine ai ?_)
  refine ⟨ha.1, ha.2, nN h (cF h2) ha rfl ?_⟩
  repeat (first|(refine aj h ?_;clear h;intro kb M h)|(refine ak h ?_;clear h;intro M h)|refine St.to h ?_|(apply Exists.intro;(repeat apply Exists.intro);refine And.intro rfl ?_)|refine aq ?_|refine af ?_|refine ai ?_)
  refine h.be qR [aF x g i.a] rfl rfl (by simp; omega) ?_
  clear h
  intro A' c' M h
  repeat (first|(refine aj h ?_;clear h;intro kb M h)|(refine ak h ?_;clear h;intro M h)|refine St.to h ?_|(apply Exists.intro;(repeat apply Exists.intro);refine And.intro rfl ?_)|refine aq ?_|refine af ?_|refine ai ?_)
  replace h := bI h gb hl dx cS
  have jA := bP (y := aa x g) (g := g) hl
  have h5 := aD (a := { a with ao := A', co := c' }) (p := p) (pa := pa) (dr := dr) (gg := gg) (x := { x.aJ g (aa x g) with out := x.out ++ [aF x g i.a] }) jA h b
  rw [ex] at h5
  exact k _ h5.bB
end
theorem Eh : bt Try.prog 69 65 1 8 [.pointer none] := bt.mk' (zv := .pointer none) (by kernel_rfl) (by kernel_rfl) rfl (by omega)
section
variable {R : Mem} {L L' : List HP} {M : Mem} {K : Value → Mem → Prop} {Kp : List PanicEntry → Mem → Prop} {pa : PA} {p : cR} {gg : List GA} {dr : Value} {b : Nat} {x : Wd}
def oS (x : Wd) (fn v : Int) : Wd := { x with gs := x.gs ++ [⟨0, [cB.begin fn v], .zero⟩] }
theorem BQ {a : WA} {k bs : Nat} {A' : Option Addr} {c' : Nat} {fn v : Int} (hl : cU gg a x)
  (h : Hp R (pt b (g7 pa p dr { a with ag := A', cg := c', gb := a.gb ++ [k] } x) 76 :: pF A' c' (a.gb ++ [k]) :: pt k [.int .i64 0, .slice (some ⟨bs, 0, none⟩) 1 1, .int .i64 0, .int .i64 0, .int .i64 0, .int .i64 0] 68 ::
   nM (some ⟨bs, 0, none⟩) 1 [cB.begin fn v] :: bn dk a.gb (x.gs.zip gg) :: pG a.ac a.cc a.cb :: bn aS a.cb x.au :: pH a.al a.cl a.lb :: bn c9 a.lb x.aH :: cJ a.ah a.ch x.hl :: oK a.ao a.co x.out :: ur a.ar a.cr x.ready :: L) M) :
  Hp R (aM (aO pa p (gg ++ [(some ⟨bs, 0, none⟩, 1)]) dr) b (oS x fn v) :: L) M := by
 obtain ⟨l1, l2, l3, l4⟩ := hl
 have h1 := iC h k
 have h2 := h1.kY dk k (by rw [List.length_zip]; omega)
 have e : x.gs.zip gg ++ [(⟨0, [cB.begin fn v], ⟨0, 0, 0, 0⟩⟩, (some ⟨bs, 0, none⟩, 1))] = (oS x fn v).gs.zip (gg ++ [(some ⟨bs, 0, none⟩, 1)]) := by
  unfold oS
  rw [List.zip_append (by omega)]; rfl
 rw [e] at h2
 exact aD (a := { a with ag := A', cg := c', gb := a.gb ++ [k] }) (p := p) (pa := pa) (dr := dr) (gg := gg ++ [(some ⟨bs, 0, none⟩, 1)]) (x := oS x fn v) ⟨by simp [oS, l1], by simp [oS, l2], l3, l4⟩ h2 b
theorem xR {g fn v : Int} (hg : aI x g) : aa (oS x fn v) g = aa x g := by
 obtain ⟨h0, h1, h2, h3⟩ := hg
 unfold aa oS
 dsimp only
 rw [List.getD_eq_getElem?_getD, List.getElem?_append_left (by omega), ← List.getD_eq_getElem?_getD]
theorem vY {g : Int} {i : cn} {bs c : Nat} (h : Hp R L M) [o : oO b L pa p gg dr x L'] (cS : gg[g.toNat]? = some (some ⟨bs, 0, none⟩, c)) (hg : aI x g) (hb : aQ i.b) (hc : aQ i.c) (hs : x.Sm)
  (k : Out.Ok (x.spawn g i) (fun y => ∀ gQ M', Hp R (aM (aO pa p gQ dr) b y :: L') M' → K (.tuple #[]) M')
   (fun n y => ∀ M', Hp R (aM (aO pa p gg dr) b y :: L') M' → Kp [{ v := .iface 92 (.int .i64 n), recovered := false }] M')) :
  ae Try.prog 47 #[.pointer (some ⟨b, 0, none⟩), .int .i64 g, .pointer (some ⟨bs, ((aa x g).fs.length - 1) * 11, none⟩), .agg #[.int .i64 i.op, .int .i64 i.a, .int .i64 i.b, .int .i64 i.c]] M K Kp := by
 refine kB ?_
 obtain ⟨s1, s2, s3, s4, s5, s6, s7, s8⟩ := hs
 unfold Wd.spawn at k
 refine aj h ?_
 clear h
 intro kb M h
 have hC := h
 have h' := bz h (b := b)
 clear h
 obtain ⟨a, hl, h⟩ := h'
 have hl' := hl
 obtain ⟨l1, l2, l3, l4⟩ := hl'
 refine bQ h ?_
 refine aG.2 ⟨fun hn => ?_, fun hn => ?_⟩
 ·rw [if_pos (by omega)] at k
  exact k _ (hC.drop.pick o.pick)
 rw [if_neg (by omega)] at k
 refine bQ h ?_
 refine ⟨fun vs M => ∃ bs', Hp R (aM (aO pa p (gg ++ [(some ⟨bs', 0, none⟩, 1)]) dr) b (oS x i.a (aF x g i.b)) :: pt kb [.int .i64 i.op, .int .i64 i.a, .int .i64 i.b, .int .i64 i.c] 31 :: L') M, ?_, ?_⟩
 ·repeat (first|(refine aj h ?_;clear h;intro kb M h)|(refine ak h ?_;clear h;intro M h)|refine St.to h ?_|(apply Exists.intro;(repeat apply Exists.intro);refine And.intro rfl ?_)|refine aq ?_|refine af ?_|refine ai ?_)
  refine ⟨hb.1, hb.2, vW (b := b) hC hg cS hb rfl ?_⟩
  clear hC
  refine ⟨?_, ?_, trivial⟩
  ·repeat (first|(refine aj h ?_;clear h;intro kb M h)|(refine ak h ?_;clear h;intro M h)|refine St.to h ?_|(apply Exists.intro;(repeat apply Exists.intro);refine And.intro rfl ?_)|refine aq ?_|refine af ?_|refine ai ?_)
   refine kH h ?_
   clear h
   intro bs' M h
   repeat (first|(refine aj h ?_;clear h;intro kb M h)|(refine ak h ?_;clear h;intro M h)|refine St.to h ?_|(apply Exists.intro;(repeat apply Exists.intro);refine And.intro rfl ?_)|refine aq ?_|refine af ?_|refine ai ?_)
   refine h.be Eh [_] rfl rfl (by simp; omega) ?_
   clear h
   intro A' c' M h
   repeat (first|(refine aj h ?_;clear h;intro kb M h)|(refine ak h ?_;clear h;intro M h)|refine St.to h ?_|(apply Exists.intro;(repeat apply Exists.intro);refine And.intro rfl ?_)|refine aq ?_|refine af ?_|refine ai ?_)
   exact ⟨bs', BQ hl (h.sub eX)⟩
  ·refine kH h ?_
   clear h
   intro bs' M h
   repeat (first|(refine aj h ?_;clear h;intro kb M h)|(refine ak h ?_;clear h;intro M h)|refine St.to h ?_|(apply Exists.intro;(repeat apply Exists.intro);refine And.intro rfl ?_)|refine aq ?_|refine af ?_|refine ai ?_)
   refine h.be Eh [_] rfl rfl (by simp; omega) ?_
   clear h
   intro A' c' M h
   repeat (first|(refine aj h ?_;clear h;intro kb M h)|(refine ak h ?_;clear h;intro M h)|refine St.to h ?_|(apply Exists.intro;(repeat apply Exists.intro);refine And.intro rfl ?_)|refine aq ?_|refine af ?_|refine ai ?_)
   exact ⟨bs', BQ hl (h.sub eX)⟩
 ·clear h hC
  rintro _ M ⟨bs', h⟩
  have hlen : (oS x i.a (aF x g i.b)).gs.length = x.gs.length + 1 := by simp [oS]
  have sM : (x.gs.length : Int) = (a.gb.length : Int) := by omega
  rw [← sM]
  refine eD (b := b) h (by omega) (by omega) (by show x.ready.length ≤ _; omega) ?_
  clear h
  intro M h
  repeat (first|(refine aj h ?_;clear h;intro kb M h)|(refine ak h ?_;clear h;intro M h)|refine St.to h ?_|(apply Exists.intro;(repeat apply Exists.intro);refine And.intro rfl ?_)|refine aq ?_|refine af ?_|refine ai ?_)
  have zJ : aa ((oS x i.a (aF x g i.b)).bX (x.gs.length : Int)) g = aa x g := by
   rw [← xR (fn := i.a) (v := aF x g i.b) hg]
   obtain ⟨h0, h1, _⟩ := hg
   have hne : x.gs.length ≠ g.toNat := by omega
   simp [aa, Wd.bX, Wd.aJ, List.getElem?_set, hne]
  have PG : aI ((oS x i.a (aF x g i.b)).bX (x.gs.length : Int)) g := by
   refine ⟨hg.1, ?_, ?_, ?_⟩
   ·have h1 := hg.2.1
    simp only [Wd.bX, Wd.aJ, List.length_set, hlen]; omega
   ·rw [zJ]; exact hg.2.2.1
   ·rw [zJ]; exact hg.2.2.2
  have Iw : (gg ++ [(some (⟨bs', 0, none⟩ : Addr), 1)])[g.toNat]? = some (some ⟨bs, 0, none⟩, c) := by
   rw [List.getElem?_append_left (by have := hg.2.1; have := hg.1; omega)]; exact cS
  refine ⟨hc.1, hc.2, gP (b := b) h PG Iw hc (by rw [zJ]) ?_⟩
  clear h
  intro M h
  repeat (first|(refine aj h ?_;clear h;intro kb M h)|(refine ak h ?_;clear h;intro M h)|refine St.to h ?_|(apply Exists.intro;(repeat apply Exists.intro);refine And.intro rfl ?_)|refine aq ?_|refine af ?_|refine ai ?_)
  exact k _ _ h.bB
end
section
variable {R : Mem} {L L' : List HP} {M : Mem} {K : Value → Mem → Prop} {Kp : List PanicEntry → Mem → Prop} {pa : PA} {p : cR} {gg : List GA} {dr : Value} {b : Nat} {x : Wd}
def jf (p : cR) (x : Wd) (i : cn) : Prop := nR x i.a ∧ (b7 x.au i.a).cQ.length ≤ 1000000 ∧
 ((b7 x.au i.a).close.2.2.2 = 0 → (b7 x.au i.a).close.2.2.1 = [] → oQ p (x.bx i.a (b7 x.au i.a).close.1) (b7 x.au i.a).close.2.1)
theorem xS {g : Int} {i : cn} {f : Value} {bf PI : Nat} (h : Hp R L M) [o : oO b L pa p gg dr x L'] (hp : RS qW R pa.k pa.kc p.cases) (hk : jf p x i) (hs : x.Sm)
  (k : Out.Ok (x.shut p i) (fun y => ∀ M', Hp R (aM (aO pa p gg dr) b y :: L') M' → K (.tuple #[]) M')
   (fun n y => ∀ M', Hp R (aM (aO pa p gg dr) b y :: L') M' → Kp [{ v := .iface 92 (.int .i64 n), recovered := false }] M')) :
  ae Try.prog 51 #[.pointer (some ⟨b, 0, none⟩), .int .i64 g, .pointer (some ⟨bf, PI, none⟩), .agg #[.int .i64 i.op, .int .i64 i.a, .int .i64 i.b, .int .i64 i.c]] M K Kp := by
 refine lN ?_
 obtain ⟨tr, hlen, hsh⟩ := hk
 obtain ⟨s1, s2, s3, s4, s5, s6, s7, s8⟩ := hs
 unfold Wd.shut at k
 dsimp only at k
 refine aj h ?_
 clear h
 intro kb M h
 have h' := bz h (b := b)
 clear h
 obtain ⟨a, hl, h⟩ := h'
 have hl' := hl
 obtain ⟨l1, l2, l3, l4⟩ := hl'
 have zD := tr
 obtain ⟨c0, c1⟩ := zD
 have h' := BP h hl tr
 clear h
 obtain ⟨cb, hcb, FD, h⟩ := h'
 repeat (first|(refine aj h ?_;clear h;intro kb M h)|(refine ak h ?_;clear h;intro M h)|refine St.to h ?_|(apply Exists.intro;(repeat apply Exists.intro);refine And.intro rfl ?_)|refine aq ?_|refine af ?_|refine ai ?_)
 refine oP h hcb fun q hq => ?_
 have j2 : (b7 x.au i.a).close.2.1.length ≤ 1000000 := by
  unfold aC.close; split <;> simp [hlen]
 refine vH h ?_
 clear h
 intro A ca B PJ M h
 replace h := h.dw aS cb hcb (by omega)
 generalize (b7 x.au i.a).close = s at h k hsh j2
 obtain ⟨c', r, sn, e⟩ := s
 dsimp only at h k hsh j2 ⊢
 refine ⟨A, _, ca, B, _, PJ, e, rfl, ?_⟩
 replace h := aD (a := a) (p := p) (pa := pa) (dr := dr) (gg := gg) (x := x.bx i.a c') (lg hl) h b
 refine fA.2 ⟨fun he => ?_, fun he => ?_⟩
 ·rw [if_pos he] at k
  exact k _ h.bB
 rw [if_neg (by simpa using he)] at k
 refine aG.2 ⟨fun hn => ?_, fun hn => ?_⟩
 ·rw [if_pos (by omega)] at k
  exact k _ h.bB
 rw [if_neg (by omega)] at k
 have Ix : sn = [] := by cases sn with
  | nil => rfl
  | cons _ _ => simp at hn
 have hok := hsh he Ix
 refine ⟨fun d vs M => ∃ (j : Nat), vs = [.int .i64 (j : Int)] ∧ d = r.length - j ∧ j ≤ r.length ∧ Hp R (aM (aO pa p gg dr) b ((r.take j).foldl (b8 p) (x.bx i.a c')) :: nB A ca r :: L') M, ⟨_, 0, rfl, rfl, by omega, h.sub eX⟩, ?_⟩
 clear h
 rintro d _ nn M ⟨j, Iy, hd, hj, h⟩
 simp only [List.cons.injEq, Value.int.injEq, and_true, true_and] at Iy
 subst Iy
 refine aG.2 ⟨fun hlt => ?_, fun hge => ?_⟩
 ·obtain ⟨w, hw⟩ := aP (l := r) (i := j) (by omega)
  obtain ⟨t1, t2, t3, t4⟩ := tB hok hw
  have hstep : (r.take (j + 1)).foldl (b8 p) (x.bx i.a c') = b8 p ((r.take j).foldl (b8 p) (x.bx i.a c')) w := by
   rw [gm hw, List.foldl_append]; rfl
  generalize (r.take j).foldl (b8 p) (x.bx i.a c') = y at h t1 t3 t4 hstep
  obtain ⟨qa, rfl⟩ := h.bO (A := A) (by omega) (by decide)
  refine ⟨by omega, hlt, bh ?_⟩
  simp only [Int.toNat_natCast]
  refine bl (Src.at (h.src (A := some ⟨qa, 0, none⟩)) h (i := j) (j := 0) hw rfl (by simp [fk])) ?_
  refine bl (Src.at (h.src (A := some ⟨qa, 0, none⟩)) h (i := j) (j := 1) hw rfl (by simp [fk])) ?_
  refine bl (Src.at (h.src (A := some ⟨qa, 0, none⟩)) h (i := j) (j := 2) hw rfl (by simp [fk])) ?_
  refine aj h ?_
  clear h
  intro kw M h
  refine ak h ?_
  clear h; intro M h
  refine ak h ?_
  clear h; intro M h
  refine ak h ?_
  clear h; intro M h
  have hC := h
  have h' := fH h (b := b) t2 t3
  clear h
  obtain ⟨a2, gb, A2, c2, jA, dx, Iw, h⟩ := h'
  have FF := jA
  obtain ⟨m1, m2, m3, m4⟩ := FF
  repeat (first|(refine aj h ?_;clear h;intro kb M h)|(refine ak h ?_;clear h;intro M h)|refine St.to h ?_|(apply Exists.intro;(repeat apply Exists.intro);refine And.intro rfl ?_)|refine aq ?_|refine af ?_|refine ai ?_)
  refine oP h dx fun q2 yH => ?_
  repeat (first|(refine aj h ?_;clear h;intro kb M h)|(refine ak h ?_;clear h;intro M h)|refine St.to h ?_|(apply Exists.intro;(repeat apply Exists.intro);refine And.intro rfl ?_)|refine aq ?_|refine af ?_|refine ai ?_)
  clear h
  have h := hC
  clear hC
  rw [bk (by omega)]
  have hst : b8 p y w = if (aa y w.g).st = 2 then y.received p { w with v := 0 } 0 else y := rfl
  rw [hst] at hstep
  refine cL.2 ⟨fun e2 => ?_, fun e2 => ?_⟩
  ·rw [if_pos e2] at hstep
   refine ak h ?_
   clear h; intro M h
   repeat (first|(refine aj h ?_;clear h;intro kb M h)|(refine ak h ?_;clear h;intro M h)|refine St.to h ?_|(apply Exists.intro;(repeat apply Exists.intro);refine And.intro rfl ?_)|refine aq ?_|refine af ?_|refine ai ?_)
   refine kK (b := b) (v := { w with v := 0 }) h hp (t4 e2) t1 ?_
   clear h; intro M h
   refine ⟨rfl, r.length - (j + 1), by omega, j + 1, rfl, rfl, by omega, ?_⟩
   rw [hstep]
   exact h.bB
  ·rw [if_neg e2] at hstep
   refine ⟨r.length - (j + 1), by omega, j + 1, rfl, rfl, by omega, ?_⟩
   rw [hstep]
   exact h.sub eX
 ·obtain rfl : j = r.length := by omega
  rw [List.take_length] at h
  exact k _ h.bB
end
end Go.Proofs
