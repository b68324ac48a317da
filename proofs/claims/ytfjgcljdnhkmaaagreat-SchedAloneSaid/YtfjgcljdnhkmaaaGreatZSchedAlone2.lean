/- A part of proofs about one program. -/
import Derived.Test.YtfjgcljdnhkmaaaGreatZSchedAloneAgg
import Derived.Test.YtfjgcljdnhkmaaaGreatZSchedAlone0
set_option linter.unusedVariables false
namespace Go.AF
theorem wn {z : Int} {n : Nat} (e : z = (n : Int)) (h : n < 9223372036854775808) : IntKind.wrap .i64 z = (n : Int) := by rw [e]; exact kj h
theorem Src.row {α : Type} {E : jv α} {R : Mem} {L L' : List HP} {A : Option Addr} {T c : Nat} {l : List α} [hp : b9 A L α E T c l L'] : Src R L A (E.cells l) := fun M h => h.src (A := A) M h
theorem Src.Yd {R : Mem} {L : List HP} {A : Option Addr} {c : Nat} {l : List Int} (hs : Src R L A (bN.cells l)) (hc : l.length ≤ c) (q : Nat) : Src R L (kU A 0 c 1) (bN.cells (l.take q)) := by
 have := (hs.drop (m := 0) (c := c) hc).MN q
 rw [List.drop_zero] at this
 exact this
theorem Src.Lq {R : Mem} {L : List HP} {A : Option Addr} {c : Nat} {l : List Int} (hs : Src R L A (bN.cells l)) (hc : l.length ≤ c) (q : Nat) : Src R L (kU A q c 1) (bN.cells (l.drop q)) := hs.drop hc
end Go.AF
namespace Go.AF
abbrev AL := List (Int × Value)
def cE : Nat → AL → List MapEntry
 | _, [] => []
 | i, (k, v) :: l => ⟨.int .i64 k, v, i⟩ :: cE (i + 1) l
def jz (l : AL) : Obj := .map (cE 0 l).toArray l.length
def rR (k : Int) : AL → Nat → Option (Nat × Value)
 | [], _ => none
 | (k', v) :: l, i => if k = k' then some (i, v) else rR k l (i + 1)
def xK (l : AL) (k : Int) : Option Value := (rR k l 0).map (·.2)
def Lr (l : AL) (k : Int) (v : Value) : AL := match rR k l 0 with
 | some (i, _) => l.set i (k, v)
 | none => l ++ [(k, v)]
theorem rT {kd : IntKind} (k : Int) : ∀ (l : AL) (i b : Nat), Instr.findNow (.int kd) (.int .i64 k) (cE b l) i = some (rR k l i)
 | [], _, _ => rfl
 | (k', v) :: l, i, b => by
  simp only [cE, Instr.findNow, Instr.sameNow, if_true, rR]
  by_cases h : k = k'
  ·simp [h]
  ·have : (k == k') = false := by simp [h]
   rw [this, if_neg h]
   exact rT k l (i + 1) (b + 1)
theorem En {k : Int} : ∀ {l : AL} {i j : Nat} {v : Value}, rR k l i = some (j, v) → i ≤ j ∧ l[j - i]? = some (k, v)
 | [], _, _, _, h => by simp [rR] at h
 | (k', v') :: l, i, j, v, h => by
  simp only [rR] at h
  split at h
  ·rename_i e; cases h; subst e; exact ⟨Nat.le_refl _, by simp⟩
  ·obtain ⟨h1, h2⟩ := En h
   refine ⟨by omega, ?_⟩
   rw [show j - i = (j - (i + 1)) + 1 from by omega, List.getElem?_cons_succ]; exact h2
theorem Eo : ∀ {l : AL} {i b : Nat} {k : Int} {v : Value}, l[i]? = some (k, v) → (cE b l)[i]? = some ⟨.int .i64 k, v, b + i⟩
 | [], _, _, _, _, h => by simp at h
 | (k', v') :: l, 0, b, k, v, h => by simp at h; obtain ⟨rfl, rfl⟩ := h; rfl
 | (k', v') :: l, i + 1, b, k, v, h => by
  have := Eo (b := b + 1) (show l[i]? = some (k, v) from by simpa using h)
  simp only [cE, List.getElem?_cons_succ, this]
  congr 2; omega
theorem Bl : ∀ {l : AL} {i b : Nat} {k : Int} {v w : Value}, l[i]? = some (k, w) → (cE b l).modify i (fun e => { e with key := .int .i64 k, val := v }) = cE b (l.set i (k, v))
 | [], _, _, _, _, _, h => by simp at h
 | (k', v') :: l, 0, b, k, v, w, h => by simp at h; obtain ⟨rfl, rfl⟩ := h; rfl
 | (k', v') :: l, i + 1, b, k, v, w, h => by
  have := Bl (b := b + 1) (v := v) (show l[i]? = some (k, w) from by simpa using h)
  simp only [cE, List.modify_succ_cons, List.set_cons_succ, this]
theorem Bm : ∀ (l m : AL) (b : Nat), cE b (l ++ m) = cE b l ++ cE (b + l.length) m
 | [], m, b => by simp [cE]
 | (k, v) :: l, m, b => by simp only [List.cons_append, cE, Bm l m (b + 1), List.length_cons]; congr 3; omega
def vR : AL → Int → Option Value
 | [], _ => none
 | (k', v) :: l, k => if k = k' then some v else vR l k
theorem Bn (k : Int) : ∀ (l : AL) (i : Nat), (rR k l i).map (·.2) = vR l k
 | [], _ => rfl
 | (k', v) :: l, i => by
  simp only [rR, vR]
  split
  ·rfl
  ·exact Bn k l (i + 1)
theorem Ls (l : AL) (k : Int) : xK l k = vR l k := Bn k l 0
theorem yy {k : Int} : ∀ {l : AL}, vR l k = none ↔ k ∉ l.map (·.1)
 | [] => by simp [vR]
 | (q, w) :: l => by
  have ih := yy (k := k) (l := l)
  simp only [vR, List.map_cons, List.mem_cons, not_or]
  by_cases h : k = q
  ·rw [if_pos h]; simp [h]
  ·rw [if_neg h]; simp [h, ih]
section
variable {R : Mem} {L L' : List HP} {M : Mem} {P : Program} {t kt et : TypeId} {r : Nat} {l : AL} {k : Int} {kd : IntKind}
class Bo (b : Nat) (L : List HP) (o : outParam Obj) (L' : outParam (List HP)) : Prop where
 pick : cu L (ob b o) L'
instance Bo.here {b : Nat} {o : Obj} {L : List HP} : Bo b (ob b o :: L) o L := ⟨.here⟩
instance (priority := low) Bo.there {b : Nat} {o : Obj} {Q : HP} {L L' : List HP} [h : Bo b L o L'] : Bo b (Q :: L) o (Q :: L') := ⟨.there h.pick⟩
theorem nF {P : Program} {M : Mem} {b : Bool} (hk : P.underlying kt = some (.int kd)) : bC P (Instr.checkKey b 10000 kt (.int .i64 k)) M = some () := by
 unfold Instr.checkKey
 rw [aJ, aE hk]; rfl
theorem qt {P : Program} {M : Mem} (hk : P.underlying kt = some (.int kd)) : bC P (Instr.findKey kt (.int .i64 k) (cE 0 l)) M = some (rR k l 0) := by
 unfold Instr.findKey
 rw [aJ, aE hk, Option.bind_some, rT]; rfl
theorem qu {P : Program} {α : Type} {M : Mem} {r : Nat} {l : AL} {f : Obj → Sem α} {K : α → Mem → Prop} {Kp : Value → Mem → Prop} (hb : M r = some (jz l)) (h : cW P (f (jz l)) M K Kp) : cW P (getObj r >>= f) M K Kp := by
 refine e8 P _ _ ?_
 unfold getObj
 simp only [cW, hb, jz]
 exact h
theorem Jg {z : Value} {i : TypeInfo} {K : Value → Mem → Prop} {Kp : List PanicEntry → Mem → Prop} (h : Hp R L M) [p : Bo r L (jz l) L'] (hu : P.underlying t = some (.map kt et)) (hk : P.underlying kt = some (.int kd)) (hi : P.info? et = some i) (hz : i.zero = some z)
  (g : K ((xK l k).getD z) M) : aZ P (Instr.lookup t (.map (some r)) (.int .i64 k) false) M K Kp := by
 have hb : M r = some (jz l) := (h.pick p.pick).HG
 unfold aZ Instr.lookup
 refine aT (aE hu M) ?_
 simp only
 refine e8 P _ _ ?_
 refine qu hb ?_
 simp only [jz]
 refine aT (x := ()) (nF hk) ?_
 refine aT (qt hk) ?_
 unfold xK at g
 cases ha : rR k l 0 with
 | none =>
  rw [ha] at g
  simp only
  have Ye : bC P (zeroValue et) M = some z := by rw [iY]; simp [zeroOf, hi, hz]
  refine aT Ye ?_
  refine aT (x := (z, false)) rfl ?_
  exact g
 | some x =>
  rw [ha] at g
  exact g
theorem ue {v : Value} {K : Mem → Prop} {Kp : List PanicEntry → Mem → Prop} (h : Hp R L M) [p : Bo r L (jz l) L'] (hu : P.underlying t = some (.map kt et)) (hk : P.underlying kt = some (.int kd))
  (g : ∀ M', Hp R (ob r (jz (Lr l k v)) :: L') M' → K M') : bD P (Instr.mapUpdate t (.map (some r)) (.int .i64 k) v) M K Kp := by
 have h1 := h.pick p.pick
 have hb : M r = some (jz l) := h1.HG
 have fin : ∀ o, o = jz (Lr l k v) → K (M.set r o) := fun o e => by
  subst e
  exact g _ (h1.set (x := jz l) (fun A ha => by unfold ob at ha; exact ha) fun A ha => by unfold ob; exact dW)
 unfold bD Instr.mapUpdate
 refine aT (aE hu M) ?_
 simp only
 refine qu hb ?_
 simp only [jz]
 refine aT (x := ()) (nF hk) ?_
 refine aT (qt hk) ?_
 have vS : ∀ o : Obj, K (M.set r o) → cW P (setObj r o) M (fun _ => K) (fun v M' => Kp [{ v, recovered := false }] M') := fun o hK => by
  unfold setObj
  simp only [cW, hb, jz]
  exact hK
 cases ha : rR k l 0 with
 | none =>
  simp only
  refine vS _ (fin _ ?_)
  unfold Lr jz
  rw [ha]
  simp only [List.push_toArray, List.length_append, List.length_singleton]
  rw [Bm]; simp [cE]
 | some x =>
  obtain ⟨i, w⟩ := x
  obtain ⟨_, hw⟩ := En ha
  rw [Nat.sub_zero] at hw
  simp only
  have he := Eo (b := 0) hw
  refine aT (x := Value.int .i64 k) ?_ ?_
  ·have : (((cE 0 l).toArray[i]?).map (·.key)).getD (.int .i64 k) = .int .i64 k := by simp [he]
   rw [this]
   unfold Instr.keyThatStays
   simp [Instr.sameBits]; rfl
  ·refine vS _ (fin _ ?_)
   unfold Lr jz
   rw [ha]
   simp only [List.length_set]
   rw [← Bl (v := v) hw]
   simp [List.modify_toArray]
end
end Go.AF
namespace Go.AF
theorem zF {P : Program} {t t' e ty : TypeId} {i : TypeInfo} {zv : Value} {A B : Option Addr} {n c m d : Nat} {l r : List Value} {M : Mem} {K : Value → Mem → Prop} {Kp : List PanicEntry → Mem → Prop}
  (hu : P.underlying t = some (.slice e)) (MF : P.underlying t' = some (.slice e)) (hi : P.info? e = some i) (hz : i.zero = some zv) (hs : zv.cells.size = i.size)
  (Qx : Sl M A l) (hl : l.length = n * i.size) (hr : Sl M B r) (je : r.length = m * i.size) (hc : c < n + m) (hb : (n + m) * i.bytes ≤ 140737488355328) (hby : 0 < i.bytes)
  (h : ∀ k c' M', M k = none → qG M' i.size e (some ⟨k, 0, none⟩) (n + m) c' (l ++ r) → lp [] M M' → K (.slice (some ⟨k, 0, none⟩) (n + m) c') M') :
  aZ P (Builtin.append_ #[t, t'] ty #[.slice A n c, .slice B m d]) M K Kp := by
 unfold aZ Builtin.append_
 simp only [List.getElem?_toArray, List.getElem?_cons_zero, List.getElem?_cons_succ]
 refine aT (aE hu M) ?_
 simp only
 refine aT (ej hi M) ?_
 refine aT (aE MF M) ?_
 refine aT (x := false) rfl ?_
 refine aT (x := m) rfl ?_
 simp only [Bool.not_false, if_true]
 rw [if_neg (by omega)]
 refine aT (b6 hi M) ?_
 rw [if_neg (by simp; omega)]
 refine aT (b6 hi M) ?_
 rw [if_neg (by have := growslice_fits (need := n + m) (old := c) (bytes := i.bytes) (by omega) hb; omega)]
 show ∀ q, _
 intro q
 have hcap : n + m ≤ Question.cut (.appendCap (n + m) c e) q := by simp only [Question.cut]; omega
 generalize Question.cut (.appendCap (n + m) c e) q = nc at hcap
 refine aT (x := nc) rfl ?_
 refine aT (b6 hi M) ?_
 refine e8 P _ _ ?_
 have room : ∀ (X : Prop) , X → cW P (askRoom (nc * i.bytes)) M (fun _ M' => M' = M) (fun _ _ => False) := by
  intro X _
  unfold askRoom
  split
  ·exact rfl
  ·exact rfl
 refine gx P _ (room True trivial) (fun _ M' Uu => ?_) (fun _ _ hf => hf.elim)
 subst Uu
 refine aT (fQ Qx hl) ?_
 refine aT (fQ hr je) ?_
 refine aT (x := zv) (by rw [iY]; simp [zeroOf, hi, hz]) ?_
 intro k hk
 refine h k nc _ hk ⟨by rw [List.length_append, hl, je, Nat.add_mul], .inr ⟨k, _, rfl, dW, ?_, hcap, fun j hj => ?_⟩⟩ ((lp.refl _ _).set (.inr hk))
 ·simp only [Array.size_append, List.size_toArray, hl, je]
  have : (Builtin.zeroCells zv.cells (nc - (n + m))).size = (nc - (n + m)) * i.size := by simp [Builtin.zeroCells, hs]
  rw [this, ← Nat.add_mul, ← Nat.add_mul]; congr 1; omega
 ·rw [Nat.add_mul] at hj
  rw [Array.getElem?_append_left (by simp [hl, je]; omega)]
  simp
theorem Hp.Lt {α : Type} {E : jv α} {R : Mem} {L L' : List HP} {M : Mem} {T : Nat} {P : Program} {t bytes ty d m k n c : Nat} {zero rc : List Value} {A : Option Addr} {l r : List α} {K : Value → Mem → Prop} {Kp : List PanicEntry → Mem → Prop}
  (h : Hp R L M) [hk : jx k L rc T L'] (hA : Src R L A (E.cells l)) (hn : n = l.length) (El : bu P t T E.z bytes zero) (he : rc = E.cells r) (hm : m = r.length) (hc : c < n + m) (hb : (l.length + r.length) * bytes ≤ 140737488355328)
  (g : ∀ b c' M', Hp R (ct E T (some ⟨b, 0, none⟩) c' (l ++ r) :: L') M' → K (.slice (some ⟨b, 0, none⟩) (l ++ r).length c') M') :
  aZ P (Builtin.append_ #[t, t] ty #[.slice A n c, .slice (some ⟨k, 0, none⟩) m d]) M K Kp := by
 subst hm; subst he; subst hn
 have hB : Sl M (some ⟨k, 0, none⟩) (E.cells r) := h.HL hk.pick
 obtain ⟨hu, i, zv, hi, hs, hby, hz, rfl, hl, hpos⟩ := El
 refine zF hu hu hi hz (by rw [hs, ← hl]; simp) (hA M h) (by rw [hs]; exact E.c8) hB (by rw [hs]; exact E.c8) hc (by rw [hby]; exact hb) (by omega) fun b c' M' hbn ho xk => ?_
 have h2 : Hp R (ct E T (some ⟨b, 0, none⟩) c' (l ++ r) :: L) M' := by
  have h3 : Hp R (fact True :: L) M := Hp.eJ.2 ⟨trivial, h⟩
  refine h3.change (D := []) (D' := [b]) (fun A hA x hx => by cases hx) xk (fun x hx => by simp only [List.mem_singleton] at hx; subst hx; exact .inr hbn) ?_
  unfold ct own
  rw [List.length_append, E.ot]
  rw [hs] at ho
  have := ho.CI
  simpa [xp] using this
 have := g b c' M' (h2.map fun _ hs => hs.tail fun _ hx => (bK.pick hk.pick hx).drop)
 rwa [List.length_append] at this
section
variable {R : Mem} {L L' : List HP} {M : Mem} {P : Program} {t kt et : TypeId} {r : Nat} {l : AL} {k : Int} {kd : IntKind}
theorem F5 {z : Value} {i : TypeInfo} {K : Value → Mem → Prop} {Kp : List PanicEntry → Mem → Prop} (h : Hp R L M) [p : Bo r L (jz l) L'] (hu : P.underlying t = some (.map kt et)) (hk : P.underlying kt = some (.int kd)) (hi : P.info? et = some i) (hz : i.zero = some z)
  (g : K (.tuple #[(xK l k).getD z, .bool (xK l k).isSome]) M) : aZ P (Instr.lookup t (.map (some r)) (.int .i64 k) true) M K Kp := by
 have hb : M r = some (jz l) := (h.pick p.pick).HG
 unfold aZ Instr.lookup
 refine aT (aE hu M) ?_
 simp only
 refine e8 P _ _ ?_
 refine qu hb ?_
 simp only [jz]
 refine aT (x := ()) (nF hk) ?_
 refine aT (qt hk) ?_
 unfold xK at g
 cases ha : rR k l 0 with
 | none =>
  rw [ha] at g
  simp only
  have Ye : bC P (zeroValue et) M = some z := by rw [iY]; simp [zeroOf, hi, hz]
  refine aT Ye ?_
  refine aT (x := (z, false)) rfl ?_
  exact g
 | some x =>
  rw [ha] at g
  exact g
end
theorem Bp {C : Ctx} {g : Nat} {args : List Value} {M : Mem} {K : Value → Mem → Prop} {Kp : List PanicEntry → Mem → Prop} (hg : 1 < g ∧ g < C.ok) (h : aa C.P g args.toArray M K Kp) : gy C (.func (.func g) #[] #[]) args M K Kp := by
 unfold gy
 simp only
 rw [if_pos hg]
 simpa using h
theorem g7 {z : Int} (h0 : 0 ≤ z) (h : z < 9223372036854775807) : IntKind.wrap .i64 (z + 1) = z + 1 := by
 obtain ⟨n, rfl⟩ := Int.eq_ofNat_of_zero_le h0
 have := kj (n := n + 1) (by omega)
 exact_mod_cast this
theorem Hp.De {α : Type} {E : jv α} {R : Mem} {L : List HP} {M : Mem} {T c : Nat} {A : Option Addr} {l r : List α} {P : Program} {t bytes ty d m : Nat} {zero : List Value} {B : Option Addr} {K : Value → Mem → Prop} {Kp : List PanicEntry → Mem → Prop}
  (h : Hp R (ct E T A c l :: L) M) (El : bu P t T E.z bytes zero) (hr : Sl M B (E.cells r)) (hm : m = r.length) (hb : (l.length + r.length) * bytes ≤ 140737488355328)
  (g : ∀ A' c' M', Hp R (ct E T A' c' (l ++ r) :: L) M' → K (.slice A' (l ++ r).length c') M') :
  aZ P (Builtin.append_ #[t, t] ty #[.slice A l.length c, .slice B m d]) M K Kp := by
 subst hm
 have h2 : Hp R (own E.z T A l.length c (E.cells l) :: L) M := by
  have := h; unfold ct at this; exact this
 refine h2.append El hr E.c8 E.jF hb fun A' c' M' h => ?_
 have := g A' c' M' (by unfold ct; rw [List.length_append, E.ot]; exact h)
 rwa [List.length_append] at this
theorem Hp.jk {α : Type} {E : jv α} {R : Mem} {L L' lY : List HP} {M : Mem} {T c n : Nat} {A : Option Addr} {l : List α} {P : Program} {t bytes ty k d m : Nat} {zero rc : List Value} {K : Value → Mem → Prop} {Kp : List PanicEntry → Mem → Prop}
  (h : Hp R L M) [ha : b9 A L α E T c l L'] [hk : jx k L' rc T lY] (El : bu P t T E.z bytes zero) (r : List α) (he : rc = E.cells r) (hn : n = l.length) (hm : m = r.length) (hb : (l.length + r.length) * bytes ≤ 140737488355328)
  (g : ∀ A' c' M', Hp R (ct E T A' c' (l ++ r) :: lY) M' → K (.slice A' (n + m) c') M') :
  aZ P (Builtin.append_ #[t, t] ty #[.slice A n c, .slice (some ⟨k, 0, none⟩) m d]) M K Kp := by
 subst hn
 refine h.bE (A := A) El r he hm hb fun A' c' M' h => ?_
 have := g A' c' M' h
 rwa [hm, ← List.length_append] at this
theorem yz {C : Ctx} {g : Nat} {caps : Array Value} {args : List Value} {M : Mem} {K : Value → Mem → Prop} {Kp : List PanicEntry → Mem → Prop} (hg : 1 < g ∧ g < C.ok) (h : aa C.P g (args ++ caps.toList).toArray M K Kp) : gy C (.func (.func g) #[] caps) args M K Kp := by
 unfold gy
 simp only
 rw [if_pos hg]
 simpa using h
end Go.AF
namespace Go.Proofs
open Go.AF
set_option maxRecDepth 100000
set_option maxHeartbeats 1000000
attribute [local irreducible] aG c6 fD cj aC eU aD aF bg aZ bD aQ
abbrev rV (A : Option Addr) (c : Nat) (l : List e7) : HP := ct iM 234 A c l
theorem Jh : bu Tryz.prog 179 234 11 88 (iM.f ⟨0, 0, [], 0⟩) := bu.mk' (zv := .agg #[.int .i64 0, .int .i64 0, .int .i64 0, .int .i64 0, .int .i64 0, .int .i64 0, .int .i64 0, .int .i64 0, .int .i64 0, .int .i64 0, .int .i64 0]) (by kernel_rfl) (by kernel_rfl) rfl (by omega)
theorem e7.set_set {f : e7} {q u v : Int} : (f.set q u).set q v = f.set q v := by
 unfold e7.set
 congr 1
 apply List.map_congr_left
 intro i hi
 by_cases h : i = q.toNat
 ·rw [if_pos h, if_pos h]
 ·rw [if_neg h, if_neg h]
  simp [List.mem_range.1 hi, h]
section
variable {R : Mem} {L L' : List HP} {M : Mem} {K : Value → Mem → Prop} {Kp : List PanicEntry → Mem → Prop} {b i c : Nat} {l : List e7} {f : e7} {x : cQ}
theorem rX {q : Int} {o : Nat} {G : Int → Prop} (h : Hp R L M) [p : b9 (some ⟨b, 0, none⟩) L e7 iM 234 c l L'] (hi : l[i]? = some f) (hq : bn q) (e : o = i * 11 + 2 + q.toNat) (g : G (f.bL q)) : aG (M.ld ⟨b, o, none⟩) .i64 G := by
 refine br (Src.at (h.src (A := some ⟨b, 0, none⟩)) h (i := i) (j := 2 + q.toNat) hi (Ou hq.1 hq.2) ?_) g
 show _ = 0 + (i * 11 + (2 + q.toNat)); omega
theorem th {q v : Int} {o : Nat} {G : Mem → Prop} (h : Hp R L M) [p : b9 (some ⟨b, 0, none⟩) L e7 iM 234 c l L'] (hi : l[i]? = some f) (hq : bn q) (e : o = i * 11 + 2 + q.toNat)
  (k : ∀ M', Hp R (rV (some ⟨b, 0, none⟩) c (l.set i (f.set q v)) :: L') M' → G M') : aF M ⟨b, o, none⟩ (.int .i64 v) G := by
 obtain ⟨q0, q8⟩ := hq
 refine gS i (2 + q.toNat) h hi ?_ (K3 q0 q8) ?_ k
 ·show _ < 11; omega
 ·show _ = i * 11 + (2 + q.toNat); omega
theorem vT {o : Nat} {G : Int → Prop} (h : Hp R L M) [p : b9 (some ⟨b, 0, none⟩) L e7 iM 234 c l L'] (hi : l[i]? = some f) (e : o = i * 11 + 1) (g : G f.pc) : aG (M.ld ⟨b, o, none⟩) .i64 G := by
 refine br (Src.at (h.src (A := some ⟨b, 0, none⟩)) h (i := i) (j := 1) hi rfl ?_) g
 show _ = 0 + (i * 11 + 1); omega
theorem vU {v : Int} {o : Nat} {G : Mem → Prop} (h : Hp R L M) [p : b9 (some ⟨b, 0, none⟩) L e7 iM 234 c l L'] (hi : l[i]? = some f) (e : o = i * 11 + 1)
  (k : ∀ M', Hp R (rV (some ⟨b, 0, none⟩) c (l.set i { f with pc := v }) :: L') M' → G M') : aF M ⟨b, o, none⟩ (.int .i64 v) G := by
 refine gS i 1 h hi (by show 1 < 11; omega) Ov ?_ k
 show _ = i * 11 + 1; omega
theorem gE {α : Type} {l : List α} {i : Nat} {u v : α} : (l.set i u).set i v = l.set i v := by simp
def SL : List Nat := [195, 196, 197, 198, 199, 200, 201, 202, 203]
theorem Ji (h : Hp R L M) [p : b9 (some ⟨b, 0, none⟩) L e7 iM 234 c l L'] (hi : l[i]? = some f) (hx : x.jZ) (n : Nat) (hn : x.op = (n : Int)) (h8 : n ≤ 8)
  (k : ∀ M', Hp R (rV (some ⟨b, 0, none⟩) c (l.set i (f.pure x)) :: L') M' → K (.tuple #[]) M') :
  aa Tryz.prog (SL.getD n 0) #[.pointer (some ⟨b, i * 11, none⟩), .agg #[.int .i64 x.op, .int .i64 x.a, .int .i64 x.b, .int .i64 x.c]] M K Kp := by
 obtain ⟨op, xa, xb, xc⟩ := x
 obtain ⟨o1, o2, o3⟩ := hx
 dsimp only at hn o1 o2 o3 k ⊢
 have hsame : l.set i f = l := by obtain ⟨hl, rfl⟩ := List.getElem?_eq_some_iff.1 hi; simp
 subst hn
 have hlt := (List.getElem?_eq_some_iff.1 hi).1
 obtain rfl | rfl | rfl | rfl | rfl | rfl | rfl | rfl | rfl : n = 0 ∨ n = 1 ∨ n = 2 ∨ n = 3 ∨ n = 4 ∨ n = 5 ∨ n = 6 ∨ n = 7 ∨ n = 8 := by omega
 ·refine qg ?_
  have e : f.pure ⟨((0 : Nat) : Int), xa, xb, xc⟩ = f := rfl
  rw [e, hsame] at k
  repeat (first|(refine aj h ?_;clear h;intro kb M h)|(refine aq h ?_;clear h;intro M h)|refine St.to h ?_|(apply Exists.intro;(repeat apply Exists.intro);refine And.intro rfl ?_)|refine au ?_|refine af ?_|refine ai ?_)
  exact k _ ((h.row (some ⟨b, 0, none⟩)).bM)
 ·have ra : bn xa := o1 (by simp)
  refine kA ?_
  repeat (first|(refine aj h ?_;clear h;intro kb M h)|(refine aq h ?_;clear h;intro M h)|refine St.to h ?_|(apply Exists.intro;(repeat apply Exists.intro);refine And.intro rfl ?_)|refine au ?_|refine af ?_|refine ai ?_)
  refine ⟨ra.1, ra.2, th h hi ra rfl fun M h => ?_⟩
  exact k _ h.bM
 ·obtain ⟨ra, rb⟩ := o2 rfl
  refine o6 ?_
  repeat (first|(refine aj h ?_;clear h;intro kb M h)|(refine aq h ?_;clear h;intro M h)|refine St.to h ?_|(apply Exists.intro;(repeat apply Exists.intro);refine And.intro rfl ?_)|refine au ?_|refine af ?_|refine ai ?_)
  refine ⟨rb.1, rb.2, rX h hi rb rfl ?_⟩
  refine ⟨ra.1, ra.2, th h hi ra rfl fun M h => ?_⟩
  exact k _ h.bM
 ·obtain ⟨ra, rb, rc⟩ := o3 (by simp)
  refine qh ?_
  repeat (first|(refine aj h ?_;clear h;intro kb M h)|(refine aq h ?_;clear h;intro M h)|refine St.to h ?_|(apply Exists.intro;(repeat apply Exists.intro);refine And.intro rfl ?_)|refine au ?_|refine af ?_|refine ai ?_)
  refine ⟨rb.1, rb.2, rX h hi rb rfl ?_⟩
  repeat (first|(refine aj h ?_;clear h;intro kb M h)|(refine aq h ?_;clear h;intro M h)|refine St.to h ?_|(apply Exists.intro;(repeat apply Exists.intro);refine And.intro rfl ?_)|refine au ?_|refine af ?_|refine ai ?_)
  refine ⟨rc.1, rc.2, rX h hi rc rfl ?_⟩
  refine ⟨ra.1, ra.2, th h hi ra rfl fun M h => ?_⟩
  exact k _ h.bM
 ·obtain ⟨ra, rb, rc⟩ := o3 (by simp)
  refine qi ?_
  repeat (first|(refine aj h ?_;clear h;intro kb M h)|(refine aq h ?_;clear h;intro M h)|refine St.to h ?_|(apply Exists.intro;(repeat apply Exists.intro);refine And.intro rfl ?_)|refine au ?_|refine af ?_|refine ai ?_)
  refine ⟨rb.1, rb.2, rX h hi rb rfl ?_⟩
  repeat (first|(refine aj h ?_;clear h;intro kb M h)|(refine aq h ?_;clear h;intro M h)|refine St.to h ?_|(apply Exists.intro;(repeat apply Exists.intro);refine And.intro rfl ?_)|refine au ?_|refine af ?_|refine ai ?_)
  refine ⟨rc.1, rc.2, rX h hi rc rfl ?_⟩
  refine ⟨ra.1, ra.2, th h hi ra rfl fun M h => ?_⟩
  exact k _ h.bM
 ·obtain ⟨ra, rb, rc⟩ := o3 (by simp)
  refine qj ?_
  repeat (first|(refine aj h ?_;clear h;intro kb M h)|(refine aq h ?_;clear h;intro M h)|refine St.to h ?_|(apply Exists.intro;(repeat apply Exists.intro);refine And.intro rfl ?_)|refine au ?_|refine af ?_|refine ai ?_)
  refine ⟨rb.1, rb.2, rX h hi rb rfl ?_⟩
  repeat (first|(refine aj h ?_;clear h;intro kb M h)|(refine aq h ?_;clear h;intro M h)|refine St.to h ?_|(apply Exists.intro;(repeat apply Exists.intro);refine And.intro rfl ?_)|refine au ?_|refine af ?_|refine ai ?_)
  refine ⟨rc.1, rc.2, rX h hi rc rfl ?_⟩
  refine ⟨ra.1, ra.2, th h hi ra rfl fun M h => ?_⟩
  exact k _ h.bM
 ·obtain ⟨ra, rb, rc⟩ := o3 (by simp)
  refine pb ?_
  repeat (first|(refine aj h ?_;clear h;intro kb M h)|(refine aq h ?_;clear h;intro M h)|refine St.to h ?_|(apply Exists.intro;(repeat apply Exists.intro);refine And.intro rfl ?_)|refine au ?_|refine af ?_|refine ai ?_)
  refine ⟨rb.1, rb.2, rX h hi rb rfl ?_⟩
  repeat (first|(refine aj h ?_;clear h;intro kb M h)|(refine aq h ?_;clear h;intro M h)|refine St.to h ?_|(apply Exists.intro;(repeat apply Exists.intro);refine And.intro rfl ?_)|refine au ?_|refine af ?_|refine ai ?_)
  refine ⟨rc.1, rc.2, rX h hi rc rfl ?_⟩
  repeat (first|(refine aj h ?_;clear h;intro kb M h)|(refine aq h ?_;clear h;intro M h)|refine St.to h ?_|(apply Exists.intro;(repeat apply Exists.intro);refine And.intro rfl ?_)|refine au ?_|refine af ?_|refine ai ?_)
  refine ⟨ra.1, ra.2, th h hi ra rfl fun M h => ?_⟩
  have e : f.pure ⟨((6 : Nat) : Int), xa, xb, xc⟩ = f.set xa (if f.bL xb < f.bL xc then 1 else 0) := rfl
  rw [e] at k
  refine aL.2 ⟨fun hl => ?_, fun hl => ?_⟩
  ·rw [if_pos hl] at k
   repeat (first|(refine aj h ?_;clear h;intro kb M h)|(refine aq h ?_;clear h;intro M h)|refine St.to h ?_|(apply Exists.intro;(repeat apply Exists.intro);refine And.intro rfl ?_)|refine au ?_|refine af ?_|refine ai ?_)
   have Jf : (l.set i (f.set xa 0))[i]? = some (f.set xa 0) := by simp [hlt]
   refine ⟨ra.1, ra.2, th h Jf ra rfl fun M h => ?_⟩
   rw [gE, e7.set_set] at h
   exact k _ h.bM
  ·rw [if_neg hl] at k
   exact k _ h.bM
 ·refine pe ?_
  repeat (first|(refine aj h ?_;clear h;intro kb M h)|(refine aq h ?_;clear h;intro M h)|refine St.to h ?_|(apply Exists.intro;(repeat apply Exists.intro);refine And.intro rfl ?_)|refine au ?_|refine af ?_|refine ai ?_)
  refine vU h hi rfl fun M h => ?_
  exact k _ h.bM
 ·have ra : bn xa := o1 (by simp)
  refine mA ?_
  repeat (first|(refine aj h ?_;clear h;intro kb M h)|(refine aq h ?_;clear h;intro M h)|refine St.to h ?_|(apply Exists.intro;(repeat apply Exists.intro);refine And.intro rfl ?_)|refine au ?_|refine af ?_|refine ai ?_)
  have e : f.pure ⟨((8 : Nat) : Int), xa, xb, xc⟩ = if f.bL xa ≠ 0 then { f with pc := xb } else f := rfl
  rw [e] at k
  refine ⟨ra.1, ra.2, rX h hi ra rfl ?_⟩
  refine eo.2 ⟨fun hl => ?_, fun hl => ?_⟩
  ·rw [if_pos hl] at k
   repeat (first|(refine aj h ?_;clear h;intro kb M h)|(refine aq h ?_;clear h;intro M h)|refine St.to h ?_|(apply Exists.intro;(repeat apply Exists.intro);refine And.intro rfl ?_)|refine au ?_|refine af ?_|refine ai ?_)
   refine vU h hi rfl fun M h => ?_
   exact k _ h.bM
  ·rw [if_neg (by simpa using hl), hsame] at k
   exact k _ ((h.row (some ⟨b, 0, none⟩)).bM)
def Lu : AL := (List.range 9).map fun n : Nat => ((n : Int), .func (.func (SL.getD n 0)) #[] #[])
theorem Bq (h : Hp R L M) (k : ∀ m M', Hp R (ob m (jz Lu) :: L) M' → K (.map (some m)) M') : aa Tryz.prog 153 #[] M K Kp := by
 refine vJ ?_
 refine ML h ?_
 clear h
 intro m M h
 replace h : Hp R (ob m (jz []) :: L) M := h
 have hu : Tryz.prog.underlying 302 = some (.map 32 300) := by kernel_rfl
 have hk : Tryz.prog.underlying 32 = some (.int .i64) := by kernel_rfl
 iterate 9
  refine ue h hu hk ?_
  clear h
  intro M h
 exact k _ _ h
theorem Df (h : Hp R L M) [p : b9 (some ⟨b, 0, none⟩) L e7 iM 234 c l L'] (hi : l[i]? = some f) (hx : x.jZ) (h0 : 0 ≤ x.op) (hs : 0 ≤ f.pc ∧ f.pc < 1000000000)
  (k1 : x.op ≤ 8 → ∀ M', Hp R (rV (some ⟨b, 0, none⟩) c (l.set i (f.next.pure x)) :: L') M' → K (.bool true) M')
  (k2 : 8 < x.op → ∀ M', Hp R (rV (some ⟨b, 0, none⟩) c l :: L') M' → K (.bool false) M') :
  aa Tryz.prog 121 #[.pointer (some ⟨b, i * 11, none⟩), .agg #[.int .i64 x.op, .int .i64 x.a, .int .i64 x.b, .int .i64 x.c]] M K Kp := by
 have hlt := (List.getElem?_eq_some_iff.1 hi).1
 obtain ⟨q, hq⟩ := Int.eq_ofNat_of_zero_le h0
 refine oQ ?_
 repeat (first|(refine aj h ?_;clear h;intro kb M h)|(refine aq h ?_;clear h;intro M h)|refine St.to h ?_|(apply Exists.intro;(repeat apply Exists.intro);refine And.intro rfl ?_)|refine au ?_|refine af ?_|refine ai ?_)
 refine Bq h ?_
 clear h
 intro m M h
 repeat (first|(refine aj h ?_;clear h;intro kb M h)|(refine aq h ?_;clear h;intro M h)|refine St.to h ?_|(apply Exists.intro;(repeat apply Exists.intro);refine And.intro rfl ?_)|refine au ?_|refine af ?_|refine ai ?_)
 have hu : Tryz.prog.underlying 302 = some (.map 32 300) := by kernel_rfl
 have hk : Tryz.prog.underlying 32 = some (.int .i64) := by kernel_rfl
 obtain ⟨ti, TW, Yf⟩ : ∃ ti, Tryz.prog.info? 300 = some ti ∧ ti.zero = some .nilFunc := ⟨_, rfl, rfl⟩
 refine F5 h hu hk TW Yf ?_
 refine ⟨_, _, rfl, bz h, ?_⟩
 by_cases h8 : x.op ≤ 8
 ·have Zl : q ≤ 8 := by omega
  have hl : xK Lu x.op = some (.func (.func (SL.getD q 0)) #[] #[]) := by
   rw [hq]
   obtain rfl | rfl | rfl | rfl | rfl | rfl | rfl | rfl | rfl : q = 0 ∨ q = 1 ∨ q = 2 ∨ q = 3 ∨ q = 4 ∨ q = 5 ∨ q = 6 ∨ q = 7 ∨ q = 8 := by omega
   all_goals rfl
  rw [hl]
  refine af ?_
  refine vT h hi rfl ?_
  rw [g7 (by omega) (by omega)]
  refine vU h hi rfl ?_
  clear h
  intro M h
  have Jf : (l.set i { f with pc := f.pc + 1 })[i]? = some f.next := by simp [hlt, e7.next]
  repeat (first|(refine aj h ?_;clear h;intro kb M h)|(refine aq h ?_;clear h;intro M h)|refine St.to h ?_|(apply Exists.intro;(repeat apply Exists.intro);refine And.intro rfl ?_)|refine au ?_|refine af ?_|refine ai ?_)
  have hg : 1 < SL.getD q 0 ∧ SL.getD q 0 < Cx.ok := by
   obtain rfl | rfl | rfl | rfl | rfl | rfl | rfl | rfl | rfl : q = 0 ∨ q = 1 ∨ q = 2 ∨ q = 3 ∨ q = 4 ∨ q = 5 ∨ q = 6 ∨ q = 7 ∨ q = 8 := by omega
   all_goals exact ⟨by decide, by show _ < 228; decide⟩
  refine Bp hg ?_
  refine Ji (f := f.next) h Jf hx q hq Zl ?_
  clear h
  intro M h
  rw [gE] at h
  exact ⟨rfl, k1 h8 _ h.bM⟩
 ·have hl : xK Lu x.op = none := by
   rw [Ls, yy]
   have : Lu.map (·.1) = [0, 1, 2, 3, 4, 5, 6, 7, 8] := by decide
   rw [this]; simp; omega
  rw [hl]
  refine ai ?_
  exact k2 (by omega) _ ((h.row (some ⟨b, 0, none⟩)).bM)
end
section
variable {R : Mem} {L L' : List HP} {M : Mem} {K : Value → Mem → Prop} {Kp : List PanicEntry → Mem → Prop} {b i c : Nat} {l : List e7} {f : e7} {x : cQ}
theorem kC {m : Nat} (hm : 0 < m) (h2 : m ≤ 1000000000) (k : K (.pointer (some ⟨b, (m - 1) * 11, none⟩)) M) : aa Tryz.prog 120 #[.slice (some ⟨b, 0, none⟩) m c] M K Kp := by
 refine qb ?_
 have e : IntKind.wrap .i64 ((m : Int) - 1) = ((m - 1 : Nat) : Int) := wn (by omega) (by omega)
 refine bP.2 ⟨fun h0 => by omega, fun _ => ?_⟩
 rw [e]
 refine ⟨by omega, by omega, bp ?_⟩
 simp only [Int.toNat_natCast, Nat.zero_add]
 exact k
theorem nG {fn v : Int} (h : Hp R L M) (k : ∀ b M', Hp R (rV (some ⟨b, 0, none⟩) 1 [e7.begin fn v] :: L) M' → K (.slice (some ⟨b, 0, none⟩) 1 1) M') : aa Tryz.prog 71 #[.int .i64 fn, .int .i64 v] M K Kp := by
 refine vG ?_
 refine aj h ?_
 clear h
 intro b M h
 exact k b M (h.gZ (E := iM) (l := [e7.begin fn v]) rfl)
theorem Dg {fn v eE : Int} {A : Option Addr} (h : Hp R L M) [p : b9 A L e7 iM 234 c l L'] (hl : 0 < l.length)
  (k1 : 16 ≤ l.length → K (.tuple #[.slice A l.length c, .bool false]) M)
  (k2 : l.length < 16 → ∀ b c' M', Hp R (rV (some ⟨b, 0, none⟩) c' (l ++ [⟨fn, 0, [v, 0, 0, 0, 0, 0, 0, 0], eE⟩]) :: L) M' → K (.tuple #[.slice (some ⟨b, 0, none⟩) (l.length + 1) c', .bool true]) M') :
  aa Tryz.prog 211 #[.slice A l.length c, .int .i64 fn, .int .i64 v, .int .i64 eE] M K Kp := by
 refine pn ?_
 have hcap := h.iz A
 refine aL.2 ⟨fun qv => k1 (by omega), fun qv => ?_⟩
 refine ⟨by omega, by omega, by omega, by omega, by omega, by omega, ?_⟩
 refine aj h ?_
 clear h
 intro kb M h
 simp only [Int.toNat_natCast, Nat.sub_zero]
 have e : kU A 0 l.length 11 = A := by
  obtain ⟨bb, rfl⟩ := h.bt (A := A) hl (by decide)
  unfold kU
  rw [if_neg (by omega)]
  rfl
 rw [e]
 refine Hp.Lt (E := iM) (r := [⟨fn, 0, [v, 0, 0, 0, 0, 0, 0, 0], eE⟩]) h (h.src (A := A)) rfl Jh rfl rfl (by omega) (by simp; omega) ?_
 clear h
 intro b c' M h
 refine aW ?_
 have := k2 (by omega) b c' M h
 rwa [List.length_append]
theorem zG {v : Int} {A : Option Addr} (h : Hp R L M) [p : b9 A L e7 iM 234 c l L'] (hl : 0 < l.length) (hs : l.length ≤ 1000000)
  (Jj : l[l.length - 1]? = some f) (hin : bn f.eE)
  (k1 : l.length < 2 → K (.tuple #[.slice none 0 0, .bool false]) M)
  (k2 : 2 ≤ l.length → ∀ b c' M', ∀ g, l[l.length - 2]? = some g → Hp R (rV (some ⟨b, 0, none⟩) c' ((l.take (l.length - 1)).set (l.length - 2) (g.set f.eE v)) :: L) M' → K (.tuple #[.slice (some ⟨b, 0, none⟩) (l.length - 1) c', .bool true]) M') :
  aa Tryz.prog 212 #[.slice A l.length c, .int .i64 v] M K Kp := by
 refine mB ?_
 have hcap := h.iz A
 refine aL.2 ⟨fun qv => k1 (by omega), fun qv => ?_⟩
 have e : IntKind.wrap .i64 ((l.length : Int) - 1) = ((l.length - 1 : Nat) : Int) := wn (by omega) (by omega)
 obtain ⟨ba, rfl⟩ := h.bt (A := A) hl (by decide)
 refine aj h ?_
 clear h
 intro kb M h
 rw [e]
 refine ⟨by omega, by omega, by omega, by omega, by omega, by omega, ?_⟩
 simp only [Int.toNat_natCast, Nat.sub_zero]
 have e2 : kU (some ⟨ba, 0, none⟩) 0 c 11 = some ⟨ba, 0, none⟩ := by
  unfold kU
  rw [if_neg (by omega)]
  rfl
 rw [e2]
 refine h.lB iM Jh (l.take (l.length - 1)) ((h.src (A := some ⟨ba, 0, none⟩)).MN _) (by simp) (by simp; omega) ?_
 clear h
 intro A' c' M h
 have hlen : (l.take (l.length - 1)).length = l.length - 1 := by simp
 obtain ⟨b', rfl⟩ := h.bt (A := A') (by omega) (by decide)
 refine aW ?_
 rw [hlen]
 refine kC (by omega) (by omega) ?_
 refine fR (bp ?_)
 refine kC (by omega) (by omega) ?_
 refine fR (bp ?_)
 refine br (Src.at (h.src (A := some ⟨ba, 0, none⟩)) h (i := l.length - 1) (j := 10) Jj rfl (by show _ = 0 + ((l.length - 1) * 11 + 10); omega)) ?_
 obtain ⟨g, hg⟩ := aN (l := l) (i := l.length - 2) (by omega)
 refine ⟨hin.1, hin.2, ?_⟩
 have F6 : (l.take (l.length - 1))[l.length - 2]? = some g := by rw [List.getElem?_take, if_pos (by omega)]; exact hg
 refine th h F6 hin (by omega) ?_
 clear h
 intro M h
 exact k2 (by omega) b' c' M g hg h
abbrev jA (A : Option Addr) (c : Nat) (l : List Int) : HP := ct bN 3 A c l
def eK : qH Lk := ⟨fun b x => exs fun A : Option Addr => exs fun c : Nat => sep [pt b [.int .i64 x.owner, .slice A x.waits.length c] 238, jA A c x.waits]⟩
def Lk.take (x : Lk) (g : Int) : Lk × Bool := if x.owner = -1 then (⟨g, x.waits⟩, true) else (⟨x.owner, x.waits ++ [g]⟩, false)
def Lk.pH (x : Lk) (g : Int) : Lk × Int × Int :=
 if x.owner = -1 ∨ x.owner ≠ g then (x, -1, 5) else (⟨x.waits.headD (-1), x.waits.tail⟩, x.waits.headD (-1), 0)
variable {y : Lk}
theorem yA (h : Hp R L M) [o : bW eK b L y L'] : ∃ A c, Hp R (pt b [.int .i64 y.owner, .slice A y.waits.length c] 238 :: jA A c y.waits :: L') M := by
 have := h.obj eK b
 simpa only [eK, Hp.cX, Hp.aO, List.cons_append, List.nil_append] using this
theorem fX {A : Option Addr} {n c : Nat} {o : Int} {ws : List Int} {L1 L2 : List HP} (h : Hp R L M) (b : Nat) [p : jx b L [.int .i64 o, .slice A n c] 238 L1] [p1 : b9 A L1 Int bN 3 c ws L2] (e : n = ws.length := by first | rfl | simp) : Hp R (ax eK b ⟨o, ws⟩ :: L2) M := by
 subst e
 refine Hp.uu ?_
 simp only [eK, Hp.cX, Hp.aO, List.cons_append, List.nil_append]
 exact ⟨_, _, h.sub (.cons p.pick (.cons p1.pick .refl))⟩
theorem yB (h : Hp R L M) (k : ∀ b M', Hp R (ax eK b ⟨-1, []⟩ :: L) M' → K (.pointer (some ⟨b, 0, none⟩)) M') : aa Tryz.prog 73 #[] M K Kp := by
 refine zu ?_
 refine aj h ?_
 clear h
 intro b M h
 have h := h.cw bN 3
 exact k b M (fX h b)
theorem Dh {g : Int} (h : Hp R L M) [o : bW eK b L y L'] (hs : y.waits.length ≤ 1000000000) (k : ∀ M', Hp R (ax eK b (y.take g).1 :: L') M' → K (.bool (y.take g).2) M') :
  aa Tryz.prog 215 #[.pointer (some ⟨b, 0, none⟩), .int .i64 g] M K Kp := by
 refine qk ?_
 have h' := yA h (b := b)
 clear h
 obtain ⟨A, c, h⟩ := h'
 repeat (first|(refine aj h ?_;clear h;intro kb M h)|(refine aq h ?_;clear h;intro M h)|refine St.to h ?_|(apply Exists.intro;(repeat apply Exists.intro);refine And.intro rfl ?_)|refine au ?_|refine af ?_|refine ai ?_)
 unfold Lk.take at k
 refine eo.2 ⟨fun hn => ?_, fun hn => ?_⟩
 ·rw [if_neg hn] at k
  repeat (first|(refine aj h ?_;clear h;intro kb M h)|(refine aq h ?_;clear h;intro M h)|refine St.to h ?_|(apply Exists.intro;(repeat apply Exists.intro);refine And.intro rfl ?_)|refine au ?_|refine af ?_|refine ai ?_)
  refine h.bE zq [g] rfl rfl (by simp; omega) ?_
  clear h
  intro A' c' M h
  repeat (first|(refine aj h ?_;clear h;intro kb M h)|(refine aq h ?_;clear h;intro M h)|refine St.to h ?_|(apply Exists.intro;(repeat apply Exists.intro);refine And.intro rfl ?_)|refine au ?_|refine af ?_|refine ai ?_)
  exact k _ (fX h b).bM
 ·rw [if_pos hn] at k
  repeat (first|(refine aj h ?_;clear h;intro kb M h)|(refine aq h ?_;clear h;intro M h)|refine St.to h ?_|(apply Exists.intro;(repeat apply Exists.intro);refine And.intro rfl ?_)|refine au ?_|refine af ?_|refine ai ?_)
  exact k _ (fX h b).bM
theorem Di {g : Int} (h : Hp R L M) [o : bW eK b L y L'] (hs : y.waits.length ≤ 1000000000) (k : ∀ M', Hp R (ax eK b (y.pH g).1 :: L') M' → K (.tuple #[.int .i64 (y.pH g).2.1, .int .i64 (y.pH g).2.2]) M') :
  aa Tryz.prog 216 #[.pointer (some ⟨b, 0, none⟩), .int .i64 g] M K Kp := by
 refine ql ?_
 obtain ⟨ow, ws⟩ := y
 have h' := yA h (b := b)
 clear h
 obtain ⟨A, c, h⟩ := h'
 dsimp only at h hs
 repeat (first|(refine aj h ?_;clear h;intro kb M h)|(refine aq h ?_;clear h;intro M h)|refine St.to h ?_|(apply Exists.intro;(repeat apply Exists.intro);refine And.intro rfl ?_)|refine au ?_|refine af ?_|refine ai ?_)
 unfold Lk.pH at k
 refine bP.2 ⟨fun hn => ?_, fun hn => ?_⟩
 ·rw [if_pos (.inl hn)] at k
  exact k _ (fX h b).bM
 repeat (first|(refine aj h ?_;clear h;intro kb M h)|(refine aq h ?_;clear h;intro M h)|refine St.to h ?_|(apply Exists.intro;(repeat apply Exists.intro);refine And.intro rfl ?_)|refine au ?_|refine af ?_|refine ai ?_)
 refine eo.2 ⟨fun vg => ?_, fun vg => ?_⟩
 ·rw [if_pos (.inr vg)] at k
  exact k _ (fX h b).bM
 rw [if_neg (by rintro (h | h) <;> contradiction)] at k
 repeat (first|(refine aj h ?_;clear h;intro kb M h)|(refine aq h ?_;clear h;intro M h)|refine St.to h ?_|(apply Exists.intro;(repeat apply Exists.intro);refine And.intro rfl ?_)|refine au ?_|refine af ?_|refine ai ?_)
 refine aL.2 ⟨fun hr => ?_, fun hr => ?_⟩
 ·cases ws with
  | nil => simp at hr
  | cons w r =>
   repeat (first|(refine aj h ?_;clear h;intro kb M h)|(refine aq h ?_;clear h;intro M h)|refine St.to h ?_|(apply Exists.intro;(repeat apply Exists.intro);refine And.intro rfl ?_)|refine au ?_|refine af ?_|refine ai ?_)
   obtain ⟨q, rfl⟩ := h.bt (A := A) (by simp) (by decide)
   repeat (first|(refine aj h ?_;clear h;intro kb M h)|(refine aq h ?_;clear h;intro M h)|refine St.to h ?_|(apply Exists.intro;(repeat apply Exists.intro);refine And.intro rfl ?_)|refine au ?_|refine af ?_|refine ai ?_)
   refine br (Src.at (h.src (A := some ⟨q, 0, none⟩)) h (i := 0) (j := 0) rfl rfl (by simp [bN])) ?_
   have hcap := h.iz (some ⟨q, 0, none⟩)
   have hlen : r.length + 1 ≤ 1000000000 := by simpa using hs
   repeat (first|(refine aj h ?_;clear h;intro kb M h)|(refine aq h ?_;clear h;intro M h)|refine St.to h ?_|(apply Exists.intro;(repeat apply Exists.intro);refine And.intro rfl ?_)|refine au ?_|refine af ?_|refine ai ?_)
   simp only [Int.toNat_natCast]
   refine h.lB bN zq r ((h.src (A := some ⟨q, 0, none⟩)).drop (m := 1) hcap) (by simp) (by omega) ?_
   clear h
   intro A' c' M h
   repeat (first|(refine aj h ?_;clear h;intro kb M h)|(refine aq h ?_;clear h;intro M h)|refine St.to h ?_|(apply Exists.intro;(repeat apply Exists.intro);refine And.intro rfl ?_)|refine au ?_|refine af ?_|refine ai ?_)
   exact k _ (fX h b).bM
 ·cases ws with
  | cons v l => simp at hr
  | nil =>
   repeat (first|(refine aj h ?_;clear h;intro kb M h)|(refine aq h ?_;clear h;intro M h)|refine St.to h ?_|(apply Exists.intro;(repeat apply Exists.intro);refine And.intro rfl ?_)|refine au ?_|refine af ?_|refine ai ?_)
   exact k _ (fX h b).bM
end
structure PA where
 f : Option Addr
 fc : Nat
 c : Option Addr
 cc : Nat
 k : Option Addr
 kc : Nat
abbrev GA := Option Addr × Nat
abbrev nH (y : dD) (A : Option Addr) (c : Nat) : List Value := [.int .i64 y.st, .slice A y.fs.length c, .int .i64 y.wt.op, .int .i64 y.wt.a, .int .i64 y.wt.b, .int .i64 y.wt.c]
def eP : qH (dD × GA) := ⟨fun b x => sep [pt b (nH x.1 x.2.1 x.2.2) 182, rV x.2.1 x.2.2 x.1.fs]⟩
structure WA where
 ag : Option Addr
 cg : Nat
 gb : List Nat
 ac : Option Addr
 cc : Nat
 cb : List Nat
 al : Option Addr
 cl : Nat
 lb : List Nat
 ah : Option Addr
 ch : Nat
 ao : Option Addr
 co : Nat
 ar : Option Addr
 cr : Nat
abbrev j0 (pa : PA) (p : cf) (dr : Value) (a : WA) (x : Wd) : List Value :=
 [.slice pa.f p.funcs.length pa.fc, .slice pa.c p.oA.length pa.cc, .int .i64 p.aP, .slice pa.k p.cases.length pa.kc, .slice a.ag a.gb.length a.cg, .int .u64 x.clock,
  .slice a.ac a.cb.length a.cc, .slice a.al a.lb.length a.cl, .slice a.ah x.hl.length a.ch, .int .u64 x.kz, .slice a.ao x.out.length a.co, .int .i64 x.end_, .int .i64 x.code, .slice a.ar x.ready.length a.cr, dr]
abbrev vV (A : Option Addr) (c : Nat) (l : List Nat) : HP := ct jU 177 A c l
abbrev vW (A : Option Addr) (c : Nat) (l : List Nat) : HP := ct jU 183 A c l
abbrev vX (A : Option Addr) (c : Nat) (l : List Nat) : HP := ct jU 185 A c l
abbrev eZ (A : Option Addr) (c : Nat) (l : List bh) : HP := ct rF 205 A c l
abbrev pM (a : WA) (x : Wd) (L : List HP) : List HP :=
 vV a.ag a.cg a.gb :: vW a.ac a.cc a.cb :: aR bq a.cb x.az :: vX a.al a.cl a.lb :: aR eK a.lb x.aP :: eZ a.ah a.ch x.hl :: ry a.ao a.co x.out :: jA a.ar a.cr x.ready :: L
def dO (gg : List GA) (a : WA) (x : Wd) : Prop := a.gb.length = x.gs.length ∧ gg.length = x.gs.length ∧ a.cb.length = x.az.length ∧ a.lb.length = x.aP.length
def be (pa : PA) (p : cf) (gg : List GA) (dr : Value) : qH Wd := ⟨fun b x => exs fun a : WA =>
 sep (pt b (j0 pa p dr a x) 164 :: aR eP a.gb (x.gs.zip gg) :: fact (dO gg a x) :: pM a x [])⟩
class tj (b : Nat) (L : List HP) (pa : outParam PA) (p : outParam cf) (gg : outParam (List GA)) (dr : outParam Value) (x : outParam Wd) (L' : outParam (List HP)) : Prop where
 pick : cu L (ax (be pa p gg dr) b x) L'
instance tj.here {pa : PA} {p : cf} {gg : List GA} {dr : Value} {b : Nat} {x : Wd} {L : List HP} : tj b (ax (be pa p gg dr) b x :: L) pa p gg dr x L := ⟨.here⟩
instance (priority := low) tj.there {pa : PA} {p : cf} {gg : List GA} {dr : Value} {b : Nat} {x : Wd} {Q : HP} {L L' : List HP} [h : tj b L pa p gg dr x L'] : tj b (Q :: L) pa p gg dr x (Q :: L') := ⟨.there h.pick⟩
section
variable {R : Mem} {L L' : List HP} {M : Mem} {K : Value → Mem → Prop} {Kp : List PanicEntry → Mem → Prop} {pa : PA} {p : cf} {gg : List GA} {dr : Value} {b : Nat} {x : Wd}
theorem bU (h : Hp R L M) [o : tj b L pa p gg dr x L'] : ∃ a : WA, dO gg a x ∧ Hp R (pt b (j0 pa p dr a x) 164 :: aR eP a.gb (x.gs.zip gg) :: pM a x L') M := by
 have := h.pick o.pick
 unfold ax at this
 simp only [be, pM, Hp.cX, Hp.aO, List.cons_append, List.nil_append] at this
 obtain ⟨a, h⟩ := this
 have h2 := h.pick (P := fact (dO gg a x)) (.there (.there .here))
 exact ⟨a, (Hp.eJ.1 h2).1, (Hp.eJ.1 h2).2⟩
theorem ig {a : WA} (hl : dO gg a x) (h : Hp R (pt b (j0 pa p dr a x) 164 :: aR eP a.gb (x.gs.zip gg) :: pM a x L) M) : Hp R (ax (be pa p gg dr) b x :: L) M := by
 refine Hp.uu ?_
 simp only [be, pM, Hp.cX, Hp.aO, List.cons_append, List.nil_append]
 refine ⟨a, ?_⟩
 have h2 : Hp R (fact (dO gg a x) :: pt b (j0 pa p dr a x) 164 :: aR eP a.gb (x.gs.zip gg) :: pM a x L) M := Hp.eJ.2 ⟨hl, h⟩
 exact h2.lu (.there (.there .here))
theorem aM {a : WA} {L0 L1 L2 L3 L4 L5 L6 L7 L8 L9 : List HP} (hl : dO gg a x) (h : Hp R L M) (b : Nat)
  [p0 : jx b L (j0 pa p dr a x) 164 L0] [p1 : eC eP L0 a.gb (x.gs.zip gg) L1] [p2 : b9 a.ag L1 Nat jU 177 a.cg a.gb L2] [p3 : b9 a.ac L2 Nat jU 183 a.cc a.cb L3]
  [p4 : eC bq L3 a.cb x.az L4] [p5 : b9 a.al L4 Nat jU 185 a.cl a.lb L5] [p6 : eC eK L5 a.lb x.aP L6] [p7 : b9 a.ah L6 bh rF 205 a.ch x.hl L7] [p8 : b9 a.ao L7 Int bN 2 a.co x.out L8]
  [p9 : b9 a.ar L8 Int bN 3 a.cr x.ready L9] : Hp R (ax (be pa p gg dr) b x :: L9) M :=
 ig hl (h.sub (.cons p0.pick (.cons p1.pick (.cons p2.pick (.cons p3.pick (.cons p4.pick (.cons p5.pick (.cons p6.pick (.cons p7.pick (.cons p8.pick (.cons p9.pick .refl)))))))))))
theorem Br {α β : Type} : ∀ {l : List α} {m : List β} {i : Nat} {u : α} {v : β}, m[i]? = some v → (l.zip m).set i (u, v) = (l.set i u).zip m
 | [], _, _, _, _, _ => by simp
 | a :: l, [], i, u, v, h => by simp at h
 | a :: l, w :: m, 0, u, v, h => by simp at h; subst h; rfl
 | a :: l, w :: m, i + 1, u, v, h => by
  have := Br (l := l) (u := u) (show m[i]? = some v from by simpa using h)
  simp [this]
theorem lN {α β : Type} : ∀ {l : List α} {m : List β} {i : Nat} {u : α} {v : β}, l[i]? = some u → m[i]? = some v → (l.zip m)[i]? = some (u, v)
 | [], _, _, _, _, h, _ => by simp at h
 | a :: l, [], i, u, v, _, h => by simp at h
 | a :: l, w :: m, 0, u, v, h, g => by simp at h g; subst h; subst g; rfl
 | a :: l, w :: m, i + 1, u, v, h, g => by simpa using lN (show l[i]? = some u from by simpa using h) (show m[i]? = some v from by simpa using g)
theorem kD {c : Nat} {y : dD} {A : Option Addr} (h : Hp R L M) [o : bW eP b L (y, (A, c)) L'] : Hp R (pt b (nH y A c) 182 :: rV A c y.fs :: L') M := by
 have := h.obj eP b
 simpa only [eP, Hp.aO, List.cons_append, List.nil_append] using this
theorem kF {A : Option Addr} {n c : Nat} {st o1 o2 o3 o4 : Int} {fs : List e7} {L1 L2 : List HP} (h : Hp R L M) (b : Nat) [p : jx b L [.int .i64 st, .slice A n c, .int .i64 o1, .int .i64 o2, .int .i64 o3, .int .i64 o4] 182 L1] [p1 : b9 A L1 e7 iM 234 c fs L2]
  (e : n = fs.length := by first | rfl | simp) : Hp R (ax eP b (⟨st, fs, ⟨o1, o2, o3, o4⟩⟩, (A, c)) :: L2) M := by
 subst e
 refine Hp.uu ?_
 simp only [eP, Hp.aO, List.cons_append, List.nil_append]
 exact h.sub (.cons p.pick (.cons p1.pick .refl))
theorem ij {g : Int} (h : Hp R L M) [o : tj b L pa p gg dr x L'] (h0 : 0 ≤ g) (hg : g < x.gs.length) :
  ∃ (a : WA) (gb : Nat) (A : Option Addr) (c : Nat), dO gg a x ∧ a.gb[g.toNat]? = some gb ∧ gg[g.toNat]? = some (A, c) ∧
   Hp R (pt gb (nH (ae x g) A c) 182 :: rV A c (ae x g).fs :: pt b (j0 pa p dr a x) 164 :: jH eP a.gb (x.gs.zip gg) g.toNat :: pM a x L') M := by
 obtain ⟨a, hl, h1⟩ := bU h (b := b)
 obtain ⟨l1, l2, l3, l4⟩ := hl
 obtain ⟨gb, eL⟩ := aN (l := a.gb) (i := g.toNat) (by omega)
 obtain ⟨⟨A, c⟩, dJ⟩ := aN (l := gg) (i := g.toNat) (by omega)
 obtain ⟨y, hy⟩ := aN (l := x.gs) (i := g.toNat) (by omega)
 have e : ae x g = y := by simp [ae, hy]
 rw [e]
 have h2 := h1.cz eP eL (lN hy dJ)
 have h3 := kD (b := gb) h2
 exact ⟨a, gb, A, c, ⟨l1, l2, l3, l4⟩, eL, dJ, h3.sub bQ⟩
theorem ck {a : WA} {A : Option Addr} {c n : Nat} {g : Int} {st o1 o2 o3 o4 : Int} {fs : List e7} {L1 L2 L3 : List HP} (h : Hp R L M) (gb : Nat) (hl : dO gg a x) (eL : a.gb[g.toNat]? = some gb) (dJ : gg[g.toNat]? = some (A, c))
  [p1 : jx gb L [.int .i64 st, .slice A n c, .int .i64 o1, .int .i64 o2, .int .i64 o3, .int .i64 o4] 182 L1] [p2 : b9 A L1 e7 iM 234 c fs L2]
  [p3 : tX eP L2 a.gb (x.gs.zip gg) g.toNat L3] (e : n = fs.length := by first | rfl | simp) : Hp R (aR eP a.gb ((x.gs.set g.toNat ⟨st, fs, ⟨o1, o2, o3, o4⟩⟩).zip gg) :: L3) M := by
 have h1 := kF h gb e
 obtain ⟨l1, l2, l3, l4⟩ := hl
 have hi := (List.getElem?_eq_some_iff.1 eL).1
 have h2 := h1.cY eP gb eL (by rw [List.length_zip]; omega)
 rwa [Br dJ] at h2
end
section
variable {R : Mem} {L L' : List HP} {M : Mem} {K : Value → Mem → Prop} {Kp : List PanicEntry → Mem → Prop} {pa : PA} {p : cf} {gg : List GA} {dr : Value} {b : Nat} {x : Wd}
theorem PG {A : Option Addr} {l : List Nat} {T c q i bb : Nat} (h : Hp R L M) [r : b9 A L Nat jU T c l L'] (hq : A = some ⟨q, 0, none⟩) (hb : l[i]? = some bb) : M.ld ⟨q, 0 + i, none⟩ = some (.pointer (some ⟨bb, 0, none⟩)) := by
 subst hq
 exact Src.at (h.src (A := some ⟨q, 0, none⟩)) h (i := i) (j := 0) hb rfl (by simp [jU])
theorem sC {A : Option Addr} {l : List Nat} {T c bb i : Nat} {G : Nat → Nat → Option Addr → Prop} (h : Hp R L M) [r : b9 A L Nat jU T c l L'] (hb : l[i]? = some bb) (k : ∀ q, A = some ⟨q, 0, none⟩ → G q 0 (some ⟨bb, 0, none⟩)) :
  aD A fun k4 k5 => cj (M.ld ⟨k4, k5 + i, none⟩) fun A6 => G k4 k5 A6 := by
 obtain ⟨q, hq⟩ := h.bt (A := A) (by have := (List.getElem?_eq_some_iff.1 hb).1; omega) (by decide)
 have h2 := PG h hq hb
 subst hq
 refine bp ?_
 rw [h2]
 exact fR (k q rfl)
theorem fY {g : Int} (h : Hp R L M) [o : tj b L pa p gg dr x L'] (h0 : 0 ≤ g) (hg : g < x.gs.length) (hr : x.ready.length ≤ 1000000000)
  (k : ∀ M', Hp R (ax (be pa p gg dr) b (x.dN g) :: L') M' → K (.tuple #[]) M') : aa Tryz.prog 90 #[.pointer (some ⟨b, 0, none⟩), .int .i64 g] M K Kp := by
 refine oP ?_
 have h' := ij h (b := b) h0 hg
 clear h
 obtain ⟨a, gb, A, c, hl, eL, dJ, h⟩ := h'
 have hl' := hl
 obtain ⟨l1, l2, l3, l4⟩ := hl'
 repeat (first|(refine aj h ?_;clear h;intro kb M h)|(refine aq h ?_;clear h;intro M h)|refine St.to h ?_|(apply Exists.intro;(repeat apply Exists.intro);refine And.intro rfl ?_)|refine au ?_|refine af ?_|refine ai ?_)
 refine sC h eL fun q hq => ?_
 repeat (first|(refine aj h ?_;clear h;intro kb M h)|(refine aq h ?_;clear h;intro M h)|refine St.to h ?_|(apply Exists.intro;(repeat apply Exists.intro);refine And.intro rfl ?_)|refine au ?_|refine af ?_|refine ai ?_)
 refine h.bE zq [g] rfl rfl (by simp; omega) ?_
 clear h
 intro A' c' M h
 repeat (first|(refine aj h ?_;clear h;intro kb M h)|(refine aq h ?_;clear h;intro M h)|refine St.to h ?_|(apply Exists.intro;(repeat apply Exists.intro);refine And.intro rfl ?_)|refine au ?_|refine af ?_|refine ai ?_)
 replace h := ck h gb hl eL dJ
 exact k _ (ig (a := { a with ar := A', cr := c' }) ⟨by simpa [Wd.dN, Wd.aY] using l1, by simpa [Wd.dN, Wd.aY] using l2, l3, l4⟩ (h.sub bQ))
theorem di {y : dD} (h : 0 < y.fs.length) : y.fs[y.fs.length - 1]? = some y.top := by
 unfold dD.top
 rw [List.getD_eq_getElem?_getD, List.getElem?_eq_getElem (by omega)]; rfl
theorem cA {a : WA} {g : Int} {y : dD} (hl : dO gg a x) : dO gg a (x.aY g y) := by
 obtain ⟨l1, l2, l3, l4⟩ := hl
 exact ⟨by simpa [Wd.aY] using l1, by simpa [Wd.aY] using l2, l3, l4⟩
theorem jI {g : Int} {i : cQ} (h : Hp R L M) [o : tj b L pa p gg dr x L'] (h0 : 0 ≤ g) (hg : g < x.gs.length)
  (k : ∀ M', Hp R (ax (be pa p gg dr) b (x.block g i) :: L') M' → K (.tuple #[]) M') : aa Tryz.prog 158 #[.pointer (some ⟨b, 0, none⟩), .int .i64 g, .agg #[.int .i64 i.op, .int .i64 i.a, .int .i64 i.b, .int .i64 i.c]] M K Kp := by
 refine nm ?_
 have h' := ij h (b := b) h0 hg
 clear h
 obtain ⟨a, gb, A, c, hl, eL, dJ, h⟩ := h'
 have hl' := hl
 obtain ⟨l1, l2, l3, l4⟩ := hl'
 repeat (first|(refine aj h ?_;clear h;intro kb M h)|(refine aq h ?_;clear h;intro M h)|refine St.to h ?_|(apply Exists.intro;(repeat apply Exists.intro);refine And.intro rfl ?_)|refine au ?_|refine af ?_|refine ai ?_)
 refine sC h eL fun q hq => ?_
 repeat (first|(refine aj h ?_;clear h;intro kb M h)|(refine aq h ?_;clear h;intro M h)|refine St.to h ?_|(apply Exists.intro;(repeat apply Exists.intro);refine And.intro rfl ?_)|refine au ?_|refine af ?_|refine ai ?_)
 refine sC h eL fun q2 oB => ?_
 repeat (first|(refine aj h ?_;clear h;intro kb M h)|(refine aq h ?_;clear h;intro M h)|refine St.to h ?_|(apply Exists.intro;(repeat apply Exists.intro);refine And.intro rfl ?_)|refine au ?_|refine af ?_|refine ai ?_)
 replace h := ck h gb hl eL dJ
 exact k _ (ig (a := a) (cA hl) (h.sub bQ))
theorem rY {g kk : Int} (h : Hp R L M) [o : tj b L pa p gg dr x L'] (hg : aS x g) (hc : bn (ae x g).wt.c) (hs : x.Sm)
  (k : ∀ M', Hp R (ax (be pa p gg dr) b (x.fq g kk) :: L') M' → K (.tuple #[]) M') : aa Tryz.prog 223 #[.pointer (some ⟨b, 0, none⟩), .int .i64 g, .int .i64 kk] M K Kp := by
 refine mC ?_
 obtain ⟨h0, h1, h2, h3⟩ := hg
 obtain ⟨s1, s2, s3, s4, s5, s6, s7, s8⟩ := hs
 have h' := ij h (b := b) h0 h1
 clear h
 obtain ⟨a, gb, A, c, hl, eL, dJ, h⟩ := h'
 have hl' := hl
 obtain ⟨l1, l2, l3, l4⟩ := hl'
 repeat (first|(refine aj h ?_;clear h;intro kb M h)|(refine aq h ?_;clear h;intro M h)|refine St.to h ?_|(apply Exists.intro;(repeat apply Exists.intro);refine And.intro rfl ?_)|refine au ?_|refine af ?_|refine ai ?_)
 refine sC h eL fun q hq => ?_
 repeat (first|(refine aj h ?_;clear h;intro kb M h)|(refine aq h ?_;clear h;intro M h)|refine St.to h ?_|(apply Exists.intro;(repeat apply Exists.intro);refine And.intro rfl ?_)|refine au ?_|refine af ?_|refine ai ?_)
 refine sC h eL fun q2 oB => ?_
 repeat (first|(refine aj h ?_;clear h;intro kb M h)|(refine aq h ?_;clear h;intro M h)|refine St.to h ?_|(apply Exists.intro;(repeat apply Exists.intro);refine And.intro rfl ?_)|refine au ?_|refine af ?_|refine ai ?_)
 obtain ⟨bs, rfl⟩ := h.bt (A := A) h2 (by decide)
 refine kC h2 (by omega) ?_
 repeat (first|(refine aj h ?_;clear h;intro kb M h)|(refine aq h ?_;clear h;intro M h)|refine St.to h ?_|(apply Exists.intro;(repeat apply Exists.intro);refine And.intro rfl ?_)|refine au ?_|refine af ?_|refine ai ?_)
 refine ⟨hc.1, hc.2, th h (di h2) hc rfl ?_⟩
 clear h
 intro M h
 repeat (first|(refine aj h ?_;clear h;intro kb M h)|(refine aq h ?_;clear h;intro M h)|refine St.to h ?_|(apply Exists.intro;(repeat apply Exists.intro);refine And.intro rfl ?_)|refine au ?_|refine af ?_|refine ai ?_)
 refine Bd h (Src.row (A := a.ac)) rfl (by omega) l3 (fun c hc => (s1 c hc).mono (by omega)) ?_
 clear h
 intro M h
 refine ⟨rfl, ?_⟩
 replace h := ck h gb hl eL dJ
 exact k _ (ig (a := a) (x := x.fq g kk) ⟨by simpa [Wd.fq, Wd.leave, Wd.aX, Wd.aY] using l1, by simpa [Wd.fq, Wd.leave, Wd.aX, Wd.aY] using l2, by simpa [Wd.fq, Wd.leave, Wd.aX, Wd.aY] using l3, l4⟩ (h.sub bQ))
end
theorem gF {x : Wd} {g q v : Int} (h : aS x g) : ae (x.aX g q v) g = (ae x g).bS ((ae x g).top.set q v) := fG h.1 h.2.1
theorem gG {x : Wd} {g q v : Int} (h : aS x g) : aS (x.aX g q v) g := by
 obtain ⟨h0, h1, h2, h3⟩ := h
 refine ⟨h0, by simpa [Wd.aX, Wd.aY] using h1, ?_, ?_⟩ <;> rw [gF ⟨h0, h1, h2, h3⟩] <;> simpa [dD.bS]
theorem F7 {x : Wd} {g q v : Int} (h : aS x g) : (ae (x.aX g q v) g).wt = (ae x g).wt := by rw [gF h]; rfl
theorem rZ {x : Wd} {g k : Int} (h : aS x g) : aS (x.fq g k) g := gG h
theorem Ep {x : Wd} {g : Int} {y : dD} (h : x.Sm) : (x.aY g y).Sm := by
 obtain ⟨s1, s2, s3, s4⟩ := h
 exact ⟨s1, s2, by simpa [Wd.aY] using s3, s4⟩
theorem cD {z : Int} (h0 : 0 ≤ z) (h : z < 9223372036854775808) : IntKind.wrap .i64 z = z := by
 obtain ⟨n, rfl⟩ := Int.eq_ofNat_of_zero_le h0
 exact kj (by omega)
section
variable {R : Mem} {L L' : List HP} {M : Mem} {K : Value → Mem → Prop} {Kp : List PanicEntry → Mem → Prop} {pa : PA} {p : cf} {gg : List GA} {dr : Value} {b : Nat} {x : Wd}
theorem PI {A : Option Addr} {c : Nat} {l : List oz} {q : Int} {G : Nat → Nat → Int → Prop} (h : Hp R L M) (hp : RS vF R A c l) (h0 : 0 ≤ q) (hq : q < l.length) (k : ∀ b o, G b o (l.getD q.toNat ⟨0, 0, 0⟩).bL) :
  aD A fun b o => aG (M.ld ⟨b, ((o + q.toNat * 3) + 2), none⟩) .i64 fun n => G b o n := by
 obtain ⟨bb, o, rfl⟩ := hp.some (by omega) (by decide)
 obtain ⟨y, hy⟩ := aN (l := l) (i := q.toNat) (by omega)
 have e : l.getD q.toNat ⟨0, 0, 0⟩ = y := by simp [hy]
 refine bp ?_
 refine br (Src.at (hp.src (L := L)) h (i := q.toNat) (j := 2) hy rfl (by show _ = o + (q.toNat * 3 + 2); omega)) ?_
 have := k bb o
 rwa [e] at this
theorem nI {v : Wt} {some : Int} (h : Hp R L M) [o : tj b L pa p gg dr x L'] (hp : RS vF R pa.k pa.kc p.cases) (hv : nj p x v) (hs : x.Sm)
  (k : ∀ M', Hp R (ax (be pa p gg dr) b (x.received p v some) :: L') M' → K (.tuple #[]) M') : aa Tryz.prog 208 #[.pointer (Option.some ⟨b, 0, none⟩), .agg #[.int .i64 v.g, .int .i64 v.cs, .int .i64 v.v], .int .i64 some] M K Kp := by
 refine kB ?_
 obtain ⟨hg, hv⟩ := hv
 have zH := hg
 obtain ⟨h0, h1, h2, h3⟩ := zH
 have hs' := hs
 obtain ⟨s1, s2, s3, s4, s5, s6, s7, s8⟩ := hs'
 have h' := ij h (b := b) h0 h1
 clear h
 obtain ⟨a, gb, A, c, hl, eL, dJ, h⟩ := h'
 have hl' := hl
 obtain ⟨l1, l2, l3, l4⟩ := hl'
 repeat (first|(refine aj h ?_;clear h;intro kb M h)|(refine aq h ?_;clear h;intro M h)|refine St.to h ?_|(apply Exists.intro;(repeat apply Exists.intro);refine And.intro rfl ?_)|refine au ?_|refine af ?_|refine ai ?_)
 refine sC h eL fun q hq => ?_
 repeat (first|(refine aj h ?_;clear h;intro kb M h)|(refine aq h ?_;clear h;intro M h)|refine St.to h ?_|(apply Exists.intro;(repeat apply Exists.intro);refine And.intro rfl ?_)|refine au ?_|refine af ?_|refine ai ?_)
 refine sC h eL fun q2 oB => ?_
 repeat (first|(refine aj h ?_;clear h;intro kb M h)|(refine aq h ?_;clear h;intro M h)|refine St.to h ?_|(apply Exists.intro;(repeat apply Exists.intro);refine And.intro rfl ?_)|refine au ?_|refine af ?_|refine ai ?_)
 obtain ⟨bs, rfl⟩ := h.bt (A := A) h2 (by decide)
 refine kC h2 (by omega) ?_
 repeat (first|(refine aj h ?_;clear h;intro kb M h)|(refine aq h ?_;clear h;intro M h)|refine St.to h ?_|(apply Exists.intro;(repeat apply Exists.intro);refine And.intro rfl ?_)|refine au ?_|refine af ?_|refine ai ?_)
 refine ⟨PG h oB eL, ?_⟩
 repeat (first|(refine aj h ?_;clear h;intro kb M h)|(refine aq h ?_;clear h;intro M h)|refine St.to h ?_|(apply Exists.intro;(repeat apply Exists.intro);refine And.intro rfl ?_)|refine au ?_|refine af ?_|refine ai ?_)
 refine ⟨PG h oB eL, ?_⟩
 repeat (first|(refine aj h ?_;clear h;intro kb M h)|(refine aq h ?_;clear h;intro M h)|refine St.to h ?_|(apply Exists.intro;(repeat apply Exists.intro);refine And.intro rfl ?_)|refine au ?_|refine af ?_|refine ai ?_)
 unfold Wd.received at k
 refine bP.2 ⟨fun Er => ?_, fun Er => ?_⟩
 ·simp only [Er, if_true] at k hv
  obtain ⟨v1, v2, v3, v4, v5⟩ := hv
  repeat (first|(refine aj h ?_;clear h;intro kb M h)|(refine aq h ?_;clear h;intro M h)|refine St.to h ?_|(apply Exists.intro;(repeat apply Exists.intro);refine And.intro rfl ?_)|refine au ?_|refine af ?_|refine ai ?_)
  rw [cD v1 (by omega)]
  refine ⟨v1, by omega, PI (q := (ae x v.g).wt.a + v.cs) h hp v1 v2 fun _ _ => ?_⟩
  repeat (first|(refine aj h ?_;clear h;intro kb M h)|(refine aq h ?_;clear h;intro M h)|refine St.to h ?_|(apply Exists.intro;(repeat apply Exists.intro);refine And.intro rfl ?_)|refine au ?_|refine af ?_|refine ai ?_)
  refine ⟨v4.1, v4.2, th h (di h2) v4 rfl ?_⟩
  clear h
  intro M h
  repeat (first|(refine aj h ?_;clear h;intro kb M h)|(refine aq h ?_;clear h;intro M h)|refine St.to h ?_|(apply Exists.intro;(repeat apply Exists.intro);refine And.intro rfl ?_)|refine au ?_|refine af ?_|refine ai ?_)
  replace h := ck h gb hl eL dJ
  replace h := aM (a := a) (p := p) (pa := pa) (dr := dr) (gg := gg) (x := x.aX v.g (ni p ((ae x v.g).wt.a + v.cs)).bL v.v) (cA hl) h b
  have Zm := v5
  rw [← F7 (q := (ni p ((ae x v.g).wt.a + v.cs)).bL) (v := v.v) hg] at Zm
  refine rY (b := b) h (gG hg) Zm (Ep hs) ?_
  clear h
  intro M h
  repeat (first|(refine aj h ?_;clear h;intro kb M h)|(refine aq h ?_;clear h;intro M h)|refine St.to h ?_|(apply Exists.intro;(repeat apply Exists.intro);refine And.intro rfl ?_)|refine au ?_|refine af ?_|refine ai ?_)
  have F6 := rZ (k := v.cs) (gG (q := (ni p ((ae x v.g).wt.a + v.cs)).bL) (v := v.v) hg)
  refine fY (b := b) h F6.1 F6.2.1 (by show x.ready.length ≤ _; omega) ?_
  clear h
  intro M h
  exact ⟨rfl, k _ h.bM⟩
 ·simp only [Er, if_false] at k hv
  obtain ⟨v1, v2⟩ := hv
  repeat (first|(refine aj h ?_;clear h;intro kb M h)|(refine aq h ?_;clear h;intro M h)|refine St.to h ?_|(apply Exists.intro;(repeat apply Exists.intro);refine And.intro rfl ?_)|refine au ?_|refine af ?_|refine ai ?_)
  refine ⟨v1.1, v1.2, ?_⟩
  repeat (first|(refine aj h ?_;clear h;intro kb M h)|(refine aq h ?_;clear h;intro M h)|refine St.to h ?_|(apply Exists.intro;(repeat apply Exists.intro);refine And.intro rfl ?_)|refine au ?_|refine af ?_|refine ai ?_)
  refine th h (di h2) v1 rfl ?_
  clear h
  intro M h
  repeat (first|(refine aj h ?_;clear h;intro kb M h)|(refine aq h ?_;clear h;intro M h)|refine St.to h ?_|(apply Exists.intro;(repeat apply Exists.intro);refine And.intro rfl ?_)|refine au ?_|refine af ?_|refine ai ?_)
  have Jf : ((ae x v.g).fs.set ((ae x v.g).fs.length - 1) ((ae x v.g).top.set (ae x v.g).wt.b v.v))[(ae x v.g).fs.length - 1]? = Option.some ((ae x v.g).top.set (ae x v.g).wt.b v.v) := by
   rw [List.getElem?_set_self]; omega
  refine ⟨v2.1, v2.2, th h Jf v2 rfl ?_⟩
  clear h
  intro M h
  rw [gE] at h
  repeat (first|(refine aj h ?_;clear h;intro kb M h)|(refine aq h ?_;clear h;intro M h)|refine St.to h ?_|(apply Exists.intro;(repeat apply Exists.intro);refine And.intro rfl ?_)|refine au ?_|refine af ?_|refine ai ?_)
  replace h := ck h gb hl eL dJ (by simp)
  have ex : (x.aX v.g (ae x v.g).wt.b v.v).aX v.g (ae x v.g).wt.c some = x.aY v.g ((ae x v.g).bS (((ae x v.g).top.set (ae x v.g).wt.b v.v).set (ae x v.g).wt.c some)) := by
   have e1 := gF (q := (ae x v.g).wt.b) (v := v.v) hg
   have e2 : ∀ (z : Wd) (q u : Int), z.aX v.g q u = z.aY v.g ((ae z v.g).bS ((ae z v.g).top.set q u)) := fun _ _ _ => rfl
   rw [e2 (x.aX v.g (ae x v.g).wt.b v.v), e1]
   have e3 : ((ae x v.g).bS ((ae x v.g).top.set (ae x v.g).wt.b v.v)).top = (ae x v.g).top.set (ae x v.g).wt.b v.v := by
    unfold dD.top dD.bS
    dsimp only
    rw [List.length_set, List.getD_eq_getElem?_getD, List.getElem?_set_self (by omega)]; rfl
   rw [e3]
   simp [Wd.aX, Wd.aY, dD.bS]
  rw [ex] at k
  replace h := aM (a := a) (p := p) (pa := pa) (dr := dr) (gg := gg) (x := x.aY v.g ((ae x v.g).bS (((ae x v.g).top.set (ae x v.g).wt.b v.v).set (ae x v.g).wt.c some))) (cA hl) h b
  refine fY (b := b) h h0 (by simpa [Wd.aY] using h1) (by show x.ready.length ≤ _; omega) ?_
  clear h
  intro M h
  exact ⟨rfl, k _ h.bM⟩
theorem Dj {v : Wt} (h : Hp R L M) [o : tj b L pa p gg dr x L'] (hv : tY x v) (hs : x.Sm)
  (k : ∀ M', Hp R (ax (be pa p gg dr) b (x.sent v) :: L') M' → K (.tuple #[]) M') : aa Tryz.prog 210 #[.pointer (some ⟨b, 0, none⟩), .agg #[.int .i64 v.g, .int .i64 v.cs, .int .i64 v.v]] M K Kp := by
 refine pg ?_
 obtain ⟨hg, hv⟩ := hv
 have zH := hg
 obtain ⟨h0, h1, h2, h3⟩ := zH
 have hs' := hs
 obtain ⟨s1, s2, s3, s4, s5, s6, s7, s8⟩ := hs'
 have h' := ij h (b := b) h0 h1
 clear h
 obtain ⟨a, gb, A, c, hl, eL, dJ, h⟩ := h'
 have hl' := hl
 obtain ⟨l1, l2, l3, l4⟩ := hl'
 repeat (first|(refine aj h ?_;clear h;intro kb M h)|(refine aq h ?_;clear h;intro M h)|refine St.to h ?_|(apply Exists.intro;(repeat apply Exists.intro);refine And.intro rfl ?_)|refine au ?_|refine af ?_|refine ai ?_)
 refine sC h eL fun q hq => ?_
 repeat (first|(refine aj h ?_;clear h;intro kb M h)|(refine aq h ?_;clear h;intro M h)|refine St.to h ?_|(apply Exists.intro;(repeat apply Exists.intro);refine And.intro rfl ?_)|refine au ?_|refine af ?_|refine ai ?_)
 unfold Wd.sent at k
 have ex : x.aY v.g (ae x v.g) = x := by
  obtain ⟨y, hy⟩ := aN (l := x.gs) (i := v.g.toNat) (by omega)
  have e : ae x v.g = y := by simp [ae, hy]
  rw [e]
  obtain ⟨hi, rfl⟩ := List.getElem?_eq_some_iff.1 hy
  simp [Wd.aY]
 refine bP.2 ⟨fun Er => ?_, fun Er => ?_⟩
 ·simp only [Er, if_true] at k hv
  repeat (first|(refine aj h ?_;clear h;intro kb M h)|(refine aq h ?_;clear h;intro M h)|refine St.to h ?_|(apply Exists.intro;(repeat apply Exists.intro);refine And.intro rfl ?_)|refine au ?_|refine af ?_|refine ai ?_)
  replace h := ck h gb hl eL dJ
  replace h := aM (a := a) (p := p) (pa := pa) (dr := dr) (gg := gg) (x := x.aY v.g (ae x v.g)) (cA hl) h b
  rw [ex] at h
  refine rY (b := b) (x := x) h hg (hv trivial) hs ?_
  clear h
  intro M h
  repeat (first|(refine aj h ?_;clear h;intro kb M h)|(refine aq h ?_;clear h;intro M h)|refine St.to h ?_|(apply Exists.intro;(repeat apply Exists.intro);refine And.intro rfl ?_)|refine au ?_|refine af ?_|refine ai ?_)
  have F6 := rZ (k := v.cs) hg
  refine fY (b := b) h F6.1 F6.2.1 (by show x.ready.length ≤ _; omega) ?_
  clear h
  intro M h
  exact ⟨rfl, k _ h.bM⟩
 ·simp only [Er, if_false] at k
  repeat (first|(refine aj h ?_;clear h;intro kb M h)|(refine aq h ?_;clear h;intro M h)|refine St.to h ?_|(apply Exists.intro;(repeat apply Exists.intro);refine And.intro rfl ?_)|refine au ?_|refine af ?_|refine ai ?_)
  replace h := ck h gb hl eL dJ
  replace h := aM (a := a) (p := p) (pa := pa) (dr := dr) (gg := gg) (x := x.aY v.g (ae x v.g)) (cA hl) h b
  rw [ex] at h
  refine fY (b := b) (x := x) h h0 h1 (by omega) ?_
  clear h
  intro M h
  exact ⟨rfl, k _ h.bM⟩
end
def r5 (x : Wd) (k : Int) : Prop := 0 ≤ k ∧ k < x.az.length
instance (x : Wd) (k : Int) : Decidable (r5 x k) := by unfold r5; infer_instance
def l9 (p : cf) (x : Wd) (k v : Int) : Prop := r5 x k ∧ (((cO x.az k).send v).2.2.1 = true → nj p x ((cO x.az k).send v).2.1) ∧ ((cO x.az k).send v).1.Small 1000000
instance (p : cf) (x : Wd) (k v : Int) : Decidable (l9 p x k v) := by unfold l9; infer_instance
def r6 (x : Wd) (k : Int) : Prop := r5 x k ∧ ((cO x.az k).recv.2.2.2.2.1 = true → tY x (cO x.az k).recv.2.2.2.1) ∧ (cO x.az k).recv.1.Small 1000000
instance (x : Wd) (k : Int) : Decidable (r6 x k) := by unfold r6; infer_instance
theorem Bs {x : Wd} {k : Int} {c : aK} (h : x.Sm) (hc : c.Small 1000000) : (x.bT k c).Sm := by
 obtain ⟨s1, s2, s3⟩ := h
 refine ⟨fun d hd => ?_, by simpa [Wd.bT] using s2, s3⟩
 rcases mem_set hd with h | rfl
 ·exact s1 d h
 ·exact hc
section
variable {R : Mem} {L L' : List HP} {M : Mem} {K : Value → Mem → Prop} {Kp : List PanicEntry → Mem → Prop} {pa : PA} {p : cf} {gg : List GA} {dr : Value} {b : Nat} {x : Wd}
theorem oC {a : WA} {k : Int} {c : aK} (hl : dO gg a x) : dO gg a (x.bT k c) := by
 obtain ⟨l1, l2, l3, l4⟩ := hl
 exact ⟨l1, l2, by simpa [Wd.bT] using l3, l4⟩
theorem Jk {a : WA} {k : Int} (h : Hp R L M) [q : eC bq L a.cb x.az L'] (hl : dO gg a x) (hk : r5 x k) : ∃ cb, a.cb[k.toNat]? = some cb ∧ x.az[k.toNat]? = some (cO x.az k) ∧ Hp R (ax bq cb (cO x.az k) :: jH bq a.cb x.az k.toNat :: L') M := by
 obtain ⟨l1, l2, l3, l4⟩ := hl
 obtain ⟨k0, k1⟩ := hk
 obtain ⟨cb, hcb⟩ := aN (l := a.cb) (i := k.toNat) (by omega)
 obtain ⟨y, hy⟩ := aN (l := x.az) (i := k.toNat) (by omega)
 have e : cO x.az k = y := by simp [cO, hy]
 rw [e]
 exact ⟨cb, hcb, hy, h.cz bq hcb hy⟩
theorem yC {k v : Int} (h : Hp R L M) [o : tj b L pa p gg dr x L'] (hp : RS vF R pa.k pa.kc p.cases) (hk : l9 p x k v) (hs : x.Sm)
  (k1 : ∀ y ok M', x.put p k v = .on (y, ok) → Hp R (ax (be pa p gg dr) b y :: L') M' → K (.bool ok) M')
  (k2 : ∀ y n M', x.put p k v = .dy n y → Hp R (ax (be pa p gg dr) b y :: L') M' → Kp [{ v := .iface 256 (.int .i64 n), recovered := false }] M') :
  aa Tryz.prog 159 #[.pointer (some ⟨b, 0, none⟩), .int .i64 k, .int .i64 v] M K Kp := by
 refine qe ?_
 obtain ⟨hc, hr, Ek⟩ := hk
 have hs' := hs
 obtain ⟨s1, s2, s3, s4, s5, s6, s7, s8⟩ := hs'
 have h' := bU h (b := b)
 clear h
 obtain ⟨a, hl, h⟩ := h'
 have hl' := hl
 obtain ⟨l1, l2, l3, l4⟩ := hl'
 have Ce := hc
 obtain ⟨c0, c1⟩ := Ce
 have h' := Jk h hl hc
 clear h
 obtain ⟨cb, hcb, xk, h⟩ := h'
 repeat (first|(refine aj h ?_;clear h;intro kb M h)|(refine aq h ?_;clear h;intro M h)|refine St.to h ?_|(apply Exists.intro;(repeat apply Exists.intro);refine And.intro rfl ?_)|refine au ?_|refine af ?_|refine ai ?_)
 refine sC h hcb fun q hq => ?_
 have hsc : (cO x.az k).Small 1000000 := s1 _ (rE c0 c1)
 refine CR h (hsc.mono (by omega)) ?_
 clear h
 intro M h
 replace h := h.cY bq cb hcb (by omega)
 unfold Wd.put at k1 k2
 dsimp only at k1 k2
 generalize (cO x.az k).send v = s at h k1 k2 hr Ek
 obtain ⟨c', w, ok, e⟩ := s
 dsimp only [MT] at h k1 k2 hr Ek ⊢
 refine ⟨w.g, w.cs, w.v, ok, e, rfl, ?_⟩
 repeat (first|(refine aj h ?_;clear h;intro kb M h)|(refine aq h ?_;clear h;intro M h)|refine St.to h ?_|(apply Exists.intro;(repeat apply Exists.intro);refine And.intro rfl ?_)|refine au ?_|refine af ?_|refine ai ?_)
 refine bP.2 ⟨fun Yg => ?_, fun Yg => ?_⟩
 ·rw [if_pos Yg] at k2
  replace h := aM (a := a) (p := p) (pa := pa) (dr := dr) (gg := gg) (x := x.bT k c') (oC hl) h b
  exact k2 _ _ _ rfl h.bM
 ·rw [if_neg Yg] at k1
  replace h := aM (a := a) (p := p) (pa := pa) (dr := dr) (gg := gg) (x := x.bT k c') (oC hl) h b
  refine fF.2 ⟨fun ht => ?_, fun ht => ?_⟩
  ·subst ht
   simp only [if_true] at k1
   repeat (first|(refine aj h ?_;clear h;intro kb M h)|(refine aq h ?_;clear h;intro M h)|refine St.to h ?_|(apply Exists.intro;(repeat apply Exists.intro);refine And.intro rfl ?_)|refine au ?_|refine af ?_|refine ai ?_)
   refine nI (b := b) (v := w) h hp (show nj p (x.bT k c') w from hr rfl) (Bs hs Ek) ?_
   clear h
   intro M h
   exact ⟨rfl, k1 _ _ _ rfl h.bM⟩
  ·subst ht
   simp only [Bool.false_eq_true, if_false] at k1
   exact k1 _ _ _ rfl h.bM
theorem yD {k : Int} (h : Hp R L M) [o : tj b L pa p gg dr x L'] (hk : r6 x k) (hs : x.Sm)
  (k1 : ∀ M', Hp R (ax (be pa p gg dr) b (x.get k).1 :: L') M' → K (.tuple #[.int .i64 (x.get k).2.1, .int .i64 (x.get k).2.2.1, .bool (x.get k).2.2.2]) M') :
  aa Tryz.prog 160 #[.pointer (some ⟨b, 0, none⟩), .int .i64 k] M K Kp := by
 refine qf ?_
 obtain ⟨hc, hr, Ek⟩ := hk
 have hs' := hs
 obtain ⟨s1, s2, s3, s4, s5, s6, s7, s8⟩ := hs'
 have h' := bU h (b := b)
 clear h
 obtain ⟨a, hl, h⟩ := h'
 have hl' := hl
 obtain ⟨l1, l2, l3, l4⟩ := hl'
 have Ce := hc
 obtain ⟨c0, c1⟩ := Ce
 have h' := Jk h hl hc
 clear h
 obtain ⟨cb, hcb, xk, h⟩ := h'
 repeat (first|(refine aj h ?_;clear h;intro kb M h)|(refine aq h ?_;clear h;intro M h)|refine St.to h ?_|(apply Exists.intro;(repeat apply Exists.intro);refine And.intro rfl ?_)|refine au ?_|refine af ?_|refine ai ?_)
 refine sC h hcb fun q hq => ?_
 have hsc : (cO x.az k).Small 1000000 := s1 _ (rE c0 c1)
 refine CS h (hsc.mono (by omega)) ?_
 clear h
 intro M h
 replace h := h.cY bq cb hcb (by omega)
 unfold Wd.get at k1
 dsimp only at k1
 generalize (cO x.az k).recv = s at h k1 hr Ek
 obtain ⟨c', v, some, w, Es, e⟩ := s
 dsimp only [MU] at h k1 hr Ek ⊢
 refine ⟨v, some, w.g, w.cs, w.v, Es, e, rfl, ?_⟩
 repeat (first|(refine aj h ?_;clear h;intro kb M h)|(refine aq h ?_;clear h;intro M h)|refine St.to h ?_|(apply Exists.intro;(repeat apply Exists.intro);refine And.intro rfl ?_)|refine au ?_|refine af ?_|refine ai ?_)
 replace h := aM (a := a) (p := p) (pa := pa) (dr := dr) (gg := gg) (x := x.bT k c') (oC hl) h b
 refine fF.2 ⟨fun ht => ?_, fun ht => ?_⟩
 ·subst ht
  simp only [if_true] at k1
  repeat (first|(refine aj h ?_;clear h;intro kb M h)|(refine aq h ?_;clear h;intro M h)|refine St.to h ?_|(apply Exists.intro;(repeat apply Exists.intro);refine And.intro rfl ?_)|refine au ?_|refine af ?_|refine ai ?_)
  refine Dj (b := b) (v := w) h (show tY (x.bT k c') w from hr rfl) (Bs hs Ek) ?_
  clear h
  intro M h
  repeat (first|(refine aj h ?_;clear h;intro kb M h)|(refine aq h ?_;clear h;intro M h)|refine St.to h ?_|(apply Exists.intro;(repeat apply Exists.intro);refine And.intro rfl ?_)|refine au ?_|refine af ?_|refine ai ?_)
  refine fF.2 ⟨fun hb => ?_, fun hb => ?_⟩
  ·subst hb
   repeat (first|(refine aj h ?_;clear h;intro kb M h)|(refine aq h ?_;clear h;intro M h)|refine St.to h ?_|(apply Exists.intro;(repeat apply Exists.intro);refine And.intro rfl ?_)|refine au ?_|refine af ?_|refine ai ?_)
   exact k1 _ h.bM
  ·subst hb
   exact k1 _ h.bM
 ·subst ht
  simp only [Bool.false_eq_true, if_false] at k1
  repeat (first|(refine aj h ?_;clear h;intro kb M h)|(refine aq h ?_;clear h;intro M h)|refine St.to h ?_|(apply Exists.intro;(repeat apply Exists.intro);refine And.intro rfl ?_)|refine au ?_|refine af ?_|refine ai ?_)
  refine fF.2 ⟨fun hb => ?_, fun hb => ?_⟩
  ·subst hb
   repeat (first|(refine aj h ?_;clear h;intro kb M h)|(refine aq h ?_;clear h;intro M h)|refine St.to h ?_|(apply Exists.intro;(repeat apply Exists.intro);refine And.intro rfl ?_)|refine au ?_|refine af ?_|refine ai ?_)
   exact k1 _ h.bM
  ·subst hb
   exact k1 _ h.bM
end
end Go.Proofs
namespace Go.Proofs
open Go.AF
def aV (x : Wd) (g q : Int) : Int := (ae x g).top.bL q
def Wd.Et (x : Wd) (k g v : Int) : Wd := x.bT k { cO x.az k with snd := (cO x.az k).snd ++ [⟨g, 0, v⟩] }
def Wd.Eu (x : Wd) (k g : Int) : Wd := x.bT k { cO x.az k with dI := (cO x.az k).dI ++ [⟨g, 0, 0⟩] }
def Wd.send (p : cf) (x : Wd) (g : Int) (i : cQ) : Out Wd := match x.put p i.a (aV x g i.b) with
 | .dy n y => .dy n y
 | .cG l y => .cG l y
 | .on (y, true) => .on y
 | .on (y, false) => .on ((y.Et i.a g (aV y g i.b)).block g i)
def Wd.recv (x : Wd) (g : Int) (i : cQ) : Wd :=
 if (x.get i.a).2.2.2 then ((x.get i.a).1.aX g i.b (x.get i.a).2.1).aX g i.c (x.get i.a).2.2.1
 else ((x.get i.a).1.Eu i.a g).block g i
def cR (p : cf) (x : Wd) (v : Wt) : Wd := if (ae x v.g).st = 2 then x.received p { v with v := 0 } 0 else x
def Wd.shut (p : cf) (x : Wd) (i : cQ) : Out Wd :=
 let s := (cO x.az i.a).close
 let y := x.bT i.a s.1
 if s.2.2.2 ≠ 0 then .dy (-2) y else if 0 < s.2.2.1.length then .dy (-1) y else .on (s.2.1.foldl (cR p) y)
def tp (p : cf) (x : Wd) : List Wt → Prop
 | [] => True
 | v :: l => x.Sm ∧ 0 ≤ v.g ∧ v.g < x.gs.length ∧ ((ae x v.g).st = 2 → nj p x { v with v := 0 }) ∧ tp p (cR p x v) l
instance Dk (p : cf) : ∀ (l : List Wt) (x : Wd), Decidable (tp p x l)
 | [], _ => isTrue trivial
 | v :: l, x => by
  have := Dk p l (cR p x v)
  unfold tp; infer_instance
theorem yE {p : cf} : ∀ {l : List Wt} {x : Wd} {i : Nat} {v : Wt}, tp p x l → l[i]? = some v →
  let y := (l.take i).foldl (cR p) x
  y.Sm ∧ 0 ≤ v.g ∧ v.g < y.gs.length ∧ ((ae y v.g).st = 2 → nj p y { v with v := 0 })
 | [], _, _, _, _, h => by simp at h
 | w :: l, x, 0, v, h, hv => by simp at hv; subst hv; exact ⟨h.1, h.2.1, h.2.2.1, h.2.2.2.1⟩
 | w :: l, x, i + 1, v, h, hv => yE (l := l) h.2.2.2.2 (by simpa using hv)
def Wd.emit (x : Wd) (g : Int) (i : cQ) : Out Wd := if x.out.length ≥ 1000 then .dy (-6) x else .on { x with out := x.out ++ [aV x g i.a] }
def Wd.spawn (x : Wd) (g : Int) (i : cQ) : Out Wd := if x.gs.length ≥ 100 then .dy (-5) x else
 .on ((Wd.dN { x with gs := x.gs ++ [⟨0, [e7.begin i.a (aV x g i.b)], .zero⟩] } (x.gs.length : Int)).aX g i.c (x.gs.length : Int))
def Wd.call (x : Wd) (g : Int) (i : cQ) : Out Wd := if (ae x g).fs.length ≥ 16 then .dy (-4) x else
 .on (x.aY g { ae x g with fs := (ae x g).fs ++ [⟨i.a, 0, [aV x g i.b, 0, 0, 0, 0, 0, 0, 0], i.c⟩] })
def dD.back (y : dD) (v : Int) : dD := { y with fs := (y.fs.take (y.fs.length - 1)).set (y.fs.length - 2) ((y.fs.getD (y.fs.length - 2) ⟨0, 0, [], 0⟩).set y.top.eE v) }
def Wd.back (x : Wd) (g : Int) (i : cQ) : Wd := if 2 ≤ (ae x g).fs.length then x.aY g ((ae x g).back (aV x g i.a))
 else if g = 0 then { x.aY g { ae x g with st := 4 } with end_ := 1 } else x.aY g { ae x g with st := 4 }
end Go.Proofs
namespace Go.Proofs
open Go.AF
set_option maxRecDepth 100000
set_option maxHeartbeats 1000000
attribute [local irreducible] aG c6 fD cj aC eU aD aF bg aZ bD aQ
section
variable {R : Mem} {L L' : List HP} {M : Mem} {K : Value → Mem → Prop} {Kp : List PanicEntry → Mem → Prop} {pa : PA} {p : cf} {gg : List GA} {dr : Value} {b : Nat} {x : Wd}
theorem fH {g : Int} {A : Option Addr} {c : Nat} (h : Hp R L M) [o : tj b L pa p gg dr x L'] (h0 : 0 ≤ g) (hg : g < x.gs.length) (dJ : gg[g.toNat]? = some (A, c)) :
  ∃ (a : WA) (gb : Nat), dO gg a x ∧ a.gb[g.toNat]? = some gb ∧
   Hp R (pt gb (nH (ae x g) A c) 182 :: rV A c (ae x g).fs :: pt b (j0 pa p dr a x) 164 :: jH eP a.gb (x.gs.zip gg) g.toNat :: pM a x L') M := by
 obtain ⟨a, gb, A', c', hl, eL, SM, h1⟩ := ij h (b := b) h0 hg
 rw [dJ] at SM
 cases SM
 exact ⟨a, gb, hl, eL, h1⟩
theorem Bt {g q : Int} {bs c oo : Nat} {G : Int → Prop} (h : Hp R L M) [o : tj b L pa p gg dr x L'] (hg : aS x g) (dJ : gg[g.toNat]? = some (some ⟨bs, 0, none⟩, c)) (hq : bn q) (e : oo = ((ae x g).fs.length - 1) * 11 + 2 + q.toNat)
  (k : G (aV x g q)) : aG (M.ld ⟨bs, oo, none⟩) .i64 G := by
 obtain ⟨h0, h1, h2, h3⟩ := hg
 obtain ⟨a, gb, hl, eL, h4⟩ := fH h (b := b) h0 h1 dJ
 exact rX h4 (di h2) hq e k
theorem jJ {g q v : Int} {bs c oo : Nat} {G : Mem → Prop} (h : Hp R L M) [o : tj b L pa p gg dr x L'] (hg : aS x g) (dJ : gg[g.toNat]? = some (some ⟨bs, 0, none⟩, c)) (hq : bn q) (e : oo = ((ae x g).fs.length - 1) * 11 + 2 + q.toNat)
  (k : ∀ M', Hp R (ax (be pa p gg dr) b (x.aX g q v) :: L') M' → G M') : aF M ⟨bs, oo, none⟩ (.int .i64 v) G := by
 obtain ⟨h0, h1, h2, h3⟩ := hg
 obtain ⟨a, gb, hl, eL, h4⟩ := fH h (b := b) h0 h1 dJ
 refine th h4 (di h2) hq e fun M' h5 => ?_
 replace h5 := ck h5 gb hl eL dJ (by simp)
 exact k M' (aM (a := a) (p := p) (pa := pa) (dr := dr) (gg := gg) (x := x.aX g q v) (cA hl) h5 b)
theorem Nj {G : Option Addr → Nat → Nat → Prop} (h : Hp R L M) [o : tj b L pa p gg dr x L'] (k1 : ∀ a : WA, dO gg a x → Hp R (pt b (j0 pa p dr a x) 164 :: aR eP a.gb (x.gs.zip gg) :: pM a x L') M → G a.ac a.cb.length a.cc) : aC (M.ld ⟨b, 0 + 6, none⟩) G := by
 obtain ⟨a, hl, h1⟩ := bU h (b := b)
 exact bl h1 (k1 a hl h1)
def Out.Ok {α : Type} (r : Out α) (k1 : α → Prop) (k2 : Int → Wd → Prop) (k3 : List PanicEntry → Wd → Prop := fun _ _ => True) : Prop := match r with
 | .on y => k1 y
 | .dy n y => k2 n y
 | .cG l y => k3 l y
def vY (x : Wd) (k : Int) : Prop := r5 x k ∧ (cO x.az k).Small 999999
instance (x : Wd) (k : Int) : Decidable (vY x k) := by unfold vY; infer_instance
def Dl (p : cf) (x : Wd) (g : Int) (i : cQ) : Prop := aS x g ∧ bn i.b ∧ l9 p x i.a (aV x g i.b) ∧
 match x.put p i.a (aV x g i.b) with
 | .on (y, false) => aS y g ∧ (ae y g).fs.length = (ae x g).fs.length ∧ vY y i.a
 | _ => True
theorem Dm {g : Int} {i : cQ} {bs c : Nat} (h : Hp R L M) [o : tj b L pa p gg dr x L'] (hp : RS vF R pa.k pa.kc p.cases) (dJ : gg[g.toNat]? = some (some ⟨bs, 0, none⟩, c)) (hk : Dl p x g i) (hs : x.Sm)
  (k : Out.Ok (x.send p g i) (fun y => ∀ M', Hp R (ax (be pa p gg dr) b y :: L') M' → K (.tuple #[]) M')
   (fun n y => ∀ M', Hp R (ax (be pa p gg dr) b y :: L') M' → Kp [{ v := .iface 256 (.int .i64 n), recovered := false }] M')) :
  aa Tryz.prog 165 #[.pointer (some ⟨b, 0, none⟩), .int .i64 g, .pointer (some ⟨bs, ((ae x g).fs.length - 1) * 11, none⟩), .agg #[.int .i64 i.op, .int .i64 i.a, .int .i64 i.b, .int .i64 i.c]] M K Kp := by
 refine oV ?_
 obtain ⟨hg, hb, hput, hw⟩ := hk
 repeat (first|(refine aj h ?_;clear h;intro kb M h)|(refine aq h ?_;clear h;intro M h)|refine St.to h ?_|(apply Exists.intro;(repeat apply Exists.intro);refine And.intro rfl ?_)|refine au ?_|refine af ?_|refine ai ?_)
 refine ⟨hb.1, hb.2, Bt (b := b) h hg dJ hb rfl ?_⟩
 unfold Wd.send at k
 refine yC (b := b) h hp hput hs ?_ ?_
 ·intro y ok M' e h
  rw [e] at k hw
  cases ok with
  | true =>
   dsimp only at k
   refine lX (ai ?_)
   exact k _ h.bM
  | false =>
   dsimp only at k hw
   obtain ⟨Ad, hfl, xk, Ek⟩ := hw
   refine lX (af ?_)
   refine Nj h fun a hl h => ?_
   have hl' := hl
   obtain ⟨l1, l2, l3, l4⟩ := hl'
   have Ce := xk
   obtain ⟨c0, c1⟩ := Ce
   have h' := Jk h hl xk
   clear h
   obtain ⟨cb, hcb, PJ, h⟩ := h'
   repeat (first|(refine aj h ?_;clear h;intro kb M h)|(refine aq h ?_;clear h;intro M h)|refine St.to h ?_|(apply Exists.intro;(repeat apply Exists.intro);refine And.intro rfl ?_)|refine au ?_|refine af ?_|refine ai ?_)
   refine sC h hcb fun q hq => ?_
   repeat (first|(refine aj h ?_;clear h;intro kb M h)|(refine aq h ?_;clear h;intro M h)|refine St.to h ?_|(apply Exists.intro;(repeat apply Exists.intro);refine And.intro rfl ?_)|refine au ?_|refine af ?_|refine ai ?_)
   refine ⟨hb.1, hb.2, ?_⟩
   have h2 := h.sW bq cb hcb PJ
   have h3 := aM (a := a) (p := p) (pa := pa) (dr := dr) (gg := gg) (x := y) hl h2 b
   refine Bt (b := b) h3 Ad dJ hb (by rw [hfl]) ?_
   clear h2 h3
   refine ng (w := ⟨g, 0, aV y g i.b⟩) h (Ek.mono (by omega)) ?_
   clear h
   intro M h
   replace h := h.cY bq cb hcb (by omega)
   replace h := aM (a := a) (p := p) (pa := pa) (dr := dr) (gg := gg) (x := y.Et i.a g (aV y g i.b)) (oC hl) h b
   repeat (first|(refine aj h ?_;clear h;intro kb M h)|(refine aq h ?_;clear h;intro M h)|refine St.to h ?_|(apply Exists.intro;(repeat apply Exists.intro);refine And.intro rfl ?_)|refine au ?_|refine af ?_|refine ai ?_)
   refine jI (b := b) (i := i) (x := y.Et i.a g (aV y g i.b)) h Ad.1 Ad.2.1 ?_
   clear h
   intro M h
   exact ⟨rfl, k _ h.bM⟩
 ·intro y n M' e h
  rw [e] at k
  exact k _ h.bM
def tq (x : Wd) (g : Int) (i : cQ) : Prop := aS x g ∧ bn i.b ∧ bn i.c ∧ r6 x i.a ∧ aS (x.get i.a).1 g ∧ (ae (x.get i.a).1 g).fs.length = (ae x g).fs.length ∧ ((x.get i.a).2.2.2 = false → vY (x.get i.a).1 i.a)
theorem Dp {g : Int} {i : cQ} {bs c : Nat} (h : Hp R L M) [o : tj b L pa p gg dr x L'] (dJ : gg[g.toNat]? = some (some ⟨bs, 0, none⟩, c)) (hk : tq x g i) (hs : x.Sm)
  (k : ∀ M', Hp R (ax (be pa p gg dr) b (x.recv g i) :: L') M' → K (.tuple #[]) M') :
  aa Tryz.prog 166 #[.pointer (some ⟨b, 0, none⟩), .int .i64 g, .pointer (some ⟨bs, ((ae x g).fs.length - 1) * 11, none⟩), .agg #[.int .i64 i.op, .int .i64 i.a, .int .i64 i.b, .int .i64 i.c]] M K Kp := by
 refine oW ?_
 obtain ⟨hg, hb, hc, PK, Ad, hfl, hw⟩ := hk
 repeat (first|(refine aj h ?_;clear h;intro kb M h)|(refine aq h ?_;clear h;intro M h)|refine St.to h ?_|(apply Exists.intro;(repeat apply Exists.intro);refine And.intro rfl ?_)|refine au ?_|refine af ?_|refine ai ?_)
 refine yD (b := b) h PK hs ?_
 clear h
 intro M h
 unfold Wd.recv at k
 generalize x.get i.a = r at h k Ad hfl hw
 obtain ⟨y, v, sm, ok⟩ := r
 dsimp only at h k Ad hfl hw ⊢
 refine ⟨v, sm, ok, rfl, ?_⟩
 cases ok with
 | true =>
  simp only [if_true] at k
  refine ai ?_
  repeat (first|(refine aj h ?_;clear h;intro kb M h)|(refine aq h ?_;clear h;intro M h)|refine St.to h ?_|(apply Exists.intro;(repeat apply Exists.intro);refine And.intro rfl ?_)|refine au ?_|refine af ?_|refine ai ?_)
  refine ⟨hb.1, hb.2, ?_⟩
  repeat (first|(refine aj h ?_;clear h;intro kb M h)|(refine aq h ?_;clear h;intro M h)|refine St.to h ?_|(apply Exists.intro;(repeat apply Exists.intro);refine And.intro rfl ?_)|refine au ?_|refine af ?_|refine ai ?_)
  refine jJ (b := b) h Ad dJ hb (by rw [hfl]) ?_
  clear h
  intro M h
  repeat (first|(refine aj h ?_;clear h;intro kb M h)|(refine aq h ?_;clear h;intro M h)|refine St.to h ?_|(apply Exists.intro;(repeat apply Exists.intro);refine And.intro rfl ?_)|refine au ?_|refine af ?_|refine ai ?_)
  have F6 := gG (q := i.b) (v := v) Ad
  have Cw : (ae (y.aX g i.b v) g).fs.length = (ae x g).fs.length := by rw [gF Ad]; simpa [dD.bS] using hfl
  refine ⟨hc.1, hc.2, jJ (b := b) h F6 dJ hc (by rw [Cw]) ?_⟩
  clear h
  intro M h
  repeat (first|(refine aj h ?_;clear h;intro kb M h)|(refine aq h ?_;clear h;intro M h)|refine St.to h ?_|(apply Exists.intro;(repeat apply Exists.intro);refine And.intro rfl ?_)|refine au ?_|refine af ?_|refine ai ?_)
  exact k _ h.bM
 | false =>
  simp only [Bool.false_eq_true, if_false] at k
  refine af ?_
  obtain ⟨xk, Ek⟩ := hw rfl
  refine Nj h fun a hl h => ?_
  have hl' := hl
  obtain ⟨l1, l2, l3, l4⟩ := hl'
  have Ce := xk
  obtain ⟨c0, c1⟩ := Ce
  have h' := Jk h hl xk
  clear h
  obtain ⟨cb, hcb, PJ, h⟩ := h'
  repeat (first|(refine aj h ?_;clear h;intro kb M h)|(refine aq h ?_;clear h;intro M h)|refine St.to h ?_|(apply Exists.intro;(repeat apply Exists.intro);refine And.intro rfl ?_)|refine au ?_|refine af ?_|refine ai ?_)
  refine sC h hcb fun q hq => ?_
  refine nh (w := ⟨g, 0, 0⟩) h (Ek.mono (by omega)) ?_
  clear h
  intro M h
  replace h := h.cY bq cb hcb (by omega)
  replace h := aM (a := a) (p := p) (pa := pa) (dr := dr) (gg := gg) (x := y.Eu i.a g) (oC hl) h b
  repeat (first|(refine aj h ?_;clear h;intro kb M h)|(refine aq h ?_;clear h;intro M h)|refine St.to h ?_|(apply Exists.intro;(repeat apply Exists.intro);refine And.intro rfl ?_)|refine au ?_|refine af ?_|refine ai ?_)
  refine jI (b := b) (i := i) (x := y.Eu i.a g) h Ad.1 Ad.2.1 ?_
  clear h
  intro M h
  exact ⟨rfl, k _ h.bM⟩
theorem Dq {g : Int} {i : cQ} {bs c : Nat} (h : Hp R L M) [o : tj b L pa p gg dr x L'] (dJ : gg[g.toNat]? = some (some ⟨bs, 0, none⟩, c)) (hg : aS x g) (ha : bn i.a) (hs : x.Sm)
  (k : Out.Ok (x.emit g i) (fun y => ∀ M', Hp R (ax (be pa p gg dr) b y :: L') M' → K (.tuple #[]) M')
   (fun n y => ∀ M', Hp R (ax (be pa p gg dr) b y :: L') M' → Kp [{ v := .iface 256 (.int .i64 n), recovered := false }] M')) :
  aa Tryz.prog 171 #[.pointer (some ⟨b, 0, none⟩), .int .i64 g, .pointer (some ⟨bs, ((ae x g).fs.length - 1) * 11, none⟩), .agg #[.int .i64 i.op, .int .i64 i.a, .int .i64 i.b, .int .i64 i.c]] M K Kp := by
 refine oZ ?_
 obtain ⟨s1, s2, s3, s4, s5, s6, s7, s8⟩ := hs
 have zH := hg
 obtain ⟨h0, h1, h2, h3⟩ := zH
 unfold Wd.emit at k
 refine aj h ?_
 clear h
 intro kb M h
 have h' := fH h (b := b) h0 h1 dJ
 clear h
 obtain ⟨a, gb, hl, eL, h⟩ := h'
 have hl' := hl
 obtain ⟨l1, l2, l3, l4⟩ := hl'
 have ex : x.aY g (ae x g) = x := by
  obtain ⟨y, hy⟩ := aN (l := x.gs) (i := g.toNat) (by omega)
  have e : ae x g = y := by simp [ae, hy]
  rw [e]
  obtain ⟨hi, rfl⟩ := List.getElem?_eq_some_iff.1 hy
  simp [Wd.aY]
 repeat (first|(refine aj h ?_;clear h;intro kb M h)|(refine aq h ?_;clear h;intro M h)|refine St.to h ?_|(apply Exists.intro;(repeat apply Exists.intro);refine And.intro rfl ?_)|refine au ?_|refine af ?_|refine ai ?_)
 refine aL.2 ⟨fun hn => ?_, fun hn => ?_⟩
 ·rw [if_pos (by omega)] at k
  replace h := ck h gb hl eL dJ
  have jW := cA (y := ae x g) (g := g) hl
  replace h := aM (a := a) (p := p) (pa := pa) (dr := dr) (gg := gg) (x := x.aY g (ae x g)) jW h b
  rw [ex] at h
  exact k _ h.bM
 ·rw [if_neg (by omega)] at k
  repeat (first|(refine aj h ?_;clear h;intro kb M h)|(refine aq h ?_;clear h;intro M h)|refine St.to h ?_|(apply Exists.intro;(repeat apply Exists.intro);refine And.intro rfl ?_)|refine au ?_|refine af ?_|refine ai ?_)
  refine ⟨ha.1, ha.2, rX h (di h2) ha rfl ?_⟩
  repeat (first|(refine aj h ?_;clear h;intro kb M h)|(refine aq h ?_;clear h;intro M h)|refine St.to h ?_|(apply Exists.intro;(repeat apply Exists.intro);refine And.intro rfl ?_)|refine au ?_|refine af ?_|refine ai ?_)
  refine h.bE vD [aV x g i.a] rfl rfl (by simp; omega) ?_
  clear h
  intro A' c' M h
  repeat (first|(refine aj h ?_;clear h;intro kb M h)|(refine aq h ?_;clear h;intro M h)|refine St.to h ?_|(apply Exists.intro;(repeat apply Exists.intro);refine And.intro rfl ?_)|refine au ?_|refine af ?_|refine ai ?_)
  replace h := ck h gb hl eL dJ
  have jW := cA (y := ae x g) (g := g) hl
  have h5 := aM (a := { a with ao := A', co := c' }) (p := p) (pa := pa) (dr := dr) (gg := gg) (x := { x.aY g (ae x g) with out := x.out ++ [aV x g i.a] }) jW h b
  rw [ex] at h5
  exact k _ h5.bM
end
theorem Nk : bu Tryz.prog 158 177 1 8 [.pointer none] := bu.mk' (zv := .pointer none) (by kernel_rfl) (by kernel_rfl) rfl (by omega)
section
variable {R : Mem} {L L' : List HP} {M : Mem} {K : Value → Mem → Prop} {Kp : List PanicEntry → Mem → Prop} {pa : PA} {p : cf} {gg : List GA} {dr : Value} {b : Nat} {x : Wd}
def tr (x : Wd) (fn v : Int) : Wd := { x with gs := x.gs ++ [⟨0, [e7.begin fn v], .zero⟩] }
theorem Jl {a : WA} {k bs : Nat} {A' : Option Addr} {c' : Nat} {fn v : Int} (hl : dO gg a x)
  (h : Hp R (pt b (j0 pa p dr { a with ag := A', cg := c', gb := a.gb ++ [k] } x) 164 :: vV A' c' (a.gb ++ [k]) :: pt k [.int .i64 0, .slice (some ⟨bs, 0, none⟩) 1 1, .int .i64 0, .int .i64 0, .int .i64 0, .int .i64 0] 182 ::
   rV (some ⟨bs, 0, none⟩) 1 [e7.begin fn v] :: aR eP a.gb (x.gs.zip gg) :: vW a.ac a.cc a.cb :: aR bq a.cb x.az :: vX a.al a.cl a.lb :: aR eK a.lb x.aP :: eZ a.ah a.ch x.hl :: ry a.ao a.co x.out :: jA a.ar a.cr x.ready :: L) M) :
  Hp R (ax (be pa p (gg ++ [(some ⟨bs, 0, none⟩, 1)]) dr) b (tr x fn v) :: L) M := by
 obtain ⟨l1, l2, l3, l4⟩ := hl
 have h1 := kF h k
 have h2 := h1.iT eP k (by rw [List.length_zip]; omega)
 have e : x.gs.zip gg ++ [(⟨0, [e7.begin fn v], ⟨0, 0, 0, 0⟩⟩, (some ⟨bs, 0, none⟩, 1))] = (tr x fn v).gs.zip (gg ++ [(some ⟨bs, 0, none⟩, 1)]) := by
  unfold tr
  rw [List.zip_append (by omega)]; rfl
 rw [e] at h2
 exact aM (a := { a with ag := A', cg := c', gb := a.gb ++ [k] }) (p := p) (pa := pa) (dr := dr) (gg := gg ++ [(some ⟨bs, 0, none⟩, 1)]) (x := tr x fn v) ⟨by simp [tr, l1], by simp [tr, l2], l3, l4⟩ h2 b
theorem Dr {g fn v : Int} (hg : aS x g) : ae (tr x fn v) g = ae x g := by
 obtain ⟨h0, h1, h2, h3⟩ := hg
 unfold ae tr
 dsimp only
 rw [List.getD_eq_getElem?_getD, List.getElem?_append_left (by omega), ← List.getD_eq_getElem?_getD]
theorem Bu {g : Int} {i : cQ} {bs c : Nat} (h : Hp R L M) [o : tj b L pa p gg dr x L'] (dJ : gg[g.toNat]? = some (some ⟨bs, 0, none⟩, c)) (hg : aS x g) (hb : bn i.b) (hc : bn i.c) (hs : x.Sm)
  (k : Out.Ok (x.spawn g i) (fun y => ∀ jK M', Hp R (ax (be pa p jK dr) b y :: L') M' → K (.tuple #[]) M')
   (fun n y => ∀ M', Hp R (ax (be pa p gg dr) b y :: L') M' → Kp [{ v := .iface 256 (.int .i64 n), recovered := false }] M')) :
  aa Tryz.prog 163 #[.pointer (some ⟨b, 0, none⟩), .int .i64 g, .pointer (some ⟨bs, ((ae x g).fs.length - 1) * 11, none⟩), .agg #[.int .i64 i.op, .int .i64 i.a, .int .i64 i.b, .int .i64 i.c]] M K Kp := by
 refine nq ?_
 obtain ⟨s1, s2, s3, s4, s5, s6, s7, s8⟩ := hs
 unfold Wd.spawn at k
 refine aj h ?_
 clear h
 intro kb M h
 have hC := h
 have h' := bU h (b := b)
 clear h
 obtain ⟨a, hl, h⟩ := h'
 have hl' := hl
 obtain ⟨l1, l2, l3, l4⟩ := hl'
 refine bl h ?_
 refine aL.2 ⟨fun hn => ?_, fun hn => ?_⟩
 ·rw [if_pos (by omega)] at k
  exact k _ (hC.drop.pick o.pick)
 rw [if_neg (by omega)] at k
 refine bl h ?_
 refine ⟨fun vs M => ∃ bs', Hp R (ax (be pa p (gg ++ [(some ⟨bs', 0, none⟩, 1)]) dr) b (tr x i.a (aV x g i.b)) :: pt kb [.int .i64 i.op, .int .i64 i.a, .int .i64 i.b, .int .i64 i.c] 34 :: L') M, ?_, ?_⟩
 ·repeat (first|(refine aj h ?_;clear h;intro kb M h)|(refine aq h ?_;clear h;intro M h)|refine St.to h ?_|(apply Exists.intro;(repeat apply Exists.intro);refine And.intro rfl ?_)|refine au ?_|refine af ?_|refine ai ?_)
  refine ⟨hb.1, hb.2, Bt (b := b) hC hg dJ hb rfl ?_⟩
  clear hC
  refine ⟨?_, ?_, trivial⟩
  ·repeat (first|(refine aj h ?_;clear h;intro kb M h)|(refine aq h ?_;clear h;intro M h)|refine St.to h ?_|(apply Exists.intro;(repeat apply Exists.intro);refine And.intro rfl ?_)|refine au ?_|refine af ?_|refine ai ?_)
   refine nG h ?_
   clear h
   intro bs' M h
   repeat (first|(refine aj h ?_;clear h;intro kb M h)|(refine aq h ?_;clear h;intro M h)|refine St.to h ?_|(apply Exists.intro;(repeat apply Exists.intro);refine And.intro rfl ?_)|refine au ?_|refine af ?_|refine ai ?_)
   refine h.bE Nk [_] rfl rfl (by simp; omega) ?_
   clear h
   intro A' c' M h
   repeat (first|(refine aj h ?_;clear h;intro kb M h)|(refine aq h ?_;clear h;intro M h)|refine St.to h ?_|(apply Exists.intro;(repeat apply Exists.intro);refine And.intro rfl ?_)|refine au ?_|refine af ?_|refine ai ?_)
   exact ⟨bs', Jl hl (h.sub bQ)⟩
  ·refine nG h ?_
   clear h
   intro bs' M h
   repeat (first|(refine aj h ?_;clear h;intro kb M h)|(refine aq h ?_;clear h;intro M h)|refine St.to h ?_|(apply Exists.intro;(repeat apply Exists.intro);refine And.intro rfl ?_)|refine au ?_|refine af ?_|refine ai ?_)
   refine h.bE Nk [_] rfl rfl (by simp; omega) ?_
   clear h
   intro A' c' M h
   repeat (first|(refine aj h ?_;clear h;intro kb M h)|(refine aq h ?_;clear h;intro M h)|refine St.to h ?_|(apply Exists.intro;(repeat apply Exists.intro);refine And.intro rfl ?_)|refine au ?_|refine af ?_|refine ai ?_)
   exact ⟨bs', Jl hl (h.sub bQ)⟩
 ·clear h hC
  rintro _ M ⟨bs', h⟩
  have hlen : (tr x i.a (aV x g i.b)).gs.length = x.gs.length + 1 := by simp [tr]
  have vg : (x.gs.length : Int) = (a.gb.length : Int) := by omega
  rw [← vg]
  refine fY (b := b) h (by omega) (by omega) (by show x.ready.length ≤ _; omega) ?_
  clear h
  intro M h
  repeat (first|(refine aj h ?_;clear h;intro kb M h)|(refine aq h ?_;clear h;intro M h)|refine St.to h ?_|(apply Exists.intro;(repeat apply Exists.intro);refine And.intro rfl ?_)|refine au ?_|refine af ?_|refine ai ?_)
  have F6 : ae ((tr x i.a (aV x g i.b)).dN (x.gs.length : Int)) g = ae x g := by
   rw [← Dr (fn := i.a) (v := aV x g i.b) hg]
   obtain ⟨h0, h1, _⟩ := hg
   have hne : x.gs.length ≠ g.toNat := by omega
   simp [ae, Wd.dN, Wd.aY, List.getElem?_set, hne]
  have hg3 : aS ((tr x i.a (aV x g i.b)).dN (x.gs.length : Int)) g := by
   refine ⟨hg.1, ?_, ?_, ?_⟩
   ·have h1 := hg.2.1
    simp only [Wd.dN, Wd.aY, List.length_set, hlen]; omega
   ·rw [F6]; exact hg.2.2.1
   ·rw [F6]; exact hg.2.2.2
  have SN : (gg ++ [(some (⟨bs', 0, none⟩ : Addr), 1)])[g.toNat]? = some (some ⟨bs, 0, none⟩, c) := by
   rw [List.getElem?_append_left (by have := hg.2.1; have := hg.1; omega)]; exact dJ
  refine ⟨hc.1, hc.2, jJ (b := b) h hg3 SN hc (by rw [F6]) ?_⟩
  clear h
  intro M h
  repeat (first|(refine aj h ?_;clear h;intro kb M h)|(refine aq h ?_;clear h;intro M h)|refine St.to h ?_|(apply Exists.intro;(repeat apply Exists.intro);refine And.intro rfl ?_)|refine au ?_|refine af ?_|refine ai ?_)
  exact k _ _ h.bM
end
section
variable {R : Mem} {L L' : List HP} {M : Mem} {K : Value → Mem → Prop} {Kp : List PanicEntry → Mem → Prop} {pa : PA} {p : cf} {gg : List GA} {dr : Value} {b : Nat} {x : Wd}
def lO (p : cf) (x : Wd) (i : cQ) : Prop := r5 x i.a ∧ (cO x.az i.a).dI.length ≤ 1000000 ∧
 ((cO x.az i.a).close.2.2.2 = 0 → (cO x.az i.a).close.2.2.1 = [] → tp p (x.bT i.a (cO x.az i.a).close.1) (cO x.az i.a).close.2.1)
theorem Ds {g : Int} {i : cQ} {f : Value} {bf of' : Nat} (h : Hp R L M) [o : tj b L pa p gg dr x L'] (hp : RS vF R pa.k pa.kc p.cases) (hk : lO p x i) (hs : x.Sm)
  (k : Out.Ok (x.shut p i) (fun y => ∀ M', Hp R (ax (be pa p gg dr) b y :: L') M' → K (.tuple #[]) M')
   (fun n y => ∀ M', Hp R (ax (be pa p gg dr) b y :: L') M' → Kp [{ v := .iface 256 (.int .i64 n), recovered := false }] M')) :
  aa Tryz.prog 167 #[.pointer (some ⟨b, 0, none⟩), .int .i64 g, .pointer (some ⟨bf, of', none⟩), .agg #[.int .i64 i.op, .int .i64 i.a, .int .i64 i.b, .int .i64 i.c]] M K Kp := by
 refine oX ?_
 obtain ⟨xk, hlen, hsh⟩ := hk
 obtain ⟨s1, s2, s3, s4, s5, s6, s7, s8⟩ := hs
 unfold Wd.shut at k
 dsimp only at k
 refine aj h ?_
 clear h
 intro kb M h
 have h' := bU h (b := b)
 clear h
 obtain ⟨a, hl, h⟩ := h'
 have hl' := hl
 obtain ⟨l1, l2, l3, l4⟩ := hl'
 have Ce := xk
 obtain ⟨c0, c1⟩ := Ce
 have h' := Jk h hl xk
 clear h
 obtain ⟨cb, hcb, PJ, h⟩ := h'
 repeat (first|(refine aj h ?_;clear h;intro kb M h)|(refine aq h ?_;clear h;intro M h)|refine St.to h ?_|(apply Exists.intro;(repeat apply Exists.intro);refine And.intro rfl ?_)|refine au ?_|refine af ?_|refine ai ?_)
 refine sC h hcb fun q hq => ?_
 have je : (cO x.az i.a).close.2.1.length ≤ 1000000 := by
  unfold aK.close; split <;> simp [hlen]
 refine AX h ?_
 clear h
 intro A ca B Yh M h
 replace h := h.cY bq cb hcb (by omega)
 generalize (cO x.az i.a).close = s at h k hsh je
 obtain ⟨c', r, sn, e⟩ := s
 dsimp only at h k hsh je ⊢
 refine ⟨A, _, ca, B, _, Yh, e, rfl, ?_⟩
 replace h := aM (a := a) (p := p) (pa := pa) (dr := dr) (gg := gg) (x := x.bT i.a c') (oC hl) h b
 refine eo.2 ⟨fun he => ?_, fun he => ?_⟩
 ·rw [if_pos he] at k
  exact k _ h.bM
 rw [if_neg (by simpa using he)] at k
 refine aL.2 ⟨fun hn => ?_, fun hn => ?_⟩
 ·rw [if_pos (by omega)] at k
  exact k _ h.bM
 rw [if_neg (by omega)] at k
 have SO : sn = [] := by cases sn with
  | nil => rfl
  | cons _ _ => simp at hn
 have hok := hsh he SO
 refine ⟨fun d vs M => ∃ (j : Nat), vs = [.int .i64 (j : Int)] ∧ d = r.length - j ∧ j ≤ r.length ∧ Hp R (ax (be pa p gg dr) b ((r.take j).foldl (cR p) (x.bT i.a c')) :: rz A ca r :: L') M, ⟨_, 0, rfl, rfl, by omega, h.sub bQ⟩, ?_⟩
 clear h
 rintro d _ nn M ⟨j, uf, hd, hj, h⟩
 simp only [List.cons.injEq, Value.int.injEq, and_true, true_and] at uf
 subst uf
 refine aL.2 ⟨fun hlt => ?_, fun hge => ?_⟩
 ·obtain ⟨w, hw⟩ := aN (l := r) (i := j) (by omega)
  obtain ⟨t1, t2, t3, t4⟩ := yE hok hw
  have hstep : (r.take (j + 1)).foldl (cR p) (x.bT i.a c') = cR p ((r.take j).foldl (cR p) (x.bT i.a c')) w := by
   rw [dB hw, List.foldl_append]; rfl
  generalize (r.take j).foldl (cR p) (x.bT i.a c') = y at h t1 t3 t4 hstep
  obtain ⟨qa, rfl⟩ := h.bt (A := A) (by omega) (by decide)
  refine ⟨by omega, hlt, bp ?_⟩
  simp only [Int.toNat_natCast]
  refine br (Src.at (h.src (A := some ⟨qa, 0, none⟩)) h (i := j) (j := 0) hw rfl (by simp [gT])) ?_
  refine br (Src.at (h.src (A := some ⟨qa, 0, none⟩)) h (i := j) (j := 1) hw rfl (by simp [gT])) ?_
  refine br (Src.at (h.src (A := some ⟨qa, 0, none⟩)) h (i := j) (j := 2) hw rfl (by simp [gT])) ?_
  refine aj h ?_
  clear h
  intro kw M h
  refine aq h ?_
  clear h; intro M h
  refine aq h ?_
  clear h; intro M h
  refine aq h ?_
  clear h; intro M h
  have hC := h
  have h' := ij h (b := b) t2 t3
  clear h
  obtain ⟨a2, gb, A2, c2, jW, eL, SN, h⟩ := h'
  have PL := jW
  obtain ⟨m1, m2, m3, m4⟩ := PL
  repeat (first|(refine aj h ?_;clear h;intro kb M h)|(refine aq h ?_;clear h;intro M h)|refine St.to h ?_|(apply Exists.intro;(repeat apply Exists.intro);refine And.intro rfl ?_)|refine au ?_|refine af ?_|refine ai ?_)
  refine sC h eL fun q2 oB => ?_
  repeat (first|(refine aj h ?_;clear h;intro kb M h)|(refine aq h ?_;clear h;intro M h)|refine St.to h ?_|(apply Exists.intro;(repeat apply Exists.intro);refine And.intro rfl ?_)|refine au ?_|refine af ?_|refine ai ?_)
  clear h
  have h := hC
  clear hC
  rw [bk (by omega)]
  have hst : cR p y w = if (ae y w.g).st = 2 then y.received p { w with v := 0 } 0 else y := rfl
  rw [hst] at hstep
  refine bP.2 ⟨fun e2 => ?_, fun e2 => ?_⟩
  ·rw [if_pos e2] at hstep
   refine aq h ?_
   clear h; intro M h
   repeat (first|(refine aj h ?_;clear h;intro kb M h)|(refine aq h ?_;clear h;intro M h)|refine St.to h ?_|(apply Exists.intro;(repeat apply Exists.intro);refine And.intro rfl ?_)|refine au ?_|refine af ?_|refine ai ?_)
   refine nI (b := b) (v := { w with v := 0 }) h hp (t4 e2) t1 ?_
   clear h; intro M h
   refine ⟨rfl, r.length - (j + 1), by omega, j + 1, rfl, rfl, by omega, ?_⟩
   rw [hstep]
   exact h.bM
  ·rw [if_neg e2] at hstep
   refine ⟨r.length - (j + 1), by omega, j + 1, rfl, rfl, by omega, ?_⟩
   rw [hstep]
   exact h.sub bQ
 ·obtain rfl : j = r.length := by omega
  rw [List.take_length] at h
  exact k _ h.bM
end
theorem oD : bu Tryz.prog 38 3 1 8 [.int .i64 0] := bu.mk' (zv := .int .i64 0) (by kernel_rfl) (by kernel_rfl) rfl (by omega)
structure Rg where
 room : Nat
 l : List Int
def Rg.Ok (x : Rg) (head : Nat) (slots : List Int) : Prop := slots.length = x.room ∧ 0 < x.room ∧ x.room ≤ 1024 ∧ head < x.room ∧ x.l.length ≤ x.room ∧ ∀ i v, x.l[i]? = some v → slots[(head + i) % x.room]? = some v
def dP : qH Rg := ⟨fun b x => exs fun A : Option Addr => exs fun c : Nat => exs fun head : Nat => exs fun slots : List Int =>
 sep [fact (x.Ok head slots), pt b [.slice A x.room c, .int .i64 (head : Int), .int .i64 (x.l.length : Int)] 280, ct bN 3 A c slots]⟩
section
variable {R : Mem} {L L' : List HP} {M : Mem} {K : Value → Mem → Prop} {Kp : List PanicEntry → Mem → Prop} {b : Nat} {x : Rg}
theorem iU (h : Hp R L M) [o : bW dP b L x L'] : ∃ A c head slots, x.Ok head slots ∧ Hp R (pt b [.slice A x.room c, .int .i64 (head : Int), .int .i64 (x.l.length : Int)] 280 :: ct bN 3 A c slots :: L') M := by
 have := h.obj dP b
 simpa only [dP, Hp.cX, Hp.aO, List.cons_append, List.nil_append, Hp.eJ] using this
theorem r7 {A : Option Addr} {c head : Nat} {slots : List Int} (ok : x.Ok head slots) (h : Hp R (pt b [.slice A x.room c, .int .i64 (head : Int), .int .i64 (x.l.length : Int)] 280 :: ct bN 3 A c slots :: L) M) : Hp R (ax dP b x :: L) M := by
 refine Hp.uu ?_
 simp only [dP, Hp.cX, Hp.aO, List.cons_append, List.nil_append, Hp.eJ]
 exact ⟨_, _, _, _, ok, h⟩
def fx (n : Int) : Nat := (min (max n 1) 1024).toNat
theorem Ew (n : Int) : 0 < fx n ∧ fx n ≤ 1024 := by unfold fx; omega
theorem Jm {n : Int} (h : Hp R L M) (k : ∀ b M', Hp R (ax dP b ⟨fx n, []⟩ :: L) M' → K (.pointer (some ⟨b, 0, none⟩)) M') : aa Tryz.prog 103 #[.int .i64 n] M K Kp := by
 refine Bg ?_
 have e : (if (1024 : Int) < (if (1 : Int) > n then 1 else n) then 1024 else (if (1 : Int) > n then 1 else n)) = ((fx n : Nat) : Int) := by unfold fx; split <;> split <;> omega
 have bd := Ew n
 rw [e]
 refine h.zg (E := bN) (a := 0) oD (by omega) ?_
 clear h
 intro kb M h
 repeat (first|(refine aj h ?_;clear h;intro kb M h)|(refine aq h ?_;clear h;intro M h)|refine St.to h ?_|(apply Exists.intro;(repeat apply Exists.intro);refine And.intro rfl ?_)|refine au ?_|refine af ?_|refine ai ?_)
 refine k _ _ (r7 (head := 0) (slots := List.replicate (fx n) 0) ⟨by simp, bd.1, bd.2, bd.1, by simp, fun i v hv => by simp at hv⟩ (h.sub bQ))
theorem yF (h : Hp R L M) [o : bW dP b L x L'] (k : K (.int .i64 (x.room : Int)) M) : aa Tryz.prog 182 #[.pointer (some ⟨b, 0, none⟩)] M K Kp := by
 refine rN ?_
 have h' := iU h (b := b)
 clear h
 obtain ⟨A, c, head, slots, ok, h⟩ := h'
 repeat (first|(refine aj h ?_;clear h;intro kb M h)|(refine aq h ?_;clear h;intro M h)|refine St.to h ?_|(apply Exists.intro;(repeat apply Exists.intro);refine And.intro rfl ?_)|refine au ?_|refine af ?_|refine ai ?_)
 exact k
theorem r8 (h : Hp R L M) [o : bW dP b L x L'] (k : K (.int .i64 (x.l.length : Int)) M) : aa Tryz.prog 180 #[.pointer (some ⟨b, 0, none⟩)] M K Kp := by
 refine td ?_
 have h' := iU h (b := b)
 clear h
 obtain ⟨A, c, head, slots, ok, h⟩ := h'
 repeat (first|(refine aj h ?_;clear h;intro kb M h)|(refine aq h ?_;clear h;intro M h)|refine St.to h ?_|(apply Exists.intro;(repeat apply Exists.intro);refine And.intro rfl ?_)|refine au ?_|refine af ?_|refine ai ?_)
 exact k
theorem qU {a b : Nat} : Int.tmod (a : Int) (b : Int) = ((a % b : Nat) : Int) := rfl
theorem oE {v : Int} (h : Hp R L M) [o : bW dP b L x L'] (k1 : x.l.length = x.room → ∀ M', Hp R (ax dP b x :: L') M' → K (.bool false) M') (k2 : x.l.length < x.room → ∀ M', Hp R (ax dP b ⟨x.room, x.l ++ [v]⟩ :: L') M' → K (.bool true) M') :
  aa Tryz.prog 183 #[.pointer (some ⟨b, 0, none⟩), .int .i64 v] M K Kp := by
 refine rO ?_
 have h' := iU h (b := b)
 clear h
 obtain ⟨A, c, head, slots, ok, h⟩ := h'
 have Yi := ok
 obtain ⟨h1, h2, h3, h4, h5, h6⟩ := Yi
 repeat (first|(refine aj h ?_;clear h;intro kb M h)|(refine aq h ?_;clear h;intro M h)|refine St.to h ?_|(apply Exists.intro;(repeat apply Exists.intro);refine And.intro rfl ?_)|refine au ?_|refine af ?_|refine ai ?_)
 refine bP.2 ⟨fun e => ?_, fun e => ?_⟩
 ·exact k1 (by omega) _ (r7 ok h)
 ·have hlt : x.l.length < x.room := by omega
  repeat (first|(refine aj h ?_;clear h;intro kb M h)|(refine aq h ?_;clear h;intro M h)|refine St.to h ?_|(apply Exists.intro;(repeat apply Exists.intro);refine And.intro rfl ?_)|refine au ?_|refine af ?_|refine ai ?_)
  have e1 : IntKind.wrap .i64 ((head : Int) + (x.l.length : Int)) = ((head + x.l.length : Nat) : Int) := wn (by simp) (by omega)
  rw [e1, qU]
  have hm := Nat.mod_lt (head + x.l.length) h2
  obtain ⟨b2, rfl⟩ := h.bt (A := A) (by omega) (by decide)
  obtain ⟨w, hw⟩ := aN (l := slots) (i := (head + x.l.length) % x.room) (by omega)
  repeat (first|(refine aj h ?_;clear h;intro kb M h)|(refine aq h ?_;clear h;intro M h)|refine St.to h ?_|(apply Exists.intro;(repeat apply Exists.intro);refine And.intro rfl ?_)|refine au ?_|refine af ?_|refine ai ?_)
  simp only [Int.toNat_natCast]
  refine gS (a' := v) ((head + x.l.length) % x.room) 0 h hw (by decide) rfl (by simp [bN]) ?_
  clear h; intro M h
  repeat (first|(refine aj h ?_;clear h;intro kb M h)|(refine aq h ?_;clear h;intro M h)|refine St.to h ?_|(apply Exists.intro;(repeat apply Exists.intro);refine And.intro rfl ?_)|refine au ?_|refine af ?_|refine ai ?_)
  have e2 : IntKind.wrap .i64 ((x.l.length : Int) + 1) = ((x.l.length + 1 : Nat) : Int) := bk (by omega)
  rw [e2] at h
  refine k2 hlt _ (r7 (x := ⟨x.room, x.l ++ [v]⟩) (head := head) (slots := slots.set ((head + x.l.length) % x.room) v) ⟨by simpa using h1, h2, h3, h4, by simp; omega, fun i u hu => ?_⟩ (by simpa using h.sub bQ))
  dsimp only at hu ⊢
  rcases Nat.lt_or_ge i x.l.length with hi | hi
  ·rw [List.getElem?_append_left hi] at hu
   have hne : (head + i) % x.room ≠ (head + x.l.length) % x.room := by
    intro he
    have a1 : (head + i) % x.room = if head + i < x.room then head + i else head + i - x.room := by
     split
     ·exact Nat.mod_eq_of_lt (by omega)
     ·rw [Nat.mod_eq_sub_mod (by omega)]; exact Nat.mod_eq_of_lt (by omega)
    have a2 : (head + x.l.length) % x.room = if head + x.l.length < x.room then head + x.l.length else head + x.l.length - x.room := by
     split
     ·exact Nat.mod_eq_of_lt (by omega)
     ·rw [Nat.mod_eq_sub_mod (by omega)]; exact Nat.mod_eq_of_lt (by omega)
    rw [a1, a2] at he
    split at he <;> split at he <;> omega
   rw [List.getElem?_set_ne (Ne.symm hne)]
   exact h6 i u hu
  ·rw [List.getElem?_append_right hi] at hu
   have : i = x.l.length := by
    have := (List.getElem?_eq_some_iff.1 hu).1
    simp at this; omega
   subst this
   simp at hu; subst hu
   rw [List.getElem?_set_self (by omega)]
theorem Bv (h : Hp R L M) [o : bW dP b L x L'] (k1 : x.l = [] → ∀ M', Hp R (ax dP b x :: L') M' → K (.tuple #[.int .i64 0, .bool false]) M')
  (k2 : ∀ v l, x.l = v :: l → ∀ M', Hp R (ax dP b ⟨x.room, l⟩ :: L') M' → K (.tuple #[.int .i64 v, .bool true]) M') :
  aa Tryz.prog 176 #[.pointer (some ⟨b, 0, none⟩)] M K Kp := by
 refine ta ?_
 have h' := iU h (b := b)
 clear h
 obtain ⟨A, c, head, slots, ok, h⟩ := h'
 have Yi := ok
 obtain ⟨h1, h2, h3, h4, h5, h6⟩ := Yi
 obtain ⟨room, l⟩ := x
 dsimp only at *
 repeat (first|(refine aj h ?_;clear h;intro kb M h)|(refine aq h ?_;clear h;intro M h)|refine St.to h ?_|(apply Exists.intro;(repeat apply Exists.intro);refine And.intro rfl ?_)|refine au ?_|refine af ?_|refine ai ?_)
 refine bP.2 ⟨fun e => ?_, fun e => ?_⟩
 ·exact k1 (List.length_eq_zero_iff.1 (by omega)) _ (r7 ok h)
 ·cases l with
  | nil => simp at e
  | cons v l =>
  have hv := h6 0 v rfl
  rw [Nat.add_zero, Nat.mod_eq_of_lt h4] at hv
  obtain ⟨b2, rfl⟩ := h.bt (A := A) (by omega) (by decide)
  have s0 := h.src (A := some ⟨b2, 0, none⟩)
  repeat (first|(refine aj h ?_;clear h;intro kb M h)|(refine aq h ?_;clear h;intro M h)|refine St.to h ?_|(apply Exists.intro;(repeat apply Exists.intro);refine And.intro rfl ?_)|refine au ?_|refine af ?_|refine ai ?_)
  simp only [Int.toNat_natCast]
  refine br (s0.at h (i := head) (j := 0) hv rfl (by simp [bN])) ?_
  repeat (first|(refine aj h ?_;clear h;intro kb M h)|(refine aq h ?_;clear h;intro M h)|refine St.to h ?_|(apply Exists.intro;(repeat apply Exists.intro);refine And.intro rfl ?_)|refine au ?_|refine af ?_|refine ai ?_)
  have e1 : IntKind.wrap .i64 ((head : Int) + 1) = ((head + 1 : Nat) : Int) := bk (by omega)
  rw [e1, qU] at h
  have e2 : IntKind.wrap .i64 ((((v :: l).length : Nat) : Int) - 1) = ((l.length : Nat) : Int) := by rw [lq (by simp only [List.length_cons]; omega) (by simp only [List.length_cons] at h5 ⊢; omega)]; simp
  rw [e2] at h
  have h5' : l.length + 1 ≤ room := by simpa using h5
  refine k2 v l rfl _ (r7 (x := ⟨room, l⟩) (head := (head + 1) % room) (slots := slots) ⟨h1, h2, h3, Nat.mod_lt _ h2, by dsimp only; omega, fun i u hu => ?_⟩ (h.sub bQ))
  dsimp only at hu ⊢
  have := h6 (i + 1) u (by simpa using hu)
  rw [Nat.mod_add_mod, ← this]
  congr 2; omega
theorem yG {n : Int} (h : Hp R L M) [o : bW dP b L x L'] (k : ∀ A c M', Hp R (ct bN 3 A c (x.l.take n.toNat) :: ax dP b ⟨x.room, x.l.drop n.toNat⟩ :: L') M' → K (.slice A (x.l.take n.toNat).length c) M') :
  aa Tryz.prog 181 #[.pointer (some ⟨b, 0, none⟩), .int .i64 n] M K Kp := by
 replace h := h.front dP b
 have hx : x.l.length ≤ 1024 := by
  obtain ⟨A, c, head, slots, ok, _⟩ := iU h (b := b)
  have := ok.2.2.1; have := ok.2.2.2.2.1; omega
 refine rM ⟨fun d ws M => ∃ (i : Nat) (A : Option Addr) (c : Nat), ws = [.slice A (x.l.take i).length c] ∧ d = n.toNat - i ∧ i ≤ n.toNat ∧ i ≤ x.l.length ∧
  Hp R (ct bN 3 A c (x.l.take i) :: ax dP b ⟨x.room, x.l.drop i⟩ :: L') M, ⟨_, 0, none, 0, rfl, rfl, by omega, by omega, h.cw _ _⟩, ?_⟩
 clear h
 rintro d _ A n1 c M ⟨i, _, _, he, hd, hi, hil, h⟩
 simp only [List.cons.injEq, Value.slice.injEq, and_true, true_and] at he
 obtain ⟨rfl, rfl, rfl⟩ := he
 have hlen : (x.l.take i).length = i := by rw [List.length_take]; omega
 refine aL.2 ⟨fun hlt => ?_, fun hge => ?_⟩
 ·refine Bv h (fun e M' h' => ?_) fun v l e M' h' => ?_
  ·repeat (first|(refine aj h ?_;clear h;intro kb M h)|(refine aq h ?_;clear h;intro M h)|refine St.to h ?_|(apply Exists.intro;(repeat apply Exists.intro);refine And.intro rfl ?_)|refine au ?_|refine af ?_|refine ai ?_)
   have : x.l.length ≤ i := by
    have := congrArg List.length e; simp at this; omega
   rw [List.take_of_length_le this] at h' ⊢
   rw [List.drop_of_length_le this] at h'
   have h1 : x.l.take n.toNat = x.l := List.take_of_length_le (by omega)
   have h2 : x.l.drop n.toNat = [] := List.drop_of_length_le (by omega)
   rw [h1, h2] at k
   exact k _ _ _ h'.swap
  ·clear h
   have h := h'.swap
   clear h'
   dsimp only at e
   have hv : x.l[i]? = some v := by
    have := congrArg (fun l => l[0]?) e
    simpa using this
   have e3 : x.l.drop (i + 1) = l := by
    have := congrArg (List.drop 1) e
    simpa using this
   repeat (first|(refine aj h ?_;clear h;intro kb M h)|(refine aq h ?_;clear h;intro M h)|refine St.to h ?_|(apply Exists.intro;(repeat apply Exists.intro);refine And.intro rfl ?_)|refine au ?_|refine af ?_|refine ai ?_)
   refine h.bE oD [v] rfl rfl (by simp; omega) ?_
   clear h
   intro A' c' M h
   repeat (first|(refine aj h ?_;clear h;intro kb M h)|(refine aq h ?_;clear h;intro M h)|refine St.to h ?_|(apply Exists.intro;(repeat apply Exists.intro);refine And.intro rfl ?_)|refine au ?_|refine af ?_|refine ai ?_)
   rw [← dB hv] at h ⊢
   have jW := (List.getElem?_eq_some_iff.1 hv).1
   refine ⟨n.toNat - (i + 1), by omega, i + 1, A', c', rfl, rfl, by omega, by omega, ?_⟩
   rw [e3]; exact h.sub bQ
 ·obtain rfl : i = n.toNat := by omega
  exact k _ _ _ h
end
structure Loc where
 next : Int
 room : Nat
 l : List Int
def Loc.put (x : Loc) (v : Int) (g : List Int) : Loc × List Int × Nat :=
 if x.l.length < x.room then ({ x with l := x.l ++ [v] }, g, 0) else ({ x with l := x.l.drop (x.l.length / 2) }, g ++ (x.l.take (x.l.length / 2) ++ [v]), x.l.length / 2 + 1)
def Loc.ready (x : Loc) (v : Int) (g : List Int) : Loc × List Int × Nat := if x.next = -1 then ({ x with next := v }, g, 0) else ({ x with next := v } : Loc).put x.next g
def Loc.get (x : Loc) : Loc × Int := if x.next ≠ -1 then ({ x with next := -1 }, x.next) else match x.l with
 | [] => (x, -1)
 | v :: l => ({ x with l := l }, v)
def Loc.cZ (x : Loc) (g : List Int) : Loc × List Int × Nat := if x.next = -1 then (x, g, 0) else ({ x with next := -1 } : Loc).put x.next g
def Loc.cv (x : Loc) (g : List Int) (p : Int) : Nat := if p < 1 then 1 else min (g.length / p.toNat + 1) (x.room - x.l.length + 1)
def Loc.dn (x : Loc) (g : List Int) (p : Int) : Loc × List Int × Int := match g.take (x.cv g p) with
 | [] => (x, g, -1)
 | v :: out => ({ x with l := x.l ++ out }, g.drop (x.cv g p), v)
def Loc.fM (x f : Loc) : Nat := min (f.l.length - f.l.length / 2) (x.room - x.l.length + 1)
def Loc.cT (x f : Loc) : Loc × Loc × Int := match f.l.take (x.fM f) with
 | [] => (x, { f with next := -1 }, f.next)
 | v :: out => ({ x with l := x.l ++ out }, { f with l := f.l.drop (x.fM f) }, v)
def Loc.Ok (x : Loc) : Prop := x.l.length ≤ x.room ∧ x.room ≤ 1024 ∧ 0 < x.room
def bA : qH Loc := ⟨fun b x => exs fun rb : Nat => sep [pt b [.int .i64 x.next, .pointer (some ⟨rb, 0, none⟩)] 224, ax dP rb ⟨x.room, x.l⟩]⟩
structure Nl (gb go : Nat) (P : Option Addr → Nat → Nat → HP) : Prop where
 Dt : ∀ (R : Mem) (L : List HP) (M : Mem) (A : Option Addr) (n c : Nat), Hp R (P A n c :: L) M → M.ld ⟨gb, go, none⟩ = some (.slice A n c)
 SP : ∀ (R : Mem) (L : List HP) (M : Mem) (A A' : Option Addr) (n c n' c' : Nat) (G : Mem → Prop), Hp R (P A n c :: L) M → (∀ M', Hp R (P A' n' c' :: L) M' → G M') → aF M ⟨gb, go, none⟩ (.slice A' n' c') G
def fI (P : Option Addr → Nat → Nat → HP) (l : List Int) : HP := exs fun A : Option Addr => exs fun c : Nat => sep [P A l.length c, ct bN 3 A c l]
class qw (P : Option Addr → Nat → Nat → HP) (L : List HP) (g : outParam (List Int)) (L' : outParam (List HP)) : Prop where
 pick : cu L (fI P g) L'
instance qw.here {P : Option Addr → Nat → Nat → HP} {g : List Int} {L : List HP} : qw P (fI P g :: L) g L := ⟨.here⟩
instance (priority := low) qw.there {P : Option Addr → Nat → Nat → HP} {g : List Int} {Q : HP} {L L' : List HP} [h : qw P L g L'] : qw P (Q :: L) g (Q :: L') := ⟨.there h.pick⟩
section
variable {R : Mem} {L L' lY : List HP} {M : Mem} {K : Value → Mem → Prop} {Kp : List PanicEntry → Mem → Prop} {b gb go b' : Nat} {P : Option Addr → Nat → Nat → HP} {x f : Loc} {g : List Int}
theorem gH (h : Hp R L M) [o : bW bA b L x L'] : ∃ rb, Hp R (pt b [.int .i64 x.next, .pointer (some ⟨rb, 0, none⟩)] 224 :: ax dP rb ⟨x.room, x.l⟩ :: L') M := by
 have := h.obj bA b
 simpa only [bA, Hp.cX, Hp.aO, List.cons_append, List.nil_append] using this
theorem PM {rb : Nat} (h : Hp R (pt b [.int .i64 x.next, .pointer (some ⟨rb, 0, none⟩)] 224 :: ax dP rb ⟨x.room, x.l⟩ :: L) M) : Hp R (ax bA b x :: L) M := by
 refine Hp.uu ?_
 simp only [bA, Hp.cX, Hp.aO, List.cons_append, List.nil_append]
 exact ⟨_, h⟩
theorem b8 {next : Int} {rb room : Nat} {l : List Int} {L1 L2 : List HP} (h : Hp R L M) (b : Nat) [p : jx b L [.int .i64 next, .pointer (some ⟨rb, 0, none⟩)] 224 L1] [o : bW dP rb L1 ⟨room, l⟩ L2] : Hp R (ax bA b ⟨next, room, l⟩ :: L2) M :=
 PM (h.sub (.cons p.pick (.cons o.pick .refl)))
theorem hJ (h : Hp R L M) [o : qw P L g L'] : ∃ A c, Hp R (P A g.length c :: ct bN 3 A c g :: L') M := by
 have := h.pick o.pick
 simpa only [fI, Hp.cX, Hp.aO, List.cons_append, List.nil_append] using this
theorem Ey {A : Option Addr} {c n : Nat} (h : Hp R (P A n c :: ct bN 3 A c g :: L) M) (e : n = g.length := by first | rfl | simp) : Hp R (fI P g :: L) M := by
 subst e
 simp only [fI, Hp.cX, Hp.aO, List.cons_append, List.nil_append]
 exact ⟨_, _, h⟩
theorem Lv {rb : Nat} {r : Rg} (h : Hp R L M) [o : bW dP rb L r L'] : r.l.length ≤ r.room ∧ r.room ≤ 1024 ∧ 0 < r.room := by
 obtain ⟨A, c, head, slots, ok, _⟩ := iU h (b := rb)
 exact ⟨ok.2.2.2.2.1, ok.2.2.1, ok.2.1⟩
theorem tu (h : Hp R L M) [o : bW bA b L x L'] : x.Ok := by
 obtain ⟨rb, h2⟩ := gH h (b := b)
 exact Lv (rb := rb) h2
theorem yH {room : Int} (h : Hp R L M) (k : ∀ b M', Hp R (ax bA b ⟨-1, fx room, []⟩ :: L) M' → K (.pointer (some ⟨b, 0, none⟩)) M') : aa Tryz.prog 52 #[.int .i64 room] M K Kp := by
 refine zy ?_
 refine Jm h ?_
 clear h
 intro rb M h
 repeat (first|(refine aj h ?_;clear h;intro kb M h)|(refine aq h ?_;clear h;intro M h)|refine St.to h ?_|(apply Exists.intro;(repeat apply Exists.intro);refine And.intro rfl ?_)|refine au ?_|refine af ?_|refine ai ?_)
 exact k _ _ (b8 h kb)
theorem Du (h : Hp R L M) [o : bW bA b L x L'] (k : K (.int .i64 x.next) M) : aa Tryz.prog 58 #[.pointer (some ⟨b, 0, none⟩)] M K Kp := by
 refine pz ?_
 have h' := gH h (b := b)
 clear h
 obtain ⟨rb, h⟩ := h'
 repeat (first|(refine aj h ?_;clear h;intro kb M h)|(refine aq h ?_;clear h;intro M h)|refine St.to h ?_|(apply Exists.intro;(repeat apply Exists.intro);refine And.intro rfl ?_)|refine au ?_|refine af ?_|refine ai ?_)
 exact k
theorem Dv (D : Nl gb go P) (h : Hp R L M) [o : qw P L g L'] (k : K (.int .i64 (g.length : Int)) M) : aa Tryz.prog 217 #[.pointer (some ⟨gb, go, none⟩)] M K Kp := by
 refine pB ?_
 have h' := hJ h (P := P)
 clear h
 obtain ⟨A, c, h⟩ := h'
 rw [D.Dt _ _ _ _ _ _ h]
 exact aW k
theorem lP (D : Nl gb go P) {B : Option Addr} {n c : Nat} {l : List Int} (h : Hp R L M) [o : qw P L g L'] (hB : Src R L' B (bN.cells l)) (hn : n = l.length) (hs : g.length + l.length ≤ 1000000000) (k : ∀ M', Hp R (fI P (g ++ l) :: L') M' → K (.tuple #[]) M') :
  aa Tryz.prog 53 #[.pointer (some ⟨gb, go, none⟩), .slice B n c] M K Kp := by
 refine pq ?_
 have h' := hJ h (P := P)
 clear h
 obtain ⟨A, cg, h⟩ := h'
 rw [D.Dt _ _ _ _ _ _ h]
 refine aW ?_
 refine h.Fu (A := A) (r := l) oD hB.cons.cons hn (by omega) ?_
 clear h
 intro A' c' M h
 refine aW ?_
 refine D.SP _ _ _ _ _ _ _ _ _ _ h.swap ?_
 clear h; intro M h
 exact k _ (Ey h)
theorem nJ (D : Nl gb go P) {n : Int} (h : Hp R L M) [o : qw P L g L'] (hs : g.length ≤ 1000000000) (k : ∀ A c M', Hp R (ct bN 3 A c (g.take n.toNat) :: fI P (g.drop n.toNat) :: L') M' → K (.slice A (g.take n.toNat).length c) M') :
  aa Tryz.prog 178 #[.pointer (some ⟨gb, go, none⟩), .int .i64 n] M K Kp := by
 refine ny ?_
 have h' := hJ h (P := P)
 clear h
 obtain ⟨A, cg, h⟩ := h'
 have hcap := h.iz A
 have e : (if ((g.length : Nat) : Int) < (if (0 : Int) > n then 0 else n) then ((g.length : Nat) : Int) else (if (0 : Int) > n then 0 else n)) = ((min n.toNat g.length : Nat) : Int) := by split <;> split <;> omega
 have hq : g.take n.toNat = g.take (min n.toNat g.length) ∧ g.drop n.toNat = g.drop (min n.toNat g.length) := by
  rcases Nat.le_total n.toNat g.length with hl | hl
  ·rw [Nat.min_eq_left hl]; exact ⟨rfl, rfl⟩
  ·rw [Nat.min_eq_right hl, List.take_of_length_le hl, List.drop_of_length_le hl]; simp
 rw [hq.1, hq.2] at k
 have hql : min n.toNat g.length ≤ g.length := Nat.min_le_right ..
 rw [D.Dt _ _ _ _ _ _ h]
 refine aW ?_
 rw [e]
 generalize min n.toNat g.length = q at *
 have el : (g.take q).length = q := by rw [List.length_take]; omega
 refine aj h ?_
 clear h; intro kb M h
 rw [D.Dt _ _ _ _ _ _ h.swap]
 refine aW ?_
 simp only [Int.toNat_natCast, Nat.sub_zero]
 refine ⟨by omega, by omega, by omega, by omega, by omega, by omega, ?_⟩
 refine h.lB bN oD (g.take q) (Src.Yd (h.src (A := A)) hcap q) (by rw [el]) (by rw [el]; omega) ?_
 clear h
 intro A' c' M h
 refine aW ?_
 refine aj h ?_
 clear h; intro kb2 M h
 replace h : Hp R (P A g.length cg :: ct bN 3 A cg g :: pt kb2 [] 3 :: ct bN 3 A' c' (g.take q) :: L') M := h.sub bQ
 rw [D.Dt _ _ _ _ _ _ h]
 refine aW ?_
 refine ⟨by omega, by omega, by omega, by omega, by omega, by omega, ?_⟩
 refine h.lB bN oD (g.drop q) (Src.Lq (h.src (A := A)) hcap q) (by rw [List.length_drop]) (by rw [List.length_drop]; omega) ?_
 clear h
 intro A2 c2 M h
 refine aW ?_
 replace h : Hp R (P A g.length cg :: ct bN 3 A2 c2 (g.drop q) :: ct bN 3 A' c' (g.take q) :: L') M := h.sub bQ
 refine D.SP _ _ _ _ _ _ _ _ _ _ h ?_
 clear h; intro M h
 rw [← el]
 rw [el]
 exact k _ _ _ ((Ey (P := P) h).swap)
theorem yI (D : Nl gb go P) {v : Int} (h : Hp R L M) [o : bW bA b L x L'] [og : qw P L' g lY] (hs : g.length ≤ 100000000)
  (k : ∀ M', Hp R (ax bA b (x.put v g).1 :: fI P (x.put v g).2.1 :: lY) M' → K (.int .i64 ((x.put v g).2.2 : Int)) M') :
  aa Tryz.prog 184 #[.pointer (some ⟨b, 0, none⟩), .int .i64 v, .pointer (some ⟨gb, go, none⟩)] M K Kp := by
 have bd := tu h (b := b)
 have h0 : Hp R (ax bA b x :: fI P g :: lY) M := (h.pick o.pick).map fun _ hs => hs.tail (fun _ => bK.pick og.pick)
 clear h
 have h := h0
 clear h0
 refine qo ?_
 have h' := gH h (b := b)
 clear h
 obtain ⟨rb, h⟩ := h'
 repeat (first|(refine aj h ?_;clear h;intro kb M h)|(refine aq h ?_;clear h;intro M h)|refine St.to h ?_|(apply Exists.intro;(repeat apply Exists.intro);refine And.intro rfl ?_)|refine au ?_|refine af ?_|refine ai ?_)
 refine oE h (fun e M' h' => ?_) fun e M' h' => ?_
 ·clear h
  have h := h'
  clear h'
  dsimp only at e
  have hp : x.put v g = ({ x with l := x.l.drop (x.l.length / 2) }, g ++ (x.l.take (x.l.length / 2) ++ [v]), x.l.length / 2 + 1) := by unfold Loc.put; rw [if_neg (by omega)]
  rw [hp] at k
  repeat (first|(refine aj h ?_;clear h;intro kb M h)|(refine aq h ?_;clear h;intro M h)|refine St.to h ?_|(apply Exists.intro;(repeat apply Exists.intro);refine And.intro rfl ?_)|refine au ?_|refine af ?_|refine ai ?_)
  refine r8 h ?_
  repeat (first|(refine aj h ?_;clear h;intro kb M h)|(refine aq h ?_;clear h;intro M h)|refine St.to h ?_|(apply Exists.intro;(repeat apply Exists.intro);refine And.intro rfl ?_)|refine au ?_|refine af ?_|refine ai ?_)
  have e2 : IntKind.wrap .i64 (Int.tdiv (x.l.length : Int) 2) = ((x.l.length / 2 : Nat) : Int) := wn rfl (by have := bd.1; have := bd.2.1; omega)
  simp only [e2]
  refine yG h ?_
  clear h
  intro A c M h
  simp only [Int.toNat_natCast] at h ⊢
  repeat (first|(refine aj h ?_;clear h;intro kb M h)|(refine aq h ?_;clear h;intro M h)|refine St.to h ?_|(apply Exists.intro;(repeat apply Exists.intro);refine And.intro rfl ?_)|refine au ?_|refine af ?_|refine ai ?_)
  have TX : (x.l.take (x.l.length / 2)).length = x.l.length / 2 := by rw [List.length_take]; omega
  refine h.bE oD [v] rfl rfl (by have := bd.2.1; have := bd.1; simp; omega) ?_
  clear h
  intro A' c' M h
  repeat (first|(refine aj h ?_;clear h;intro kb M h)|(refine aq h ?_;clear h;intro M h)|refine St.to h ?_|(apply Exists.intro;(repeat apply Exists.intro);refine And.intro rfl ?_)|refine au ?_|refine af ?_|refine ai ?_)
  replace h := h.sub (show Sub _ (fI P g :: ct bN 3 A' c' (x.l.take (x.l.length / 2) ++ [v]) :: ax dP rb ⟨x.room, x.l.drop (x.l.length / 2)⟩ :: pt b [.int .i64 x.next, .pointer (some ⟨rb, 0, none⟩)] 224 :: lY) from bQ)
  refine lP D h Src.row rfl (by have := bd.2.1; have := bd.1; simp; omega) ?_
  clear h
  intro M h
  repeat (first|(refine aj h ?_;clear h;intro kb M h)|(refine aq h ?_;clear h;intro M h)|refine St.to h ?_|(apply Exists.intro;(repeat apply Exists.intro);refine And.intro rfl ?_)|refine au ?_|refine af ?_|refine ai ?_)
  have e3 : (((x.l.take (x.l.length / 2) ++ [v]).length : Nat) : Int) = ((x.l.length / 2 + 1 : Nat) : Int) := by simp; omega
  rw [e3]
  exact k _ ((b8 h b).sub bQ)
 ·clear h
  have h := h'
  clear h'
  dsimp only at e
  have hp : x.put v g = ({ x with l := x.l ++ [v] }, g, 0) := by unfold Loc.put; rw [if_pos e]
  rw [hp] at k
  repeat (first|(refine aj h ?_;clear h;intro kb M h)|(refine aq h ?_;clear h;intro M h)|refine St.to h ?_|(apply Exists.intro;(repeat apply Exists.intro);refine And.intro rfl ?_)|refine au ?_|refine af ?_|refine ai ?_)
  exact k _ ((b8 h b).sub bQ)
theorem zI (h : Hp R L M) [o : bW bA b L x L'] [og : qw P L' g lY] : Hp R (ax bA b x :: fI P g :: lY) M := (h.pick o.pick).map fun _ hs => hs.tail (fun _ => bK.pick og.pick)
theorem Bw (D : Nl gb go P) {v : Int} (h : Hp R L M) [o : bW bA b L x L'] [og : qw P L' g lY] (hs : g.length ≤ 100000000)
  (k : ∀ M', Hp R (ax bA b (x.ready v g).1 :: fI P (x.ready v g).2.1 :: lY) M' → K (.int .i64 ((x.ready v g).2.2 : Int)) M') :
  aa Tryz.prog 134 #[.pointer (some ⟨b, 0, none⟩), .int .i64 v, .pointer (some ⟨gb, go, none⟩)] M K Kp := by
 replace h := zI (P := P) h (b := b)
 refine nw ?_
 have h' := gH h (b := b)
 clear h
 obtain ⟨rb, h⟩ := h'
 repeat (first|(refine aj h ?_;clear h;intro kb M h)|(refine aq h ?_;clear h;intro M h)|refine St.to h ?_|(apply Exists.intro;(repeat apply Exists.intro);refine And.intro rfl ?_)|refine au ?_|refine af ?_|refine ai ?_)
 refine bP.2 ⟨fun e => ?_, fun e => ?_⟩
 ·have hp : x.ready v g = ({ x with next := v }, g, 0) := by unfold Loc.ready; rw [if_pos e]
  rw [hp] at k
  repeat (first|(refine aj h ?_;clear h;intro kb M h)|(refine aq h ?_;clear h;intro M h)|refine St.to h ?_|(apply Exists.intro;(repeat apply Exists.intro);refine And.intro rfl ?_)|refine au ?_|refine af ?_|refine ai ?_)
  exact k _ ((b8 h b).sub bQ)
 ·have hp : x.ready v g = ({ x with next := v } : Loc).put x.next g := by unfold Loc.ready; rw [if_neg e]
  rw [hp] at k
  replace h := b8 h b
  refine yI D h hs ?_
  clear h
  intro M h
  repeat (first|(refine aj h ?_;clear h;intro kb M h)|(refine aq h ?_;clear h;intro M h)|refine St.to h ?_|(apply Exists.intro;(repeat apply Exists.intro);refine And.intro rfl ?_)|refine au ?_|refine af ?_|refine ai ?_)
  exact k _ h
theorem Dw (D : Nl gb go P) (h : Hp R L M) [o : bW bA b L x L'] [og : qw P L' g lY] (hs : g.length ≤ 100000000)
  (k : ∀ M', Hp R (ax bA b (x.cZ g).1 :: fI P (x.cZ g).2.1 :: lY) M' → K (.int .i64 ((x.cZ g).2.2 : Int)) M') :
  aa Tryz.prog 177 #[.pointer (some ⟨b, 0, none⟩), .pointer (some ⟨gb, go, none⟩)] M K Kp := by
 replace h := zI (P := P) h (b := b)
 refine pA ?_
 have h' := gH h (b := b)
 clear h
 obtain ⟨rb, h⟩ := h'
 repeat (first|(refine aj h ?_;clear h;intro kb M h)|(refine aq h ?_;clear h;intro M h)|refine St.to h ?_|(apply Exists.intro;(repeat apply Exists.intro);refine And.intro rfl ?_)|refine au ?_|refine af ?_|refine ai ?_)
 refine bP.2 ⟨fun e => ?_, fun e => ?_⟩
 ·have hp : x.cZ g = (x, g, 0) := by unfold Loc.cZ; rw [if_pos e]
  rw [hp] at k
  exact k _ ((b8 h b).sub bQ)
 ·have hp : x.cZ g = ({ x with next := -1 } : Loc).put x.next g := by unfold Loc.cZ; rw [if_neg e]
  rw [hp] at k
  repeat (first|(refine aj h ?_;clear h;intro kb M h)|(refine aq h ?_;clear h;intro M h)|refine St.to h ?_|(apply Exists.intro;(repeat apply Exists.intro);refine And.intro rfl ?_)|refine au ?_|refine af ?_|refine ai ?_)
  replace h := b8 h b
  refine yI D h hs ?_
  clear h
  intro M h
  repeat (first|(refine aj h ?_;clear h;intro kb M h)|(refine aq h ?_;clear h;intro M h)|refine St.to h ?_|(apply Exists.intro;(repeat apply Exists.intro);refine And.intro rfl ?_)|refine au ?_|refine af ?_|refine ai ?_)
  exact k _ h
theorem yJ (h : Hp R L M) [o : bW bA b L x L']
  (k : ∀ t M', (x.get.2 = -1 → x.next = -1 → x.l = [] → t = false) → (x.next ≠ -1 ∨ x.l ≠ [] → t = true) → Hp R (ax bA b x.get.1 :: L') M' → K (.tuple #[.int .i64 x.get.2, .bool t]) M') :
  aa Tryz.prog 131 #[.pointer (some ⟨b, 0, none⟩)] M K Kp := by
 refine qn ?_
 have h' := gH h (b := b)
 clear h
 obtain ⟨rb, h⟩ := h'
 obtain ⟨next, room, l⟩ := x
 dsimp only at h
 repeat (first|(refine aj h ?_;clear h;intro kb M h)|(refine aq h ?_;clear h;intro M h)|refine St.to h ?_|(apply Exists.intro;(repeat apply Exists.intro);refine And.intro rfl ?_)|refine au ?_|refine af ?_|refine ai ?_)
 refine eo.2 ⟨fun e => ?_, fun e => ?_⟩
 ·have hp : (Loc.mk next room l).get = (⟨-1, room, l⟩, next) := by unfold Loc.get; dsimp only; rw [if_pos e]
  rw [hp] at k
  repeat (first|(refine aj h ?_;clear h;intro kb M h)|(refine aq h ?_;clear h;intro M h)|refine St.to h ?_|(apply Exists.intro;(repeat apply Exists.intro);refine And.intro rfl ?_)|refine au ?_|refine af ?_|refine ai ?_)
  exact k true _ (fun _ h2 => absurd h2 e) (fun _ => rfl) ((b8 h b).sub bQ)
 ·repeat (first|(refine aj h ?_;clear h;intro kb M h)|(refine aq h ?_;clear h;intro M h)|refine St.to h ?_|(apply Exists.intro;(repeat apply Exists.intro);refine And.intro rfl ?_)|refine au ?_|refine af ?_|refine ai ?_)
  refine Bv h (fun e2 M' h' => ?_) fun v l2 e2 M' h' => ?_
  ·dsimp only at e2
   subst e2
   have hp : (Loc.mk next room []).get = (⟨next, room, []⟩, -1) := by unfold Loc.get; dsimp only; rw [if_neg (by simpa using e)]
   rw [hp] at k
   repeat (first|(refine aj h ?_;clear h;intro kb M h)|(refine aq h ?_;clear h;intro M h)|refine St.to h ?_|(apply Exists.intro;(repeat apply Exists.intro);refine And.intro rfl ?_)|refine au ?_|refine af ?_|refine ai ?_)
   exact k false _ (fun _ _ _ => rfl) (fun hx => by rcases hx with hx | hx; exact absurd e hx; exact absurd rfl hx) ((b8 h' b).sub bQ)
  ·dsimp only at e2
   subst e2
   have hp : (Loc.mk next room (v :: l2)).get = (⟨next, room, l2⟩, v) := by unfold Loc.get; dsimp only; rw [if_neg (by simpa using e)]
   rw [hp] at k
   repeat (first|(refine aj h ?_;clear h;intro kb M h)|(refine aq h ?_;clear h;intro M h)|refine St.to h ?_|(apply Exists.intro;(repeat apply Exists.intro);refine And.intro rfl ?_)|refine au ?_|refine af ?_|refine ai ?_)
   exact k true _ (fun _ _ hx => by simp at hx) (fun _ => rfl) ((b8 h' b).sub bQ)
end
section
variable {R : Mem} {L L' lY : List HP} {M : Mem} {K : Value → Mem → Prop} {Kp : List PanicEntry → Mem → Prop} {b gb go b' : Nat} {P : Option Addr → Nat → Nat → HP} {x f : Loc} {g : List Int}
theorem PN {b b' T T' : Nat} {cs cs' : List Value} (h : Hp R (pt b cs T :: L) M) [p : jx b' L cs' T' L'] : b ≠ b' := by
 rintro rfl
 have h2 : Hp R (pt b cs T :: pt b cs' T' :: L') M := h.map fun _ hs => hs.tail fun _ => bK.pick p.pick
 obtain ⟨B, rfl, h1, X, Y, rfl, h2, hp, X2, Y2, rfl, h3, Zn, hs⟩ := h2
 unfold AF.pt at hp Zn
 rcases h2 b with h | h
 ·rw [hp] at h; cases h
 ·rw [Mem.union_left Zn] at h; cases h
theorem PO {a : Addr} {b : Nat} {G : Bool → Prop} (hne : a.block ≠ b) (h1 : ja M a.block) (h2 : ja M b) (g : G false) : ptrEq M (some a) (some ⟨b, 0, none⟩) G :=
 ⟨fun e => absurd (by rw [e]) hne, fun _ => ⟨.inr ⟨h1, h2⟩, g⟩⟩
theorem Bx {b T : Nat} {cs : List Value} (h : Hp R L M) [p : jx b L cs T L'] : ja M b := ⟨_, _, (h.pick p.pick).AQ⟩
theorem By (D : Nl gb go P) {p : Int} (h : Hp R L M) [o : bW bA b L x L'] [og : qw P L' g lY] (hs : g.length ≤ 100000000) (hp9 : p < 9223372036854775808)
  (k : ∀ t M', ((x.dn g p).2.2 = -1 → g = [] → t = false) → (g ≠ [] → t = true) → Hp R (ax bA b (x.dn g p).1 :: fI P (x.dn g p).2.1 :: lY) M' → K (.tuple #[.int .i64 (x.dn g p).2.2, .bool t]) M') :
  aa Tryz.prog 179 #[.pointer (some ⟨b, 0, none⟩), .pointer (some ⟨gb, go, none⟩), .int .i64 p] M K Kp := by
 have bd := tu h (b := b)
 obtain ⟨bd1, bd2, bd3⟩ := bd
 replace h := zI (P := P) h (b := b)
 refine nA ?_
 have h' := gH h (b := b)
 clear h
 obtain ⟨rb, h⟩ := h'
 repeat (first|(refine aj h ?_;clear h;intro kb M h)|(refine aq h ?_;clear h;intro M h)|refine St.to h ?_|(apply Exists.intro;(repeat apply Exists.intro);refine And.intro rfl ?_)|refine au ?_|refine af ?_|refine ai ?_)
 refine Dv D h ?_
 repeat (first|(refine aj h ?_;clear h;intro kb M h)|(refine aq h ?_;clear h;intro M h)|refine St.to h ?_|(apply Exists.intro;(repeat apply Exists.intro);refine And.intro rfl ?_)|refine au ?_|refine af ?_|refine ai ?_)
 refine yF h ?_
 repeat (first|(refine aj h ?_;clear h;intro kb M h)|(refine aq h ?_;clear h;intro M h)|refine St.to h ?_|(apply Exists.intro;(repeat apply Exists.intro);refine And.intro rfl ?_)|refine au ?_|refine af ?_|refine ai ?_)
 refine r8 h ?_
 repeat (first|(refine aj h ?_;clear h;intro kb M h)|(refine aq h ?_;clear h;intro M h)|refine St.to h ?_|(apply Exists.intro;(repeat apply Exists.intro);refine And.intro rfl ?_)|refine au ?_|refine af ?_|refine ai ?_)
 dsimp only at *
 have hn0 : 1 ≤ x.cv g p := by unfold Loc.cv; generalize g.length / p.toNat = q; split <;> omega
 have Jn : x.l.length + (x.cv g p - 1) ≤ x.room := by unfold Loc.cv; generalize g.length / p.toNat = q; split <;> omega
 have key : ∀ n : Int, n.toNat = x.cv g p → ∀ {Q : Prop}, Q → Q := fun _ _ _ q => q
 refine aL.2 ⟨fun QN => ?_, fun QN => ?_⟩
 ·have hn : (1 : Int).toNat = x.cv g p := by unfold Loc.cv; rw [if_pos QN]; rfl
  refine nJ D h (by omega) ?_
  clear h
  intro A c M h
  rw [hn] at h ⊢
  repeat (first|(refine aj h ?_;clear h;intro kb M h)|(refine aq h ?_;clear h;intro M h)|refine St.to h ?_|(apply Exists.intro;(repeat apply Exists.intro);refine And.intro rfl ?_)|refine au ?_|refine af ?_|refine ai ?_)
  cases hg : g.take (x.cv g p) with
  | nil =>
   have Lw : g = [] := by
    have := congrArg List.length hg
    rw [List.length_take, List.length_nil] at this
    exact List.length_eq_zero_iff.1 (by omega)
   have hp : x.dn g p = (x, g, -1) := by unfold Loc.dn; rw [hg]
   rw [hp] at k
   refine HQ rfl ?_
   have e3 : g.drop (x.cv g p) = g := by rw [Lw]; simp
   rw [e3] at h
   exact k false _ (fun _ _ => rfl) (fun h1 => absurd Lw h1) ((b8 h b).sub bQ)
  | cons v out =>
   have hp : x.dn g p = ({ x with l := x.l ++ out }, g.drop (x.cv g p), v) := by unfold Loc.dn; rw [hg]
   rw [hp] at k
   have Qx : out.length + 1 ≤ x.cv g p := by
    have := congrArg List.length hg
    rw [List.length_take, List.length_cons] at this
    omega
   refine CJ (by simp; omega) ?_
   rw [hg] at h
   generalize g.drop (x.cv g p) = g2 at *
   have Lx : g ≠ [] := by rintro rfl; simp at hg
   obtain ⟨A0, Nm⟩ : ∃ A0, A0 = kU A 1 c 1 := ⟨_, rfl⟩
   have hcap := h.iz A
   rw [List.length_cons] at hcap
   simp only [Int.toNat_natCast, List.length_cons]
   repeat (first|(refine aj h ?_;clear h;intro kb M h)|(refine aq h ?_;clear h;intro M h)|refine St.to h ?_|(apply Exists.intro;(repeat apply Exists.intro);refine And.intro rfl ?_)|refine au ?_|refine af ?_|refine ai ?_)
   refine ⟨fun d ws M => ∃ i : Nat, ws = [.int .i64 (i : Int)] ∧ d = out.length - i ∧ i ≤ out.length ∧
    Hp R (ct bN 3 A c (v :: out) :: pt b [.int .i64 x.next, .pointer (some ⟨rb, 0, none⟩)] 224 :: ax dP rb ⟨x.room, x.l ++ out.take i⟩ :: fI P g2 :: lY) M,
    ⟨_, 0, rfl, rfl, by omega, by rw [List.take_zero, List.append_nil]; exact h.sub bQ⟩, ?_⟩
   clear h
   rintro d _ ii M ⟨i, he, hd, hi, h⟩
   simp only [List.cons.injEq, Value.int.injEq, and_true, true_and] at he
   subst he
   refine aL.2 ⟨fun hlt => ?_, fun hge => ?_⟩
   ·obtain ⟨w, hw⟩ := aN (l := out) (i := i) (by omega)
    have s0 := Src.Lq (h.src (A := A)) (by rw [List.length_cons]; exact hcap) 1
    rw [← Nm] at s0 ⊢
    rw [show (v :: out).drop 1 = out from rfl] at s0
    obtain ⟨b0, o0, rfl⟩ := s0.lZ h (by omega) (by decide)
    repeat (first|(refine aj h ?_;clear h;intro kb M h)|(refine aq h ?_;clear h;intro M h)|refine St.to h ?_|(apply Exists.intro;(repeat apply Exists.intro);refine And.intro rfl ?_)|refine au ?_|refine af ?_|refine ai ?_)
    simp only [Int.toNat_natCast]
    refine br (s0.at h (i := i) (j := 0) hw rfl (by simp [bN])) ?_
    repeat (first|(refine aj h ?_;clear h;intro kb M h)|(refine aq h ?_;clear h;intro M h)|refine St.to h ?_|(apply Exists.intro;(repeat apply Exists.intro);refine And.intro rfl ?_)|refine au ?_|refine af ?_|refine ai ?_)
    refine oE (v := w) h (fun e M' h' => ?_) fun e M' h' => ?_
    ·exfalso
     simp only [List.length_append, List.length_take] at e
     omega
    ·clear h
     have h := h'
     clear h'
     repeat (first|(refine aj h ?_;clear h;intro kb M h)|(refine aq h ?_;clear h;intro M h)|refine St.to h ?_|(apply Exists.intro;(repeat apply Exists.intro);refine And.intro rfl ?_)|refine au ?_|refine af ?_|refine ai ?_)
     rw [bk (by omega)]
     refine ⟨out.length - (i + 1), by omega, i + 1, rfl, rfl, by omega, ?_⟩
     rw [dB hw, ← List.append_assoc]
     exact h.sub bQ
   ·obtain rfl : i = out.length := by omega
    rw [List.take_length] at h
    have s0 := h.src (A := A)
    obtain ⟨b0, rfl⟩ := h.bt (A := A) (by simp) (by decide)
    repeat (first|(refine aj h ?_;clear h;intro kb M h)|(refine aq h ?_;clear h;intro M h)|refine St.to h ?_|(apply Exists.intro;(repeat apply Exists.intro);refine And.intro rfl ?_)|refine au ?_|refine af ?_|refine ai ?_)
    refine br (s0.at h (i := 0) (j := 0) rfl rfl (by simp [bN])) ?_
    repeat (first|(refine aj h ?_;clear h;intro kb M h)|(refine aq h ?_;clear h;intro M h)|refine St.to h ?_|(apply Exists.intro;(repeat apply Exists.intro);refine And.intro rfl ?_)|refine au ?_|refine af ?_|refine ai ?_)
    exact k true _ (fun _ h1 => absurd h1 Lx) (fun _ => rfl) ((b8 h b).sub bQ)
 ·have hn : (if IntKind.wrap .i64 (IntKind.wrap .i64 ((x.room : Int) - (x.l.length : Int)) + 1) < IntKind.wrap .i64 (IntKind.wrap .i64 (Int.tdiv (g.length : Int) (if (1 : Int) > p then 1 else p)) + 1) then IntKind.wrap .i64 (IntKind.wrap .i64 ((x.room : Int) - (x.l.length : Int)) + 1) else IntKind.wrap .i64 (IntKind.wrap .i64 (Int.tdiv (g.length : Int) (if (1 : Int) > p then 1 else p)) + 1)).toNat = x.cv g p := by
   obtain ⟨q, rfl⟩ := Int.eq_ofNat_of_zero_le (show 0 ≤ p by omega)
   have e1 : (if (1 : Int) > (q : Int) then 1 else (q : Int)) = (q : Int) := by split <;> omega
   rw [e1]
   have hd : g.length / q ≤ g.length := Nat.div_le_self ..
   have e2 : IntKind.wrap .i64 (Int.tdiv (g.length : Int) (q : Int)) = ((g.length / q : Nat) : Int) := wn rfl (by omega)
   rw [e2, bk (by omega), lq (n := (x.room : Int) - (x.l.length : Int)) (by omega) (by omega), lq (n := (x.room : Int) - (x.l.length : Int) + 1) (by omega) (by omega)]
   unfold Loc.cv
   rw [if_neg QN, Int.toNat_natCast]
   generalize g.length / q = z at *
   split <;> omega
  revert hn
  generalize (if IntKind.wrap .i64 (IntKind.wrap .i64 ((x.room : Int) - (x.l.length : Int)) + 1) < IntKind.wrap .i64 (IntKind.wrap .i64 (Int.tdiv (g.length : Int) (if (1 : Int) > p then 1 else p)) + 1) then IntKind.wrap .i64 (IntKind.wrap .i64 ((x.room : Int) - (x.l.length : Int)) + 1) else IntKind.wrap .i64 (IntKind.wrap .i64 (Int.tdiv (g.length : Int) (if (1 : Int) > p then 1 else p)) + 1)) = n
  intro hn
  refine nJ D h (by omega) ?_
  clear h
  intro A c M h
  rw [hn] at h ⊢
  repeat (first|(refine aj h ?_;clear h;intro kb M h)|(refine aq h ?_;clear h;intro M h)|refine St.to h ?_|(apply Exists.intro;(repeat apply Exists.intro);refine And.intro rfl ?_)|refine au ?_|refine af ?_|refine ai ?_)
  cases hg : g.take (x.cv g p) with
  | nil =>
   have Lw : g = [] := by
    have := congrArg List.length hg
    rw [List.length_take, List.length_nil] at this
    exact List.length_eq_zero_iff.1 (by omega)
   have hp : x.dn g p = (x, g, -1) := by unfold Loc.dn; rw [hg]
   rw [hp] at k
   refine HQ rfl ?_
   have e3 : g.drop (x.cv g p) = g := by rw [Lw]; simp
   rw [e3] at h
   exact k false _ (fun _ _ => rfl) (fun h1 => absurd Lw h1) ((b8 h b).sub bQ)
  | cons v out =>
   have hp : x.dn g p = ({ x with l := x.l ++ out }, g.drop (x.cv g p), v) := by unfold Loc.dn; rw [hg]
   rw [hp] at k
   have Qx : out.length + 1 ≤ x.cv g p := by
    have := congrArg List.length hg
    rw [List.length_take, List.length_cons] at this
    omega
   refine CJ (by simp; omega) ?_
   rw [hg] at h
   generalize g.drop (x.cv g p) = g2 at *
   have Lx : g ≠ [] := by rintro rfl; simp at hg
   obtain ⟨A0, Nm⟩ : ∃ A0, A0 = kU A 1 c 1 := ⟨_, rfl⟩
   have hcap := h.iz A
   rw [List.length_cons] at hcap
   simp only [Int.toNat_natCast, List.length_cons]
   repeat (first|(refine aj h ?_;clear h;intro kb M h)|(refine aq h ?_;clear h;intro M h)|refine St.to h ?_|(apply Exists.intro;(repeat apply Exists.intro);refine And.intro rfl ?_)|refine au ?_|refine af ?_|refine ai ?_)
   refine ⟨fun d ws M => ∃ i : Nat, ws = [.int .i64 (i : Int)] ∧ d = out.length - i ∧ i ≤ out.length ∧
    Hp R (ct bN 3 A c (v :: out) :: pt b [.int .i64 x.next, .pointer (some ⟨rb, 0, none⟩)] 224 :: ax dP rb ⟨x.room, x.l ++ out.take i⟩ :: fI P g2 :: lY) M,
    ⟨_, 0, rfl, rfl, by omega, by rw [List.take_zero, List.append_nil]; exact h.sub bQ⟩, ?_⟩
   clear h
   rintro d _ ii M ⟨i, he, hd, hi, h⟩
   simp only [List.cons.injEq, Value.int.injEq, and_true, true_and] at he
   subst he
   refine aL.2 ⟨fun hlt => ?_, fun hge => ?_⟩
   ·obtain ⟨w, hw⟩ := aN (l := out) (i := i) (by omega)
    have s0 := Src.Lq (h.src (A := A)) (by rw [List.length_cons]; exact hcap) 1
    rw [← Nm] at s0 ⊢
    rw [show (v :: out).drop 1 = out from rfl] at s0
    obtain ⟨b0, o0, rfl⟩ := s0.lZ h (by omega) (by decide)
    repeat (first|(refine aj h ?_;clear h;intro kb M h)|(refine aq h ?_;clear h;intro M h)|refine St.to h ?_|(apply Exists.intro;(repeat apply Exists.intro);refine And.intro rfl ?_)|refine au ?_|refine af ?_|refine ai ?_)
    simp only [Int.toNat_natCast]
    refine br (s0.at h (i := i) (j := 0) hw rfl (by simp [bN])) ?_
    repeat (first|(refine aj h ?_;clear h;intro kb M h)|(refine aq h ?_;clear h;intro M h)|refine St.to h ?_|(apply Exists.intro;(repeat apply Exists.intro);refine And.intro rfl ?_)|refine au ?_|refine af ?_|refine ai ?_)
    refine oE (v := w) h (fun e M' h' => ?_) fun e M' h' => ?_
    ·exfalso
     simp only [List.length_append, List.length_take] at e
     omega
    ·clear h
     have h := h'
     clear h'
     repeat (first|(refine aj h ?_;clear h;intro kb M h)|(refine aq h ?_;clear h;intro M h)|refine St.to h ?_|(apply Exists.intro;(repeat apply Exists.intro);refine And.intro rfl ?_)|refine au ?_|refine af ?_|refine ai ?_)
     rw [bk (by omega)]
     refine ⟨out.length - (i + 1), by omega, i + 1, rfl, rfl, by omega, ?_⟩
     rw [dB hw, ← List.append_assoc]
     exact h.sub bQ
   ·obtain rfl : i = out.length := by omega
    rw [List.take_length] at h
    have s0 := h.src (A := A)
    obtain ⟨b0, rfl⟩ := h.bt (A := A) (by simp) (by decide)
    repeat (first|(refine aj h ?_;clear h;intro kb M h)|(refine aq h ?_;clear h;intro M h)|refine St.to h ?_|(apply Exists.intro;(repeat apply Exists.intro);refine And.intro rfl ?_)|refine au ?_|refine af ?_|refine ai ?_)
    refine br (s0.at h (i := 0) (j := 0) rfl rfl (by simp [bN])) ?_
    repeat (first|(refine aj h ?_;clear h;intro kb M h)|(refine aq h ?_;clear h;intro M h)|refine St.to h ?_|(apply Exists.intro;(repeat apply Exists.intro);refine And.intro rfl ?_)|refine au ?_|refine af ?_|refine ai ?_)
    exact k true _ (fun _ h1 => absurd h1 Lx) (fun _ => rfl) ((b8 h b).sub bQ)
theorem Bz (h : Hp R L M) [o : bW bA b L x L'] [of : bW bA b' L' f lY]
  (k : ∀ t M', ((x.cT f).2.2 = -1 → f.l = [] → t = false) → ((x.cT f).2.2 ≠ -1 ∨ f.l ≠ [] → t = true) → Hp R (ax bA b (x.cT f).1 :: ax bA b' (x.cT f).2.1 :: lY) M' → K (.tuple #[.int .i64 (x.cT f).2.2, .bool t]) M') :
  aa Tryz.prog 133 #[.pointer (some ⟨b, 0, none⟩), .pointer (some ⟨b', 0, none⟩)] M K Kp := by
 have bd := tu h (b := b)
 obtain ⟨bd1, bd2, bd3⟩ := bd
 have h0 : Hp R (ax bA b x :: ax bA b' f :: lY) M := (h.pick o.pick).map fun _ hs => hs.tail (fun _ => bK.pick of.pick)
 clear h
 have h := h0
 clear h0
 have bdf := tu h (b := b')
 obtain ⟨bf1, bf2, bf3⟩ := bdf
 refine ie ?_
 have h' := gH h (b := b)
 clear h
 obtain ⟨rb, h⟩ := h'
 have h' := gH h (b := b')
 clear h
 obtain ⟨rf, h⟩ := h'
 have hne : b' ≠ b := PN h
 refine PO (Ne.symm hne) (Bx h (b := b)) (Bx h (b := b')) ?_
 repeat (first|(refine aj h ?_;clear h;intro kb M h)|(refine aq h ?_;clear h;intro M h)|refine St.to h ?_|(apply Exists.intro;(repeat apply Exists.intro);refine And.intro rfl ?_)|refine au ?_|refine af ?_|refine ai ?_)
 refine r8 h ?_
 repeat (first|(refine aj h ?_;clear h;intro kb M h)|(refine aq h ?_;clear h;intro M h)|refine St.to h ?_|(apply Exists.intro;(repeat apply Exists.intro);refine And.intro rfl ?_)|refine au ?_|refine af ?_|refine ai ?_)
 dsimp only at *
 refine bP.2 ⟨fun e => ?_, fun e => ?_⟩
 ·have hl : f.l = [] := List.length_eq_zero_iff.1 (by omega)
  have hp : x.cT f = (x, { f with next := -1 }, f.next) := by unfold Loc.cT; rw [hl, List.take_nil]
  rw [hp] at k
  repeat (first|(refine aj h ?_;clear h;intro kb M h)|(refine aq h ?_;clear h;intro M h)|refine St.to h ?_|(apply Exists.intro;(repeat apply Exists.intro);refine And.intro rfl ?_)|refine au ?_|refine af ?_|refine ai ?_)
  have h2 := b8 (b8 h b) b'
  exact k _ _ (fun h1 _ => by dsimp only at h1; rw [h1]; rfl) (fun h1 => by rcases h1 with h1 | h1; exact bne_iff_ne.2 h1; exact absurd hl h1) (h2.sub bQ)
 ·have hn0 : 1 ≤ x.fM f := by unfold Loc.fM; omega
  have Jn : x.l.length + (x.fM f - 1) ≤ x.room := by unfold Loc.fM; omega
  repeat (first|(refine aj h ?_;clear h;intro kb M h)|(refine aq h ?_;clear h;intro M h)|refine St.to h ?_|(apply Exists.intro;(repeat apply Exists.intro);refine And.intro rfl ?_)|refine au ?_|refine af ?_|refine ai ?_)
  refine yF h ?_
  repeat (first|(refine aj h ?_;clear h;intro kb M h)|(refine aq h ?_;clear h;intro M h)|refine St.to h ?_|(apply Exists.intro;(repeat apply Exists.intro);refine And.intro rfl ?_)|refine au ?_|refine af ?_|refine ai ?_)
  refine r8 h ?_
  repeat (first|(refine aj h ?_;clear h;intro kb M h)|(refine aq h ?_;clear h;intro M h)|refine St.to h ?_|(apply Exists.intro;(repeat apply Exists.intro);refine And.intro rfl ?_)|refine au ?_|refine af ?_|refine ai ?_)
  dsimp only at *
  have hn : (if IntKind.wrap .i64 (IntKind.wrap .i64 ((x.room : Int) - (x.l.length : Int)) + 1) < IntKind.wrap .i64 ((f.l.length : Int) - IntKind.wrap .i64 (Int.tdiv (f.l.length : Int) 2)) then IntKind.wrap .i64 (IntKind.wrap .i64 ((x.room : Int) - (x.l.length : Int)) + 1) else IntKind.wrap .i64 ((f.l.length : Int) - IntKind.wrap .i64 (Int.tdiv (f.l.length : Int) 2))).toNat = x.fM f := by
   have e2 : IntKind.wrap .i64 (Int.tdiv (f.l.length : Int) 2) = ((f.l.length / 2 : Nat) : Int) := wn rfl (by omega)
   rw [e2, lq (n := (x.room : Int) - (x.l.length : Int)) (by omega) (by omega), lq (n := (x.room : Int) - (x.l.length : Int) + 1) (by omega) (by omega), lq (n := (f.l.length : Int) - ((f.l.length / 2 : Nat) : Int)) (by omega) (by omega)]
   unfold Loc.fM
   split <;> omega
  revert hn
  generalize (if IntKind.wrap .i64 (IntKind.wrap .i64 ((x.room : Int) - (x.l.length : Int)) + 1) < IntKind.wrap .i64 ((f.l.length : Int) - IntKind.wrap .i64 (Int.tdiv (f.l.length : Int) 2)) then IntKind.wrap .i64 (IntKind.wrap .i64 ((x.room : Int) - (x.l.length : Int)) + 1) else IntKind.wrap .i64 ((f.l.length : Int) - IntKind.wrap .i64 (Int.tdiv (f.l.length : Int) 2))) = n
  intro hn
  refine yG h ?_
  clear h
  intro A c M h
  rw [hn] at h ⊢
  repeat (first|(refine aj h ?_;clear h;intro kb M h)|(refine aq h ?_;clear h;intro M h)|refine St.to h ?_|(apply Exists.intro;(repeat apply Exists.intro);refine And.intro rfl ?_)|refine au ?_|refine af ?_|refine ai ?_)
  cases hg : f.l.take (x.fM f) with
  | nil =>
   exfalso
   have := congrArg List.length hg
   rw [List.length_take, List.length_nil] at this
   omega
  | cons v out =>
   have hp : x.cT f = ({ x with l := x.l ++ out }, { f with l := f.l.drop (x.fM f) }, v) := by unfold Loc.cT; rw [hg]
   rw [hp] at k
   have Qx : out.length + 1 ≤ x.fM f := by
    have := congrArg List.length hg
    rw [List.length_take, List.length_cons] at this
    omega
   dsimp only at h
   rw [hg] at h
   generalize f.l.drop (x.fM f) = f2 at *
   have Lx : f.l ≠ [] := by intro e0; rw [e0] at hg; simp at hg
   obtain ⟨A0, Nm⟩ : ∃ A0, A0 = kU A 1 c 1 := ⟨_, rfl⟩
   have hcap := h.iz A
   rw [List.length_cons] at hcap
   simp only [Int.toNat_natCast, List.length_cons]
   repeat (first|(refine aj h ?_;clear h;intro kb M h)|(refine aq h ?_;clear h;intro M h)|refine St.to h ?_|(apply Exists.intro;(repeat apply Exists.intro);refine And.intro rfl ?_)|refine au ?_|refine af ?_|refine ai ?_)
   refine ⟨fun d ws M => ∃ i : Nat, ws = [.int .i64 (i : Int)] ∧ d = out.length - i ∧ i ≤ out.length ∧
    Hp R (ct bN 3 A c (v :: out) :: pt b [.int .i64 x.next, .pointer (some ⟨rb, 0, none⟩)] 224 :: ax dP rb ⟨x.room, x.l ++ out.take i⟩ :: ax dP rf ⟨f.room, f2⟩ :: pt b' [.int .i64 f.next, .pointer (some ⟨rf, 0, none⟩)] 224 :: lY) M,
    ⟨_, 0, rfl, rfl, by omega, by rw [List.take_zero, List.append_nil]; exact h.sub bQ⟩, ?_⟩
   clear h
   rintro d _ ii M ⟨i, he, hd, hi, h⟩
   simp only [List.cons.injEq, Value.int.injEq, and_true, true_and] at he
   subst he
   refine aL.2 ⟨fun hlt => ?_, fun hge => ?_⟩
   ·obtain ⟨w, hw⟩ := aN (l := out) (i := i) (by omega)
    have s0 := Src.Lq (h.src (A := A)) (by rw [List.length_cons]; exact hcap) 1
    rw [← Nm] at s0 ⊢
    rw [show (v :: out).drop 1 = out from rfl] at s0
    obtain ⟨b0, o0, rfl⟩ := s0.lZ h (by omega) (by decide)
    repeat (first|(refine aj h ?_;clear h;intro kb M h)|(refine aq h ?_;clear h;intro M h)|refine St.to h ?_|(apply Exists.intro;(repeat apply Exists.intro);refine And.intro rfl ?_)|refine au ?_|refine af ?_|refine ai ?_)
    simp only [Int.toNat_natCast]
    refine br (s0.at h (i := i) (j := 0) hw rfl (by simp [bN])) ?_
    repeat (first|(refine aj h ?_;clear h;intro kb M h)|(refine aq h ?_;clear h;intro M h)|refine St.to h ?_|(apply Exists.intro;(repeat apply Exists.intro);refine And.intro rfl ?_)|refine au ?_|refine af ?_|refine ai ?_)
    refine oE (v := w) h (fun e M' h' => ?_) fun e M' h' => ?_
    ·exfalso
     simp only [List.length_append, List.length_take] at e
     omega
    ·clear h
     have h := h'
     clear h'
     repeat (first|(refine aj h ?_;clear h;intro kb M h)|(refine aq h ?_;clear h;intro M h)|refine St.to h ?_|(apply Exists.intro;(repeat apply Exists.intro);refine And.intro rfl ?_)|refine au ?_|refine af ?_|refine ai ?_)
     rw [bk (by omega)]
     refine ⟨out.length - (i + 1), by omega, i + 1, rfl, rfl, by omega, ?_⟩
     rw [dB hw, ← List.append_assoc]
     exact h.sub bQ
   ·obtain rfl : i = out.length := by omega
    rw [List.take_length] at h
    have s0 := h.src (A := A)
    obtain ⟨b0, rfl⟩ := h.bt (A := A) (by simp) (by decide)
    repeat (first|(refine aj h ?_;clear h;intro kb M h)|(refine aq h ?_;clear h;intro M h)|refine St.to h ?_|(apply Exists.intro;(repeat apply Exists.intro);refine And.intro rfl ?_)|refine au ?_|refine af ?_|refine ai ?_)
    refine br (s0.at h (i := 0) (j := 0) rfl rfl (by simp [bN])) ?_
    repeat (first|(refine aj h ?_;clear h;intro kb M h)|(refine aq h ?_;clear h;intro M h)|refine St.to h ?_|(apply Exists.intro;(repeat apply Exists.intro);refine And.intro rfl ?_)|refine au ?_|refine af ?_|refine ai ?_)
    have h2 := b8 (b8 h b) b'
    exact k true _ (fun _ h1 => absurd h1 Lx) (fun _ => rfl) (h2.sub bQ)
end
end Go.Proofs
namespace Go.Proofs
def Loc.all (x : Loc) : List Int := (if x.next = -1 then [] else [x.next]) ++ x.l
def gR (v : Int) : List Int := if 0 ≤ v then [v] else []
theorem Ly {xs : List Loc} {i : Nat} {x y : Loc} (a : Int) (h : xs[i]? = some x) : ((xs.set i y).flatMap Loc.all).count a + x.all.count a = (xs.flatMap Loc.all).count a + y.all.count a := by
 induction xs generalizing i with
 | nil => simp at h
 | cons z xs ih =>
  cases i with
  | zero => simp only [List.getElem?_cons_zero, Option.some.injEq] at h; subst h; simp only [List.set_cons_zero, List.flatMap_cons, List.count_append]; omega
  | succ i => have := ih (i := i) (by simpa using h); simp only [List.set_cons_succ, List.flatMap_cons, List.count_append]; omega
theorem Dx (a : Int) (l : List Int) (n : Nat) : (l.take n).count a + (l.drop n).count a = l.count a := by rw [← List.count_append, List.take_append_drop]
theorem Ez (x : Loc) (v : Int) (g : List Int) (a : Int) : (x.put v g).1.all.count a + (x.put v g).2.1.count a = x.all.count a + g.count a + [v].count a := by
 unfold Loc.put Loc.all
 have := Dx a x.l (x.l.length / 2)
 split <;> simp only [List.count_append] <;> omega
theorem Jo (x : Loc) (v : Int) (hv : v ≠ -1) (a : Int) : (({ x with next := v } : Loc).all).count a + (if x.next = -1 then ([] : List Int) else [x.next]).count a = x.all.count a + [v].count a := by
 unfold Loc.all
 simp only [List.count_append, if_neg hv]; omega
theorem zJ (x : Loc) (a : Int) : (({ x with next := -1 } : Loc).all).count a + (if x.next = -1 then ([] : List Int) else [x.next]).count a = x.all.count a := by
 unfold Loc.all
 simp only [List.count_append, if_true, List.count_nil]; omega
theorem F8 (x : Loc) (v : Int) (hv : v ≠ -1) (g : List Int) (a : Int) : (x.ready v g).1.all.count a + (x.ready v g).2.1.count a = x.all.count a + g.count a + [v].count a := by
 have h1 := Jo x v hv a
 unfold Loc.ready
 split
 ·rename_i h; rw [if_pos h] at h1; simp only [List.count_nil] at h1; dsimp only; omega
 ·rename_i h; rw [if_neg h] at h1; rw [Ez]; omega
theorem Jp (x : Loc) (g : List Int) (a : Int) : (x.cZ g).1.all.count a + (x.cZ g).2.1.count a = x.all.count a + g.count a := by
 have h1 := zJ x a
 unfold Loc.cZ
 split
 ·rfl
 ·rename_i h; rw [if_neg h] at h1; rw [Ez]; omega
def Loc.Pos (x : Loc) : Prop := -1 ≤ x.next ∧ ∀ v ∈ x.l, 0 ≤ v
theorem gI {v : Int} (h : 0 ≤ v) : gR v = [v] := if_pos h
theorem EA (x : Loc) (hx : x.Pos) (a : Int) : x.get.1.all.count a + (gR x.get.2).count a = x.all.count a := by
 obtain ⟨h1, h2⟩ := hx
 have h3 := zJ x a
 unfold Loc.get
 split
 ·rename_i h; rw [if_neg h] at h3; rw [gI (show 0 ≤ x.next by omega)]; omega
 ·rename_i h
  split
  ·rfl
  ·rename_i v l e
   rw [gI (h2 v (by rw [e]; simp))]
   unfold Loc.all
   rw [e]
   simp only [List.count_append, List.count_cons, List.count_nil]; omega
theorem F9 (x : Loc) (g : List Int) (hg : ∀ v ∈ g, 0 ≤ v) (p : Int) (a : Int) : (x.dn g p).1.all.count a + (x.dn g p).2.1.count a + (gR (x.dn g p).2.2).count a = x.all.count a + g.count a := by
 have h1 := Dx a g (x.cv g p)
 unfold Loc.dn
 split
 ·rfl
 ·rename_i v out e
  rw [e] at h1
  rw [gI (hg v (List.mem_of_mem_take (by rw [e]; simp)))]
  unfold Loc.all
  simp only [List.count_append, List.count_cons, List.count_nil] at h1 ⊢; omega
theorem Ga (x f : Loc) (hf : f.Pos) (hx : x.l.length ≤ x.room) (a : Int) : (x.cT f).1.all.count a + (x.cT f).2.1.all.count a + (gR (x.cT f).2.2).count a = x.all.count a + f.all.count a := by
 obtain ⟨h1, h2⟩ := hf
 have h3 := Dx a f.l (x.fM f)
 have h4 := zJ f a
 unfold Loc.cT
 split
 ·rename_i e
  by_cases hn : f.next = -1
  ·have : gR f.next = [] := by unfold gR; rw [if_neg (by omega)]
   dsimp only
   rw [this]; rw [if_pos hn] at h4; simp only [List.count_nil] at h4 ⊢; omega
  ·dsimp only; rw [gI (by omega)]; rw [if_neg hn] at h4; omega
 ·rename_i v out e
  rw [e] at h3
  rw [gI (h2 v (List.mem_of_mem_take (by rw [e]; simp)))]
  unfold Loc.all
  simp only [List.count_append, List.count_cons, List.count_nil] at h3 ⊢; omega
theorem EB {x : Loc} (hx : x.Pos) : (x.next = -1 ∧ x.l = [] ∧ x.get.2 = -1) ∨ ((x.next ≠ -1 ∨ x.l ≠ []) ∧ 0 ≤ x.get.2) := by
 obtain ⟨h1, h2⟩ := hx
 unfold Loc.get
 split
 ·rename_i h; exact .inr ⟨.inl h, by dsimp only; omega⟩
 ·rename_i h
  split
  ·rename_i e; exact .inl ⟨by omega, e, rfl⟩
  ·rename_i v l e; exact .inr ⟨.inr (by rw [e]; simp), h2 v (by rw [e]; simp)⟩
theorem Dy (x : Loc) (g : List Int) (p : Int) : 1 ≤ x.cv g p := by unfold Loc.cv; generalize g.length / p.toNat = q; split <;> omega
theorem yK {x : Loc} {g : List Int} (hg : ∀ v ∈ g, 0 ≤ v) (p : Int) : (g = [] ∧ (x.dn g p).2.2 = -1) ∨ (g ≠ [] ∧ 0 ≤ (x.dn g p).2.2) := by
 have hn := Dy x g p
 unfold Loc.dn
 split
 ·rename_i e
  have := congrArg List.length e
  rw [List.length_take, List.length_nil] at this
  exact .inl ⟨List.length_eq_zero_iff.1 (by omega), rfl⟩
 ·rename_i v out e
  exact .inr ⟨by rintro rfl; simp at e, hg v (List.mem_of_mem_take (by rw [e]; simp))⟩
theorem Gb {x f : Loc} (hf : f.Pos) (hx : x.l.length ≤ x.room) : (f.l = [] ∧ (x.cT f).2.2 = f.next) ∨ (f.l ≠ [] ∧ 0 ≤ (x.cT f).2.2) := by
 obtain ⟨h1, h2⟩ := hf
 unfold Loc.cT
 split
 ·rename_i e
  have := congrArg List.length e
  rw [List.length_take, List.length_nil] at this
  unfold Loc.fM at this
  exact .inl ⟨List.length_eq_zero_iff.1 (by omega), rfl⟩
 ·rename_i v out e
  exact .inr ⟨by intro h; rw [h] at e; simp at e, h2 v (List.mem_of_mem_take (by rw [e]; simp))⟩
theorem Jq {x : Loc} (h : x.l.length ≤ x.room ∧ x.room ≤ 1024 ∧ 0 < x.room) (v : Int) (g : List Int) : (x.put v g).1.l.length ≤ (x.put v g).1.room ∧ (x.put v g).1.room ≤ 1024 ∧ 0 < (x.put v g).1.room := by
 unfold Loc.put; split
 ·dsimp only; simp only [List.length_append, List.length_singleton]; omega
 ·dsimp only; simp only [List.length_drop]; omega
theorem Jr {x : Loc} (h : x.l.length ≤ x.room ∧ x.room ≤ 1024 ∧ 0 < x.room) (v : Int) (g : List Int) : (x.ready v g).1.l.length ≤ (x.ready v g).1.room ∧ (x.ready v g).1.room ≤ 1024 ∧ 0 < (x.ready v g).1.room := by
 unfold Loc.ready; split
 ·exact h
 ·exact Jq (x := { x with next := v }) h _ _
theorem Lz {x : Loc} (h : x.l.length ≤ x.room ∧ x.room ≤ 1024 ∧ 0 < x.room) (g : List Int) : (x.cZ g).1.l.length ≤ (x.cZ g).1.room ∧ (x.cZ g).1.room ≤ 1024 ∧ 0 < (x.cZ g).1.room := by
 unfold Loc.cZ; split
 ·exact h
 ·exact Jq (x := { x with next := -1 }) h _ _
theorem Js {x : Loc} (h : x.l.length ≤ x.room ∧ x.room ≤ 1024 ∧ 0 < x.room) : x.get.1.l.length ≤ x.get.1.room ∧ x.get.1.room ≤ 1024 ∧ 0 < x.get.1.room := by
 unfold Loc.get; split
 ·exact h
 ·split
  ·exact h
  ·rename_i e; dsimp only; rw [e, List.length_cons] at h; omega
theorem Jt {x : Loc} (h : x.l.length ≤ x.room ∧ x.room ≤ 1024 ∧ 0 < x.room) (g : List Int) (p : Int) : (x.dn g p).1.l.length ≤ (x.dn g p).1.room ∧ (x.dn g p).1.room ≤ 1024 ∧ 0 < (x.dn g p).1.room := by
 have Jn : x.l.length + (x.cv g p - 1) ≤ x.room := by unfold Loc.cv; generalize g.length / p.toNat = q; split <;> omega
 unfold Loc.dn; split
 ·exact h
 ·rename_i v out e
  have := congrArg List.length e
  rw [List.length_take, List.length_cons] at this
  dsimp only; simp only [List.length_append]; omega
theorem Ju {x f : Loc} (h : x.l.length ≤ x.room ∧ x.room ≤ 1024 ∧ 0 < x.room) (hf : f.l.length ≤ f.room ∧ f.room ≤ 1024 ∧ 0 < f.room) :
  ((x.cT f).1.l.length ≤ (x.cT f).1.room ∧ (x.cT f).1.room ≤ 1024 ∧ 0 < (x.cT f).1.room) ∧ ((x.cT f).2.1.l.length ≤ (x.cT f).2.1.room ∧ (x.cT f).2.1.room ≤ 1024 ∧ 0 < (x.cT f).2.1.room) := by
 have Jn : x.l.length + (x.fM f - 1) ≤ x.room := by unfold Loc.fM; omega
 unfold Loc.cT; split
 ·exact ⟨h, hf⟩
 ·rename_i v out e
  have := congrArg List.length e
  rw [List.length_take, List.length_cons] at this
  dsimp only; simp only [List.length_append, List.length_drop]; omega
end Go.Proofs
