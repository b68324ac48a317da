/- A part of proofs about one program. -/
import Derived.Test.YtnnlgknlialpmaaGreatZSchedWakesAgg
import Derived.Test.YtnnlgknlialpmaaGreatZSchedWakes1
set_option linter.unusedVariables false
namespace Go.AF
theorem wn {z : Int} {n : Nat} (e : z = (n : Int)) (h : n < 9223372036854775808) : IntKind.wrap .i64 z = (n : Int) := by rw [e]; exact kS h
theorem Src.row {α : Type} {E : jO α} {R : Mem} {L L' : List HP} {A : Option Addr} {T c : Nat} {l : List α} [hp : cq A L α E T c l L'] : Src R L A (E.cells l) := fun M h => h.src (A := A) M h
theorem Src.ZJ {R : Mem} {L : List HP} {A : Option Addr} {c : Nat} {l : List Int} (hs : Src R L A (bB.cells l)) (hc : l.length ≤ c) (q : Nat) : Src R L (lF A 0 c 1) (bB.cells (l.take q)) := by
 have := (hs.drop (m := 0) (c := c) hc).N4 q
 rw [List.drop_zero] at this
 exact this
theorem Src.ME {R : Mem} {L : List HP} {A : Option Addr} {c : Nat} {l : List Int} (hs : Src R L A (bB.cells l)) (hc : l.length ≤ c) (q : Nat) : Src R L (lF A q c 1) (bB.cells (l.drop q)) := hs.drop hc
end Go.AF
namespace Go.AF
abbrev AL := List (Int × Value)
def cK : Nat → AL → List MapEntry
 | _, [] => []
 | i, (k, v) :: l => ⟨.int .i64 k, v, i⟩ :: cK (i + 1) l
def jR (l : AL) : Obj := .map (cK 0 l).toArray l.length
def sI (k : Int) : AL → Nat → Option (Nat × Value)
 | [], _ => none
 | (k', v) :: l, i => if k = k' then some (i, v) else sI k l (i + 1)
def yn (l : AL) (k : Int) : Option Value := (sI k l 0).map (·.2)
def MF (l : AL) (k : Int) (v : Value) : AL := match sI k l 0 with
 | some (i, _) => l.set i (k, v)
 | none => l ++ [(k, v)]
theorem sJ {kd : IntKind} (k : Int) : ∀ (l : AL) (i b : Nat), Instr.findNow (.int kd) (.int .i64 k) (cK b l) i = some (sI k l i)
 | [], _, _ => rfl
 | (k', v) :: l, i, b => by
  simp only [cK, Instr.findNow, Instr.sameNow, if_true, sI]
  by_cases h : k = k'
  ·simp [h]
  ·have : (k == k') = false := by simp [h]
   rw [this, if_neg h]
   exact sJ k l (i + 1) (b + 1)
theorem Fc {k : Int} : ∀ {l : AL} {i j : Nat} {v : Value}, sI k l i = some (j, v) → i ≤ j ∧ l[j - i]? = some (k, v)
 | [], _, _, _, h => by simp [sI] at h
 | (k', v') :: l, i, j, v, h => by
  simp only [sI] at h
  split at h
  ·rename_i e; cases h; subst e; exact ⟨Nat.le_refl _, by simp⟩
  ·obtain ⟨h1, h2⟩ := Fc h
   refine ⟨by omega, ?_⟩
   rw [show j - i = (j - (i + 1)) + 1 from by omega, List.getElem?_cons_succ]; exact h2
theorem Fe : ∀ {l : AL} {i b : Nat} {k : Int} {v : Value}, l[i]? = some (k, v) → (cK b l)[i]? = some ⟨.int .i64 k, v, b + i⟩
 | [], _, _, _, _, h => by simp at h
 | (k', v') :: l, 0, b, k, v, h => by simp at h; obtain ⟨rfl, rfl⟩ := h; rfl
 | (k', v') :: l, i + 1, b, k, v, h => by
  have := Fe (b := b + 1) (show l[i]? = some (k, v) from by simpa using h)
  simp only [cK, List.getElem?_cons_succ, this]
  congr 2; omega
theorem Cc : ∀ {l : AL} {i b : Nat} {k : Int} {v w : Value}, l[i]? = some (k, w) → (cK b l).modify i (fun e => { e with key := .int .i64 k, val := v }) = cK b (l.set i (k, v))
 | [], _, _, _, _, _, h => by simp at h
 | (k', v') :: l, 0, b, k, v, w, h => by simp at h; obtain ⟨rfl, rfl⟩ := h; rfl
 | (k', v') :: l, i + 1, b, k, v, w, h => by
  have := Cc (b := b + 1) (v := v) (show l[i]? = some (k, w) from by simpa using h)
  simp only [cK, List.modify_succ_cons, List.set_cons_succ, this]
theorem Cd : ∀ (l m : AL) (b : Nat), cK b (l ++ m) = cK b l ++ cK (b + l.length) m
 | [], m, b => by simp [cK]
 | (k, v) :: l, m, b => by simp only [List.cons_append, cK, Cd l m (b + 1), List.length_cons]; congr 3; omega
def wR : AL → Int → Option Value
 | [], _ => none
 | (k', v) :: l, k => if k = k' then some v else wR l k
theorem Ce (k : Int) : ∀ (l : AL) (i : Nat), (sI k l i).map (·.2) = wR l k
 | [], _ => rfl
 | (k', v) :: l, i => by
  simp only [sI, wR]
  split
  ·rfl
  ·exact Ce k l (i + 1)
theorem MG (l : AL) (k : Int) : yn l k = wR l k := Ce k l 0
theorem y6 {k : Int} : ∀ {l : AL}, wR l k = none ↔ k ∉ l.map (·.1)
 | [] => by simp [wR]
 | (q, w) :: l => by
  have ih := y6 (k := k) (l := l)
  simp only [wR, List.map_cons, List.mem_cons, not_or]
  by_cases h : k = q
  ·rw [if_pos h]; simp [h]
  ·rw [if_neg h]; simp [h, ih]
section
variable {R : Mem} {L L' : List HP} {M : Mem} {P : Program} {t kt et : TypeId} {r : Nat} {l : AL} {k : Int} {kd : IntKind}
class Cf (b : Nat) (L : List HP) (o : outParam Obj) (L' : outParam (List HP)) : Prop where
 pick : cy L (ob b o) L'
instance Cf.here {b : Nat} {o : Obj} {L : List HP} : Cf b (ob b o :: L) o L := ⟨.here⟩
instance (priority := low) Cf.there {b : Nat} {o : Obj} {Q : HP} {L L' : List HP} [h : Cf b L o L'] : Cf b (Q :: L) o (Q :: L') := ⟨.there h.pick⟩
theorem oq {P : Program} {M : Mem} {b : Bool} (hk : P.underlying kt = some (.int kd)) : bE P (Instr.checkKey b 10000 kt (.int .i64 k)) M = some () := by
 unfold Instr.checkKey
 rw [aJ, aE hk]; rfl
theorem qP {P : Program} {M : Mem} (hk : P.underlying kt = some (.int kd)) : bE P (Instr.findKey kt (.int .i64 k) (cK 0 l)) M = some (sI k l 0) := by
 unfold Instr.findKey
 rw [aJ, aE hk, Option.bind_some, sJ]; rfl
theorem qQ {P : Program} {α : Type} {M : Mem} {r : Nat} {l : AL} {f : Obj → Sem α} {K : α → Mem → Prop} {Kp : Value → Mem → Prop} (hb : M r = some (jR l)) (h : dc P (f (jR l)) M K Kp) : dc P (getObj r >>= f) M K Kp := by
 refine fE P _ _ ?_
 unfold getObj
 simp only [dc, hb, jR]
 exact h
theorem JS {z : Value} {i : TypeInfo} {K : Value → Mem → Prop} {Kp : List PanicEntry → Mem → Prop} (h : Hp R L M) [p : Cf r L (jR l) L'] (hu : P.underlying t = some (.map kt et)) (hk : P.underlying kt = some (.int kd)) (hi : P.info? et = some i) (hz : i.zero = some z)
  (g : K ((yn l k).getD z) M) : aW P (Instr.lookup t (.map (some r)) (.int .i64 k) false) M K Kp := by
 have hb : M r = some (jR l) := (h.pick p.pick).Iv
 unfold aW Instr.lookup
 refine aV (aE hu M) ?_
 simp only
 refine fE P _ _ ?_
 refine qQ hb ?_
 simp only [jR]
 refine aV (x := ()) (oq hk) ?_
 refine aV (qP hk) ?_
 unfold yn at g
 cases ha : sI k l 0 with
 | none =>
  rw [ha] at g
  simp only
  have ZK : bE P (zeroValue et) M = some z := by rw [jq]; simp [zeroOf, hi, hz]
  refine aV ZK ?_
  refine aV (x := (z, false)) rfl ?_
  exact g
 | some x =>
  rw [ha] at g
  exact g
theorem uO {v : Value} {K : Mem → Prop} {Kp : List PanicEntry → Mem → Prop} (h : Hp R L M) [p : Cf r L (jR l) L'] (hu : P.underlying t = some (.map kt et)) (hk : P.underlying kt = some (.int kd))
  (g : ∀ M', Hp R (ob r (jR (MF l k v)) :: L') M' → K M') : bG P (Instr.mapUpdate t (.map (some r)) (.int .i64 k) v) M K Kp := by
 have h1 := h.pick p.pick
 have hb : M r = some (jR l) := h1.Iv
 have fin : ∀ o, o = jR (MF l k v) → K (M.set r o) := fun o e => by
  subst e
  exact g _ (h1.set (x := jR l) (fun A ha => by unfold ob at ha; exact ha) fun A ha => by unfold ob; exact eB)
 unfold bG Instr.mapUpdate
 refine aV (aE hu M) ?_
 simp only
 refine qQ hb ?_
 simp only [jR]
 refine aV (x := ()) (oq hk) ?_
 refine aV (qP hk) ?_
 have wS : ∀ o : Obj, K (M.set r o) → dc P (setObj r o) M (fun _ => K) (fun v M' => Kp [{ v, recovered := false }] M') := fun o hK => by
  unfold setObj
  simp only [dc, hb, jR]
  exact hK
 cases ha : sI k l 0 with
 | none =>
  simp only
  refine wS _ (fin _ ?_)
  unfold MF jR
  rw [ha]
  simp only [List.push_toArray, List.length_append, List.length_singleton]
  rw [Cd]; simp [cK]
 | some x =>
  obtain ⟨i, w⟩ := x
  obtain ⟨_, hw⟩ := Fc ha
  rw [Nat.sub_zero] at hw
  simp only
  have he := Fe (b := 0) hw
  refine aV (x := Value.int .i64 k) ?_ ?_
  ·have : (((cK 0 l).toArray[i]?).map (·.key)).getD (.int .i64 k) = .int .i64 k := by simp [he]
   rw [this]
   unfold Instr.keyThatStays
   simp [Instr.sameBits]; rfl
  ·refine wS _ (fin _ ?_)
   unfold MF jR
   rw [ha]
   simp only [List.length_set]
   rw [← Cc (v := v) hw]
   simp [List.modify_toArray]
end
end Go.AF
namespace Go.AF
theorem Aw {P : Program} {t t' e ty : TypeId} {i : TypeInfo} {zv : Value} {A B : Option Addr} {n c m d : Nat} {l r : List Value} {M : Mem} {K : Value → Mem → Prop} {Kp : List PanicEntry → Mem → Prop}
  (hu : P.underlying t = some (.slice e)) (NW : P.underlying t' = some (.slice e)) (hi : P.info? e = some i) (hz : i.zero = some zv) (hs : zv.cells.size = i.size)
  (RK : Sl M A l) (hl : l.length = n * i.size) (hr : Sl M B r) (iP : r.length = m * i.size) (hc : c < n + m) (hb : (n + m) * i.bytes ≤ 140737488355328) (hby : 0 < i.bytes)
  (h : ∀ k c' M', M k = none → rq M' i.size e (some ⟨k, 0, none⟩) (n + m) c' (l ++ r) → lQ [] M M' → K (.slice (some ⟨k, 0, none⟩) (n + m) c') M') :
  aW P (Builtin.append_ #[t, t'] ty #[.slice A n c, .slice B m d]) M K Kp := by
 unfold aW Builtin.append_
 simp only [List.getElem?_toArray, List.getElem?_cons_zero, List.getElem?_cons_succ]
 refine aV (aE hu M) ?_
 simp only
 refine aV (eO hi M) ?_
 refine aV (aE NW M) ?_
 refine aV (x := false) rfl ?_
 refine aV (x := m) rfl ?_
 simp only [Bool.not_false, if_true]
 rw [if_neg (by omega)]
 refine aV (cf hi M) ?_
 rw [if_neg (by simp; omega)]
 refine aV (cf hi M) ?_
 rw [if_neg (by have := growslice_fits (need := n + m) (old := c) (bytes := i.bytes) (by omega) hb; omega)]
 show ∀ q, _
 intro q
 have hcap : n + m ≤ Question.cut (.appendCap (n + m) c e) q := by simp only [Question.cut]; omega
 generalize Question.cut (.appendCap (n + m) c e) q = nc at hcap
 refine aV (x := nc) rfl ?_
 refine aV (cf hi M) ?_
 refine fE P _ _ ?_
 have room : ∀ (X : Prop) , X → dc P (askRoom (nc * i.bytes)) M (fun _ M' => M' = M) (fun _ _ => False) := by
  intro X _
  unfold askRoom
  split
  ·exact rfl
  ·exact rfl
 refine gJ P _ (room True trivial) (fun _ M' VT => ?_) (fun _ _ hf => hf.elim)
 subst VT
 refine aV (gm RK hl) ?_
 refine aV (gm hr iP) ?_
 refine aV (x := zv) (by rw [jq]; simp [zeroOf, hi, hz]) ?_
 intro k hk
 refine h k nc _ hk ⟨by rw [List.length_append, hl, iP, Nat.add_mul], .inr ⟨k, _, rfl, eB, ?_, hcap, fun j hj => ?_⟩⟩ ((lQ.refl _ _).set (.inr hk))
 ·simp only [Array.size_append, List.size_toArray, hl, iP]
  have : (Builtin.zeroCells zv.cells (nc - (n + m))).size = (nc - (n + m)) * i.size := by simp [Builtin.zeroCells, hs]
  rw [this, ← Nat.add_mul, ← Nat.add_mul]; congr 1; omega
 ·rw [Nat.add_mul] at hj
  rw [Array.getElem?_append_left (by simp [hl, iP]; omega)]
  simp
theorem Hp.MH {α : Type} {E : jO α} {R : Mem} {L L' : List HP} {M : Mem} {T : Nat} {P : Program} {t bytes ty d m k n c : Nat} {zero rc : List Value} {A : Option Addr} {l r : List α} {K : Value → Mem → Prop} {Kp : List PanicEntry → Mem → Prop}
  (h : Hp R L M) [hk : jP k L rc T L'] (hA : Src R L A (E.cells l)) (hn : n = l.length) (El : bA P t T E.z bytes zero) (he : rc = E.cells r) (hm : m = r.length) (hc : c < n + m) (hb : (l.length + r.length) * bytes ≤ 140737488355328)
  (g : ∀ b c' M', Hp R (bV E T (some ⟨b, 0, none⟩) c' (l ++ r) :: L') M' → K (.slice (some ⟨b, 0, none⟩) (l ++ r).length c') M') :
  aW P (Builtin.append_ #[t, t] ty #[.slice A n c, .slice (some ⟨k, 0, none⟩) m d]) M K Kp := by
 subst hm; subst he; subst hn
 have hB : Sl M (some ⟨k, 0, none⟩) (E.cells r) := h.IA hk.pick
 obtain ⟨hu, i, zv, hi, hs, hby, hz, rfl, hl, hpos⟩ := El
 refine Aw hu hu hi hz (by rw [hs, ← hl]; simp) (hA M h) (by rw [hs]; exact E.dn) hB (by rw [hs]; exact E.dn) hc (by rw [hby]; exact hb) (by omega) fun b c' M' hbn ho vI => ?_
 have h2 : Hp R (bV E T (some ⟨b, 0, none⟩) c' (l ++ r) :: L) M' := by
  have h3 : Hp R (fact True :: L) M := Hp.fa.2 ⟨trivial, h⟩
  refine h3.change (D := []) (D' := [b]) (fun A hA x hx => by cases hx) vI (fun x hx => by simp only [List.mem_singleton] at hx; subst hx; exact .inr hbn) ?_
  unfold bV own
  rw [List.length_append, E.oS]
  rw [hs] at ho
  have := ho.Dy
  simpa [xX] using this
 have := g b c' M' (h2.map fun _ hs => hs.tail fun _ hx => (bO.pick hk.pick hx).drop)
 rwa [List.length_append] at this
section
variable {R : Mem} {L L' : List HP} {M : Mem} {P : Program} {t kt et : TypeId} {r : Nat} {l : AL} {k : Int} {kd : IntKind}
theorem GU {z : Value} {i : TypeInfo} {K : Value → Mem → Prop} {Kp : List PanicEntry → Mem → Prop} (h : Hp R L M) [p : Cf r L (jR l) L'] (hu : P.underlying t = some (.map kt et)) (hk : P.underlying kt = some (.int kd)) (hi : P.info? et = some i) (hz : i.zero = some z)
  (g : K (.tuple #[(yn l k).getD z, .bool (yn l k).isSome]) M) : aW P (Instr.lookup t (.map (some r)) (.int .i64 k) true) M K Kp := by
 have hb : M r = some (jR l) := (h.pick p.pick).Iv
 unfold aW Instr.lookup
 refine aV (aE hu M) ?_
 simp only
 refine fE P _ _ ?_
 refine qQ hb ?_
 simp only [jR]
 refine aV (x := ()) (oq hk) ?_
 refine aV (qP hk) ?_
 unfold yn at g
 cases ha : sI k l 0 with
 | none =>
  rw [ha] at g
  simp only
  have ZK : bE P (zeroValue et) M = some z := by rw [jq]; simp [zeroOf, hi, hz]
  refine aV ZK ?_
  refine aV (x := (z, false)) rfl ?_
  exact g
 | some x =>
  rw [ha] at g
  exact g
end
theorem Cg {C : Ctx} {g : Nat} {args : List Value} {M : Mem} {K : Value → Mem → Prop} {Kp : List PanicEntry → Mem → Prop} (hg : 1 < g ∧ g < C.ok) (h : aa C.P g args.toArray M K Kp) : gK C (.func (.func g) #[] #[]) args M K Kp := by
 unfold gK
 simp only
 rw [if_pos hg]
 simpa using h
theorem ik {z : Int} (h0 : 0 ≤ z) (h : z < 9223372036854775807) : IntKind.wrap .i64 (z + 1) = z + 1 := by
 obtain ⟨n, rfl⟩ := Int.eq_ofNat_of_zero_le h0
 have := kS (n := n + 1) (by omega)
 exact_mod_cast this
theorem Hp.D4 {α : Type} {E : jO α} {R : Mem} {L : List HP} {M : Mem} {T c : Nat} {A : Option Addr} {l r : List α} {P : Program} {t bytes ty d m : Nat} {zero : List Value} {B : Option Addr} {K : Value → Mem → Prop} {Kp : List PanicEntry → Mem → Prop}
  (h : Hp R (bV E T A c l :: L) M) (El : bA P t T E.z bytes zero) (hr : Sl M B (E.cells r)) (hm : m = r.length) (hb : (l.length + r.length) * bytes ≤ 140737488355328)
  (g : ∀ A' c' M', Hp R (bV E T A' c' (l ++ r) :: L) M' → K (.slice A' (l ++ r).length c') M') :
  aW P (Builtin.append_ #[t, t] ty #[.slice A l.length c, .slice B m d]) M K Kp := by
 subst hm
 have h2 : Hp R (own E.z T A l.length c (E.cells l) :: L) M := by
  have := h; unfold bV at this; exact this
 refine h2.append El hr E.dn E.jX hb fun A' c' M' h => ?_
 have := g A' c' M' (by unfold bV; rw [List.length_append, E.oS]; exact h)
 rwa [List.length_append] at this
theorem Hp.ot {α : Type} {E : jO α} {R : Mem} {L L' mD : List HP} {M : Mem} {T c n : Nat} {A : Option Addr} {l : List α} {P : Program} {t bytes ty k d m : Nat} {zero rc : List Value} {K : Value → Mem → Prop} {Kp : List PanicEntry → Mem → Prop}
  (h : Hp R L M) [ha : cq A L α E T c l L'] [hk : jP k L' rc T mD] (El : bA P t T E.z bytes zero) (r : List α) (he : rc = E.cells r) (hn : n = l.length) (hm : m = r.length) (hb : (l.length + r.length) * bytes ≤ 140737488355328)
  (g : ∀ A' c' M', Hp R (bV E T A' c' (l ++ r) :: mD) M' → K (.slice A' (n + m) c') M') :
  aW P (Builtin.append_ #[t, t] ty #[.slice A n c, .slice (some ⟨k, 0, none⟩) m d]) M K Kp := by
 subst hn
 refine h.bF (A := A) El r he hm hb fun A' c' M' h => ?_
 have := g A' c' M' h
 rwa [hm, ← List.length_append] at this
theorem y7 {C : Ctx} {g : Nat} {caps : Array Value} {args : List Value} {M : Mem} {K : Value → Mem → Prop} {Kp : List PanicEntry → Mem → Prop} (hg : 1 < g ∧ g < C.ok) (h : aa C.P g (args ++ caps.toList).toArray M K Kp) : gK C (.func (.func g) #[] caps) args M K Kp := by
 unfold gK
 simp only
 rw [if_pos hg]
 simpa using h
end Go.AF
namespace Go.Proofs
open Go.AF
set_option maxRecDepth 100000
set_option maxHeartbeats 1000000
attribute [local irreducible] aG cV fC b8 az e7 aD aF bh aW bG aO
abbrev sK (A : Option Addr) (c : Nat) (l : List fh) : HP := bV jb 275 A c l
theorem JT : bA Tryz.prog 226 275 11 88 (jb.f ⟨0, 0, [], 0⟩) := bA.mk' (zv := .agg #[.int .i64 0, .int .i64 0, .int .i64 0, .int .i64 0, .int .i64 0, .int .i64 0, .int .i64 0, .int .i64 0, .int .i64 0, .int .i64 0, .int .i64 0]) (by kernel_rfl) (by kernel_rfl) rfl (by omega)
theorem fh.set_set {f : fh} {q u v : Int} : (f.set q u).set q v = f.set q v := by
 unfold fh.set
 congr 1
 apply List.map_congr_left
 intro i hi
 by_cases h : i = q.toNat
 ·rw [if_pos h, if_pos h]
 ·rw [if_neg h, if_neg h]
  simp [List.mem_range.1 hi, h]
section
variable {R : Mem} {L L' : List HP} {M : Mem} {K : Value → Mem → Prop} {Kp : List PanicEntry → Mem → Prop} {b i c : Nat} {l : List fh} {f : fh} {x : cN}
theorem sL {q : Int} {o : Nat} {G : Int → Prop} (h : Hp R L M) [p : cq (some ⟨b, 0, none⟩) L fh jb 275 c l L'] (hi : l[i]? = some f) (hq : bt q) (e : o = i * 11 + 2 + q.toNat) (g : G (f.bN q)) : aG (M.ld ⟨b, o, none⟩) .i64 G := by
 refine bq (Src.at (h.src (A := some ⟨b, 0, none⟩)) h (i := i) (j := 2 + q.toNat) hi (Pr hq.1 hq.2) ?_) g
 show _ = 0 + (i * 11 + (2 + q.toNat)); omega
theorem ua {q v : Int} {o : Nat} {G : Mem → Prop} (h : Hp R L M) [p : cq (some ⟨b, 0, none⟩) L fh jb 275 c l L'] (hi : l[i]? = some f) (hq : bt q) (e : o = i * 11 + 2 + q.toNat)
  (k : ∀ M', Hp R (sK (some ⟨b, 0, none⟩) c (l.set i (f.set q v)) :: L') M' → G M') : aF M ⟨b, o, none⟩ (.int .i64 v) G := by
 obtain ⟨q0, q8⟩ := hq
 refine gO i (2 + q.toNat) h hi ?_ (LX q0 q8) ?_ k
 ·show _ < 11; omega
 ·show _ = i * 11 + (2 + q.toNat); omega
theorem wT {o : Nat} {G : Int → Prop} (h : Hp R L M) [p : cq (some ⟨b, 0, none⟩) L fh jb 275 c l L'] (hi : l[i]? = some f) (e : o = i * 11 + 1) (g : G f.pc) : aG (M.ld ⟨b, o, none⟩) .i64 G := by
 refine bq (Src.at (h.src (A := some ⟨b, 0, none⟩)) h (i := i) (j := 1) hi rfl ?_) g
 show _ = 0 + (i * 11 + 1); omega
theorem wU {v : Int} {o : Nat} {G : Mem → Prop} (h : Hp R L M) [p : cq (some ⟨b, 0, none⟩) L fh jb 275 c l L'] (hi : l[i]? = some f) (e : o = i * 11 + 1)
  (k : ∀ M', Hp R (sK (some ⟨b, 0, none⟩) c (l.set i { f with pc := v }) :: L') M' → G M') : aF M ⟨b, o, none⟩ (.int .i64 v) G := by
 refine gO i 1 h hi (by show 1 < 11; omega) Ps ?_ k
 show _ = i * 11 + 1; omega
theorem gS {α : Type} {l : List α} {i : Nat} {u v : α} : (l.set i u).set i v = l.set i v := by simp
def Ue : List Nat := [225, 226, 227, 228, 229, 230, 231, 232, 233]
theorem JU (h : Hp R L M) [p : cq (some ⟨b, 0, none⟩) L fh jb 275 c l L'] (hi : l[i]? = some f) (hx : x.kD) (n : Nat) (hn : x.op = (n : Int)) (h8 : n ≤ 8)
  (k : ∀ M', Hp R (sK (some ⟨b, 0, none⟩) c (l.set i (f.pure x)) :: L') M' → K (.tuple #[]) M') :
  aa Tryz.prog (Ue.getD n 0) #[.pointer (some ⟨b, i * 11, none⟩), .agg #[.int .i64 x.op, .int .i64 x.a, .int .i64 x.b, .int .i64 x.c]] M K Kp := by
 obtain ⟨op, xa, xb, xc⟩ := x
 obtain ⟨o1, o2, o3⟩ := hx
 dsimp only at hn o1 o2 o3 k ⊢
 have hsame : l.set i f = l := by obtain ⟨hl, rfl⟩ := List.getElem?_eq_some_iff.1 hi; simp
 subst hn
 have hlt := (List.getElem?_eq_some_iff.1 hi).1
 obtain rfl | rfl | rfl | rfl | rfl | rfl | rfl | rfl | rfl : n = 0 ∨ n = 1 ∨ n = 2 ∨ n = 3 ∨ n = 4 ∨ n = 5 ∨ n = 6 ∨ n = 7 ∨ n = 8 := by omega
 ·refine qE ?_
  have e : f.pure ⟨((0 : Nat) : Int), xa, xb, xc⟩ = f := rfl
  rw [e, hsame] at k
  repeat (first|(refine aj h ?_;clear h;intro kb M h)|(refine aq h ?_;clear h;intro M h)|refine St.to h ?_|(apply Exists.intro;(repeat apply Exists.intro);refine And.intro rfl ?_)|refine au ?_|refine af ?_|refine ai ?_)
  exact k _ ((h.row (some ⟨b, 0, none⟩)).bP)
 ·have ra : bt xa := o1 (by simp)
  refine kW ?_
  repeat (first|(refine aj h ?_;clear h;intro kb M h)|(refine aq h ?_;clear h;intro M h)|refine St.to h ?_|(apply Exists.intro;(repeat apply Exists.intro);refine And.intro rfl ?_)|refine au ?_|refine af ?_|refine ai ?_)
  refine ⟨ra.1, ra.2, ua h hi ra rfl fun M h => ?_⟩
  exact k _ h.bP
 ·obtain ⟨ra, rb⟩ := o2 rfl
  refine pN ?_
  repeat (first|(refine aj h ?_;clear h;intro kb M h)|(refine aq h ?_;clear h;intro M h)|refine St.to h ?_|(apply Exists.intro;(repeat apply Exists.intro);refine And.intro rfl ?_)|refine au ?_|refine af ?_|refine ai ?_)
  refine ⟨rb.1, rb.2, sL h hi rb rfl ?_⟩
  refine ⟨ra.1, ra.2, ua h hi ra rfl fun M h => ?_⟩
  exact k _ h.bP
 ·obtain ⟨ra, rb, rc⟩ := o3 (by simp)
  refine qF ?_
  repeat (first|(refine aj h ?_;clear h;intro kb M h)|(refine aq h ?_;clear h;intro M h)|refine St.to h ?_|(apply Exists.intro;(repeat apply Exists.intro);refine And.intro rfl ?_)|refine au ?_|refine af ?_|refine ai ?_)
  refine ⟨rb.1, rb.2, sL h hi rb rfl ?_⟩
  repeat (first|(refine aj h ?_;clear h;intro kb M h)|(refine aq h ?_;clear h;intro M h)|refine St.to h ?_|(apply Exists.intro;(repeat apply Exists.intro);refine And.intro rfl ?_)|refine au ?_|refine af ?_|refine ai ?_)
  refine ⟨rc.1, rc.2, sL h hi rc rfl ?_⟩
  refine ⟨ra.1, ra.2, ua h hi ra rfl fun M h => ?_⟩
  exact k _ h.bP
 ·obtain ⟨ra, rb, rc⟩ := o3 (by simp)
  refine qG ?_
  repeat (first|(refine aj h ?_;clear h;intro kb M h)|(refine aq h ?_;clear h;intro M h)|refine St.to h ?_|(apply Exists.intro;(repeat apply Exists.intro);refine And.intro rfl ?_)|refine au ?_|refine af ?_|refine ai ?_)
  refine ⟨rb.1, rb.2, sL h hi rb rfl ?_⟩
  repeat (first|(refine aj h ?_;clear h;intro kb M h)|(refine aq h ?_;clear h;intro M h)|refine St.to h ?_|(apply Exists.intro;(repeat apply Exists.intro);refine And.intro rfl ?_)|refine au ?_|refine af ?_|refine ai ?_)
  refine ⟨rc.1, rc.2, sL h hi rc rfl ?_⟩
  refine ⟨ra.1, ra.2, ua h hi ra rfl fun M h => ?_⟩
  exact k _ h.bP
 ·obtain ⟨ra, rb, rc⟩ := o3 (by simp)
  refine qH ?_
  repeat (first|(refine aj h ?_;clear h;intro kb M h)|(refine aq h ?_;clear h;intro M h)|refine St.to h ?_|(apply Exists.intro;(repeat apply Exists.intro);refine And.intro rfl ?_)|refine au ?_|refine af ?_|refine ai ?_)
  refine ⟨rb.1, rb.2, sL h hi rb rfl ?_⟩
  repeat (first|(refine aj h ?_;clear h;intro kb M h)|(refine aq h ?_;clear h;intro M h)|refine St.to h ?_|(apply Exists.intro;(repeat apply Exists.intro);refine And.intro rfl ?_)|refine au ?_|refine af ?_|refine ai ?_)
  refine ⟨rc.1, rc.2, sL h hi rc rfl ?_⟩
  refine ⟨ra.1, ra.2, ua h hi ra rfl fun M h => ?_⟩
  exact k _ h.bP
 ·obtain ⟨ra, rb, rc⟩ := o3 (by simp)
  refine pO ?_
  repeat (first|(refine aj h ?_;clear h;intro kb M h)|(refine aq h ?_;clear h;intro M h)|refine St.to h ?_|(apply Exists.intro;(repeat apply Exists.intro);refine And.intro rfl ?_)|refine au ?_|refine af ?_|refine ai ?_)
  refine ⟨rb.1, rb.2, sL h hi rb rfl ?_⟩
  repeat (first|(refine aj h ?_;clear h;intro kb M h)|(refine aq h ?_;clear h;intro M h)|refine St.to h ?_|(apply Exists.intro;(repeat apply Exists.intro);refine And.intro rfl ?_)|refine au ?_|refine af ?_|refine ai ?_)
  refine ⟨rc.1, rc.2, sL h hi rc rfl ?_⟩
  repeat (first|(refine aj h ?_;clear h;intro kb M h)|(refine aq h ?_;clear h;intro M h)|refine St.to h ?_|(apply Exists.intro;(repeat apply Exists.intro);refine And.intro rfl ?_)|refine au ?_|refine af ?_|refine ai ?_)
  refine ⟨ra.1, ra.2, ua h hi ra rfl fun M h => ?_⟩
  have e : f.pure ⟨((6 : Nat) : Int), xa, xb, xc⟩ = f.set xa (if f.bN xb < f.bN xc then 1 else 0) := rfl
  rw [e] at k
  refine aM.2 ⟨fun hl => ?_, fun hl => ?_⟩
  ·rw [if_pos hl] at k
   repeat (first|(refine aj h ?_;clear h;intro kb M h)|(refine aq h ?_;clear h;intro M h)|refine St.to h ?_|(apply Exists.intro;(repeat apply Exists.intro);refine And.intro rfl ?_)|refine au ?_|refine af ?_|refine ai ?_)
   have JR : (l.set i (f.set xa 0))[i]? = some (f.set xa 0) := by simp [hlt]
   refine ⟨ra.1, ra.2, ua h JR ra rfl fun M h => ?_⟩
   rw [gS, fh.set_set] at h
   exact k _ h.bP
  ·rw [if_neg hl] at k
   exact k _ h.bP
 ·refine pP ?_
  repeat (first|(refine aj h ?_;clear h;intro kb M h)|(refine aq h ?_;clear h;intro M h)|refine St.to h ?_|(apply Exists.intro;(repeat apply Exists.intro);refine And.intro rfl ?_)|refine au ?_|refine af ?_|refine ai ?_)
  refine wU h hi rfl fun M h => ?_
  exact k _ h.bP
 ·have ra : bt xa := o1 (by simp)
  refine mS ?_
  repeat (first|(refine aj h ?_;clear h;intro kb M h)|(refine aq h ?_;clear h;intro M h)|refine St.to h ?_|(apply Exists.intro;(repeat apply Exists.intro);refine And.intro rfl ?_)|refine au ?_|refine af ?_|refine ai ?_)
  have e : f.pure ⟨((8 : Nat) : Int), xa, xb, xc⟩ = if f.bN xa ≠ 0 then { f with pc := xb } else f := rfl
  rw [e] at k
  refine ⟨ra.1, ra.2, sL h hi ra rfl ?_⟩
  refine de.2 ⟨fun hl => ?_, fun hl => ?_⟩
  ·rw [if_pos hl] at k
   repeat (first|(refine aj h ?_;clear h;intro kb M h)|(refine aq h ?_;clear h;intro M h)|refine St.to h ?_|(apply Exists.intro;(repeat apply Exists.intro);refine And.intro rfl ?_)|refine au ?_|refine af ?_|refine ai ?_)
   refine wU h hi rfl fun M h => ?_
   exact k _ h.bP
  ·rw [if_neg (by simpa using hl), hsame] at k
   exact k _ ((h.row (some ⟨b, 0, none⟩)).bP)
def MI : AL := (List.range 9).map fun n : Nat => ((n : Int), .func (.func (Ue.getD n 0)) #[] #[])
theorem Ch (h : Hp R L M) (k : ∀ m M', Hp R (ob m (jR MI) :: L) M' → K (.map (some m)) M') : aa Tryz.prog 203 #[] M K Kp := by
 refine wL ?_
 refine N2 h ?_
 clear h
 intro m M h
 replace h : Hp R (ob m (jR []) :: L) M := h
 have hu : Tryz.prog.underlying 361 = some (.map 25 359) := by kernel_rfl
 have hk : Tryz.prog.underlying 25 = some (.int .i64) := by kernel_rfl
 iterate 9
  refine uO h hu hk ?_
  clear h
  intro M h
 exact k _ _ h
theorem D5 (h : Hp R L M) [p : cq (some ⟨b, 0, none⟩) L fh jb 275 c l L'] (hi : l[i]? = some f) (hx : x.kD) (h0 : 0 ≤ x.op) (hs : 0 ≤ f.pc ∧ f.pc < 1000000000)
  (k1 : x.op ≤ 8 → ∀ M', Hp R (sK (some ⟨b, 0, none⟩) c (l.set i (f.next.pure x)) :: L') M' → K (.bool true) M')
  (k2 : 8 < x.op → ∀ M', Hp R (sK (some ⟨b, 0, none⟩) c l :: L') M' → K (.bool false) M') :
  aa Tryz.prog 190 #[.pointer (some ⟨b, i * 11, none⟩), .agg #[.int .i64 x.op, .int .i64 x.a, .int .i64 x.b, .int .i64 x.c]] M K Kp := by
 have hlt := (List.getElem?_eq_some_iff.1 hi).1
 obtain ⟨q, hq⟩ := Int.eq_ofNat_of_zero_le h0
 refine pC ?_
 repeat (first|(refine aj h ?_;clear h;intro kb M h)|(refine aq h ?_;clear h;intro M h)|refine St.to h ?_|(apply Exists.intro;(repeat apply Exists.intro);refine And.intro rfl ?_)|refine au ?_|refine af ?_|refine ai ?_)
 refine Ch h ?_
 clear h
 intro m M h
 repeat (first|(refine aj h ?_;clear h;intro kb M h)|(refine aq h ?_;clear h;intro M h)|refine St.to h ?_|(apply Exists.intro;(repeat apply Exists.intro);refine And.intro rfl ?_)|refine au ?_|refine af ?_|refine ai ?_)
 have hu : Tryz.prog.underlying 361 = some (.map 25 359) := by kernel_rfl
 have hk : Tryz.prog.underlying 25 = some (.int .i64) := by kernel_rfl
 obtain ⟨ti, Vn, ZL⟩ : ∃ ti, Tryz.prog.info? 359 = some ti ∧ ti.zero = some .nilFunc := ⟨_, rfl, rfl⟩
 refine GU h hu hk Vn ZL ?_
 refine ⟨_, _, rfl, bk h, ?_⟩
 by_cases h8 : x.op ≤ 8
 ·have hq8 : q ≤ 8 := by omega
  have hl : yn MI x.op = some (.func (.func (Ue.getD q 0)) #[] #[]) := by
   rw [hq]
   obtain rfl | rfl | rfl | rfl | rfl | rfl | rfl | rfl | rfl : q = 0 ∨ q = 1 ∨ q = 2 ∨ q = 3 ∨ q = 4 ∨ q = 5 ∨ q = 6 ∨ q = 7 ∨ q = 8 := by omega
   all_goals rfl
  rw [hl]
  refine af ?_
  refine wT h hi rfl ?_
  rw [ik (by omega) (by omega)]
  refine wU h hi rfl ?_
  clear h
  intro M h
  have JR : (l.set i { f with pc := f.pc + 1 })[i]? = some f.next := by simp [hlt, fh.next]
  repeat (first|(refine aj h ?_;clear h;intro kb M h)|(refine aq h ?_;clear h;intro M h)|refine St.to h ?_|(apply Exists.intro;(repeat apply Exists.intro);refine And.intro rfl ?_)|refine au ?_|refine af ?_|refine ai ?_)
  have hg : 1 < Ue.getD q 0 ∧ Ue.getD q 0 < Cx.ok := by
   obtain rfl | rfl | rfl | rfl | rfl | rfl | rfl | rfl | rfl : q = 0 ∨ q = 1 ∨ q = 2 ∨ q = 3 ∨ q = 4 ∨ q = 5 ∨ q = 6 ∨ q = 7 ∨ q = 8 := by omega
   all_goals exact ⟨by decide, by show _ < 255; decide⟩
  refine Cg hg ?_
  refine JU (f := f.next) h JR hx q hq hq8 ?_
  clear h
  intro M h
  rw [gS] at h
  exact ⟨rfl, k1 h8 _ h.bP⟩
 ·have hl : yn MI x.op = none := by
   rw [MG, y6]
   have : MI.map (·.1) = [0, 1, 2, 3, 4, 5, 6, 7, 8] := by decide
   rw [this]; simp; omega
  rw [hl]
  refine ai ?_
  exact k2 (by omega) _ ((h.row (some ⟨b, 0, none⟩)).bP)
end
section
variable {R : Mem} {L L' : List HP} {M : Mem} {K : Value → Mem → Prop} {Kp : List PanicEntry → Mem → Prop} {b i c : Nat} {l : List fh} {f : fh} {x : cN}
theorem kY {m : Nat} (hm : 0 < m) (h2 : m ≤ 1000000000) (k : K (.pointer (some ⟨b, (m - 1) * 11, none⟩)) M) : aa Tryz.prog 189 #[.slice (some ⟨b, 0, none⟩) m c] M K Kp := by
 refine qz ?_
 have e : IntKind.wrap .i64 ((m : Int) - 1) = ((m - 1 : Nat) : Int) := wn (by omega) (by omega)
 refine bU.2 ⟨fun h0 => by omega, fun _ => ?_⟩
 rw [e]
 refine ⟨by omega, by omega, bp ?_⟩
 simp only [Int.toNat_natCast, Nat.zero_add]
 exact k
theorem ou {fn v : Int} (h : Hp R L M) (k : ∀ b M', Hp R (sK (some ⟨b, 0, none⟩) 1 [fh.begin fn v] :: L) M' → K (.slice (some ⟨b, 0, none⟩) 1 1) M') : aa Tryz.prog 112 #[.int .i64 fn, .int .i64 v] M K Kp := by
 refine wH ?_
 refine aj h ?_
 clear h
 intro b M h
 exact k b M (h.fz (E := jb) (l := [fh.begin fn v]) rfl)
theorem D6 {fn v bK : Int} {A : Option Addr} (h : Hp R L M) [p : cq A L fh jb 275 c l L'] (hl : 0 < l.length)
  (k1 : 16 ≤ l.length → K (.tuple #[.slice A l.length c, .bool false]) M)
  (k2 : l.length < 16 → ∀ b c' M', Hp R (sK (some ⟨b, 0, none⟩) c' (l ++ [⟨fn, 0, [v, 0, 0, 0, 0, 0, 0, 0], bK⟩]) :: L) M' → K (.tuple #[.slice (some ⟨b, 0, none⟩) (l.length + 1) c', .bool true]) M') :
  aa Tryz.prog 241 #[.slice A l.length c, .int .i64 fn, .int .i64 v, .int .i64 bK] M K Kp := by
 refine pR ?_
 have hcap := h.iJ A
 refine aM.2 ⟨fun qR => k1 (by omega), fun qR => ?_⟩
 refine ⟨by omega, by omega, by omega, by omega, by omega, by omega, ?_⟩
 refine aj h ?_
 clear h
 intro kb M h
 simp only [Int.toNat_natCast, Nat.sub_zero]
 have e : lF A 0 l.length 11 = A := by
  obtain ⟨bb, rfl⟩ := h.bz (A := A) hl (by decide)
  unfold lF
  rw [if_neg (by omega)]
  rfl
 rw [e]
 refine Hp.MH (E := jb) (r := [⟨fn, 0, [v, 0, 0, 0, 0, 0, 0, 0], bK⟩]) h (h.src (A := A)) rfl JT rfl rfl (by omega) (by simp; omega) ?_
 clear h
 intro b c' M h
 refine aR ?_
 have := k2 (by omega) b c' M h
 rwa [List.length_append]
theorem Ax {v : Int} {A : Option Addr} (h : Hp R L M) [p : cq A L fh jb 275 c l L'] (hl : 0 < l.length) (hs : l.length ≤ 1000000)
  (JV : l[l.length - 1]? = some f) (hin : bt f.bK)
  (k1 : l.length < 2 → K (.tuple #[.slice none 0 0, .bool false]) M)
  (k2 : 2 ≤ l.length → ∀ b c' M', ∀ g, l[l.length - 2]? = some g → Hp R (sK (some ⟨b, 0, none⟩) c' ((l.take (l.length - 1)).set (l.length - 2) (g.set f.bK v)) :: L) M' → K (.tuple #[.slice (some ⟨b, 0, none⟩) (l.length - 1) c', .bool true]) M') :
  aa Tryz.prog 242 #[.slice A l.length c, .int .i64 v] M K Kp := by
 refine mT ?_
 have hcap := h.iJ A
 refine aM.2 ⟨fun qR => k1 (by omega), fun qR => ?_⟩
 have e : IntKind.wrap .i64 ((l.length : Int) - 1) = ((l.length - 1 : Nat) : Int) := wn (by omega) (by omega)
 obtain ⟨ba, rfl⟩ := h.bz (A := A) hl (by decide)
 refine aj h ?_
 clear h
 intro kb M h
 rw [e]
 refine ⟨by omega, by omega, by omega, by omega, by omega, by omega, ?_⟩
 simp only [Int.toNat_natCast, Nat.sub_zero]
 have e2 : lF (some ⟨ba, 0, none⟩) 0 c 11 = some ⟨ba, 0, none⟩ := by
  unfold lF
  rw [if_neg (by omega)]
  rfl
 rw [e2]
 refine h.iY jb JT (l.take (l.length - 1)) ((h.src (A := some ⟨ba, 0, none⟩)).N4 _) (by simp) (by simp; omega) ?_
 clear h
 intro A' c' M h
 have hlen : (l.take (l.length - 1)).length = l.length - 1 := by simp
 obtain ⟨b', rfl⟩ := h.bz (A := A') (by omega) (by decide)
 refine aR ?_
 rw [hlen]
 refine kY (by omega) (by omega) ?_
 refine eM (bp ?_)
 refine kY (by omega) (by omega) ?_
 refine eM (bp ?_)
 refine bq (Src.at (h.src (A := some ⟨ba, 0, none⟩)) h (i := l.length - 1) (j := 10) JV rfl (by show _ = 0 + ((l.length - 1) * 11 + 10); omega)) ?_
 obtain ⟨g, hg⟩ := aK (l := l) (i := l.length - 2) (by omega)
 refine ⟨hin.1, hin.2, ?_⟩
 have GV : (l.take (l.length - 1))[l.length - 2]? = some g := by rw [List.getElem?_take, if_pos (by omega)]; exact hg
 refine ua h GV hin (by omega) ?_
 clear h
 intro M h
 exact k2 (by omega) b' c' M g hg h
abbrev jD (A : Option Addr) (c : Nat) (l : List Int) : HP := bV bB 3 A c l
def eN : ru Lk := ⟨fun b x => exs fun A : Option Addr => exs fun c : Nat => sep [pt b [.int .i64 x.owner, .slice A x.waits.length c] 307, jD A c x.waits]⟩
def Lk.take (x : Lk) (g : Int) : Lk × Bool := if x.owner = -1 then (⟨g, x.waits⟩, true) else (⟨x.owner, x.waits ++ [g]⟩, false)
def Lk.qd (x : Lk) (g : Int) : Lk × Int × Int :=
 if x.owner = -1 ∨ x.owner ≠ g then (x, -1, 5) else (⟨x.waits.headD (-1), x.waits.tail⟩, x.waits.headD (-1), 0)
variable {y : Lk}
theorem y8 (h : Hp R L M) [o : bZ eN b L y L'] : ∃ A c, Hp R (pt b [.int .i64 y.owner, .slice A y.waits.length c] 307 :: jD A c y.waits :: L') M := by
 have := h.obj eN b
 simpa only [eN, Hp.dg, Hp.aQ, List.cons_append, List.nil_append] using this
theorem gu {A : Option Addr} {n c : Nat} {o : Int} {ws : List Int} {L1 L2 : List HP} (h : Hp R L M) (b : Nat) [p : jP b L [.int .i64 o, .slice A n c] 307 L1] [p1 : cq A L1 Int bB 3 c ws L2] (e : n = ws.length := by first | rfl | simp) : Hp R (ax eN b ⟨o, ws⟩ :: L2) M := by
 subst e
 refine Hp.u6 ?_
 simp only [eN, Hp.dg, Hp.aQ, List.cons_append, List.nil_append]
 exact ⟨_, _, h.sub (.cons p.pick (.cons p1.pick .refl))⟩
theorem y9 (h : Hp R L M) (k : ∀ b M', Hp R (ax eN b ⟨-1, []⟩ :: L) M' → K (.pointer (some ⟨b, 0, none⟩)) M') : aa Tryz.prog 114 #[] M K Kp := by
 refine Aa ?_
 refine aj h ?_
 clear h
 intro b M h
 have h := h.cz bB 3
 exact k b M (gu h b)
theorem D7 {g : Int} (h : Hp R L M) [o : bZ eN b L y L'] (hs : y.waits.length ≤ 1000000000) (k : ∀ M', Hp R (ax eN b (y.take g).1 :: L') M' → K (.bool (y.take g).2) M') :
  aa Tryz.prog 245 #[.pointer (some ⟨b, 0, none⟩), .int .i64 g] M K Kp := by
 refine qI ?_
 have h' := y8 h (b := b)
 clear h
 obtain ⟨A, c, h⟩ := h'
 repeat (first|(refine aj h ?_;clear h;intro kb M h)|(refine aq h ?_;clear h;intro M h)|refine St.to h ?_|(apply Exists.intro;(repeat apply Exists.intro);refine And.intro rfl ?_)|refine au ?_|refine af ?_|refine ai ?_)
 unfold Lk.take at k
 refine de.2 ⟨fun hn => ?_, fun hn => ?_⟩
 ·rw [if_neg hn] at k
  repeat (first|(refine aj h ?_;clear h;intro kb M h)|(refine aq h ?_;clear h;intro M h)|refine St.to h ?_|(apply Exists.intro;(repeat apply Exists.intro);refine And.intro rfl ?_)|refine au ?_|refine af ?_|refine ai ?_)
  refine h.bF z9 [g] rfl rfl (by simp; omega) ?_
  clear h
  intro A' c' M h
  repeat (first|(refine aj h ?_;clear h;intro kb M h)|(refine aq h ?_;clear h;intro M h)|refine St.to h ?_|(apply Exists.intro;(repeat apply Exists.intro);refine And.intro rfl ?_)|refine au ?_|refine af ?_|refine ai ?_)
  exact k _ (gu h b).bP
 ·rw [if_pos hn] at k
  repeat (first|(refine aj h ?_;clear h;intro kb M h)|(refine aq h ?_;clear h;intro M h)|refine St.to h ?_|(apply Exists.intro;(repeat apply Exists.intro);refine And.intro rfl ?_)|refine au ?_|refine af ?_|refine ai ?_)
  exact k _ (gu h b).bP
theorem D8 {g : Int} (h : Hp R L M) [o : bZ eN b L y L'] (hs : y.waits.length ≤ 1000000000) (k : ∀ M', Hp R (ax eN b (y.qd g).1 :: L') M' → K (.tuple #[.int .i64 (y.qd g).2.1, .int .i64 (y.qd g).2.2]) M') :
  aa Tryz.prog 246 #[.pointer (some ⟨b, 0, none⟩), .int .i64 g] M K Kp := by
 refine qJ ?_
 obtain ⟨ow, ws⟩ := y
 have h' := y8 h (b := b)
 clear h
 obtain ⟨A, c, h⟩ := h'
 dsimp only at h hs
 repeat (first|(refine aj h ?_;clear h;intro kb M h)|(refine aq h ?_;clear h;intro M h)|refine St.to h ?_|(apply Exists.intro;(repeat apply Exists.intro);refine And.intro rfl ?_)|refine au ?_|refine af ?_|refine ai ?_)
 unfold Lk.qd at k
 refine bU.2 ⟨fun hn => ?_, fun hn => ?_⟩
 ·rw [if_pos (.inl hn)] at k
  exact k _ (gu h b).bP
 repeat (first|(refine aj h ?_;clear h;intro kb M h)|(refine aq h ?_;clear h;intro M h)|refine St.to h ?_|(apply Exists.intro;(repeat apply Exists.intro);refine And.intro rfl ?_)|refine au ?_|refine af ?_|refine ai ?_)
 refine de.2 ⟨fun xU => ?_, fun xU => ?_⟩
 ·rw [if_pos (.inr xU)] at k
  exact k _ (gu h b).bP
 rw [if_neg (by rintro (h | h) <;> contradiction)] at k
 repeat (first|(refine aj h ?_;clear h;intro kb M h)|(refine aq h ?_;clear h;intro M h)|refine St.to h ?_|(apply Exists.intro;(repeat apply Exists.intro);refine And.intro rfl ?_)|refine au ?_|refine af ?_|refine ai ?_)
 refine aM.2 ⟨fun hr => ?_, fun hr => ?_⟩
 ·cases ws with
  | nil => simp at hr
  | cons w r =>
   repeat (first|(refine aj h ?_;clear h;intro kb M h)|(refine aq h ?_;clear h;intro M h)|refine St.to h ?_|(apply Exists.intro;(repeat apply Exists.intro);refine And.intro rfl ?_)|refine au ?_|refine af ?_|refine ai ?_)
   obtain ⟨q, rfl⟩ := h.bz (A := A) (by simp) (by decide)
   repeat (first|(refine aj h ?_;clear h;intro kb M h)|(refine aq h ?_;clear h;intro M h)|refine St.to h ?_|(apply Exists.intro;(repeat apply Exists.intro);refine And.intro rfl ?_)|refine au ?_|refine af ?_|refine ai ?_)
   refine bq (Src.at (h.src (A := some ⟨q, 0, none⟩)) h (i := 0) (j := 0) rfl rfl (by simp [bB])) ?_
   have hcap := h.iJ (some ⟨q, 0, none⟩)
   have hlen : r.length + 1 ≤ 1000000000 := by simpa using hs
   repeat (first|(refine aj h ?_;clear h;intro kb M h)|(refine aq h ?_;clear h;intro M h)|refine St.to h ?_|(apply Exists.intro;(repeat apply Exists.intro);refine And.intro rfl ?_)|refine au ?_|refine af ?_|refine ai ?_)
   simp only [Int.toNat_natCast]
   refine h.iY bB z9 r ((h.src (A := some ⟨q, 0, none⟩)).drop (m := 1) hcap) (by simp) (by omega) ?_
   clear h
   intro A' c' M h
   repeat (first|(refine aj h ?_;clear h;intro kb M h)|(refine aq h ?_;clear h;intro M h)|refine St.to h ?_|(apply Exists.intro;(repeat apply Exists.intro);refine And.intro rfl ?_)|refine au ?_|refine af ?_|refine ai ?_)
   exact k _ (gu h b).bP
 ·cases ws with
  | cons v l => simp at hr
  | nil =>
   repeat (first|(refine aj h ?_;clear h;intro kb M h)|(refine aq h ?_;clear h;intro M h)|refine St.to h ?_|(apply Exists.intro;(repeat apply Exists.intro);refine And.intro rfl ?_)|refine au ?_|refine af ?_|refine ai ?_)
   exact k _ (gu h b).bP
end
structure PA where
 f : Option Addr
 fc : Nat
 c : Option Addr
 cc : Nat
 k : Option Addr
 kc : Nat
abbrev GA := Option Addr × Nat
abbrev ov (y : cT) (A : Option Addr) (c : Nat) : List Value := [.int .i64 y.st, .slice A y.fs.length c, .int .i64 y.wt.op, .int .i64 y.wt.a, .int .i64 y.wt.b, .int .i64 y.wt.c]
def eX : ru (cT × GA) := ⟨fun b x => sep [pt b (ov x.1 x.2.1 x.2.2) 229, sK x.2.1 x.2.2 x.1.fs]⟩
structure WA where
 ag : Option Addr
 cg : Nat
 gb : List Nat
 ac : Option Addr
 cc : Nat
 cb : List Nat
 al : Option Addr
 cl : Nat
 lb : List Nat
 ah : Option Addr
 ch : Nat
 ao : Option Addr
 co : Nat
 ar : Option Addr
 cr : Nat
abbrev kF (pa : PA) (p : ck) (dr : Value) (a : WA) (x : Wd) : List Value :=
 [.slice pa.f p.funcs.length pa.fc, .slice pa.c p.oZ.length pa.cc, .int .i64 p.aS, .slice pa.k p.cases.length pa.kc, .slice a.ag a.gb.length a.cg, .int .u64 x.clock,
  .slice a.ac a.cb.length a.cc, .slice a.al a.lb.length a.cl, .slice a.ah x.hl.length a.ch, .int .u64 x.jA, .slice a.ao x.out.length a.co, .int .i64 x.end_, .int .i64 x.code, .slice a.ar x.ready.length a.cr, dr]
abbrev uP (A : Option Addr) (c : Nat) (l : List Nat) : HP := bV kq 224 A c l
abbrev uQ (A : Option Addr) (c : Nat) (l : List Nat) : HP := bV kq 230 A c l
abbrev uR (A : Option Addr) (c : Nat) (l : List Nat) : HP := bV kq 232 A c l
abbrev dw (A : Option Addr) (c : Nat) (l : List aZ) : HP := bV nL 203 A c l
abbrev qh (a : WA) (x : Wd) (L : List HP) : List HP :=
 uP a.ag a.cg a.gb :: uQ a.ac a.cc a.cb :: aP br a.cb x.ay :: uR a.al a.cl a.lb :: aP eN a.lb x.aS :: dw a.ah a.ch x.hl :: qy a.ao a.co x.out :: jD a.ar a.cr x.ready :: L
def ee (gg : List GA) (a : WA) (x : Wd) : Prop := a.gb.length = x.gs.length ∧ gg.length = x.gs.length ∧ a.cb.length = x.ay.length ∧ a.lb.length = x.aS.length
def bg (pa : PA) (p : ck) (gg : List GA) (dr : Value) : ru Wd := ⟨fun b x => exs fun a : WA =>
 sep (pt b (kF pa p dr a x) 161 :: aP eX a.gb (x.gs.zip gg) :: fact (ee gg a x) :: qh a x [])⟩
class uc (b : Nat) (L : List HP) (pa : outParam PA) (p : outParam ck) (gg : outParam (List GA)) (dr : outParam Value) (x : outParam Wd) (L' : outParam (List HP)) : Prop where
 pick : cy L (ax (bg pa p gg dr) b x) L'
instance uc.here {pa : PA} {p : ck} {gg : List GA} {dr : Value} {b : Nat} {x : Wd} {L : List HP} : uc b (ax (bg pa p gg dr) b x :: L) pa p gg dr x L := ⟨.here⟩
instance (priority := low) uc.there {pa : PA} {p : ck} {gg : List GA} {dr : Value} {b : Nat} {x : Wd} {Q : HP} {L L' : List HP} [h : uc b L pa p gg dr x L'] : uc b (Q :: L) pa p gg dr x (Q :: L') := ⟨.there h.pick⟩
section
variable {R : Mem} {L L' : List HP} {M : Mem} {K : Value → Mem → Prop} {Kp : List PanicEntry → Mem → Prop} {pa : PA} {p : ck} {gg : List GA} {dr : Value} {b : Nat} {x : Wd}
theorem bX (h : Hp R L M) [o : uc b L pa p gg dr x L'] : ∃ a : WA, ee gg a x ∧ Hp R (pt b (kF pa p dr a x) 161 :: aP eX a.gb (x.gs.zip gg) :: qh a x L') M := by
 have := h.pick o.pick
 unfold ax at this
 simp only [bg, qh, Hp.dg, Hp.aQ, List.cons_append, List.nil_append] at this
 obtain ⟨a, h⟩ := this
 have h2 := h.pick (P := fact (ee gg a x)) (.there (.there .here))
 exact ⟨a, (Hp.fa.1 h2).1, (Hp.fa.1 h2).2⟩
theorem iB {a : WA} (hl : ee gg a x) (h : Hp R (pt b (kF pa p dr a x) 161 :: aP eX a.gb (x.gs.zip gg) :: qh a x L) M) : Hp R (ax (bg pa p gg dr) b x :: L) M := by
 refine Hp.u6 ?_
 simp only [bg, qh, Hp.dg, Hp.aQ, List.cons_append, List.nil_append]
 refine ⟨a, ?_⟩
 have h2 : Hp R (fact (ee gg a x) :: pt b (kF pa p dr a x) 161 :: aP eX a.gb (x.gs.zip gg) :: qh a x L) M := Hp.fa.2 ⟨hl, h⟩
 exact h2.lS (.there (.there .here))
theorem aN {a : WA} {L0 L1 L2 L3 L4 L5 L6 L7 L8 L9 : List HP} (hl : ee gg a x) (h : Hp R L M) (b : Nat)
  [p0 : jP b L (kF pa p dr a x) 161 L0] [p1 : eU eX L0 a.gb (x.gs.zip gg) L1] [p2 : cq a.ag L1 Nat kq 224 a.cg a.gb L2] [p3 : cq a.ac L2 Nat kq 230 a.cc a.cb L3]
  [p4 : eU br L3 a.cb x.ay L4] [p5 : cq a.al L4 Nat kq 232 a.cl a.lb L5] [p6 : eU eN L5 a.lb x.aS L6] [p7 : cq a.ah L6 aZ nL 203 a.ch x.hl L7] [p8 : cq a.ao L7 Int bB 2 a.co x.out L8]
  [p9 : cq a.ar L8 Int bB 3 a.cr x.ready L9] : Hp R (ax (bg pa p gg dr) b x :: L9) M :=
 iB hl (h.sub (.cons p0.pick (.cons p1.pick (.cons p2.pick (.cons p3.pick (.cons p4.pick (.cons p5.pick (.cons p6.pick (.cons p7.pick (.cons p8.pick (.cons p9.pick .refl)))))))))))
theorem Ci {α β : Type} : ∀ {l : List α} {m : List β} {i : Nat} {u : α} {v : β}, m[i]? = some v → (l.zip m).set i (u, v) = (l.set i u).zip m
 | [], _, _, _, _, _ => by simp
 | a :: l, [], i, u, v, h => by simp at h
 | a :: l, w :: m, 0, u, v, h => by simp at h; subst h; rfl
 | a :: l, w :: m, i + 1, u, v, h => by
  have := Ci (l := l) (u := u) (show m[i]? = some v from by simpa using h)
  simp [this]
theorem me {α β : Type} : ∀ {l : List α} {m : List β} {i : Nat} {u : α} {v : β}, l[i]? = some u → m[i]? = some v → (l.zip m)[i]? = some (u, v)
 | [], _, _, _, _, h, _ => by simp at h
 | a :: l, [], i, u, v, _, h => by simp at h
 | a :: l, w :: m, 0, u, v, h, g => by simp at h g; subst h; subst g; rfl
 | a :: l, w :: m, i + 1, u, v, h, g => by simpa using me (show l[i]? = some u from by simpa using h) (show m[i]? = some v from by simpa using g)
theorem kZ {c : Nat} {y : cT} {A : Option Addr} (h : Hp R L M) [o : bZ eX b L (y, (A, c)) L'] : Hp R (pt b (ov y A c) 229 :: sK A c y.fs :: L') M := by
 have := h.obj eX b
 simpa only [eX, Hp.aQ, List.cons_append, List.nil_append] using this
theorem lf {A : Option Addr} {n c : Nat} {st o1 o2 o3 o4 : Int} {fs : List fh} {L1 L2 : List HP} (h : Hp R L M) (b : Nat) [p : jP b L [.int .i64 st, .slice A n c, .int .i64 o1, .int .i64 o2, .int .i64 o3, .int .i64 o4] 229 L1] [p1 : cq A L1 fh jb 275 c fs L2]
  (e : n = fs.length := by first | rfl | simp) : Hp R (ax eX b (⟨st, fs, ⟨o1, o2, o3, o4⟩⟩, (A, c)) :: L2) M := by
 subst e
 refine Hp.u6 ?_
 simp only [eX, Hp.aQ, List.cons_append, List.nil_append]
 exact h.sub (.cons p.pick (.cons p1.pick .refl))
theorem iC {g : Int} (h : Hp R L M) [o : uc b L pa p gg dr x L'] (h0 : 0 ≤ g) (hg : g < x.gs.length) :
  ∃ (a : WA) (gb : Nat) (A : Option Addr) (c : Nat), ee gg a x ∧ a.gb[g.toNat]? = some gb ∧ gg[g.toNat]? = some (A, c) ∧
   Hp R (pt gb (ov (ae x g) A c) 229 :: sK A c (ae x g).fs :: pt b (kF pa p dr a x) 161 :: j0 eX a.gb (x.gs.zip gg) g.toNat :: qh a x L') M := by
 obtain ⟨a, hl, h1⟩ := bX h (b := b)
 obtain ⟨l1, l2, l3, l4⟩ := hl
 obtain ⟨gb, fk⟩ := aK (l := a.gb) (i := g.toNat) (by omega)
 obtain ⟨⟨A, c⟩, dU⟩ := aK (l := gg) (i := g.toNat) (by omega)
 obtain ⟨y, hy⟩ := aK (l := x.gs) (i := g.toNat) (by omega)
 have e : ae x g = y := by simp [ae, hy]
 rw [e]
 have h2 := h1.cB eX fk (me hy dU)
 have h3 := kZ (b := gb) h2
 exact ⟨a, gb, A, c, ⟨l1, l2, l3, l4⟩, fk, dU, h3.sub bM⟩
theorem cu {a : WA} {A : Option Addr} {c n : Nat} {g : Int} {st o1 o2 o3 o4 : Int} {fs : List fh} {L1 L2 L3 : List HP} (h : Hp R L M) (gb : Nat) (hl : ee gg a x) (fk : a.gb[g.toNat]? = some gb) (dU : gg[g.toNat]? = some (A, c))
  [p1 : jP gb L [.int .i64 st, .slice A n c, .int .i64 o1, .int .i64 o2, .int .i64 o3, .int .i64 o4] 229 L1] [p2 : cq A L1 fh jb 275 c fs L2]
  [p3 : uL eX L2 a.gb (x.gs.zip gg) g.toNat L3] (e : n = fs.length := by first | rfl | simp) : Hp R (aP eX a.gb ((x.gs.set g.toNat ⟨st, fs, ⟨o1, o2, o3, o4⟩⟩).zip gg) :: L3) M := by
 have h1 := lf h gb e
 obtain ⟨l1, l2, l3, l4⟩ := hl
 have hi := (List.getElem?_eq_some_iff.1 fk).1
 have h2 := h1.dh eX gb fk (by rw [List.length_zip]; omega)
 rwa [Ci dU] at h2
end
section
variable {R : Mem} {L L' : List HP} {M : Mem} {K : Value → Mem → Prop} {Kp : List PanicEntry → Mem → Prop} {pa : PA} {p : ck} {gg : List GA} {dr : Value} {b : Nat} {x : Wd}
theorem QO {A : Option Addr} {l : List Nat} {T c q i bb : Nat} (h : Hp R L M) [r : cq A L Nat kq T c l L'] (hq : A = some ⟨q, 0, none⟩) (hb : l[i]? = some bb) : M.ld ⟨q, 0 + i, none⟩ = some (.pointer (some ⟨bb, 0, none⟩)) := by
 subst hq
 exact Src.at (h.src (A := some ⟨q, 0, none⟩)) h (i := i) (j := 0) hb rfl (by simp [kq])
theorem tw {A : Option Addr} {l : List Nat} {T c bb i : Nat} {G : Nat → Nat → Option Addr → Prop} (h : Hp R L M) [r : cq A L Nat kq T c l L'] (hb : l[i]? = some bb) (k : ∀ q, A = some ⟨q, 0, none⟩ → G q 0 (some ⟨bb, 0, none⟩)) :
  aD A fun k4 k5 => b8 (M.ld ⟨k4, k5 + i, none⟩) fun A6 => G k4 k5 A6 := by
 obtain ⟨q, hq⟩ := h.bz (A := A) (by have := (List.getElem?_eq_some_iff.1 hb).1; omega) (by decide)
 have h2 := QO h hq hb
 subst hq
 refine bp ?_
 rw [h2]
 exact eM (k q rfl)
theorem gv {g : Int} (h : Hp R L M) [o : uc b L pa p gg dr x L'] (h0 : 0 ≤ g) (hg : g < x.gs.length) (hr : x.ready.length ≤ 1000000000)
  (k : ∀ M', Hp R (ax (bg pa p gg dr) b (x.cO g) :: L') M' → K (.tuple #[]) M') : aa Tryz.prog 158 #[.pointer (some ⟨b, 0, none⟩), .int .i64 g] M K Kp := by
 refine pB ?_
 have h' := iC h (b := b) h0 hg
 clear h
 obtain ⟨a, gb, A, c, hl, fk, dU, h⟩ := h'
 have hl' := hl
 obtain ⟨l1, l2, l3, l4⟩ := hl'
 repeat (first|(refine aj h ?_;clear h;intro kb M h)|(refine aq h ?_;clear h;intro M h)|refine St.to h ?_|(apply Exists.intro;(repeat apply Exists.intro);refine And.intro rfl ?_)|refine au ?_|refine af ?_|refine ai ?_)
 refine tw h fk fun q hq => ?_
 repeat (first|(refine aj h ?_;clear h;intro kb M h)|(refine aq h ?_;clear h;intro M h)|refine St.to h ?_|(apply Exists.intro;(repeat apply Exists.intro);refine And.intro rfl ?_)|refine au ?_|refine af ?_|refine ai ?_)
 refine h.bF z9 [g] rfl rfl (by simp; omega) ?_
 clear h
 intro A' c' M h
 repeat (first|(refine aj h ?_;clear h;intro kb M h)|(refine aq h ?_;clear h;intro M h)|refine St.to h ?_|(apply Exists.intro;(repeat apply Exists.intro);refine And.intro rfl ?_)|refine au ?_|refine af ?_|refine ai ?_)
 replace h := cu h gb hl fk dU
 exact k _ (iB (a := { a with ar := A', cr := c' }) ⟨by simpa [Wd.cO, Wd.aY] using l1, by simpa [Wd.cO, Wd.aY] using l2, l3, l4⟩ (h.sub bM))
theorem dI {y : cT} (h : 0 < y.fs.length) : y.fs[y.fs.length - 1]? = some y.top := by
 unfold cT.top
 rw [List.getD_eq_getElem?_getD, List.getElem?_eq_getElem (by omega)]; rfl
theorem cC {a : WA} {g : Int} {y : cT} (hl : ee gg a x) : ee gg a (x.aY g y) := by
 obtain ⟨l1, l2, l3, l4⟩ := hl
 exact ⟨by simpa [Wd.aY] using l1, by simpa [Wd.aY] using l2, l3, l4⟩
theorem j1 {g : Int} {i : cN} (h : Hp R L M) [o : uc b L pa p gg dr x L'] (h0 : 0 ≤ g) (hg : g < x.gs.length)
  (k : ∀ M', Hp R (ax (bg pa p gg dr) b (x.block g i) :: L') M' → K (.tuple #[]) M') : aa Tryz.prog 208 #[.pointer (some ⟨b, 0, none⟩), .int .i64 g, .agg #[.int .i64 i.op, .int .i64 i.a, .int .i64 i.b, .int .i64 i.c]] M K Kp := by
 refine nR ?_
 have h' := iC h (b := b) h0 hg
 clear h
 obtain ⟨a, gb, A, c, hl, fk, dU, h⟩ := h'
 have hl' := hl
 obtain ⟨l1, l2, l3, l4⟩ := hl'
 repeat (first|(refine aj h ?_;clear h;intro kb M h)|(refine aq h ?_;clear h;intro M h)|refine St.to h ?_|(apply Exists.intro;(repeat apply Exists.intro);refine And.intro rfl ?_)|refine au ?_|refine af ?_|refine ai ?_)
 refine tw h fk fun q hq => ?_
 repeat (first|(refine aj h ?_;clear h;intro kb M h)|(refine aq h ?_;clear h;intro M h)|refine St.to h ?_|(apply Exists.intro;(repeat apply Exists.intro);refine And.intro rfl ?_)|refine au ?_|refine af ?_|refine ai ?_)
 refine tw h fk fun q2 o5 => ?_
 repeat (first|(refine aj h ?_;clear h;intro kb M h)|(refine aq h ?_;clear h;intro M h)|refine St.to h ?_|(apply Exists.intro;(repeat apply Exists.intro);refine And.intro rfl ?_)|refine au ?_|refine af ?_|refine ai ?_)
 replace h := cu h gb hl fk dU
 exact k _ (iB (a := a) (cC hl) (h.sub bM))
theorem sM {g kk : Int} (h : Hp R L M) [o : uc b L pa p gg dr x L'] (hg : aU x g) (hc : bt (ae x g).wt.c) (hs : x.Sm)
  (k : ∀ M', Hp R (ax (bg pa p gg dr) b (x.fM g kk) :: L') M' → K (.tuple #[]) M') : aa Tryz.prog 251 #[.pointer (some ⟨b, 0, none⟩), .int .i64 g, .int .i64 kk] M K Kp := by
 refine mU ?_
 obtain ⟨h0, h1, h2, h3⟩ := hg
 obtain ⟨s1, s2, s3, s4, s5, s6, s7, s8⟩ := hs
 have h' := iC h (b := b) h0 h1
 clear h
 obtain ⟨a, gb, A, c, hl, fk, dU, h⟩ := h'
 have hl' := hl
 obtain ⟨l1, l2, l3, l4⟩ := hl'
 repeat (first|(refine aj h ?_;clear h;intro kb M h)|(refine aq h ?_;clear h;intro M h)|refine St.to h ?_|(apply Exists.intro;(repeat apply Exists.intro);refine And.intro rfl ?_)|refine au ?_|refine af ?_|refine ai ?_)
 refine tw h fk fun q hq => ?_
 repeat (first|(refine aj h ?_;clear h;intro kb M h)|(refine aq h ?_;clear h;intro M h)|refine St.to h ?_|(apply Exists.intro;(repeat apply Exists.intro);refine And.intro rfl ?_)|refine au ?_|refine af ?_|refine ai ?_)
 refine tw h fk fun q2 o5 => ?_
 repeat (first|(refine aj h ?_;clear h;intro kb M h)|(refine aq h ?_;clear h;intro M h)|refine St.to h ?_|(apply Exists.intro;(repeat apply Exists.intro);refine And.intro rfl ?_)|refine au ?_|refine af ?_|refine ai ?_)
 obtain ⟨bs, rfl⟩ := h.bz (A := A) h2 (by decide)
 refine kY h2 (by omega) ?_
 repeat (first|(refine aj h ?_;clear h;intro kb M h)|(refine aq h ?_;clear h;intro M h)|refine St.to h ?_|(apply Exists.intro;(repeat apply Exists.intro);refine And.intro rfl ?_)|refine au ?_|refine af ?_|refine ai ?_)
 refine ⟨hc.1, hc.2, ua h (dI h2) hc rfl ?_⟩
 clear h
 intro M h
 repeat (first|(refine aj h ?_;clear h;intro kb M h)|(refine aq h ?_;clear h;intro M h)|refine St.to h ?_|(apply Exists.intro;(repeat apply Exists.intro);refine And.intro rfl ?_)|refine au ?_|refine af ?_|refine ai ?_)
 refine BW h (Src.row (A := a.ac)) rfl (by omega) l3 (fun c hc => (s1 c hc).mono (by omega)) ?_
 clear h
 intro M h
 refine ⟨rfl, ?_⟩
 replace h := cu h gb hl fk dU
 exact k _ (iB (a := a) (x := x.fM g kk) ⟨by simpa [Wd.fM, Wd.leave, Wd.be, Wd.aY] using l1, by simpa [Wd.fM, Wd.leave, Wd.be, Wd.aY] using l2, by simpa [Wd.fM, Wd.leave, Wd.be, Wd.aY] using l3, l4⟩ (h.sub bM))
end
theorem gT {x : Wd} {g q v : Int} (h : aU x g) : ae (x.be g q v) g = (ae x g).bW ((ae x g).top.set q v) := fW h.1 h.2.1
theorem gU {x : Wd} {g q v : Int} (h : aU x g) : aU (x.be g q v) g := by
 obtain ⟨h0, h1, h2, h3⟩ := h
 refine ⟨h0, by simpa [Wd.be, Wd.aY] using h1, ?_, ?_⟩ <;> rw [gT ⟨h0, h1, h2, h3⟩] <;> simpa [cT.bW]
theorem GW {x : Wd} {g q v : Int} (h : aU x g) : (ae (x.be g q v) g).wt = (ae x g).wt := by rw [gT h]; rfl
theorem sN {x : Wd} {g k : Int} (h : aU x g) : aU (x.fM g k) g := gU h
theorem Ff {x : Wd} {g : Int} {y : cT} (h : x.Sm) : (x.aY g y).Sm := by
 obtain ⟨s1, s2, s3, s4⟩ := h
 exact ⟨s1, s2, by simpa [Wd.aY] using s3, s4⟩
theorem cG {z : Int} (h0 : 0 ≤ z) (h : z < 9223372036854775808) : IntKind.wrap .i64 z = z := by
 obtain ⟨n, rfl⟩ := Int.eq_ofNat_of_zero_le h0
 exact kS (by omega)
section
variable {R : Mem} {L L' : List HP} {M : Mem} {K : Value → Mem → Prop} {Kp : List PanicEntry → Mem → Prop} {pa : PA} {p : ck} {gg : List GA} {dr : Value} {b : Nat} {x : Wd}
theorem QS {A : Option Addr} {c : Nat} {l : List oY} {q : Int} {G : Nat → Nat → Int → Prop} (h : Hp R L M) (hp : RS wG R A c l) (h0 : 0 ≤ q) (hq : q < l.length) (k : ∀ b o, G b o (l.getD q.toNat ⟨0, 0, 0⟩).bN) :
  aD A fun b o => aG (M.ld ⟨b, ((o + q.toNat * 3) + 2), none⟩) .i64 fun n => G b o n := by
 obtain ⟨bb, o, rfl⟩ := hp.some (by omega) (by decide)
 obtain ⟨y, hy⟩ := aK (l := l) (i := q.toNat) (by omega)
 have e : l.getD q.toNat ⟨0, 0, 0⟩ = y := by simp [hy]
 refine bp ?_
 refine bq (Src.at (hp.src (L := L)) h (i := q.toNat) (j := 2) hy rfl (by show _ = o + (q.toNat * 3 + 2); omega)) ?_
 have := k bb o
 rwa [e] at this
theorem ox {v : Wt} {some : Int} (h : Hp R L M) [o : uc b L pa p gg dr x L'] (hp : RS wG R pa.k pa.kc p.cases) (hv : nO p x v) (hs : x.Sm)
  (k : ∀ M', Hp R (ax (bg pa p gg dr) b (x.received p v some) :: L') M' → K (.tuple #[]) M') : aa Tryz.prog 238 #[.pointer (Option.some ⟨b, 0, none⟩), .agg #[.int .i64 v.g, .int .i64 v.cs, .int .i64 v.v], .int .i64 some] M K Kp := by
 refine kX ?_
 obtain ⟨hg, hv⟩ := hv
 have Ay := hg
 obtain ⟨h0, h1, h2, h3⟩ := Ay
 have hs' := hs
 obtain ⟨s1, s2, s3, s4, s5, s6, s7, s8⟩ := hs'
 have h' := iC h (b := b) h0 h1
 clear h
 obtain ⟨a, gb, A, c, hl, fk, dU, h⟩ := h'
 have hl' := hl
 obtain ⟨l1, l2, l3, l4⟩ := hl'
 repeat (first|(refine aj h ?_;clear h;intro kb M h)|(refine aq h ?_;clear h;intro M h)|refine St.to h ?_|(apply Exists.intro;(repeat apply Exists.intro);refine And.intro rfl ?_)|refine au ?_|refine af ?_|refine ai ?_)
 refine tw h fk fun q hq => ?_
 repeat (first|(refine aj h ?_;clear h;intro kb M h)|(refine aq h ?_;clear h;intro M h)|refine St.to h ?_|(apply Exists.intro;(repeat apply Exists.intro);refine And.intro rfl ?_)|refine au ?_|refine af ?_|refine ai ?_)
 refine tw h fk fun q2 o5 => ?_
 repeat (first|(refine aj h ?_;clear h;intro kb M h)|(refine aq h ?_;clear h;intro M h)|refine St.to h ?_|(apply Exists.intro;(repeat apply Exists.intro);refine And.intro rfl ?_)|refine au ?_|refine af ?_|refine ai ?_)
 obtain ⟨bs, rfl⟩ := h.bz (A := A) h2 (by decide)
 refine kY h2 (by omega) ?_
 repeat (first|(refine aj h ?_;clear h;intro kb M h)|(refine aq h ?_;clear h;intro M h)|refine St.to h ?_|(apply Exists.intro;(repeat apply Exists.intro);refine And.intro rfl ?_)|refine au ?_|refine af ?_|refine ai ?_)
 refine ⟨QO h o5 fk, ?_⟩
 repeat (first|(refine aj h ?_;clear h;intro kb M h)|(refine aq h ?_;clear h;intro M h)|refine St.to h ?_|(apply Exists.intro;(repeat apply Exists.intro);refine And.intro rfl ?_)|refine au ?_|refine af ?_|refine ai ?_)
 refine ⟨QO h o5 fk, ?_⟩
 repeat (first|(refine aj h ?_;clear h;intro kb M h)|(refine aq h ?_;clear h;intro M h)|refine St.to h ?_|(apply Exists.intro;(repeat apply Exists.intro);refine And.intro rfl ?_)|refine au ?_|refine af ?_|refine ai ?_)
 unfold Wd.received at k
 refine bU.2 ⟨fun Fg => ?_, fun Fg => ?_⟩
 ·simp only [Fg, if_true] at k hv
  obtain ⟨v1, v2, v3, v4, v5⟩ := hv
  repeat (first|(refine aj h ?_;clear h;intro kb M h)|(refine aq h ?_;clear h;intro M h)|refine St.to h ?_|(apply Exists.intro;(repeat apply Exists.intro);refine And.intro rfl ?_)|refine au ?_|refine af ?_|refine ai ?_)
  rw [cG v1 (by omega)]
  refine ⟨v1, by omega, QS (q := (ae x v.g).wt.a + v.cs) h hp v1 v2 fun _ _ => ?_⟩
  repeat (first|(refine aj h ?_;clear h;intro kb M h)|(refine aq h ?_;clear h;intro M h)|refine St.to h ?_|(apply Exists.intro;(repeat apply Exists.intro);refine And.intro rfl ?_)|refine au ?_|refine af ?_|refine ai ?_)
  refine ⟨v4.1, v4.2, ua h (dI h2) v4 rfl ?_⟩
  clear h
  intro M h
  repeat (first|(refine aj h ?_;clear h;intro kb M h)|(refine aq h ?_;clear h;intro M h)|refine St.to h ?_|(apply Exists.intro;(repeat apply Exists.intro);refine And.intro rfl ?_)|refine au ?_|refine af ?_|refine ai ?_)
  replace h := cu h gb hl fk dU
  replace h := aN (a := a) (p := p) (pa := pa) (dr := dr) (gg := gg) (x := x.be v.g (nN p ((ae x v.g).wt.a + v.cs)).bN v.v) (cC hl) h b
  have v5' := v5
  rw [← GW (q := (nN p ((ae x v.g).wt.a + v.cs)).bN) (v := v.v) hg] at v5'
  refine sM (b := b) h (gU hg) v5' (Ff hs) ?_
  clear h
  intro M h
  repeat (first|(refine aj h ?_;clear h;intro kb M h)|(refine aq h ?_;clear h;intro M h)|refine St.to h ?_|(apply Exists.intro;(repeat apply Exists.intro);refine And.intro rfl ?_)|refine au ?_|refine af ?_|refine ai ?_)
  have GV := sN (k := v.cs) (gU (q := (nN p ((ae x v.g).wt.a + v.cs)).bN) (v := v.v) hg)
  refine gv (b := b) h GV.1 GV.2.1 (by show x.ready.length ≤ _; omega) ?_
  clear h
  intro M h
  exact ⟨rfl, k _ h.bP⟩
 ·simp only [Fg, if_false] at k hv
  obtain ⟨v1, v2⟩ := hv
  repeat (first|(refine aj h ?_;clear h;intro kb M h)|(refine aq h ?_;clear h;intro M h)|refine St.to h ?_|(apply Exists.intro;(repeat apply Exists.intro);refine And.intro rfl ?_)|refine au ?_|refine af ?_|refine ai ?_)
  refine ⟨v1.1, v1.2, ?_⟩
  repeat (first|(refine aj h ?_;clear h;intro kb M h)|(refine aq h ?_;clear h;intro M h)|refine St.to h ?_|(apply Exists.intro;(repeat apply Exists.intro);refine And.intro rfl ?_)|refine au ?_|refine af ?_|refine ai ?_)
  refine ua h (dI h2) v1 rfl ?_
  clear h
  intro M h
  repeat (first|(refine aj h ?_;clear h;intro kb M h)|(refine aq h ?_;clear h;intro M h)|refine St.to h ?_|(apply Exists.intro;(repeat apply Exists.intro);refine And.intro rfl ?_)|refine au ?_|refine af ?_|refine ai ?_)
  have JR : ((ae x v.g).fs.set ((ae x v.g).fs.length - 1) ((ae x v.g).top.set (ae x v.g).wt.b v.v))[(ae x v.g).fs.length - 1]? = Option.some ((ae x v.g).top.set (ae x v.g).wt.b v.v) := by
   rw [List.getElem?_set_self]; omega
  refine ⟨v2.1, v2.2, ua h JR v2 rfl ?_⟩
  clear h
  intro M h
  rw [gS] at h
  repeat (first|(refine aj h ?_;clear h;intro kb M h)|(refine aq h ?_;clear h;intro M h)|refine St.to h ?_|(apply Exists.intro;(repeat apply Exists.intro);refine And.intro rfl ?_)|refine au ?_|refine af ?_|refine ai ?_)
  replace h := cu h gb hl fk dU (by simp)
  have ex : (x.be v.g (ae x v.g).wt.b v.v).be v.g (ae x v.g).wt.c some = x.aY v.g ((ae x v.g).bW (((ae x v.g).top.set (ae x v.g).wt.b v.v).set (ae x v.g).wt.c some)) := by
   have e1 := gT (q := (ae x v.g).wt.b) (v := v.v) hg
   have e2 : ∀ (z : Wd) (q u : Int), z.be v.g q u = z.aY v.g ((ae z v.g).bW ((ae z v.g).top.set q u)) := fun _ _ _ => rfl
   rw [e2 (x.be v.g (ae x v.g).wt.b v.v), e1]
   have e3 : ((ae x v.g).bW ((ae x v.g).top.set (ae x v.g).wt.b v.v)).top = (ae x v.g).top.set (ae x v.g).wt.b v.v := by
    unfold cT.top cT.bW
    dsimp only
    rw [List.length_set, List.getD_eq_getElem?_getD, List.getElem?_set_self (by omega)]; rfl
   rw [e3]
   simp [Wd.be, Wd.aY, cT.bW]
  rw [ex] at k
  replace h := aN (a := a) (p := p) (pa := pa) (dr := dr) (gg := gg) (x := x.aY v.g ((ae x v.g).bW (((ae x v.g).top.set (ae x v.g).wt.b v.v).set (ae x v.g).wt.c some))) (cC hl) h b
  refine gv (b := b) h h0 (by simpa [Wd.aY] using h1) (by show x.ready.length ≤ _; omega) ?_
  clear h
  intro M h
  exact ⟨rfl, k _ h.bP⟩
theorem D9 {v : Wt} (h : Hp R L M) [o : uc b L pa p gg dr x L'] (hv : uM x v) (hs : x.Sm)
  (k : ∀ M', Hp R (ax (bg pa p gg dr) b (x.sent v) :: L') M' → K (.tuple #[]) M') : aa Tryz.prog 240 #[.pointer (some ⟨b, 0, none⟩), .agg #[.int .i64 v.g, .int .i64 v.cs, .int .i64 v.v]] M K Kp := by
 refine pQ ?_
 obtain ⟨hg, hv⟩ := hv
 have Ay := hg
 obtain ⟨h0, h1, h2, h3⟩ := Ay
 have hs' := hs
 obtain ⟨s1, s2, s3, s4, s5, s6, s7, s8⟩ := hs'
 have h' := iC h (b := b) h0 h1
 clear h
 obtain ⟨a, gb, A, c, hl, fk, dU, h⟩ := h'
 have hl' := hl
 obtain ⟨l1, l2, l3, l4⟩ := hl'
 repeat (first|(refine aj h ?_;clear h;intro kb M h)|(refine aq h ?_;clear h;intro M h)|refine St.to h ?_|(apply Exists.intro;(repeat apply Exists.intro);refine And.intro rfl ?_)|refine au ?_|refine af ?_|refine ai ?_)
 refine tw h fk fun q hq => ?_
 repeat (first|(refine aj h ?_;clear h;intro kb M h)|(refine aq h ?_;clear h;intro M h)|refine St.to h ?_|(apply Exists.intro;(repeat apply Exists.intro);refine And.intro rfl ?_)|refine au ?_|refine af ?_|refine ai ?_)
 unfold Wd.sent at k
 have ex : x.aY v.g (ae x v.g) = x := by
  obtain ⟨y, hy⟩ := aK (l := x.gs) (i := v.g.toNat) (by omega)
  have e : ae x v.g = y := by simp [ae, hy]
  rw [e]
  obtain ⟨hi, rfl⟩ := List.getElem?_eq_some_iff.1 hy
  simp [Wd.aY]
 refine bU.2 ⟨fun Fg => ?_, fun Fg => ?_⟩
 ·simp only [Fg, if_true] at k hv
  repeat (first|(refine aj h ?_;clear h;intro kb M h)|(refine aq h ?_;clear h;intro M h)|refine St.to h ?_|(apply Exists.intro;(repeat apply Exists.intro);refine And.intro rfl ?_)|refine au ?_|refine af ?_|refine ai ?_)
  replace h := cu h gb hl fk dU
  replace h := aN (a := a) (p := p) (pa := pa) (dr := dr) (gg := gg) (x := x.aY v.g (ae x v.g)) (cC hl) h b
  rw [ex] at h
  refine sM (b := b) (x := x) h hg (hv trivial) hs ?_
  clear h
  intro M h
  repeat (first|(refine aj h ?_;clear h;intro kb M h)|(refine aq h ?_;clear h;intro M h)|refine St.to h ?_|(apply Exists.intro;(repeat apply Exists.intro);refine And.intro rfl ?_)|refine au ?_|refine af ?_|refine ai ?_)
  have GV := sN (k := v.cs) hg
  refine gv (b := b) h GV.1 GV.2.1 (by show x.ready.length ≤ _; omega) ?_
  clear h
  intro M h
  exact ⟨rfl, k _ h.bP⟩
 ·simp only [Fg, if_false] at k
  repeat (first|(refine aj h ?_;clear h;intro kb M h)|(refine aq h ?_;clear h;intro M h)|refine St.to h ?_|(apply Exists.intro;(repeat apply Exists.intro);refine And.intro rfl ?_)|refine au ?_|refine af ?_|refine ai ?_)
  replace h := cu h gb hl fk dU
  replace h := aN (a := a) (p := p) (pa := pa) (dr := dr) (gg := gg) (x := x.aY v.g (ae x v.g)) (cC hl) h b
  rw [ex] at h
  refine gv (b := b) (x := x) h h0 h1 (by omega) ?_
  clear h
  intro M h
  exact ⟨rfl, k _ h.bP⟩
end
def sO (x : Wd) (k : Int) : Prop := 0 ≤ k ∧ k < x.ay.length
instance (x : Wd) (k : Int) : Decidable (sO x k) := by unfold sO; infer_instance
def mG (p : ck) (x : Wd) (k v : Int) : Prop := sO x k ∧ (((cR x.ay k).send v).2.2.1 = true → nO p x ((cR x.ay k).send v).2.1) ∧ ((cR x.ay k).send v).1.Small 1000000
instance (p : ck) (x : Wd) (k v : Int) : Decidable (mG p x k v) := by unfold mG; infer_instance
def sP (x : Wd) (k : Int) : Prop := sO x k ∧ ((cR x.ay k).recv.2.2.2.2.1 = true → uM x (cR x.ay k).recv.2.2.2.1) ∧ (cR x.ay k).recv.1.Small 1000000
instance (x : Wd) (k : Int) : Decidable (sP x k) := by unfold sP; infer_instance
theorem Cj {x : Wd} {k : Int} {c : aL} (h : x.Sm) (hc : c.Small 1000000) : (x.bS k c).Sm := by
 obtain ⟨s1, s2, s3⟩ := h
 refine ⟨fun d hd => ?_, by simpa [Wd.bS] using s2, s3⟩
 rcases mem_set hd with h | rfl
 ·exact s1 d h
 ·exact hc
section
variable {R : Mem} {L L' : List HP} {M : Mem} {K : Value → Mem → Prop} {Kp : List PanicEntry → Mem → Prop} {pa : PA} {p : ck} {gg : List GA} {dr : Value} {b : Nat} {x : Wd}
theorem o6 {a : WA} {k : Int} {c : aL} (hl : ee gg a x) : ee gg a (x.bS k c) := by
 obtain ⟨l1, l2, l3, l4⟩ := hl
 exact ⟨l1, l2, by simpa [Wd.bS] using l3, l4⟩
theorem JW {a : WA} {k : Int} (h : Hp R L M) [q : eU br L a.cb x.ay L'] (hl : ee gg a x) (hk : sO x k) : ∃ cb, a.cb[k.toNat]? = some cb ∧ x.ay[k.toNat]? = some (cR x.ay k) ∧ Hp R (ax br cb (cR x.ay k) :: j0 br a.cb x.ay k.toNat :: L') M := by
 obtain ⟨l1, l2, l3, l4⟩ := hl
 obtain ⟨k0, k1⟩ := hk
 obtain ⟨cb, hcb⟩ := aK (l := a.cb) (i := k.toNat) (by omega)
 obtain ⟨y, hy⟩ := aK (l := x.ay) (i := k.toNat) (by omega)
 have e : cR x.ay k = y := by simp [cR, hy]
 rw [e]
 exact ⟨cb, hcb, hy, h.cB br hcb hy⟩
theorem za {k v : Int} (h : Hp R L M) [o : uc b L pa p gg dr x L'] (hp : RS wG R pa.k pa.kc p.cases) (hk : mG p x k v) (hs : x.Sm)
  (k1 : ∀ y ok M', x.put p k v = .on (y, ok) → Hp R (ax (bg pa p gg dr) b y :: L') M' → K (.bool ok) M')
  (k2 : ∀ y n M', x.put p k v = .dM n y → Hp R (ax (bg pa p gg dr) b y :: L') M' → Kp [{ v := .iface 340 (.int .i64 n), recovered := false }] M') :
  aa Tryz.prog 209 #[.pointer (some ⟨b, 0, none⟩), .int .i64 k, .int .i64 v] M K Kp := by
 refine qC ?_
 obtain ⟨hc, hr, E9⟩ := hk
 have hs' := hs
 obtain ⟨s1, s2, s3, s4, s5, s6, s7, s8⟩ := hs'
 have h' := bX h (b := b)
 clear h
 obtain ⟨a, hl, h⟩ := h'
 have hl' := hl
 obtain ⟨l1, l2, l3, l4⟩ := hl'
 have C4 := hc
 obtain ⟨c0, c1⟩ := C4
 have h' := JW h hl hc
 clear h
 obtain ⟨cb, hcb, vI, h⟩ := h'
 repeat (first|(refine aj h ?_;clear h;intro kb M h)|(refine aq h ?_;clear h;intro M h)|refine St.to h ?_|(apply Exists.intro;(repeat apply Exists.intro);refine And.intro rfl ?_)|refine au ?_|refine af ?_|refine ai ?_)
 refine tw h hcb fun q hq => ?_
 have hsc : (cR x.ay k).Small 1000000 := s1 _ (sr c0 c1)
 refine DJ h (hsc.mono (by omega)) ?_
 clear h
 intro M h
 replace h := h.dh br cb hcb (by omega)
 unfold Wd.put at k1 k2
 dsimp only at k1 k2
 generalize (cR x.ay k).send v = s at h k1 k2 hr E9
 obtain ⟨c', w, ok, e⟩ := s
 dsimp only [N9] at h k1 k2 hr E9 ⊢
 refine ⟨w.g, w.cs, w.v, ok, e, rfl, ?_⟩
 repeat (first|(refine aj h ?_;clear h;intro kb M h)|(refine aq h ?_;clear h;intro M h)|refine St.to h ?_|(apply Exists.intro;(repeat apply Exists.intro);refine And.intro rfl ?_)|refine au ?_|refine af ?_|refine ai ?_)
 refine bU.2 ⟨fun ZM => ?_, fun ZM => ?_⟩
 ·rw [if_pos ZM] at k2
  replace h := aN (a := a) (p := p) (pa := pa) (dr := dr) (gg := gg) (x := x.bS k c') (o6 hl) h b
  exact k2 _ _ _ rfl h.bP
 ·rw [if_neg ZM] at k1
  replace h := aN (a := a) (p := p) (pa := pa) (dr := dr) (gg := gg) (x := x.bS k c') (o6 hl) h b
  refine fV.2 ⟨fun ht => ?_, fun ht => ?_⟩
  ·subst ht
   simp only [if_true] at k1
   repeat (first|(refine aj h ?_;clear h;intro kb M h)|(refine aq h ?_;clear h;intro M h)|refine St.to h ?_|(apply Exists.intro;(repeat apply Exists.intro);refine And.intro rfl ?_)|refine au ?_|refine af ?_|refine ai ?_)
   refine ox (b := b) (v := w) h hp (show nO p (x.bS k c') w from hr rfl) (Cj hs E9) ?_
   clear h
   intro M h
   exact ⟨rfl, k1 _ _ _ rfl h.bP⟩
  ·subst ht
   simp only [Bool.false_eq_true, if_false] at k1
   exact k1 _ _ _ rfl h.bP
theorem zb {k : Int} (h : Hp R L M) [o : uc b L pa p gg dr x L'] (hk : sP x k) (hs : x.Sm)
  (k1 : ∀ M', Hp R (ax (bg pa p gg dr) b (x.get k).1 :: L') M' → K (.tuple #[.int .i64 (x.get k).2.1, .int .i64 (x.get k).2.2.1, .bool (x.get k).2.2.2]) M') :
  aa Tryz.prog 210 #[.pointer (some ⟨b, 0, none⟩), .int .i64 k] M K Kp := by
 refine qD ?_
 obtain ⟨hc, hr, E9⟩ := hk
 have hs' := hs
 obtain ⟨s1, s2, s3, s4, s5, s6, s7, s8⟩ := hs'
 have h' := bX h (b := b)
 clear h
 obtain ⟨a, hl, h⟩ := h'
 have hl' := hl
 obtain ⟨l1, l2, l3, l4⟩ := hl'
 have C4 := hc
 obtain ⟨c0, c1⟩ := C4
 have h' := JW h hl hc
 clear h
 obtain ⟨cb, hcb, vI, h⟩ := h'
 repeat (first|(refine aj h ?_;clear h;intro kb M h)|(refine aq h ?_;clear h;intro M h)|refine St.to h ?_|(apply Exists.intro;(repeat apply Exists.intro);refine And.intro rfl ?_)|refine au ?_|refine af ?_|refine ai ?_)
 refine tw h hcb fun q hq => ?_
 have hsc : (cR x.ay k).Small 1000000 := s1 _ (sr c0 c1)
 refine DK h (hsc.mono (by omega)) ?_
 clear h
 intro M h
 replace h := h.dh br cb hcb (by omega)
 unfold Wd.get at k1
 dsimp only at k1
 generalize (cR x.ay k).recv = s at h k1 hr E9
 obtain ⟨c', v, some, w, Fh, e⟩ := s
 dsimp only [Oa] at h k1 hr E9 ⊢
 refine ⟨v, some, w.g, w.cs, w.v, Fh, e, rfl, ?_⟩
 repeat (first|(refine aj h ?_;clear h;intro kb M h)|(refine aq h ?_;clear h;intro M h)|refine St.to h ?_|(apply Exists.intro;(repeat apply Exists.intro);refine And.intro rfl ?_)|refine au ?_|refine af ?_|refine ai ?_)
 replace h := aN (a := a) (p := p) (pa := pa) (dr := dr) (gg := gg) (x := x.bS k c') (o6 hl) h b
 refine fV.2 ⟨fun ht => ?_, fun ht => ?_⟩
 ·subst ht
  simp only [if_true] at k1
  repeat (first|(refine aj h ?_;clear h;intro kb M h)|(refine aq h ?_;clear h;intro M h)|refine St.to h ?_|(apply Exists.intro;(repeat apply Exists.intro);refine And.intro rfl ?_)|refine au ?_|refine af ?_|refine ai ?_)
  refine D9 (b := b) (v := w) h (show uM (x.bS k c') w from hr rfl) (Cj hs E9) ?_
  clear h
  intro M h
  repeat (first|(refine aj h ?_;clear h;intro kb M h)|(refine aq h ?_;clear h;intro M h)|refine St.to h ?_|(apply Exists.intro;(repeat apply Exists.intro);refine And.intro rfl ?_)|refine au ?_|refine af ?_|refine ai ?_)
  refine fV.2 ⟨fun hb => ?_, fun hb => ?_⟩
  ·subst hb
   repeat (first|(refine aj h ?_;clear h;intro kb M h)|(refine aq h ?_;clear h;intro M h)|refine St.to h ?_|(apply Exists.intro;(repeat apply Exists.intro);refine And.intro rfl ?_)|refine au ?_|refine af ?_|refine ai ?_)
   exact k1 _ h.bP
  ·subst hb
   exact k1 _ h.bP
 ·subst ht
  simp only [Bool.false_eq_true, if_false] at k1
  repeat (first|(refine aj h ?_;clear h;intro kb M h)|(refine aq h ?_;clear h;intro M h)|refine St.to h ?_|(apply Exists.intro;(repeat apply Exists.intro);refine And.intro rfl ?_)|refine au ?_|refine af ?_|refine ai ?_)
  refine fV.2 ⟨fun hb => ?_, fun hb => ?_⟩
  ·subst hb
   repeat (first|(refine aj h ?_;clear h;intro kb M h)|(refine aq h ?_;clear h;intro M h)|refine St.to h ?_|(apply Exists.intro;(repeat apply Exists.intro);refine And.intro rfl ?_)|refine au ?_|refine af ?_|refine ai ?_)
   exact k1 _ h.bP
  ·subst hb
   exact k1 _ h.bP
end
end Go.Proofs
namespace Go.Proofs
open Go.AF
def aT (x : Wd) (g q : Int) : Int := (ae x g).top.bN q
def Wd.Fi (x : Wd) (k g v : Int) : Wd := x.bS k { cR x.ay k with snd := (cR x.ay k).snd ++ [⟨g, 0, v⟩] }
def Wd.Ck (x : Wd) (k g : Int) : Wd := x.bS k { cR x.ay k with dS := (cR x.ay k).dS ++ [⟨g, 0, 0⟩] }
def Wd.send (p : ck) (x : Wd) (g : Int) (i : cN) : Out Wd := match x.put p i.a (aT x g i.b) with
 | .dM n y => .dM n y
 | .cQ l y => .cQ l y
 | .on (y, true) => .on y
 | .on (y, false) => .on ((y.Fi i.a g (aT y g i.b)).block g i)
def Wd.recv (x : Wd) (g : Int) (i : cN) : Wd :=
 if (x.get i.a).2.2.2 then ((x.get i.a).1.be g i.b (x.get i.a).2.1).be g i.c (x.get i.a).2.2.1
 else ((x.get i.a).1.Ck i.a g).block g i
def cY (p : ck) (x : Wd) (v : Wt) : Wd := if (ae x v.g).st = 2 then x.received p { v with v := 0 } 0 else x
def Wd.shut (p : ck) (x : Wd) (i : cN) : Out Wd :=
 let s := (cR x.ay i.a).close
 let y := x.bS i.a s.1
 if s.2.2.2 ≠ 0 then .dM (-2) y else if 0 < s.2.2.1.length then .dM (-1) y else .on (s.2.1.foldl (cY p) y)
def ud (p : ck) (x : Wd) : List Wt → Prop
 | [] => True
 | v :: l => x.Sm ∧ 0 ≤ v.g ∧ v.g < x.gs.length ∧ ((ae x v.g).st = 2 → nO p x { v with v := 0 }) ∧ ud p (cY p x v) l
instance Ea (p : ck) : ∀ (l : List Wt) (x : Wd), Decidable (ud p x l)
 | [], _ => isTrue trivial
 | v :: l, x => by
  have := Ea p l (cY p x v)
  unfold ud; infer_instance
theorem zc {p : ck} : ∀ {l : List Wt} {x : Wd} {i : Nat} {v : Wt}, ud p x l → l[i]? = some v →
  let y := (l.take i).foldl (cY p) x
  y.Sm ∧ 0 ≤ v.g ∧ v.g < y.gs.length ∧ ((ae y v.g).st = 2 → nO p y { v with v := 0 })
 | [], _, _, _, _, h => by simp at h
 | w :: l, x, 0, v, h, hv => by simp at hv; subst hv; exact ⟨h.1, h.2.1, h.2.2.1, h.2.2.2.1⟩
 | w :: l, x, i + 1, v, h, hv => zc (l := l) h.2.2.2.2 (by simpa using hv)
def Wd.emit (x : Wd) (g : Int) (i : cN) : Out Wd := if x.out.length ≥ 1000 then .dM (-6) x else .on { x with out := x.out ++ [aT x g i.a] }
def Wd.spawn (x : Wd) (g : Int) (i : cN) : Out Wd := if x.gs.length ≥ 100 then .dM (-5) x else
 .on ((Wd.cO { x with gs := x.gs ++ [⟨0, [fh.begin i.a (aT x g i.b)], .zero⟩] } (x.gs.length : Int)).be g i.c (x.gs.length : Int))
def Wd.call (x : Wd) (g : Int) (i : cN) : Out Wd := if (ae x g).fs.length ≥ 16 then .dM (-4) x else
 .on (x.aY g { ae x g with fs := (ae x g).fs ++ [⟨i.a, 0, [aT x g i.b, 0, 0, 0, 0, 0, 0, 0], i.c⟩] })
def cT.back (y : cT) (v : Int) : cT := { y with fs := (y.fs.take (y.fs.length - 1)).set (y.fs.length - 2) ((y.fs.getD (y.fs.length - 2) ⟨0, 0, [], 0⟩).set y.top.bK v) }
def Wd.back (x : Wd) (g : Int) (i : cN) : Wd := if 2 ≤ (ae x g).fs.length then x.aY g ((ae x g).back (aT x g i.a))
 else if g = 0 then { x.aY g { ae x g with st := 4 } with end_ := 1 } else x.aY g { ae x g with st := 4 }
end Go.Proofs
namespace Go.Proofs
open Go.AF
set_option maxRecDepth 100000
set_option maxHeartbeats 1000000
attribute [local irreducible] aG cV fC b8 az e7 aD aF bh aW bG aO
section
variable {R : Mem} {L L' : List HP} {M : Mem} {K : Value → Mem → Prop} {Kp : List PanicEntry → Mem → Prop} {pa : PA} {p : ck} {gg : List GA} {dr : Value} {b : Nat} {x : Wd}
theorem fX {g : Int} {A : Option Addr} {c : Nat} (h : Hp R L M) [o : uc b L pa p gg dr x L'] (h0 : 0 ≤ g) (hg : g < x.gs.length) (dU : gg[g.toNat]? = some (A, c)) :
  ∃ (a : WA) (gb : Nat), ee gg a x ∧ a.gb[g.toNat]? = some gb ∧
   Hp R (pt gb (ov (ae x g) A c) 229 :: sK A c (ae x g).fs :: pt b (kF pa p dr a x) 161 :: j0 eX a.gb (x.gs.zip gg) g.toNat :: qh a x L') M := by
 obtain ⟨a, gb, A', c', hl, fk, Uf, h1⟩ := iC h (b := b) h0 hg
 rw [dU] at Uf
 cases Uf
 exact ⟨a, gb, hl, fk, h1⟩
theorem Cl {g q : Int} {bs c oo : Nat} {G : Int → Prop} (h : Hp R L M) [o : uc b L pa p gg dr x L'] (hg : aU x g) (dU : gg[g.toNat]? = some (some ⟨bs, 0, none⟩, c)) (hq : bt q) (e : oo = ((ae x g).fs.length - 1) * 11 + 2 + q.toNat)
  (k : G (aT x g q)) : aG (M.ld ⟨bs, oo, none⟩) .i64 G := by
 obtain ⟨h0, h1, h2, h3⟩ := hg
 obtain ⟨a, gb, hl, fk, h4⟩ := fX h (b := b) h0 h1 dU
 exact sL h4 (dI h2) hq e k
theorem j3 {g q v : Int} {bs c oo : Nat} {G : Mem → Prop} (h : Hp R L M) [o : uc b L pa p gg dr x L'] (hg : aU x g) (dU : gg[g.toNat]? = some (some ⟨bs, 0, none⟩, c)) (hq : bt q) (e : oo = ((ae x g).fs.length - 1) * 11 + 2 + q.toNat)
  (k : ∀ M', Hp R (ax (bg pa p gg dr) b (x.be g q v) :: L') M' → G M') : aF M ⟨bs, oo, none⟩ (.int .i64 v) G := by
 obtain ⟨h0, h1, h2, h3⟩ := hg
 obtain ⟨a, gb, hl, fk, h4⟩ := fX h (b := b) h0 h1 dU
 refine ua h4 (dI h2) hq e fun M' h5 => ?_
 replace h5 := cu h5 gb hl fk dU (by simp)
 exact k M' (aN (a := a) (p := p) (pa := pa) (dr := dr) (gg := gg) (x := x.be g q v) (cC hl) h5 b)
theorem Oj {G : Option Addr → Nat → Nat → Prop} (h : Hp R L M) [o : uc b L pa p gg dr x L'] (k1 : ∀ a : WA, ee gg a x → Hp R (pt b (kF pa p dr a x) 161 :: aP eX a.gb (x.gs.zip gg) :: qh a x L') M → G a.ac a.cb.length a.cc) : az (M.ld ⟨b, 0 + 6, none⟩) G := by
 obtain ⟨a, hl, h1⟩ := bX h (b := b)
 exact bj h1 (k1 a hl h1)
def Out.Ok {α : Type} (r : Out α) (k1 : α → Prop) (k2 : Int → Wd → Prop) (k3 : List PanicEntry → Wd → Prop := fun _ _ => True) : Prop := match r with
 | .on y => k1 y
 | .dM n y => k2 n y
 | .cQ l y => k3 l y
def wV (x : Wd) (k : Int) : Prop := sO x k ∧ (cR x.ay k).Small 999999
instance (x : Wd) (k : Int) : Decidable (wV x k) := by unfold wV; infer_instance
def Eb (p : ck) (x : Wd) (g : Int) (i : cN) : Prop := aU x g ∧ bt i.b ∧ mG p x i.a (aT x g i.b) ∧
 match x.put p i.a (aT x g i.b) with
 | .on (y, false) => aU y g ∧ (ae y g).fs.length = (ae x g).fs.length ∧ wV y i.a
 | _ => True
theorem Ec {g : Int} {i : cN} {bs c : Nat} (h : Hp R L M) [o : uc b L pa p gg dr x L'] (hp : RS wG R pa.k pa.kc p.cases) (dU : gg[g.toNat]? = some (some ⟨bs, 0, none⟩, c)) (hk : Eb p x g i) (hs : x.Sm)
  (k : Out.Ok (x.send p g i) (fun y => ∀ M', Hp R (ax (bg pa p gg dr) b y :: L') M' → K (.tuple #[]) M')
   (fun n y => ∀ M', Hp R (ax (bg pa p gg dr) b y :: L') M' → Kp [{ v := .iface 340 (.int .i64 n), recovered := false }] M')) :
  aa Tryz.prog 215 #[.pointer (some ⟨b, 0, none⟩), .int .i64 g, .pointer (some ⟨bs, ((ae x g).fs.length - 1) * 11, none⟩), .agg #[.int .i64 i.op, .int .i64 i.a, .int .i64 i.b, .int .i64 i.c]] M K Kp := by
 refine pH ?_
 obtain ⟨hg, hb, hput, hw⟩ := hk
 repeat (first|(refine aj h ?_;clear h;intro kb M h)|(refine aq h ?_;clear h;intro M h)|refine St.to h ?_|(apply Exists.intro;(repeat apply Exists.intro);refine And.intro rfl ?_)|refine au ?_|refine af ?_|refine ai ?_)
 refine ⟨hb.1, hb.2, Cl (b := b) h hg dU hb rfl ?_⟩
 unfold Wd.send at k
 refine za (b := b) h hp hput hs ?_ ?_
 ·intro y ok M' e h
  rw [e] at k hw
  cases ok with
  | true =>
   dsimp only at k
   refine mC (ai ?_)
   exact k _ h.bP
  | false =>
   dsimp only at k hw
   obtain ⟨Cm, hfl, vI, E9⟩ := hw
   refine mC (af ?_)
   refine Oj h fun a hl h => ?_
   have hl' := hl
   obtain ⟨l1, l2, l3, l4⟩ := hl'
   have C4 := vI
   obtain ⟨c0, c1⟩ := C4
   have h' := JW h hl vI
   clear h
   obtain ⟨cb, hcb, QT, h⟩ := h'
   repeat (first|(refine aj h ?_;clear h;intro kb M h)|(refine aq h ?_;clear h;intro M h)|refine St.to h ?_|(apply Exists.intro;(repeat apply Exists.intro);refine And.intro rfl ?_)|refine au ?_|refine af ?_|refine ai ?_)
   refine tw h hcb fun q hq => ?_
   repeat (first|(refine aj h ?_;clear h;intro kb M h)|(refine aq h ?_;clear h;intro M h)|refine St.to h ?_|(apply Exists.intro;(repeat apply Exists.intro);refine And.intro rfl ?_)|refine au ?_|refine af ?_|refine ai ?_)
   refine ⟨hb.1, hb.2, ?_⟩
   have h2 := h.tQ br cb hcb QT
   have h3 := aN (a := a) (p := p) (pa := pa) (dr := dr) (gg := gg) (x := y) hl h2 b
   refine Cl (b := b) h3 Cm dU hb (by rw [hfl]) ?_
   clear h2 h3
   refine nJ (w := ⟨g, 0, aT y g i.b⟩) h (E9.mono (by omega)) ?_
   clear h
   intro M h
   replace h := h.dh br cb hcb (by omega)
   replace h := aN (a := a) (p := p) (pa := pa) (dr := dr) (gg := gg) (x := y.Fi i.a g (aT y g i.b)) (o6 hl) h b
   repeat (first|(refine aj h ?_;clear h;intro kb M h)|(refine aq h ?_;clear h;intro M h)|refine St.to h ?_|(apply Exists.intro;(repeat apply Exists.intro);refine And.intro rfl ?_)|refine au ?_|refine af ?_|refine ai ?_)
   refine j1 (b := b) (i := i) (x := y.Fi i.a g (aT y g i.b)) h Cm.1 Cm.2.1 ?_
   clear h
   intro M h
   exact ⟨rfl, k _ h.bP⟩
 ·intro y n M' e h
  rw [e] at k
  exact k _ h.bP
def ue (x : Wd) (g : Int) (i : cN) : Prop := aU x g ∧ bt i.b ∧ bt i.c ∧ sP x i.a ∧ aU (x.get i.a).1 g ∧ (ae (x.get i.a).1 g).fs.length = (ae x g).fs.length ∧ ((x.get i.a).2.2.2 = false → wV (x.get i.a).1 i.a)
theorem Ed {g : Int} {i : cN} {bs c : Nat} (h : Hp R L M) [o : uc b L pa p gg dr x L'] (dU : gg[g.toNat]? = some (some ⟨bs, 0, none⟩, c)) (hk : ue x g i) (hs : x.Sm)
  (k : ∀ M', Hp R (ax (bg pa p gg dr) b (x.recv g i) :: L') M' → K (.tuple #[]) M') :
  aa Tryz.prog 216 #[.pointer (some ⟨b, 0, none⟩), .int .i64 g, .pointer (some ⟨bs, ((ae x g).fs.length - 1) * 11, none⟩), .agg #[.int .i64 i.op, .int .i64 i.a, .int .i64 i.b, .int .i64 i.c]] M K Kp := by
 refine pI ?_
 obtain ⟨hg, hb, hc, JX, Cm, hfl, hw⟩ := hk
 repeat (first|(refine aj h ?_;clear h;intro kb M h)|(refine aq h ?_;clear h;intro M h)|refine St.to h ?_|(apply Exists.intro;(repeat apply Exists.intro);refine And.intro rfl ?_)|refine au ?_|refine af ?_|refine ai ?_)
 refine zb (b := b) h JX hs ?_
 clear h
 intro M h
 unfold Wd.recv at k
 generalize x.get i.a = r at h k Cm hfl hw
 obtain ⟨y, v, sm, ok⟩ := r
 dsimp only at h k Cm hfl hw ⊢
 refine ⟨v, sm, ok, rfl, ?_⟩
 cases ok with
 | true =>
  simp only [if_true] at k
  refine ai ?_
  repeat (first|(refine aj h ?_;clear h;intro kb M h)|(refine aq h ?_;clear h;intro M h)|refine St.to h ?_|(apply Exists.intro;(repeat apply Exists.intro);refine And.intro rfl ?_)|refine au ?_|refine af ?_|refine ai ?_)
  refine ⟨hb.1, hb.2, ?_⟩
  repeat (first|(refine aj h ?_;clear h;intro kb M h)|(refine aq h ?_;clear h;intro M h)|refine St.to h ?_|(apply Exists.intro;(repeat apply Exists.intro);refine And.intro rfl ?_)|refine au ?_|refine af ?_|refine ai ?_)
  refine j3 (b := b) h Cm dU hb (by rw [hfl]) ?_
  clear h
  intro M h
  repeat (first|(refine aj h ?_;clear h;intro kb M h)|(refine aq h ?_;clear h;intro M h)|refine St.to h ?_|(apply Exists.intro;(repeat apply Exists.intro);refine And.intro rfl ?_)|refine au ?_|refine af ?_|refine ai ?_)
  have GV := gU (q := i.b) (v := v) Cm
  have Dk : (ae (y.be g i.b v) g).fs.length = (ae x g).fs.length := by rw [gT Cm]; simpa [cT.bW] using hfl
  refine ⟨hc.1, hc.2, j3 (b := b) h GV dU hc (by rw [Dk]) ?_⟩
  clear h
  intro M h
  repeat (first|(refine aj h ?_;clear h;intro kb M h)|(refine aq h ?_;clear h;intro M h)|refine St.to h ?_|(apply Exists.intro;(repeat apply Exists.intro);refine And.intro rfl ?_)|refine au ?_|refine af ?_|refine ai ?_)
  exact k _ h.bP
 | false =>
  simp only [Bool.false_eq_true, if_false] at k
  refine af ?_
  obtain ⟨vI, E9⟩ := hw rfl
  refine Oj h fun a hl h => ?_
  have hl' := hl
  obtain ⟨l1, l2, l3, l4⟩ := hl'
  have C4 := vI
  obtain ⟨c0, c1⟩ := C4
  have h' := JW h hl vI
  clear h
  obtain ⟨cb, hcb, QT, h⟩ := h'
  repeat (first|(refine aj h ?_;clear h;intro kb M h)|(refine aq h ?_;clear h;intro M h)|refine St.to h ?_|(apply Exists.intro;(repeat apply Exists.intro);refine And.intro rfl ?_)|refine au ?_|refine af ?_|refine ai ?_)
  refine tw h hcb fun q hq => ?_
  refine nK (w := ⟨g, 0, 0⟩) h (E9.mono (by omega)) ?_
  clear h
  intro M h
  replace h := h.dh br cb hcb (by omega)
  replace h := aN (a := a) (p := p) (pa := pa) (dr := dr) (gg := gg) (x := y.Ck i.a g) (o6 hl) h b
  repeat (first|(refine aj h ?_;clear h;intro kb M h)|(refine aq h ?_;clear h;intro M h)|refine St.to h ?_|(apply Exists.intro;(repeat apply Exists.intro);refine And.intro rfl ?_)|refine au ?_|refine af ?_|refine ai ?_)
  refine j1 (b := b) (i := i) (x := y.Ck i.a g) h Cm.1 Cm.2.1 ?_
  clear h
  intro M h
  exact ⟨rfl, k _ h.bP⟩
theorem Ee {g : Int} {i : cN} {bs c : Nat} (h : Hp R L M) [o : uc b L pa p gg dr x L'] (dU : gg[g.toNat]? = some (some ⟨bs, 0, none⟩, c)) (hg : aU x g) (ha : bt i.a) (hs : x.Sm)
  (k : Out.Ok (x.emit g i) (fun y => ∀ M', Hp R (ax (bg pa p gg dr) b y :: L') M' → K (.tuple #[]) M')
   (fun n y => ∀ M', Hp R (ax (bg pa p gg dr) b y :: L') M' → Kp [{ v := .iface 340 (.int .i64 n), recovered := false }] M')) :
  aa Tryz.prog 221 #[.pointer (some ⟨b, 0, none⟩), .int .i64 g, .pointer (some ⟨bs, ((ae x g).fs.length - 1) * 11, none⟩), .agg #[.int .i64 i.op, .int .i64 i.a, .int .i64 i.b, .int .i64 i.c]] M K Kp := by
 refine pL ?_
 obtain ⟨s1, s2, s3, s4, s5, s6, s7, s8⟩ := hs
 have Ay := hg
 obtain ⟨h0, h1, h2, h3⟩ := Ay
 unfold Wd.emit at k
 refine aj h ?_
 clear h
 intro kb M h
 have h' := fX h (b := b) h0 h1 dU
 clear h
 obtain ⟨a, gb, hl, fk, h⟩ := h'
 have hl' := hl
 obtain ⟨l1, l2, l3, l4⟩ := hl'
 have ex : x.aY g (ae x g) = x := by
  obtain ⟨y, hy⟩ := aK (l := x.gs) (i := g.toNat) (by omega)
  have e : ae x g = y := by simp [ae, hy]
  rw [e]
  obtain ⟨hi, rfl⟩ := List.getElem?_eq_some_iff.1 hy
  simp [Wd.aY]
 repeat (first|(refine aj h ?_;clear h;intro kb M h)|(refine aq h ?_;clear h;intro M h)|refine St.to h ?_|(apply Exists.intro;(repeat apply Exists.intro);refine And.intro rfl ?_)|refine au ?_|refine af ?_|refine ai ?_)
 refine aM.2 ⟨fun hn => ?_, fun hn => ?_⟩
 ·rw [if_pos (by omega)] at k
  replace h := cu h gb hl fk dU
  have kA := cC (y := ae x g) (g := g) hl
  replace h := aN (a := a) (p := p) (pa := pa) (dr := dr) (gg := gg) (x := x.aY g (ae x g)) kA h b
  rw [ex] at h
  exact k _ h.bP
 ·rw [if_neg (by omega)] at k
  repeat (first|(refine aj h ?_;clear h;intro kb M h)|(refine aq h ?_;clear h;intro M h)|refine St.to h ?_|(apply Exists.intro;(repeat apply Exists.intro);refine And.intro rfl ?_)|refine au ?_|refine af ?_|refine ai ?_)
  refine ⟨ha.1, ha.2, sL h (dI h2) ha rfl ?_⟩
  repeat (first|(refine aj h ?_;clear h;intro kb M h)|(refine aq h ?_;clear h;intro M h)|refine St.to h ?_|(apply Exists.intro;(repeat apply Exists.intro);refine And.intro rfl ?_)|refine au ?_|refine af ?_|refine ai ?_)
  refine h.bF wE [aT x g i.a] rfl rfl (by simp; omega) ?_
  clear h
  intro A' c' M h
  repeat (first|(refine aj h ?_;clear h;intro kb M h)|(refine aq h ?_;clear h;intro M h)|refine St.to h ?_|(apply Exists.intro;(repeat apply Exists.intro);refine And.intro rfl ?_)|refine au ?_|refine af ?_|refine ai ?_)
  replace h := cu h gb hl fk dU
  have kA := cC (y := ae x g) (g := g) hl
  have h5 := aN (a := { a with ao := A', co := c' }) (p := p) (pa := pa) (dr := dr) (gg := gg) (x := { x.aY g (ae x g) with out := x.out ++ [aT x g i.a] }) kA h b
  rw [ex] at h5
  exact k _ h5.bP
end
theorem Ol : bA Tryz.prog 155 224 1 8 [.pointer none] := bA.mk' (zv := .pointer none) (by kernel_rfl) (by kernel_rfl) rfl (by omega)
section
variable {R : Mem} {L L' : List HP} {M : Mem} {K : Value → Mem → Prop} {Kp : List PanicEntry → Mem → Prop} {pa : PA} {p : ck} {gg : List GA} {dr : Value} {b : Nat} {x : Wd}
def uf (x : Wd) (fn v : Int) : Wd := { x with gs := x.gs ++ [⟨0, [fh.begin fn v], .zero⟩] }
theorem JY {a : WA} {k bs : Nat} {A' : Option Addr} {c' : Nat} {fn v : Int} (hl : ee gg a x)
  (h : Hp R (pt b (kF pa p dr { a with ag := A', cg := c', gb := a.gb ++ [k] } x) 161 :: uP A' c' (a.gb ++ [k]) :: pt k [.int .i64 0, .slice (some ⟨bs, 0, none⟩) 1 1, .int .i64 0, .int .i64 0, .int .i64 0, .int .i64 0] 229 ::
   sK (some ⟨bs, 0, none⟩) 1 [fh.begin fn v] :: aP eX a.gb (x.gs.zip gg) :: uQ a.ac a.cc a.cb :: aP br a.cb x.ay :: uR a.al a.cl a.lb :: aP eN a.lb x.aS :: dw a.ah a.ch x.hl :: qy a.ao a.co x.out :: jD a.ar a.cr x.ready :: L) M) :
  Hp R (ax (bg pa p (gg ++ [(some ⟨bs, 0, none⟩, 1)]) dr) b (uf x fn v) :: L) M := by
 obtain ⟨l1, l2, l3, l4⟩ := hl
 have h1 := lf h k
 have h2 := h1.jk eX k (by rw [List.length_zip]; omega)
 have e : x.gs.zip gg ++ [(⟨0, [fh.begin fn v], ⟨0, 0, 0, 0⟩⟩, (some ⟨bs, 0, none⟩, 1))] = (uf x fn v).gs.zip (gg ++ [(some ⟨bs, 0, none⟩, 1)]) := by
  unfold uf
  rw [List.zip_append (by omega)]; rfl
 rw [e] at h2
 exact aN (a := { a with ag := A', cg := c', gb := a.gb ++ [k] }) (p := p) (pa := pa) (dr := dr) (gg := gg ++ [(some ⟨bs, 0, none⟩, 1)]) (x := uf x fn v) ⟨by simp [uf, l1], by simp [uf, l2], l3, l4⟩ h2 b
theorem Ef {g fn v : Int} (hg : aU x g) : ae (uf x fn v) g = ae x g := by
 obtain ⟨h0, h1, h2, h3⟩ := hg
 unfold ae uf
 dsimp only
 rw [List.getD_eq_getElem?_getD, List.getElem?_append_left (by omega), ← List.getD_eq_getElem?_getD]
theorem Cn {g : Int} {i : cN} {bs c : Nat} (h : Hp R L M) [o : uc b L pa p gg dr x L'] (dU : gg[g.toNat]? = some (some ⟨bs, 0, none⟩, c)) (hg : aU x g) (hb : bt i.b) (hc : bt i.c) (hs : x.Sm)
  (k : Out.Ok (x.spawn g i) (fun y => ∀ j4 M', Hp R (ax (bg pa p j4 dr) b y :: L') M' → K (.tuple #[]) M')
   (fun n y => ∀ M', Hp R (ax (bg pa p gg dr) b y :: L') M' → Kp [{ v := .iface 340 (.int .i64 n), recovered := false }] M')) :
  aa Tryz.prog 213 #[.pointer (some ⟨b, 0, none⟩), .int .i64 g, .pointer (some ⟨bs, ((ae x g).fs.length - 1) * 11, none⟩), .agg #[.int .i64 i.op, .int .i64 i.a, .int .i64 i.b, .int .i64 i.c]] M K Kp := by
 refine nS ?_
 obtain ⟨s1, s2, s3, s4, s5, s6, s7, s8⟩ := hs
 unfold Wd.spawn at k
 refine aj h ?_
 clear h
 intro kb M h
 have hC := h
 have h' := bX h (b := b)
 clear h
 obtain ⟨a, hl, h⟩ := h'
 have hl' := hl
 obtain ⟨l1, l2, l3, l4⟩ := hl'
 refine bj h ?_
 refine aM.2 ⟨fun hn => ?_, fun hn => ?_⟩
 ·rw [if_pos (by omega)] at k
  exact k _ (hC.drop.pick o.pick)
 rw [if_neg (by omega)] at k
 refine bj h ?_
 refine ⟨fun vs M => ∃ bs', Hp R (ax (bg pa p (gg ++ [(some ⟨bs', 0, none⟩, 1)]) dr) b (uf x i.a (aT x g i.b)) :: pt kb [.int .i64 i.op, .int .i64 i.a, .int .i64 i.b, .int .i64 i.c] 27 :: L') M, ?_, ?_⟩
 ·repeat (first|(refine aj h ?_;clear h;intro kb M h)|(refine aq h ?_;clear h;intro M h)|refine St.to h ?_|(apply Exists.intro;(repeat apply Exists.intro);refine And.intro rfl ?_)|refine au ?_|refine af ?_|refine ai ?_)
  refine ⟨hb.1, hb.2, Cl (b := b) hC hg dU hb rfl ?_⟩
  clear hC
  refine ⟨?_, ?_, trivial⟩
  ·repeat (first|(refine aj h ?_;clear h;intro kb M h)|(refine aq h ?_;clear h;intro M h)|refine St.to h ?_|(apply Exists.intro;(repeat apply Exists.intro);refine And.intro rfl ?_)|refine au ?_|refine af ?_|refine ai ?_)
   refine ou h ?_
   clear h
   intro bs' M h
   repeat (first|(refine aj h ?_;clear h;intro kb M h)|(refine aq h ?_;clear h;intro M h)|refine St.to h ?_|(apply Exists.intro;(repeat apply Exists.intro);refine And.intro rfl ?_)|refine au ?_|refine af ?_|refine ai ?_)
   refine h.bF Ol [_] rfl rfl (by simp; omega) ?_
   clear h
   intro A' c' M h
   repeat (first|(refine aj h ?_;clear h;intro kb M h)|(refine aq h ?_;clear h;intro M h)|refine St.to h ?_|(apply Exists.intro;(repeat apply Exists.intro);refine And.intro rfl ?_)|refine au ?_|refine af ?_|refine ai ?_)
   exact ⟨bs', JY hl (h.sub bM)⟩
  ·refine ou h ?_
   clear h
   intro bs' M h
   repeat (first|(refine aj h ?_;clear h;intro kb M h)|(refine aq h ?_;clear h;intro M h)|refine St.to h ?_|(apply Exists.intro;(repeat apply Exists.intro);refine And.intro rfl ?_)|refine au ?_|refine af ?_|refine ai ?_)
   refine h.bF Ol [_] rfl rfl (by simp; omega) ?_
   clear h
   intro A' c' M h
   repeat (first|(refine aj h ?_;clear h;intro kb M h)|(refine aq h ?_;clear h;intro M h)|refine St.to h ?_|(apply Exists.intro;(repeat apply Exists.intro);refine And.intro rfl ?_)|refine au ?_|refine af ?_|refine ai ?_)
   exact ⟨bs', JY hl (h.sub bM)⟩
 ·clear h hC
  rintro _ M ⟨bs', h⟩
  have hlen : (uf x i.a (aT x g i.b)).gs.length = x.gs.length + 1 := by simp [uf]
  have xU : (x.gs.length : Int) = (a.gb.length : Int) := by omega
  rw [← xU]
  refine gv (b := b) h (by omega) (by omega) (by show x.ready.length ≤ _; omega) ?_
  clear h
  intro M h
  repeat (first|(refine aj h ?_;clear h;intro kb M h)|(refine aq h ?_;clear h;intro M h)|refine St.to h ?_|(apply Exists.intro;(repeat apply Exists.intro);refine And.intro rfl ?_)|refine au ?_|refine af ?_|refine ai ?_)
  have GV : ae ((uf x i.a (aT x g i.b)).cO (x.gs.length : Int)) g = ae x g := by
   rw [← Ef (fn := i.a) (v := aT x g i.b) hg]
   obtain ⟨h0, h1, _⟩ := hg
   have hne : x.gs.length ≠ g.toNat := by omega
   simp [ae, Wd.cO, Wd.aY, List.getElem?_set, hne]
  have hg3 : aU ((uf x i.a (aT x g i.b)).cO (x.gs.length : Int)) g := by
   refine ⟨hg.1, ?_, ?_, ?_⟩
   ·have h1 := hg.2.1
    simp only [Wd.cO, Wd.aY, List.length_set, hlen]; omega
   ·rw [GV]; exact hg.2.2.1
   ·rw [GV]; exact hg.2.2.2
  have Ug : (gg ++ [(some (⟨bs', 0, none⟩ : Addr), 1)])[g.toNat]? = some (some ⟨bs, 0, none⟩, c) := by
   rw [List.getElem?_append_left (by have := hg.2.1; have := hg.1; omega)]; exact dU
  refine ⟨hc.1, hc.2, j3 (b := b) h hg3 Ug hc (by rw [GV]) ?_⟩
  clear h
  intro M h
  repeat (first|(refine aj h ?_;clear h;intro kb M h)|(refine aq h ?_;clear h;intro M h)|refine St.to h ?_|(apply Exists.intro;(repeat apply Exists.intro);refine And.intro rfl ?_)|refine au ?_|refine af ?_|refine ai ?_)
  exact k _ _ h.bP
end
section
variable {R : Mem} {L L' : List HP} {M : Mem} {K : Value → Mem → Prop} {Kp : List PanicEntry → Mem → Prop} {pa : PA} {p : ck} {gg : List GA} {dr : Value} {b : Nat} {x : Wd}
def mh (p : ck) (x : Wd) (i : cN) : Prop := sO x i.a ∧ (cR x.ay i.a).dS.length ≤ 1000000 ∧
 ((cR x.ay i.a).close.2.2.2 = 0 → (cR x.ay i.a).close.2.2.1 = [] → ud p (x.bS i.a (cR x.ay i.a).close.1) (cR x.ay i.a).close.2.1)
theorem Eg {g : Int} {i : cN} {f : Value} {bf of' : Nat} (h : Hp R L M) [o : uc b L pa p gg dr x L'] (hp : RS wG R pa.k pa.kc p.cases) (hk : mh p x i) (hs : x.Sm)
  (k : Out.Ok (x.shut p i) (fun y => ∀ M', Hp R (ax (bg pa p gg dr) b y :: L') M' → K (.tuple #[]) M')
   (fun n y => ∀ M', Hp R (ax (bg pa p gg dr) b y :: L') M' → Kp [{ v := .iface 340 (.int .i64 n), recovered := false }] M')) :
  aa Tryz.prog 217 #[.pointer (some ⟨b, 0, none⟩), .int .i64 g, .pointer (some ⟨bf, of', none⟩), .agg #[.int .i64 i.op, .int .i64 i.a, .int .i64 i.b, .int .i64 i.c]] M K Kp := by
 refine pJ ?_
 obtain ⟨vI, hlen, hsh⟩ := hk
 obtain ⟨s1, s2, s3, s4, s5, s6, s7, s8⟩ := hs
 unfold Wd.shut at k
 dsimp only at k
 refine aj h ?_
 clear h
 intro kb M h
 have h' := bX h (b := b)
 clear h
 obtain ⟨a, hl, h⟩ := h'
 have hl' := hl
 obtain ⟨l1, l2, l3, l4⟩ := hl'
 have C4 := vI
 obtain ⟨c0, c1⟩ := C4
 have h' := JW h hl vI
 clear h
 obtain ⟨cb, hcb, QT, h⟩ := h'
 repeat (first|(refine aj h ?_;clear h;intro kb M h)|(refine aq h ?_;clear h;intro M h)|refine St.to h ?_|(apply Exists.intro;(repeat apply Exists.intro);refine And.intro rfl ?_)|refine au ?_|refine af ?_|refine ai ?_)
 refine tw h hcb fun q hq => ?_
 have iP : (cR x.ay i.a).close.2.1.length ≤ 1000000 := by
  unfold aL.close; split <;> simp [hlen]
 refine BR h ?_
 clear h
 intro A ca B ZN M h
 replace h := h.dh br cb hcb (by omega)
 generalize (cR x.ay i.a).close = s at h k hsh iP
 obtain ⟨c', r, sn, e⟩ := s
 dsimp only at h k hsh iP ⊢
 refine ⟨A, _, ca, B, _, ZN, e, rfl, ?_⟩
 replace h := aN (a := a) (p := p) (pa := pa) (dr := dr) (gg := gg) (x := x.bS i.a c') (o6 hl) h b
 refine de.2 ⟨fun he => ?_, fun he => ?_⟩
 ·rw [if_pos he] at k
  exact k _ h.bP
 rw [if_neg (by simpa using he)] at k
 refine aM.2 ⟨fun hn => ?_, fun hn => ?_⟩
 ·rw [if_pos (by omega)] at k
  exact k _ h.bP
 rw [if_neg (by omega)] at k
 have Uh : sn = [] := by cases sn with
  | nil => rfl
  | cons _ _ => simp at hn
 have hok := hsh he Uh
 refine ⟨fun d vs M => ∃ (j : Nat), vs = [.int .i64 (j : Int)] ∧ d = r.length - j ∧ j ≤ r.length ∧ Hp R (ax (bg pa p gg dr) b ((r.take j).foldl (cY p) (x.bS i.a c')) :: sj A ca r :: L') M, ⟨_, 0, rfl, rfl, by omega, h.sub bM⟩, ?_⟩
 clear h
 rintro d _ nn M ⟨j, uS, hd, hj, h⟩
 simp only [List.cons.injEq, Value.int.injEq, and_true, true_and] at uS
 subst uS
 refine aM.2 ⟨fun hlt => ?_, fun hge => ?_⟩
 ·obtain ⟨w, hw⟩ := aK (l := r) (i := j) (by omega)
  obtain ⟨t1, t2, t3, t4⟩ := zc hok hw
  have hstep : (r.take (j + 1)).foldl (cY p) (x.bS i.a c') = cY p ((r.take j).foldl (cY p) (x.bS i.a c')) w := by
   rw [dN hw, List.foldl_append]; rfl
  generalize (r.take j).foldl (cY p) (x.bS i.a c') = y at h t1 t3 t4 hstep
  obtain ⟨qa, rfl⟩ := h.bz (A := A) (by omega) (by decide)
  refine ⟨by omega, hlt, bp ?_⟩
  simp only [Int.toNat_natCast]
  refine bq (Src.at (h.src (A := some ⟨qa, 0, none⟩)) h (i := j) (j := 0) hw rfl (by simp [hO])) ?_
  refine bq (Src.at (h.src (A := some ⟨qa, 0, none⟩)) h (i := j) (j := 1) hw rfl (by simp [hO])) ?_
  refine bq (Src.at (h.src (A := some ⟨qa, 0, none⟩)) h (i := j) (j := 2) hw rfl (by simp [hO])) ?_
  refine aj h ?_
  clear h
  intro kw M h
  refine aq h ?_
  clear h; intro M h
  refine aq h ?_
  clear h; intro M h
  refine aq h ?_
  clear h; intro M h
  have hC := h
  have h' := iC h (b := b) t2 t3
  clear h
  obtain ⟨a2, gb, A2, c2, kA, fk, Ug, h⟩ := h'
  have QU := kA
  obtain ⟨m1, m2, m3, m4⟩ := QU
  repeat (first|(refine aj h ?_;clear h;intro kb M h)|(refine aq h ?_;clear h;intro M h)|refine St.to h ?_|(apply Exists.intro;(repeat apply Exists.intro);refine And.intro rfl ?_)|refine au ?_|refine af ?_|refine ai ?_)
  refine tw h fk fun q2 o5 => ?_
  repeat (first|(refine aj h ?_;clear h;intro kb M h)|(refine aq h ?_;clear h;intro M h)|refine St.to h ?_|(apply Exists.intro;(repeat apply Exists.intro);refine And.intro rfl ?_)|refine au ?_|refine af ?_|refine ai ?_)
  clear h
  have h := hC
  clear hC
  rw [bn (by omega)]
  have hst : cY p y w = if (ae y w.g).st = 2 then y.received p { w with v := 0 } 0 else y := rfl
  rw [hst] at hstep
  refine bU.2 ⟨fun e2 => ?_, fun e2 => ?_⟩
  ·rw [if_pos e2] at hstep
   refine aq h ?_
   clear h; intro M h
   repeat (first|(refine aj h ?_;clear h;intro kb M h)|(refine aq h ?_;clear h;intro M h)|refine St.to h ?_|(apply Exists.intro;(repeat apply Exists.intro);refine And.intro rfl ?_)|refine au ?_|refine af ?_|refine ai ?_)
   refine ox (b := b) (v := { w with v := 0 }) h hp (t4 e2) t1 ?_
   clear h; intro M h
   refine ⟨rfl, r.length - (j + 1), by omega, j + 1, rfl, rfl, by omega, ?_⟩
   rw [hstep]
   exact h.bP
  ·rw [if_neg e2] at hstep
   refine ⟨r.length - (j + 1), by omega, j + 1, rfl, rfl, by omega, ?_⟩
   rw [hstep]
   exact h.sub bM
 ·obtain rfl : j = r.length := by omega
  rw [List.take_length] at h
  exact k _ h.bP
end
theorem mj : bA Tryz.prog 36 3 1 8 [.int .i64 0] := bA.mk' (zv := .int .i64 0) (by kernel_rfl) (by kernel_rfl) rfl (by omega)
structure Rg where
 room : Nat
 l : List Int
def Rg.Ok (x : Rg) (head : Nat) (slots : List Int) : Prop := slots.length = x.room ∧ 0 < x.room ∧ x.room ≤ 1024 ∧ head < x.room ∧ x.l.length ≤ x.room ∧ ∀ i v, x.l[i]? = some v → slots[(head + i) % x.room]? = some v
def ef : ru Rg := ⟨fun b x => exs fun A : Option Addr => exs fun c : Nat => exs fun head : Nat => exs fun slots : List Int =>
 sep [fact (x.Ok head slots), pt b [.slice A x.room c, .int .i64 (head : Int), .int .i64 (x.l.length : Int)] 309, bV bB 3 A c slots]⟩
section
variable {R : Mem} {L L' : List HP} {M : Mem} {K : Value → Mem → Prop} {Kp : List PanicEntry → Mem → Prop} {b : Nat} {x : Rg}
theorem jl (h : Hp R L M) [o : bZ ef b L x L'] : ∃ A c head slots, x.Ok head slots ∧ Hp R (pt b [.slice A x.room c, .int .i64 (head : Int), .int .i64 (x.l.length : Int)] 309 :: bV bB 3 A c slots :: L') M := by
 have := h.obj ef b
 simpa only [ef, Hp.dg, Hp.aQ, List.cons_append, List.nil_append, Hp.fa] using this
theorem sQ {A : Option Addr} {c head : Nat} {slots : List Int} (ok : x.Ok head slots) (h : Hp R (pt b [.slice A x.room c, .int .i64 (head : Int), .int .i64 (x.l.length : Int)] 309 :: bV bB 3 A c slots :: L) M) : Hp R (ax ef b x :: L) M := by
 refine Hp.u6 ?_
 simp only [ef, Hp.dg, Hp.aQ, List.cons_append, List.nil_append, Hp.fa]
 exact ⟨_, _, _, _, ok, h⟩
def fN (n : Int) : Nat := (min (max n 1) 1024).toNat
theorem Fj (n : Int) : 0 < fN n ∧ fN n ≤ 1024 := by unfold fN; omega
theorem JZ {n : Int} (h : Hp R L M) (k : ∀ b M', Hp R (ax ef b ⟨fN n, []⟩ :: L) M' → K (.pointer (some ⟨b, 0, none⟩)) M') : aa Tryz.prog 115 #[.int .i64 n] M K Kp := by
 refine B4 ?_
 have e : (if (1024 : Int) < (if (1 : Int) > n then 1 else n) then 1024 else (if (1 : Int) > n then 1 else n)) = ((fN n : Nat) : Int) := by unfold fN; split <;> split <;> omega
 have bd := Fj n
 rw [e]
 refine h.E2 (E := bB) (a := 0) mj (by omega) ?_
 clear h
 intro kb M h
 repeat (first|(refine aj h ?_;clear h;intro kb M h)|(refine aq h ?_;clear h;intro M h)|refine St.to h ?_|(apply Exists.intro;(repeat apply Exists.intro);refine And.intro rfl ?_)|refine au ?_|refine af ?_|refine ai ?_)
 refine k _ _ (sQ (head := 0) (slots := List.replicate (fN n) 0) ⟨by simp, bd.1, bd.2, bd.1, by simp, fun i v hv => by simp at hv⟩ (h.sub bM))
theorem zd (h : Hp R L M) [o : bZ ef b L x L'] (k : K (.int .i64 (x.room : Int)) M) : aa Tryz.prog 183 #[.pointer (some ⟨b, 0, none⟩)] M K Kp := by
 refine sF ?_
 have h' := jl h (b := b)
 clear h
 obtain ⟨A, c, head, slots, ok, h⟩ := h'
 repeat (first|(refine aj h ?_;clear h;intro kb M h)|(refine aq h ?_;clear h;intro M h)|refine St.to h ?_|(apply Exists.intro;(repeat apply Exists.intro);refine And.intro rfl ?_)|refine au ?_|refine af ?_|refine ai ?_)
 exact k
theorem sR (h : Hp R L M) [o : bZ ef b L x L'] (k : K (.int .i64 (x.l.length : Int)) M) : aa Tryz.prog 181 #[.pointer (some ⟨b, 0, none⟩)] M K Kp := by
 refine tW ?_
 have h' := jl h (b := b)
 clear h
 obtain ⟨A, c, head, slots, ok, h⟩ := h'
 repeat (first|(refine aj h ?_;clear h;intro kb M h)|(refine aq h ?_;clear h;intro M h)|refine St.to h ?_|(apply Exists.intro;(repeat apply Exists.intro);refine And.intro rfl ?_)|refine au ?_|refine af ?_|refine ai ?_)
 exact k
theorem rQ {a b : Nat} : Int.tmod (a : Int) (b : Int) = ((a % b : Nat) : Int) := rfl
theorem pb {v : Int} (h : Hp R L M) [o : bZ ef b L x L'] (k1 : x.l.length = x.room → ∀ M', Hp R (ax ef b x :: L') M' → K (.bool false) M') (k2 : x.l.length < x.room → ∀ M', Hp R (ax ef b ⟨x.room, x.l ++ [v]⟩ :: L') M' → K (.bool true) M') :
  aa Tryz.prog 184 #[.pointer (some ⟨b, 0, none⟩), .int .i64 v] M K Kp := by
 refine sG ?_
 have h' := jl h (b := b)
 clear h
 obtain ⟨A, c, head, slots, ok, h⟩ := h'
 have ZO := ok
 obtain ⟨h1, h2, h3, h4, h5, h6⟩ := ZO
 repeat (first|(refine aj h ?_;clear h;intro kb M h)|(refine aq h ?_;clear h;intro M h)|refine St.to h ?_|(apply Exists.intro;(repeat apply Exists.intro);refine And.intro rfl ?_)|refine au ?_|refine af ?_|refine ai ?_)
 refine bU.2 ⟨fun e => ?_, fun e => ?_⟩
 ·exact k1 (by omega) _ (sQ ok h)
 ·have hlt : x.l.length < x.room := by omega
  repeat (first|(refine aj h ?_;clear h;intro kb M h)|(refine aq h ?_;clear h;intro M h)|refine St.to h ?_|(apply Exists.intro;(repeat apply Exists.intro);refine And.intro rfl ?_)|refine au ?_|refine af ?_|refine ai ?_)
  have e1 : IntKind.wrap .i64 ((head : Int) + (x.l.length : Int)) = ((head + x.l.length : Nat) : Int) := wn (by simp) (by omega)
  rw [e1, rQ]
  have hm := Nat.mod_lt (head + x.l.length) h2
  obtain ⟨b2, rfl⟩ := h.bz (A := A) (by omega) (by decide)
  obtain ⟨w, hw⟩ := aK (l := slots) (i := (head + x.l.length) % x.room) (by omega)
  repeat (first|(refine aj h ?_;clear h;intro kb M h)|(refine aq h ?_;clear h;intro M h)|refine St.to h ?_|(apply Exists.intro;(repeat apply Exists.intro);refine And.intro rfl ?_)|refine au ?_|refine af ?_|refine ai ?_)
  simp only [Int.toNat_natCast]
  refine gO (a' := v) ((head + x.l.length) % x.room) 0 h hw (by decide) rfl (by simp [bB]) ?_
  clear h; intro M h
  repeat (first|(refine aj h ?_;clear h;intro kb M h)|(refine aq h ?_;clear h;intro M h)|refine St.to h ?_|(apply Exists.intro;(repeat apply Exists.intro);refine And.intro rfl ?_)|refine au ?_|refine af ?_|refine ai ?_)
  have e2 : IntKind.wrap .i64 ((x.l.length : Int) + 1) = ((x.l.length + 1 : Nat) : Int) := bn (by omega)
  rw [e2] at h
  refine k2 hlt _ (sQ (x := ⟨x.room, x.l ++ [v]⟩) (head := head) (slots := slots.set ((head + x.l.length) % x.room) v) ⟨by simpa using h1, h2, h3, h4, by simp; omega, fun i u hu => ?_⟩ (by simpa using h.sub bM))
  dsimp only at hu ⊢
  rcases Nat.lt_or_ge i x.l.length with hi | hi
  ·rw [List.getElem?_append_left hi] at hu
   have hne : (head + i) % x.room ≠ (head + x.l.length) % x.room := by
    intro he
    have a1 : (head + i) % x.room = if head + i < x.room then head + i else head + i - x.room := by
     split
     ·exact Nat.mod_eq_of_lt (by omega)
     ·rw [Nat.mod_eq_sub_mod (by omega)]; exact Nat.mod_eq_of_lt (by omega)
    have a2 : (head + x.l.length) % x.room = if head + x.l.length < x.room then head + x.l.length else head + x.l.length - x.room := by
     split
     ·exact Nat.mod_eq_of_lt (by omega)
     ·rw [Nat.mod_eq_sub_mod (by omega)]; exact Nat.mod_eq_of_lt (by omega)
    rw [a1, a2] at he
    split at he <;> split at he <;> omega
   rw [List.getElem?_set_ne (Ne.symm hne)]
   exact h6 i u hu
  ·rw [List.getElem?_append_right hi] at hu
   have : i = x.l.length := by
    have := (List.getElem?_eq_some_iff.1 hu).1
    simp at this; omega
   subst this
   simp at hu; subst hu
   rw [List.getElem?_set_self (by omega)]
theorem Co (h : Hp R L M) [o : bZ ef b L x L'] (k1 : x.l = [] → ∀ M', Hp R (ax ef b x :: L') M' → K (.tuple #[.int .i64 0, .bool false]) M')
  (k2 : ∀ v l, x.l = v :: l → ∀ M', Hp R (ax ef b ⟨x.room, l⟩ :: L') M' → K (.tuple #[.int .i64 v, .bool true]) M') :
  aa Tryz.prog 177 #[.pointer (some ⟨b, 0, none⟩)] M K Kp := by
 refine tV ?_
 have h' := jl h (b := b)
 clear h
 obtain ⟨A, c, head, slots, ok, h⟩ := h'
 have ZO := ok
 obtain ⟨h1, h2, h3, h4, h5, h6⟩ := ZO
 obtain ⟨room, l⟩ := x
 dsimp only at *
 repeat (first|(refine aj h ?_;clear h;intro kb M h)|(refine aq h ?_;clear h;intro M h)|refine St.to h ?_|(apply Exists.intro;(repeat apply Exists.intro);refine And.intro rfl ?_)|refine au ?_|refine af ?_|refine ai ?_)
 refine bU.2 ⟨fun e => ?_, fun e => ?_⟩
 ·exact k1 (List.length_eq_zero_iff.1 (by omega)) _ (sQ ok h)
 ·cases l with
  | nil => simp at e
  | cons v l =>
  have hv := h6 0 v rfl
  rw [Nat.add_zero, Nat.mod_eq_of_lt h4] at hv
  obtain ⟨b2, rfl⟩ := h.bz (A := A) (by omega) (by decide)
  have s0 := h.src (A := some ⟨b2, 0, none⟩)
  repeat (first|(refine aj h ?_;clear h;intro kb M h)|(refine aq h ?_;clear h;intro M h)|refine St.to h ?_|(apply Exists.intro;(repeat apply Exists.intro);refine And.intro rfl ?_)|refine au ?_|refine af ?_|refine ai ?_)
  simp only [Int.toNat_natCast]
  refine bq (s0.at h (i := head) (j := 0) hv rfl (by simp [bB])) ?_
  repeat (first|(refine aj h ?_;clear h;intro kb M h)|(refine aq h ?_;clear h;intro M h)|refine St.to h ?_|(apply Exists.intro;(repeat apply Exists.intro);refine And.intro rfl ?_)|refine au ?_|refine af ?_|refine ai ?_)
  have e1 : IntKind.wrap .i64 ((head : Int) + 1) = ((head + 1 : Nat) : Int) := bn (by omega)
  rw [e1, rQ] at h
  have e2 : IntKind.wrap .i64 ((((v :: l).length : Nat) : Int) - 1) = ((l.length : Nat) : Int) := by rw [lR (by simp only [List.length_cons]; omega) (by simp only [List.length_cons] at h5 ⊢; omega)]; simp
  rw [e2] at h
  have h5' : l.length + 1 ≤ room := by simpa using h5
  refine k2 v l rfl _ (sQ (x := ⟨room, l⟩) (head := (head + 1) % room) (slots := slots) ⟨h1, h2, h3, Nat.mod_lt _ h2, by dsimp only; omega, fun i u hu => ?_⟩ (h.sub bM))
  dsimp only at hu ⊢
  have := h6 (i + 1) u (by simpa using hu)
  rw [Nat.mod_add_mod, ← this]
  congr 2; omega
theorem ze {n : Int} (h : Hp R L M) [o : bZ ef b L x L'] (k : ∀ A c M', Hp R (bV bB 3 A c (x.l.take n.toNat) :: ax ef b ⟨x.room, x.l.drop n.toNat⟩ :: L') M' → K (.slice A (x.l.take n.toNat).length c) M') :
  aa Tryz.prog 182 #[.pointer (some ⟨b, 0, none⟩), .int .i64 n] M K Kp := by
 replace h := h.front ef b
 have hx : x.l.length ≤ 1024 := by
  obtain ⟨A, c, head, slots, ok, _⟩ := jl h (b := b)
  have := ok.2.2.1; have := ok.2.2.2.2.1; omega
 refine sE ⟨fun d ws M => ∃ (i : Nat) (A : Option Addr) (c : Nat), ws = [.slice A (x.l.take i).length c] ∧ d = n.toNat - i ∧ i ≤ n.toNat ∧ i ≤ x.l.length ∧
  Hp R (bV bB 3 A c (x.l.take i) :: ax ef b ⟨x.room, x.l.drop i⟩ :: L') M, ⟨_, 0, none, 0, rfl, rfl, by omega, by omega, h.cz _ _⟩, ?_⟩
 clear h
 rintro d _ A n1 c M ⟨i, _, _, he, hd, hi, hil, h⟩
 simp only [List.cons.injEq, Value.slice.injEq, and_true, true_and] at he
 obtain ⟨rfl, rfl, rfl⟩ := he
 have hlen : (x.l.take i).length = i := by rw [List.length_take]; omega
 refine aM.2 ⟨fun hlt => ?_, fun hge => ?_⟩
 ·refine Co h (fun e M' h' => ?_) fun v l e M' h' => ?_
  ·repeat (first|(refine aj h ?_;clear h;intro kb M h)|(refine aq h ?_;clear h;intro M h)|refine St.to h ?_|(apply Exists.intro;(repeat apply Exists.intro);refine And.intro rfl ?_)|refine au ?_|refine af ?_|refine ai ?_)
   have : x.l.length ≤ i := by
    have := congrArg List.length e; simp at this; omega
   rw [List.take_of_length_le this] at h' ⊢
   rw [List.drop_of_length_le this] at h'
   have h1 : x.l.take n.toNat = x.l := List.take_of_length_le (by omega)
   have h2 : x.l.drop n.toNat = [] := List.drop_of_length_le (by omega)
   rw [h1, h2] at k
   exact k _ _ _ h'.swap
  ·clear h
   have h := h'.swap
   clear h'
   dsimp only at e
   have hv : x.l[i]? = some v := by
    have := congrArg (fun l => l[0]?) e
    simpa using this
   have e3 : x.l.drop (i + 1) = l := by
    have := congrArg (List.drop 1) e
    simpa using this
   repeat (first|(refine aj h ?_;clear h;intro kb M h)|(refine aq h ?_;clear h;intro M h)|refine St.to h ?_|(apply Exists.intro;(repeat apply Exists.intro);refine And.intro rfl ?_)|refine au ?_|refine af ?_|refine ai ?_)
   refine h.bF mj [v] rfl rfl (by simp; omega) ?_
   clear h
   intro A' c' M h
   repeat (first|(refine aj h ?_;clear h;intro kb M h)|(refine aq h ?_;clear h;intro M h)|refine St.to h ?_|(apply Exists.intro;(repeat apply Exists.intro);refine And.intro rfl ?_)|refine au ?_|refine af ?_|refine ai ?_)
   rw [← dN hv] at h ⊢
   have kA := (List.getElem?_eq_some_iff.1 hv).1
   refine ⟨n.toNat - (i + 1), by omega, i + 1, A', c', rfl, rfl, by omega, by omega, ?_⟩
   rw [e3]; exact h.sub bM
 ·obtain rfl : i = n.toNat := by omega
  exact k _ _ _ h
end
structure Loc where
 next : Int
 room : Nat
 l : List Int
def Loc.put (x : Loc) (v : Int) (g : List Int) : Loc × List Int × Nat :=
 if x.l.length < x.room then ({ x with l := x.l ++ [v] }, g, 0) else ({ x with l := x.l.drop (x.l.length / 2) }, g ++ (x.l.take (x.l.length / 2) ++ [v]), x.l.length / 2 + 1)
def Loc.ready (x : Loc) (v : Int) (g : List Int) : Loc × List Int × Nat := if x.next = -1 then ({ x with next := v }, g, 0) else ({ x with next := v } : Loc).put x.next g
def Loc.get (x : Loc) : Loc × Int := if x.next ≠ -1 then ({ x with next := -1 }, x.next) else match x.l with
 | [] => (x, -1)
 | v :: l => ({ x with l := l }, v)
def Loc.eL (x : Loc) (g : List Int) : Loc × List Int × Nat := if x.next = -1 then (x, g, 0) else ({ x with next := -1 } : Loc).put x.next g
def Loc.cL (x : Loc) (g : List Int) (p : Int) : Nat := if p < 1 then 1 else min (g.length / p.toNat + 1) (x.room - x.l.length + 1)
def Loc.dV (x : Loc) (g : List Int) (p : Int) : Loc × List Int × Int := match g.take (x.cL g p) with
 | [] => (x, g, -1)
 | v :: out => ({ x with l := x.l ++ out }, g.drop (x.cL g p), v)
def Loc.gd (x f : Loc) : Nat := min (f.l.length - f.l.length / 2) (x.room - x.l.length + 1)
def Loc.cZ (x f : Loc) : Loc × Loc × Int := match f.l.take (x.gd f) with
 | [] => (x, { f with next := -1 }, f.next)
 | v :: out => ({ x with l := x.l ++ out }, { f with l := f.l.drop (x.gd f) }, v)
def Loc.Ok (x : Loc) : Prop := x.l.length ≤ x.room ∧ x.room ≤ 1024 ∧ 0 < x.room
def bC : ru Loc := ⟨fun b x => exs fun rb : Nat => sep [pt b [.int .i64 x.next, .pointer (some ⟨rb, 0, none⟩)] 237, ax ef rb ⟨x.room, x.l⟩]⟩
structure MJ (gb go : Nat) (P : Option Addr → Nat → Nat → HP) : Prop where
 Cp : ∀ (R : Mem) (L : List HP) (M : Mem) (A : Option Addr) (n c : Nat), Hp R (P A n c :: L) M → M.ld ⟨gb, go, none⟩ = some (.slice A n c)
 Ui : ∀ (R : Mem) (L : List HP) (M : Mem) (A A' : Option Addr) (n c n' c' : Nat) (G : Mem → Prop), Hp R (P A n c :: L) M → (∀ M', Hp R (P A' n' c' :: L) M' → G M') → aF M ⟨gb, go, none⟩ (.slice A' n' c') G
def fS (P : Option Addr → Nat → Nat → HP) (l : List Int) : HP := exs fun A : Option Addr => exs fun c : Nat => sep [P A l.length c, bV bB 3 A c l]
class qe (P : Option Addr → Nat → Nat → HP) (L : List HP) (g : outParam (List Int)) (L' : outParam (List HP)) : Prop where
 pick : cy L (fS P g) L'
instance qe.here {P : Option Addr → Nat → Nat → HP} {g : List Int} {L : List HP} : qe P (fS P g :: L) g L := ⟨.here⟩
instance (priority := low) qe.there {P : Option Addr → Nat → Nat → HP} {g : List Int} {Q : HP} {L L' : List HP} [h : qe P L g L'] : qe P (Q :: L) g (Q :: L') := ⟨.there h.pick⟩
section
variable {R : Mem} {L L' mD : List HP} {M : Mem} {K : Value → Mem → Prop} {Kp : List PanicEntry → Mem → Prop} {b gb go b' : Nat} {P : Option Addr → Nat → Nat → HP} {x f : Loc} {g : List Int}
theorem gV (h : Hp R L M) [o : bZ bC b L x L'] : ∃ rb, Hp R (pt b [.int .i64 x.next, .pointer (some ⟨rb, 0, none⟩)] 237 :: ax ef rb ⟨x.room, x.l⟩ :: L') M := by
 have := h.obj bC b
 simpa only [bC, Hp.dg, Hp.aQ, List.cons_append, List.nil_append] using this
theorem QV {rb : Nat} (h : Hp R (pt b [.int .i64 x.next, .pointer (some ⟨rb, 0, none⟩)] 237 :: ax ef rb ⟨x.room, x.l⟩ :: L) M) : Hp R (ax bC b x :: L) M := by
 refine Hp.u6 ?_
 simp only [bC, Hp.dg, Hp.aQ, List.cons_append, List.nil_append]
 exact ⟨_, h⟩
theorem cn {next : Int} {rb room : Nat} {l : List Int} {L1 L2 : List HP} (h : Hp R L M) (b : Nat) [p : jP b L [.int .i64 next, .pointer (some ⟨rb, 0, none⟩)] 237 L1] [o : bZ ef rb L1 ⟨room, l⟩ L2] : Hp R (ax bC b ⟨next, room, l⟩ :: L2) M :=
 QV (h.sub (.cons p.pick (.cons o.pick .refl)))
theorem gW (h : Hp R L M) [o : qe P L g L'] : ∃ A c, Hp R (P A g.length c :: bV bB 3 A c g :: L') M := by
 have := h.pick o.pick
 simpa only [fS, Hp.dg, Hp.aQ, List.cons_append, List.nil_append] using this
theorem Cq {A : Option Addr} {c n : Nat} (h : Hp R (P A n c :: bV bB 3 A c g :: L) M) (e : n = g.length := by first | rfl | simp) : Hp R (fS P g :: L) M := by
 subst e
 simp only [fS, Hp.dg, Hp.aQ, List.cons_append, List.nil_append]
 exact ⟨_, _, h⟩
theorem MK {rb : Nat} {r : Rg} (h : Hp R L M) [o : bZ ef rb L r L'] : r.l.length ≤ r.room ∧ r.room ≤ 1024 ∧ 0 < r.room := by
 obtain ⟨A, c, head, slots, ok, _⟩ := jl h (b := rb)
 exact ⟨ok.2.2.2.2.1, ok.2.2.1, ok.2.1⟩
theorem ug (h : Hp R L M) [o : bZ bC b L x L'] : x.Ok := by
 obtain ⟨rb, h2⟩ := gV h (b := b)
 exact MK (rb := rb) h2
theorem zf {room : Int} (h : Hp R L M) (k : ∀ b M', Hp R (ax bC b ⟨-1, fN room, []⟩ :: L) M' → K (.pointer (some ⟨b, 0, none⟩)) M') : aa Tryz.prog 57 #[.int .i64 room] M K Kp := by
 refine Aj ?_
 refine JZ h ?_
 clear h
 intro rb M h
 repeat (first|(refine aj h ?_;clear h;intro kb M h)|(refine aq h ?_;clear h;intro M h)|refine St.to h ?_|(apply Exists.intro;(repeat apply Exists.intro);refine And.intro rfl ?_)|refine au ?_|refine af ?_|refine ai ?_)
 exact k _ _ (cn h kb)
theorem Eh (h : Hp R L M) [o : bZ bC b L x L'] (k : K (.int .i64 x.next) M) : aa Tryz.prog 148 #[.pointer (some ⟨b, 0, none⟩)] M K Kp := by
 refine pU ?_
 have h' := gV h (b := b)
 clear h
 obtain ⟨rb, h⟩ := h'
 repeat (first|(refine aj h ?_;clear h;intro kb M h)|(refine aq h ?_;clear h;intro M h)|refine St.to h ?_|(apply Exists.intro;(repeat apply Exists.intro);refine And.intro rfl ?_)|refine au ?_|refine af ?_|refine ai ?_)
 exact k
theorem Ei (D : MJ gb go P) (h : Hp R L M) [o : qe P L g L'] (k : K (.int .i64 (g.length : Int)) M) : aa Tryz.prog 202 #[.pointer (some ⟨gb, go, none⟩)] M K Kp := by
 refine pW ?_
 have h' := gW h (P := P)
 clear h
 obtain ⟨A, c, h⟩ := h'
 rw [D.Cp _ _ _ _ _ _ h]
 exact aR k
theorem Cr (D : MJ gb go P) (h : Hp R L M) [o : qe P L g L'] (hs : g.length ≤ 1000000000) (k : ∀ A c M', Hp R (bV bB 3 A c g :: fS P g :: L') M' → K (.slice A g.length c) M') : aa Tryz.prog 64 #[.pointer (some ⟨gb, go, none⟩)] M K Kp := by
 refine nW ?_
 have h' := gW h (P := P)
 clear h
 obtain ⟨A, c, h⟩ := h'
 refine aj h ?_
 clear h; intro kb M h
 rw [D.Cp _ _ _ _ _ _ h.swap]
 refine aR ?_
 refine h.iY bB mj g (h.src (A := A)) rfl (by omega) ?_
 clear h
 intro A' c' M h
 refine aR ?_
 exact k _ _ _ (((h.pick (.there .here)).pick (.there (.there .here)) |> fun h => Cq (P := P) (h.sub (show Sub _ (P A g.length c :: bV bB 3 A c g :: bV bB 3 A' c' g :: L') from bM))).swap)
theorem mo (D : MJ gb go P) {B : Option Addr} {n c : Nat} {l : List Int} (h : Hp R L M) [o : qe P L g L'] (hB : Src R L' B (bB.cells l)) (hn : n = l.length) (hs : g.length + l.length ≤ 1000000000) (k : ∀ M', Hp R (fS P (g ++ l) :: L') M' → K (.tuple #[]) M') :
  aa Tryz.prog 58 #[.pointer (some ⟨gb, go, none⟩), .slice B n c] M K Kp := by
 refine pT ?_
 have h' := gW h (P := P)
 clear h
 obtain ⟨A, cg, h⟩ := h'
 rw [D.Cp _ _ _ _ _ _ h]
 refine aR ?_
 refine h.Gj (A := A) (r := l) mj hB.cons.cons hn (by omega) ?_
 clear h
 intro A' c' M h
 refine aR ?_
 refine D.Ui _ _ _ _ _ _ _ _ _ _ h.swap ?_
 clear h; intro M h
 exact k _ (Cq h)
theorem oy (D : MJ gb go P) {n : Int} (h : Hp R L M) [o : qe P L g L'] (hs : g.length ≤ 1000000000) (k : ∀ A c M', Hp R (bV bB 3 A c (g.take n.toNat) :: fS P (g.drop n.toNat) :: L') M' → K (.slice A (g.take n.toNat).length c) M') :
  aa Tryz.prog 179 #[.pointer (some ⟨gb, go, none⟩), .int .i64 n] M K Kp := by
 refine nY ?_
 have h' := gW h (P := P)
 clear h
 obtain ⟨A, cg, h⟩ := h'
 have hcap := h.iJ A
 have e : (if ((g.length : Nat) : Int) < (if (0 : Int) > n then 0 else n) then ((g.length : Nat) : Int) else (if (0 : Int) > n then 0 else n)) = ((min n.toNat g.length : Nat) : Int) := by split <;> split <;> omega
 have hq : g.take n.toNat = g.take (min n.toNat g.length) ∧ g.drop n.toNat = g.drop (min n.toNat g.length) := by
  rcases Nat.le_total n.toNat g.length with hl | hl
  ·rw [Nat.min_eq_left hl]; exact ⟨rfl, rfl⟩
  ·rw [Nat.min_eq_right hl, List.take_of_length_le hl, List.drop_of_length_le hl]; simp
 rw [hq.1, hq.2] at k
 have hql : min n.toNat g.length ≤ g.length := Nat.min_le_right ..
 rw [D.Cp _ _ _ _ _ _ h]
 refine aR ?_
 rw [e]
 generalize min n.toNat g.length = q at *
 have el : (g.take q).length = q := by rw [List.length_take]; omega
 refine aj h ?_
 clear h; intro kb M h
 rw [D.Cp _ _ _ _ _ _ h.swap]
 refine aR ?_
 simp only [Int.toNat_natCast, Nat.sub_zero]
 refine ⟨by omega, by omega, by omega, by omega, by omega, by omega, ?_⟩
 refine h.iY bB mj (g.take q) (Src.ZJ (h.src (A := A)) hcap q) (by rw [el]) (by rw [el]; omega) ?_
 clear h
 intro A' c' M h
 refine aR ?_
 refine aj h ?_
 clear h; intro kb2 M h
 replace h : Hp R (P A g.length cg :: bV bB 3 A cg g :: pt kb2 [] 3 :: bV bB 3 A' c' (g.take q) :: L') M := h.sub bM
 rw [D.Cp _ _ _ _ _ _ h]
 refine aR ?_
 refine ⟨by omega, by omega, by omega, by omega, by omega, by omega, ?_⟩
 refine h.iY bB mj (g.drop q) (Src.ME (h.src (A := A)) hcap q) (by rw [List.length_drop]) (by rw [List.length_drop]; omega) ?_
 clear h
 intro A2 c2 M h
 refine aR ?_
 replace h : Hp R (P A g.length cg :: bV bB 3 A2 c2 (g.drop q) :: bV bB 3 A' c' (g.take q) :: L') M := h.sub bM
 refine D.Ui _ _ _ _ _ _ _ _ _ _ h ?_
 clear h; intro M h
 rw [← el]
 rw [el]
 exact k _ _ _ ((Cq (P := P) h).swap)
theorem zg (D : MJ gb go P) {v : Int} (h : Hp R L M) [o : bZ bC b L x L'] [og : qe P L' g mD] (hs : g.length ≤ 100000000)
  (k : ∀ M', Hp R (ax bC b (x.put v g).1 :: fS P (x.put v g).2.1 :: mD) M' → K (.int .i64 ((x.put v g).2.2 : Int)) M') :
  aa Tryz.prog 185 #[.pointer (some ⟨b, 0, none⟩), .int .i64 v, .pointer (some ⟨gb, go, none⟩)] M K Kp := by
 have bd := ug h (b := b)
 have h0 : Hp R (ax bC b x :: fS P g :: mD) M := (h.pick o.pick).map fun _ hs => hs.tail (fun _ => bO.pick og.pick)
 clear h
 have h := h0
 clear h0
 refine qM ?_
 have h' := gV h (b := b)
 clear h
 obtain ⟨rb, h⟩ := h'
 repeat (first|(refine aj h ?_;clear h;intro kb M h)|(refine aq h ?_;clear h;intro M h)|refine St.to h ?_|(apply Exists.intro;(repeat apply Exists.intro);refine And.intro rfl ?_)|refine au ?_|refine af ?_|refine ai ?_)
 refine pb h (fun e M' h' => ?_) fun e M' h' => ?_
 ·clear h
  have h := h'
  clear h'
  dsimp only at e
  have hp : x.put v g = ({ x with l := x.l.drop (x.l.length / 2) }, g ++ (x.l.take (x.l.length / 2) ++ [v]), x.l.length / 2 + 1) := by unfold Loc.put; rw [if_neg (by omega)]
  rw [hp] at k
  repeat (first|(refine aj h ?_;clear h;intro kb M h)|(refine aq h ?_;clear h;intro M h)|refine St.to h ?_|(apply Exists.intro;(repeat apply Exists.intro);refine And.intro rfl ?_)|refine au ?_|refine af ?_|refine ai ?_)
  refine sR h ?_
  repeat (first|(refine aj h ?_;clear h;intro kb M h)|(refine aq h ?_;clear h;intro M h)|refine St.to h ?_|(apply Exists.intro;(repeat apply Exists.intro);refine And.intro rfl ?_)|refine au ?_|refine af ?_|refine ai ?_)
  have e2 : IntKind.wrap .i64 (Int.tdiv (x.l.length : Int) 2) = ((x.l.length / 2 : Nat) : Int) := wn rfl (by have := bd.1; have := bd.2.1; omega)
  simp only [e2]
  refine ze h ?_
  clear h
  intro A c M h
  simp only [Int.toNat_natCast] at h ⊢
  repeat (first|(refine aj h ?_;clear h;intro kb M h)|(refine aq h ?_;clear h;intro M h)|refine St.to h ?_|(apply Exists.intro;(repeat apply Exists.intro);refine And.intro rfl ?_)|refine au ?_|refine af ?_|refine ai ?_)
  have Vo : (x.l.take (x.l.length / 2)).length = x.l.length / 2 := by rw [List.length_take]; omega
  refine h.bF mj [v] rfl rfl (by have := bd.2.1; have := bd.1; simp; omega) ?_
  clear h
  intro A' c' M h
  repeat (first|(refine aj h ?_;clear h;intro kb M h)|(refine aq h ?_;clear h;intro M h)|refine St.to h ?_|(apply Exists.intro;(repeat apply Exists.intro);refine And.intro rfl ?_)|refine au ?_|refine af ?_|refine ai ?_)
  replace h := h.sub (show Sub _ (fS P g :: bV bB 3 A' c' (x.l.take (x.l.length / 2) ++ [v]) :: ax ef rb ⟨x.room, x.l.drop (x.l.length / 2)⟩ :: pt b [.int .i64 x.next, .pointer (some ⟨rb, 0, none⟩)] 237 :: mD) from bM)
  refine mo D h Src.row rfl (by have := bd.2.1; have := bd.1; simp; omega) ?_
  clear h
  intro M h
  repeat (first|(refine aj h ?_;clear h;intro kb M h)|(refine aq h ?_;clear h;intro M h)|refine St.to h ?_|(apply Exists.intro;(repeat apply Exists.intro);refine And.intro rfl ?_)|refine au ?_|refine af ?_|refine ai ?_)
  have e3 : (((x.l.take (x.l.length / 2) ++ [v]).length : Nat) : Int) = ((x.l.length / 2 + 1 : Nat) : Int) := by simp; omega
  rw [e3]
  exact k _ ((cn h b).sub bM)
 ·clear h
  have h := h'
  clear h'
  dsimp only at e
  have hp : x.put v g = ({ x with l := x.l ++ [v] }, g, 0) := by unfold Loc.put; rw [if_pos e]
  rw [hp] at k
  repeat (first|(refine aj h ?_;clear h;intro kb M h)|(refine aq h ?_;clear h;intro M h)|refine St.to h ?_|(apply Exists.intro;(repeat apply Exists.intro);refine And.intro rfl ?_)|refine au ?_|refine af ?_|refine ai ?_)
  exact k _ ((cn h b).sub bM)
theorem Az (h : Hp R L M) [o : bZ bC b L x L'] [og : qe P L' g mD] : Hp R (ax bC b x :: fS P g :: mD) M := (h.pick o.pick).map fun _ hs => hs.tail (fun _ => bO.pick og.pick)
theorem Cs (D : MJ gb go P) {v : Int} (h : Hp R L M) [o : bZ bC b L x L'] [og : qe P L' g mD] (hs : g.length ≤ 100000000)
  (k : ∀ M', Hp R (ax bC b (x.ready v g).1 :: fS P (x.ready v g).2.1 :: mD) M' → K (.int .i64 ((x.ready v g).2.2 : Int)) M') :
  aa Tryz.prog 152 #[.pointer (some ⟨b, 0, none⟩), .int .i64 v, .pointer (some ⟨gb, go, none⟩)] M K Kp := by
 replace h := Az (P := P) h (b := b)
 refine nX ?_
 have h' := gV h (b := b)
 clear h
 obtain ⟨rb, h⟩ := h'
 repeat (first|(refine aj h ?_;clear h;intro kb M h)|(refine aq h ?_;clear h;intro M h)|refine St.to h ?_|(apply Exists.intro;(repeat apply Exists.intro);refine And.intro rfl ?_)|refine au ?_|refine af ?_|refine ai ?_)
 refine bU.2 ⟨fun e => ?_, fun e => ?_⟩
 ·have hp : x.ready v g = ({ x with next := v }, g, 0) := by unfold Loc.ready; rw [if_pos e]
  rw [hp] at k
  repeat (first|(refine aj h ?_;clear h;intro kb M h)|(refine aq h ?_;clear h;intro M h)|refine St.to h ?_|(apply Exists.intro;(repeat apply Exists.intro);refine And.intro rfl ?_)|refine au ?_|refine af ?_|refine ai ?_)
  exact k _ ((cn h b).sub bM)
 ·have hp : x.ready v g = ({ x with next := v } : Loc).put x.next g := by unfold Loc.ready; rw [if_neg e]
  rw [hp] at k
  replace h := cn h b
  refine zg D h hs ?_
  clear h
  intro M h
  repeat (first|(refine aj h ?_;clear h;intro kb M h)|(refine aq h ?_;clear h;intro M h)|refine St.to h ?_|(apply Exists.intro;(repeat apply Exists.intro);refine And.intro rfl ?_)|refine au ?_|refine af ?_|refine ai ?_)
  exact k _ h
theorem Ej (D : MJ gb go P) (h : Hp R L M) [o : bZ bC b L x L'] [og : qe P L' g mD] (hs : g.length ≤ 100000000)
  (k : ∀ M', Hp R (ax bC b (x.eL g).1 :: fS P (x.eL g).2.1 :: mD) M' → K (.int .i64 ((x.eL g).2.2 : Int)) M') :
  aa Tryz.prog 178 #[.pointer (some ⟨b, 0, none⟩), .pointer (some ⟨gb, go, none⟩)] M K Kp := by
 replace h := Az (P := P) h (b := b)
 refine pV ?_
 have h' := gV h (b := b)
 clear h
 obtain ⟨rb, h⟩ := h'
 repeat (first|(refine aj h ?_;clear h;intro kb M h)|(refine aq h ?_;clear h;intro M h)|refine St.to h ?_|(apply Exists.intro;(repeat apply Exists.intro);refine And.intro rfl ?_)|refine au ?_|refine af ?_|refine ai ?_)
 refine bU.2 ⟨fun e => ?_, fun e => ?_⟩
 ·have hp : x.eL g = (x, g, 0) := by unfold Loc.eL; rw [if_pos e]
  rw [hp] at k
  exact k _ ((cn h b).sub bM)
 ·have hp : x.eL g = ({ x with next := -1 } : Loc).put x.next g := by unfold Loc.eL; rw [if_neg e]
  rw [hp] at k
  repeat (first|(refine aj h ?_;clear h;intro kb M h)|(refine aq h ?_;clear h;intro M h)|refine St.to h ?_|(apply Exists.intro;(repeat apply Exists.intro);refine And.intro rfl ?_)|refine au ?_|refine af ?_|refine ai ?_)
  replace h := cn h b
  refine zg D h hs ?_
  clear h
  intro M h
  repeat (first|(refine aj h ?_;clear h;intro kb M h)|(refine aq h ?_;clear h;intro M h)|refine St.to h ?_|(apply Exists.intro;(repeat apply Exists.intro);refine And.intro rfl ?_)|refine au ?_|refine af ?_|refine ai ?_)
  exact k _ h
theorem zh (h : Hp R L M) [o : bZ bC b L x L']
  (k : ∀ t M', (x.get.2 = -1 → x.next = -1 → x.l = [] → t = false) → (x.next ≠ -1 ∨ x.l ≠ [] → t = true) → Hp R (ax bC b x.get.1 :: L') M' → K (.tuple #[.int .i64 x.get.2, .bool t]) M') :
  aa Tryz.prog 149 #[.pointer (some ⟨b, 0, none⟩)] M K Kp := by
 refine qL ?_
 have h' := gV h (b := b)
 clear h
 obtain ⟨rb, h⟩ := h'
 obtain ⟨next, room, l⟩ := x
 dsimp only at h
 repeat (first|(refine aj h ?_;clear h;intro kb M h)|(refine aq h ?_;clear h;intro M h)|refine St.to h ?_|(apply Exists.intro;(repeat apply Exists.intro);refine And.intro rfl ?_)|refine au ?_|refine af ?_|refine ai ?_)
 refine de.2 ⟨fun e => ?_, fun e => ?_⟩
 ·have hp : (Loc.mk next room l).get = (⟨-1, room, l⟩, next) := by unfold Loc.get; dsimp only; rw [if_pos e]
  rw [hp] at k
  repeat (first|(refine aj h ?_;clear h;intro kb M h)|(refine aq h ?_;clear h;intro M h)|refine St.to h ?_|(apply Exists.intro;(repeat apply Exists.intro);refine And.intro rfl ?_)|refine au ?_|refine af ?_|refine ai ?_)
  exact k true _ (fun _ h2 => absurd h2 e) (fun _ => rfl) ((cn h b).sub bM)
 ·repeat (first|(refine aj h ?_;clear h;intro kb M h)|(refine aq h ?_;clear h;intro M h)|refine St.to h ?_|(apply Exists.intro;(repeat apply Exists.intro);refine And.intro rfl ?_)|refine au ?_|refine af ?_|refine ai ?_)
  refine Co h (fun e2 M' h' => ?_) fun v l2 e2 M' h' => ?_
  ·dsimp only at e2
   subst e2
   have hp : (Loc.mk next room []).get = (⟨next, room, []⟩, -1) := by unfold Loc.get; dsimp only; rw [if_neg (by simpa using e)]
   rw [hp] at k
   repeat (first|(refine aj h ?_;clear h;intro kb M h)|(refine aq h ?_;clear h;intro M h)|refine St.to h ?_|(apply Exists.intro;(repeat apply Exists.intro);refine And.intro rfl ?_)|refine au ?_|refine af ?_|refine ai ?_)
   exact k false _ (fun _ _ _ => rfl) (fun hx => by rcases hx with hx | hx; exact absurd e hx; exact absurd rfl hx) ((cn h' b).sub bM)
  ·dsimp only at e2
   subst e2
   have hp : (Loc.mk next room (v :: l2)).get = (⟨next, room, l2⟩, v) := by unfold Loc.get; dsimp only; rw [if_neg (by simpa using e)]
   rw [hp] at k
   repeat (first|(refine aj h ?_;clear h;intro kb M h)|(refine aq h ?_;clear h;intro M h)|refine St.to h ?_|(apply Exists.intro;(repeat apply Exists.intro);refine And.intro rfl ?_)|refine au ?_|refine af ?_|refine ai ?_)
   exact k true _ (fun _ _ hx => by simp at hx) (fun _ => rfl) ((cn h' b).sub bM)
end
section
variable {R : Mem} {L L' mD : List HP} {M : Mem} {K : Value → Mem → Prop} {Kp : List PanicEntry → Mem → Prop} {b gb go b' : Nat} {P : Option Addr → Nat → Nat → HP} {x f : Loc} {g : List Int}
theorem QW {b b' T T' : Nat} {cs cs' : List Value} (h : Hp R (pt b cs T :: L) M) [p : jP b' L cs' T' L'] : b ≠ b' := by
 rintro rfl
 have h2 : Hp R (pt b cs T :: pt b cs' T' :: L') M := h.map fun _ hs => hs.tail fun _ => bO.pick p.pick
 obtain ⟨B, rfl, h1, X, Y, rfl, h2, hp, X2, Y2, rfl, h3, hp2, hs⟩ := h2
 unfold AF.pt at hp hp2
 rcases h2 b with h | h
 ·rw [hp] at h; cases h
 ·rw [Mem.union_left hp2] at h; cases h
theorem QX {a : Addr} {b : Nat} {G : Bool → Prop} (hne : a.block ≠ b) (h1 : js M a.block) (h2 : js M b) (g : G false) : ptrEq M (some a) (some ⟨b, 0, none⟩) G :=
 ⟨fun e => absurd (by rw [e]) hne, fun _ => ⟨.inr ⟨h1, h2⟩, g⟩⟩
theorem Ct {b T : Nat} {cs : List Value} (h : Hp R L M) [p : jP b L cs T L'] : js M b := ⟨_, _, (h.pick p.pick).BI⟩
theorem Cu (D : MJ gb go P) {p : Int} (h : Hp R L M) [o : bZ bC b L x L'] [og : qe P L' g mD] (hs : g.length ≤ 100000000) (hp9 : p < 9223372036854775808)
  (k : ∀ t M', ((x.dV g p).2.2 = -1 → g = [] → t = false) → (g ≠ [] → t = true) → Hp R (ax bC b (x.dV g p).1 :: fS P (x.dV g p).2.1 :: mD) M' → K (.tuple #[.int .i64 (x.dV g p).2.2, .bool t]) M') :
  aa Tryz.prog 180 #[.pointer (some ⟨b, 0, none⟩), .pointer (some ⟨gb, go, none⟩), .int .i64 p] M K Kp := by
 have bd := ug h (b := b)
 obtain ⟨bd1, bd2, bd3⟩ := bd
 replace h := Az (P := P) h (b := b)
 refine nZ ?_
 have h' := gV h (b := b)
 clear h
 obtain ⟨rb, h⟩ := h'
 repeat (first|(refine aj h ?_;clear h;intro kb M h)|(refine aq h ?_;clear h;intro M h)|refine St.to h ?_|(apply Exists.intro;(repeat apply Exists.intro);refine And.intro rfl ?_)|refine au ?_|refine af ?_|refine ai ?_)
 refine Ei D h ?_
 repeat (first|(refine aj h ?_;clear h;intro kb M h)|(refine aq h ?_;clear h;intro M h)|refine St.to h ?_|(apply Exists.intro;(repeat apply Exists.intro);refine And.intro rfl ?_)|refine au ?_|refine af ?_|refine ai ?_)
 refine zd h ?_
 repeat (first|(refine aj h ?_;clear h;intro kb M h)|(refine aq h ?_;clear h;intro M h)|refine St.to h ?_|(apply Exists.intro;(repeat apply Exists.intro);refine And.intro rfl ?_)|refine au ?_|refine af ?_|refine ai ?_)
 refine sR h ?_
 repeat (first|(refine aj h ?_;clear h;intro kb M h)|(refine aq h ?_;clear h;intro M h)|refine St.to h ?_|(apply Exists.intro;(repeat apply Exists.intro);refine And.intro rfl ?_)|refine au ?_|refine af ?_|refine ai ?_)
 dsimp only at *
 have hn0 : 1 ≤ x.cL g p := by unfold Loc.cL; generalize g.length / p.toNat = q; split <;> omega
 have ML : x.l.length + (x.cL g p - 1) ≤ x.room := by unfold Loc.cL; generalize g.length / p.toNat = q; split <;> omega
 have key : ∀ n : Int, n.toNat = x.cL g p → ∀ {Q : Prop}, Q → Q := fun _ _ _ q => q
 refine aM.2 ⟨fun R9 => ?_, fun R9 => ?_⟩
 ·have hn : (1 : Int).toNat = x.cL g p := by unfold Loc.cL; rw [if_pos R9]; rfl
  refine oy D h (by omega) ?_
  clear h
  intro A c M h
  rw [hn] at h ⊢
  repeat (first|(refine aj h ?_;clear h;intro kb M h)|(refine aq h ?_;clear h;intro M h)|refine St.to h ?_|(apply Exists.intro;(repeat apply Exists.intro);refine And.intro rfl ?_)|refine au ?_|refine af ?_|refine ai ?_)
  cases hg : g.take (x.cL g p) with
  | nil =>
   have QY : g = [] := by
    have := congrArg List.length hg
    rw [List.length_take, List.length_nil] at this
    exact List.length_eq_zero_iff.1 (by omega)
   have hp : x.dV g p = (x, g, -1) := by unfold Loc.dV; rw [hg]
   rw [hp] at k
   refine IE rfl ?_
   have e3 : g.drop (x.cL g p) = g := by rw [QY]; simp
   rw [e3] at h
   exact k false _ (fun _ _ => rfl) (fun h1 => absurd QY h1) ((cn h b).sub bM)
  | cons v out =>
   have hp : x.dV g p = ({ x with l := x.l ++ out }, g.drop (x.cL g p), v) := by unfold Loc.dV; rw [hg]
   rw [hp] at k
   have RK : out.length + 1 ≤ x.cL g p := by
    have := congrArg List.length hg
    rw [List.length_take, List.length_cons] at this
    omega
   refine zT (by simp; omega) ?_
   rw [hg] at h
   generalize g.drop (x.cL g p) = g2 at *
   have Uj : g ≠ [] := by rintro rfl; simp at hg
   obtain ⟨A0, Om⟩ : ∃ A0, A0 = lF A 1 c 1 := ⟨_, rfl⟩
   have hcap := h.iJ A
   rw [List.length_cons] at hcap
   simp only [Int.toNat_natCast, List.length_cons]
   repeat (first|(refine aj h ?_;clear h;intro kb M h)|(refine aq h ?_;clear h;intro M h)|refine St.to h ?_|(apply Exists.intro;(repeat apply Exists.intro);refine And.intro rfl ?_)|refine au ?_|refine af ?_|refine ai ?_)
   refine ⟨fun d ws M => ∃ i : Nat, ws = [.int .i64 (i : Int)] ∧ d = out.length - i ∧ i ≤ out.length ∧
    Hp R (bV bB 3 A c (v :: out) :: pt b [.int .i64 x.next, .pointer (some ⟨rb, 0, none⟩)] 237 :: ax ef rb ⟨x.room, x.l ++ out.take i⟩ :: fS P g2 :: mD) M,
    ⟨_, 0, rfl, rfl, by omega, by rw [List.take_zero, List.append_nil]; exact h.sub bM⟩, ?_⟩
   clear h
   rintro d _ ii M ⟨i, he, hd, hi, h⟩
   simp only [List.cons.injEq, Value.int.injEq, and_true, true_and] at he
   subst he
   refine aM.2 ⟨fun hlt => ?_, fun hge => ?_⟩
   ·obtain ⟨w, hw⟩ := aK (l := out) (i := i) (by omega)
    have s0 := Src.ME (h.src (A := A)) (by rw [List.length_cons]; exact hcap) 1
    rw [← Om] at s0 ⊢
    rw [show (v :: out).drop 1 = out from rfl] at s0
    obtain ⟨b0, o0, rfl⟩ := s0.jY h (by omega) (by decide)
    repeat (first|(refine aj h ?_;clear h;intro kb M h)|(refine aq h ?_;clear h;intro M h)|refine St.to h ?_|(apply Exists.intro;(repeat apply Exists.intro);refine And.intro rfl ?_)|refine au ?_|refine af ?_|refine ai ?_)
    simp only [Int.toNat_natCast]
    refine bq (s0.at h (i := i) (j := 0) hw rfl (by simp [bB])) ?_
    repeat (first|(refine aj h ?_;clear h;intro kb M h)|(refine aq h ?_;clear h;intro M h)|refine St.to h ?_|(apply Exists.intro;(repeat apply Exists.intro);refine And.intro rfl ?_)|refine au ?_|refine af ?_|refine ai ?_)
    refine pb (v := w) h (fun e M' h' => ?_) fun e M' h' => ?_
    ·exfalso
     simp only [List.length_append, List.length_take] at e
     omega
    ·clear h
     have h := h'
     clear h'
     repeat (first|(refine aj h ?_;clear h;intro kb M h)|(refine aq h ?_;clear h;intro M h)|refine St.to h ?_|(apply Exists.intro;(repeat apply Exists.intro);refine And.intro rfl ?_)|refine au ?_|refine af ?_|refine ai ?_)
     rw [bn (by omega)]
     refine ⟨out.length - (i + 1), by omega, i + 1, rfl, rfl, by omega, ?_⟩
     rw [dN hw, ← List.append_assoc]
     exact h.sub bM
   ·obtain rfl : i = out.length := by omega
    rw [List.take_length] at h
    have s0 := h.src (A := A)
    obtain ⟨b0, rfl⟩ := h.bz (A := A) (by simp) (by decide)
    repeat (first|(refine aj h ?_;clear h;intro kb M h)|(refine aq h ?_;clear h;intro M h)|refine St.to h ?_|(apply Exists.intro;(repeat apply Exists.intro);refine And.intro rfl ?_)|refine au ?_|refine af ?_|refine ai ?_)
    refine bq (s0.at h (i := 0) (j := 0) rfl rfl (by simp [bB])) ?_
    repeat (first|(refine aj h ?_;clear h;intro kb M h)|(refine aq h ?_;clear h;intro M h)|refine St.to h ?_|(apply Exists.intro;(repeat apply Exists.intro);refine And.intro rfl ?_)|refine au ?_|refine af ?_|refine ai ?_)
    exact k true _ (fun _ h1 => absurd h1 Uj) (fun _ => rfl) ((cn h b).sub bM)
 ·have hn : (if IntKind.wrap .i64 (IntKind.wrap .i64 ((x.room : Int) - (x.l.length : Int)) + 1) < IntKind.wrap .i64 (IntKind.wrap .i64 (Int.tdiv (g.length : Int) (if (1 : Int) > p then 1 else p)) + 1) then IntKind.wrap .i64 (IntKind.wrap .i64 ((x.room : Int) - (x.l.length : Int)) + 1) else IntKind.wrap .i64 (IntKind.wrap .i64 (Int.tdiv (g.length : Int) (if (1 : Int) > p then 1 else p)) + 1)).toNat = x.cL g p := by
   obtain ⟨q, rfl⟩ := Int.eq_ofNat_of_zero_le (show 0 ≤ p by omega)
   have e1 : (if (1 : Int) > (q : Int) then 1 else (q : Int)) = (q : Int) := by split <;> omega
   rw [e1]
   have hd : g.length / q ≤ g.length := Nat.div_le_self ..
   have e2 : IntKind.wrap .i64 (Int.tdiv (g.length : Int) (q : Int)) = ((g.length / q : Nat) : Int) := wn rfl (by omega)
   rw [e2, bn (by omega), lR (n := (x.room : Int) - (x.l.length : Int)) (by omega) (by omega), lR (n := (x.room : Int) - (x.l.length : Int) + 1) (by omega) (by omega)]
   unfold Loc.cL
   rw [if_neg R9, Int.toNat_natCast]
   generalize g.length / q = z at *
   split <;> omega
  revert hn
  generalize (if IntKind.wrap .i64 (IntKind.wrap .i64 ((x.room : Int) - (x.l.length : Int)) + 1) < IntKind.wrap .i64 (IntKind.wrap .i64 (Int.tdiv (g.length : Int) (if (1 : Int) > p then 1 else p)) + 1) then IntKind.wrap .i64 (IntKind.wrap .i64 ((x.room : Int) - (x.l.length : Int)) + 1) else IntKind.wrap .i64 (IntKind.wrap .i64 (Int.tdiv (g.length : Int) (if (1 : Int) > p then 1 else p)) + 1)) = n
  intro hn
  refine oy D h (by omega) ?_
  clear h
  intro A c M h
  rw [hn] at h ⊢
  repeat (first|(refine aj h ?_;clear h;intro kb M h)|(refine aq h ?_;clear h;intro M h)|refine St.to h ?_|(apply Exists.intro;(repeat apply Exists.intro);refine And.intro rfl ?_)|refine au ?_|refine af ?_|refine ai ?_)
  cases hg : g.take (x.cL g p) with
  | nil =>
   have QY : g = [] := by
    have := congrArg List.length hg
    rw [List.length_take, List.length_nil] at this
    exact List.length_eq_zero_iff.1 (by omega)
   have hp : x.dV g p = (x, g, -1) := by unfold Loc.dV; rw [hg]
   rw [hp] at k
   refine IE rfl ?_
   have e3 : g.drop (x.cL g p) = g := by rw [QY]; simp
   rw [e3] at h
   exact k false _ (fun _ _ => rfl) (fun h1 => absurd QY h1) ((cn h b).sub bM)
  | cons v out =>
   have hp : x.dV g p = ({ x with l := x.l ++ out }, g.drop (x.cL g p), v) := by unfold Loc.dV; rw [hg]
   rw [hp] at k
   have RK : out.length + 1 ≤ x.cL g p := by
    have := congrArg List.length hg
    rw [List.length_take, List.length_cons] at this
    omega
   refine zT (by simp; omega) ?_
   rw [hg] at h
   generalize g.drop (x.cL g p) = g2 at *
   have Uj : g ≠ [] := by rintro rfl; simp at hg
   obtain ⟨A0, Om⟩ : ∃ A0, A0 = lF A 1 c 1 := ⟨_, rfl⟩
   have hcap := h.iJ A
   rw [List.length_cons] at hcap
   simp only [Int.toNat_natCast, List.length_cons]
   repeat (first|(refine aj h ?_;clear h;intro kb M h)|(refine aq h ?_;clear h;intro M h)|refine St.to h ?_|(apply Exists.intro;(repeat apply Exists.intro);refine And.intro rfl ?_)|refine au ?_|refine af ?_|refine ai ?_)
   refine ⟨fun d ws M => ∃ i : Nat, ws = [.int .i64 (i : Int)] ∧ d = out.length - i ∧ i ≤ out.length ∧
    Hp R (bV bB 3 A c (v :: out) :: pt b [.int .i64 x.next, .pointer (some ⟨rb, 0, none⟩)] 237 :: ax ef rb ⟨x.room, x.l ++ out.take i⟩ :: fS P g2 :: mD) M,
    ⟨_, 0, rfl, rfl, by omega, by rw [List.take_zero, List.append_nil]; exact h.sub bM⟩, ?_⟩
   clear h
   rintro d _ ii M ⟨i, he, hd, hi, h⟩
   simp only [List.cons.injEq, Value.int.injEq, and_true, true_and] at he
   subst he
   refine aM.2 ⟨fun hlt => ?_, fun hge => ?_⟩
   ·obtain ⟨w, hw⟩ := aK (l := out) (i := i) (by omega)
    have s0 := Src.ME (h.src (A := A)) (by rw [List.length_cons]; exact hcap) 1
    rw [← Om] at s0 ⊢
    rw [show (v :: out).drop 1 = out from rfl] at s0
    obtain ⟨b0, o0, rfl⟩ := s0.jY h (by omega) (by decide)
    repeat (first|(refine aj h ?_;clear h;intro kb M h)|(refine aq h ?_;clear h;intro M h)|refine St.to h ?_|(apply Exists.intro;(repeat apply Exists.intro);refine And.intro rfl ?_)|refine au ?_|refine af ?_|refine ai ?_)
    simp only [Int.toNat_natCast]
    refine bq (s0.at h (i := i) (j := 0) hw rfl (by simp [bB])) ?_
    repeat (first|(refine aj h ?_;clear h;intro kb M h)|(refine aq h ?_;clear h;intro M h)|refine St.to h ?_|(apply Exists.intro;(repeat apply Exists.intro);refine And.intro rfl ?_)|refine au ?_|refine af ?_|refine ai ?_)
    refine pb (v := w) h (fun e M' h' => ?_) fun e M' h' => ?_
    ·exfalso
     simp only [List.length_append, List.length_take] at e
     omega
    ·clear h
     have h := h'
     clear h'
     repeat (first|(refine aj h ?_;clear h;intro kb M h)|(refine aq h ?_;clear h;intro M h)|refine St.to h ?_|(apply Exists.intro;(repeat apply Exists.intro);refine And.intro rfl ?_)|refine au ?_|refine af ?_|refine ai ?_)
     rw [bn (by omega)]
     refine ⟨out.length - (i + 1), by omega, i + 1, rfl, rfl, by omega, ?_⟩
     rw [dN hw, ← List.append_assoc]
     exact h.sub bM
   ·obtain rfl : i = out.length := by omega
    rw [List.take_length] at h
    have s0 := h.src (A := A)
    obtain ⟨b0, rfl⟩ := h.bz (A := A) (by simp) (by decide)
    repeat (first|(refine aj h ?_;clear h;intro kb M h)|(refine aq h ?_;clear h;intro M h)|refine St.to h ?_|(apply Exists.intro;(repeat apply Exists.intro);refine And.intro rfl ?_)|refine au ?_|refine af ?_|refine ai ?_)
    refine bq (s0.at h (i := 0) (j := 0) rfl rfl (by simp [bB])) ?_
    repeat (first|(refine aj h ?_;clear h;intro kb M h)|(refine aq h ?_;clear h;intro M h)|refine St.to h ?_|(apply Exists.intro;(repeat apply Exists.intro);refine And.intro rfl ?_)|refine au ?_|refine af ?_|refine ai ?_)
    exact k true _ (fun _ h1 => absurd h1 Uj) (fun _ => rfl) ((cn h b).sub bM)
theorem Cv (h : Hp R L M) [o : bZ bC b L x L'] [of : bZ bC b' L' f mD]
  (k : ∀ t M', ((x.cZ f).2.2 = -1 → f.l = [] → t = false) → ((x.cZ f).2.2 ≠ -1 ∨ f.l ≠ [] → t = true) → Hp R (ax bC b (x.cZ f).1 :: ax bC b' (x.cZ f).2.1 :: mD) M' → K (.tuple #[.int .i64 (x.cZ f).2.2, .bool t]) M') :
  aa Tryz.prog 151 #[.pointer (some ⟨b, 0, none⟩), .pointer (some ⟨b', 0, none⟩)] M K Kp := by
 have bd := ug h (b := b)
 obtain ⟨bd1, bd2, bd3⟩ := bd
 have h0 : Hp R (ax bC b x :: ax bC b' f :: mD) M := (h.pick o.pick).map fun _ hs => hs.tail (fun _ => bO.pick of.pick)
 clear h
 have h := h0
 clear h0
 have bdf := ug h (b := b')
 obtain ⟨bf1, bf2, bf3⟩ := bdf
 refine iA ?_
 have h' := gV h (b := b)
 clear h
 obtain ⟨rb, h⟩ := h'
 have h' := gV h (b := b')
 clear h
 obtain ⟨rf, h⟩ := h'
 have hne : b' ≠ b := QW h
 refine QX (Ne.symm hne) (Ct h (b := b)) (Ct h (b := b')) ?_
 repeat (first|(refine aj h ?_;clear h;intro kb M h)|(refine aq h ?_;clear h;intro M h)|refine St.to h ?_|(apply Exists.intro;(repeat apply Exists.intro);refine And.intro rfl ?_)|refine au ?_|refine af ?_|refine ai ?_)
 refine sR h ?_
 repeat (first|(refine aj h ?_;clear h;intro kb M h)|(refine aq h ?_;clear h;intro M h)|refine St.to h ?_|(apply Exists.intro;(repeat apply Exists.intro);refine And.intro rfl ?_)|refine au ?_|refine af ?_|refine ai ?_)
 dsimp only at *
 refine bU.2 ⟨fun e => ?_, fun e => ?_⟩
 ·have hl : f.l = [] := List.length_eq_zero_iff.1 (by omega)
  have hp : x.cZ f = (x, { f with next := -1 }, f.next) := by unfold Loc.cZ; rw [hl, List.take_nil]
  rw [hp] at k
  repeat (first|(refine aj h ?_;clear h;intro kb M h)|(refine aq h ?_;clear h;intro M h)|refine St.to h ?_|(apply Exists.intro;(repeat apply Exists.intro);refine And.intro rfl ?_)|refine au ?_|refine af ?_|refine ai ?_)
  have h2 := cn (cn h b) b'
  exact k _ _ (fun h1 _ => by dsimp only at h1; rw [h1]; rfl) (fun h1 => by rcases h1 with h1 | h1; exact bne_iff_ne.2 h1; exact absurd hl h1) (h2.sub bM)
 ·have hn0 : 1 ≤ x.gd f := by unfold Loc.gd; omega
  have ML : x.l.length + (x.gd f - 1) ≤ x.room := by unfold Loc.gd; omega
  repeat (first|(refine aj h ?_;clear h;intro kb M h)|(refine aq h ?_;clear h;intro M h)|refine St.to h ?_|(apply Exists.intro;(repeat apply Exists.intro);refine And.intro rfl ?_)|refine au ?_|refine af ?_|refine ai ?_)
  refine zd h ?_
  repeat (first|(refine aj h ?_;clear h;intro kb M h)|(refine aq h ?_;clear h;intro M h)|refine St.to h ?_|(apply Exists.intro;(repeat apply Exists.intro);refine And.intro rfl ?_)|refine au ?_|refine af ?_|refine ai ?_)
  refine sR h ?_
  repeat (first|(refine aj h ?_;clear h;intro kb M h)|(refine aq h ?_;clear h;intro M h)|refine St.to h ?_|(apply Exists.intro;(repeat apply Exists.intro);refine And.intro rfl ?_)|refine au ?_|refine af ?_|refine ai ?_)
  dsimp only at *
  have hn : (if IntKind.wrap .i64 (IntKind.wrap .i64 ((x.room : Int) - (x.l.length : Int)) + 1) < IntKind.wrap .i64 ((f.l.length : Int) - IntKind.wrap .i64 (Int.tdiv (f.l.length : Int) 2)) then IntKind.wrap .i64 (IntKind.wrap .i64 ((x.room : Int) - (x.l.length : Int)) + 1) else IntKind.wrap .i64 ((f.l.length : Int) - IntKind.wrap .i64 (Int.tdiv (f.l.length : Int) 2))).toNat = x.gd f := by
   have e2 : IntKind.wrap .i64 (Int.tdiv (f.l.length : Int) 2) = ((f.l.length / 2 : Nat) : Int) := wn rfl (by omega)
   rw [e2, lR (n := (x.room : Int) - (x.l.length : Int)) (by omega) (by omega), lR (n := (x.room : Int) - (x.l.length : Int) + 1) (by omega) (by omega), lR (n := (f.l.length : Int) - ((f.l.length / 2 : Nat) : Int)) (by omega) (by omega)]
   unfold Loc.gd
   split <;> omega
  revert hn
  generalize (if IntKind.wrap .i64 (IntKind.wrap .i64 ((x.room : Int) - (x.l.length : Int)) + 1) < IntKind.wrap .i64 ((f.l.length : Int) - IntKind.wrap .i64 (Int.tdiv (f.l.length : Int) 2)) then IntKind.wrap .i64 (IntKind.wrap .i64 ((x.room : Int) - (x.l.length : Int)) + 1) else IntKind.wrap .i64 ((f.l.length : Int) - IntKind.wrap .i64 (Int.tdiv (f.l.length : Int) 2))) = n
  intro hn
  refine ze h ?_
  clear h
  intro A c M h
  rw [hn] at h ⊢
  repeat (first|(refine aj h ?_;clear h;intro kb M h)|(refine aq h ?_;clear h;intro M h)|refine St.to h ?_|(apply Exists.intro;(repeat apply Exists.intro);refine And.intro rfl ?_)|refine au ?_|refine af ?_|refine ai ?_)
  cases hg : f.l.take (x.gd f) with
  | nil =>
   exfalso
   have := congrArg List.length hg
   rw [List.length_take, List.length_nil] at this
   omega
  | cons v out =>
   have hp : x.cZ f = ({ x with l := x.l ++ out }, { f with l := f.l.drop (x.gd f) }, v) := by unfold Loc.cZ; rw [hg]
   rw [hp] at k
   have RK : out.length + 1 ≤ x.gd f := by
    have := congrArg List.length hg
    rw [List.length_take, List.length_cons] at this
    omega
   dsimp only at h
   rw [hg] at h
   generalize f.l.drop (x.gd f) = f2 at *
   have Uj : f.l ≠ [] := by intro e0; rw [e0] at hg; simp at hg
   obtain ⟨A0, Om⟩ : ∃ A0, A0 = lF A 1 c 1 := ⟨_, rfl⟩
   have hcap := h.iJ A
   rw [List.length_cons] at hcap
   simp only [Int.toNat_natCast, List.length_cons]
   repeat (first|(refine aj h ?_;clear h;intro kb M h)|(refine aq h ?_;clear h;intro M h)|refine St.to h ?_|(apply Exists.intro;(repeat apply Exists.intro);refine And.intro rfl ?_)|refine au ?_|refine af ?_|refine ai ?_)
   refine ⟨fun d ws M => ∃ i : Nat, ws = [.int .i64 (i : Int)] ∧ d = out.length - i ∧ i ≤ out.length ∧
    Hp R (bV bB 3 A c (v :: out) :: pt b [.int .i64 x.next, .pointer (some ⟨rb, 0, none⟩)] 237 :: ax ef rb ⟨x.room, x.l ++ out.take i⟩ :: ax ef rf ⟨f.room, f2⟩ :: pt b' [.int .i64 f.next, .pointer (some ⟨rf, 0, none⟩)] 237 :: mD) M,
    ⟨_, 0, rfl, rfl, by omega, by rw [List.take_zero, List.append_nil]; exact h.sub bM⟩, ?_⟩
   clear h
   rintro d _ ii M ⟨i, he, hd, hi, h⟩
   simp only [List.cons.injEq, Value.int.injEq, and_true, true_and] at he
   subst he
   refine aM.2 ⟨fun hlt => ?_, fun hge => ?_⟩
   ·obtain ⟨w, hw⟩ := aK (l := out) (i := i) (by omega)
    have s0 := Src.ME (h.src (A := A)) (by rw [List.length_cons]; exact hcap) 1
    rw [← Om] at s0 ⊢
    rw [show (v :: out).drop 1 = out from rfl] at s0
    obtain ⟨b0, o0, rfl⟩ := s0.jY h (by omega) (by decide)
    repeat (first|(refine aj h ?_;clear h;intro kb M h)|(refine aq h ?_;clear h;intro M h)|refine St.to h ?_|(apply Exists.intro;(repeat apply Exists.intro);refine And.intro rfl ?_)|refine au ?_|refine af ?_|refine ai ?_)
    simp only [Int.toNat_natCast]
    refine bq (s0.at h (i := i) (j := 0) hw rfl (by simp [bB])) ?_
    repeat (first|(refine aj h ?_;clear h;intro kb M h)|(refine aq h ?_;clear h;intro M h)|refine St.to h ?_|(apply Exists.intro;(repeat apply Exists.intro);refine And.intro rfl ?_)|refine au ?_|refine af ?_|refine ai ?_)
    refine pb (v := w) h (fun e M' h' => ?_) fun e M' h' => ?_
    ·exfalso
     simp only [List.length_append, List.length_take] at e
     omega
    ·clear h
     have h := h'
     clear h'
     repeat (first|(refine aj h ?_;clear h;intro kb M h)|(refine aq h ?_;clear h;intro M h)|refine St.to h ?_|(apply Exists.intro;(repeat apply Exists.intro);refine And.intro rfl ?_)|refine au ?_|refine af ?_|refine ai ?_)
     rw [bn (by omega)]
     refine ⟨out.length - (i + 1), by omega, i + 1, rfl, rfl, by omega, ?_⟩
     rw [dN hw, ← List.append_assoc]
     exact h.sub bM
   ·obtain rfl : i = out.length := by omega
    rw [List.take_length] at h
    have s0 := h.src (A := A)
    obtain ⟨b0, rfl⟩ := h.bz (A := A) (by simp) (by decide)
    repeat (first|(refine aj h ?_;clear h;intro kb M h)|(refine aq h ?_;clear h;intro M h)|refine St.to h ?_|(apply Exists.intro;(repeat apply Exists.intro);refine And.intro rfl ?_)|refine au ?_|refine af ?_|refine ai ?_)
    refine bq (s0.at h (i := 0) (j := 0) rfl rfl (by simp [bB])) ?_
    repeat (first|(refine aj h ?_;clear h;intro kb M h)|(refine aq h ?_;clear h;intro M h)|refine St.to h ?_|(apply Exists.intro;(repeat apply Exists.intro);refine And.intro rfl ?_)|refine au ?_|refine af ?_|refine ai ?_)
    have h2 := cn (cn h b) b'
    exact k true _ (fun _ h1 => absurd h1 Uj) (fun _ => rfl) (h2.sub bM)
end
end Go.Proofs
namespace Go.Proofs
def Loc.all (x : Loc) : List Int := (if x.next = -1 then [] else [x.next]) ++ x.l
def iq (v : Int) : List Int := if 0 ≤ v then [v] else []
theorem MM {xs : List Loc} {i : Nat} {x y : Loc} (a : Int) (h : xs[i]? = some x) : ((xs.set i y).flatMap Loc.all).count a + x.all.count a = (xs.flatMap Loc.all).count a + y.all.count a := by
 induction xs generalizing i with
 | nil => simp at h
 | cons z xs ih =>
  cases i with
  | zero => simp only [List.getElem?_cons_zero, Option.some.injEq] at h; subst h; simp only [List.set_cons_zero, List.flatMap_cons, List.count_append]; omega
  | succ i => have := ih (i := i) (by simpa using h); simp only [List.set_cons_succ, List.flatMap_cons, List.count_append]; omega
theorem Ek (a : Int) (l : List Int) (n : Nat) : (l.take n).count a + (l.drop n).count a = l.count a := by rw [← List.count_append, List.take_append_drop]
theorem Fk (x : Loc) (v : Int) (g : List Int) (a : Int) : (x.put v g).1.all.count a + (x.put v g).2.1.count a = x.all.count a + g.count a + [v].count a := by
 unfold Loc.put Loc.all
 have := Ek a x.l (x.l.length / 2)
 split <;> simp only [List.count_append] <;> omega
theorem J0 (x : Loc) (v : Int) (hv : v ≠ -1) (a : Int) : (({ x with next := v } : Loc).all).count a + (if x.next = -1 then ([] : List Int) else [x.next]).count a = x.all.count a + [v].count a := by
 unfold Loc.all
 simp only [List.count_append, if_neg hv]; omega
theorem AA (x : Loc) (a : Int) : (({ x with next := -1 } : Loc).all).count a + (if x.next = -1 then ([] : List Int) else [x.next]).count a = x.all.count a := by
 unfold Loc.all
 simp only [List.count_append, if_true, List.count_nil]; omega
theorem GX (x : Loc) (v : Int) (hv : v ≠ -1) (g : List Int) (a : Int) : (x.ready v g).1.all.count a + (x.ready v g).2.1.count a = x.all.count a + g.count a + [v].count a := by
 have h1 := J0 x v hv a
 unfold Loc.ready
 split
 ·rename_i h; rw [if_pos h] at h1; simp only [List.count_nil] at h1; dsimp only; omega
 ·rename_i h; rw [if_neg h] at h1; rw [Fk]; omega
theorem J1 (x : Loc) (g : List Int) (a : Int) : (x.eL g).1.all.count a + (x.eL g).2.1.count a = x.all.count a + g.count a := by
 have h1 := AA x a
 unfold Loc.eL
 split
 ·rfl
 ·rename_i h; rw [if_neg h] at h1; rw [Fk]; omega
def Loc.Pos (x : Loc) : Prop := -1 ≤ x.next ∧ ∀ v ∈ x.l, 0 ≤ v
theorem gX {v : Int} (h : 0 ≤ v) : iq v = [v] := if_pos h
theorem Fl (x : Loc) (hx : x.Pos) (a : Int) : x.get.1.all.count a + (iq x.get.2).count a = x.all.count a := by
 obtain ⟨h1, h2⟩ := hx
 have h3 := AA x a
 unfold Loc.get
 split
 ·rename_i h; rw [if_neg h] at h3; rw [gX (show 0 ≤ x.next by omega)]; omega
 ·rename_i h
  split
  ·rfl
  ·rename_i v l e
   rw [gX (h2 v (by rw [e]; simp))]
   unfold Loc.all
   rw [e]
   simp only [List.count_append, List.count_cons, List.count_nil]; omega
theorem GY (x : Loc) (g : List Int) (hg : ∀ v ∈ g, 0 ≤ v) (p : Int) (a : Int) : (x.dV g p).1.all.count a + (x.dV g p).2.1.count a + (iq (x.dV g p).2.2).count a = x.all.count a + g.count a := by
 have h1 := Ek a g (x.cL g p)
 unfold Loc.dV
 split
 ·rfl
 ·rename_i v out e
  rw [e] at h1
  rw [gX (hg v (List.mem_of_mem_take (by rw [e]; simp)))]
  unfold Loc.all
  simp only [List.count_append, List.count_cons, List.count_nil] at h1 ⊢; omega
theorem GZ (x f : Loc) (hf : f.Pos) (hx : x.l.length ≤ x.room) (a : Int) : (x.cZ f).1.all.count a + (x.cZ f).2.1.all.count a + (iq (x.cZ f).2.2).count a = x.all.count a + f.all.count a := by
 obtain ⟨h1, h2⟩ := hf
 have h3 := Ek a f.l (x.gd f)
 have h4 := AA f a
 unfold Loc.cZ
 split
 ·rename_i e
  by_cases hn : f.next = -1
  ·have : iq f.next = [] := by unfold iq; rw [if_neg (by omega)]
   dsimp only
   rw [this]; rw [if_pos hn] at h4; simp only [List.count_nil] at h4 ⊢; omega
  ·dsimp only; rw [gX (by omega)]; rw [if_neg hn] at h4; omega
 ·rename_i v out e
  rw [e] at h3
  rw [gX (h2 v (List.mem_of_mem_take (by rw [e]; simp)))]
  unfold Loc.all
  simp only [List.count_append, List.count_cons, List.count_nil] at h3 ⊢; omega
theorem Fm {x : Loc} (hx : x.Pos) : (x.next = -1 ∧ x.l = [] ∧ x.get.2 = -1) ∨ ((x.next ≠ -1 ∨ x.l ≠ []) ∧ 0 ≤ x.get.2) := by
 obtain ⟨h1, h2⟩ := hx
 unfold Loc.get
 split
 ·rename_i h; exact .inr ⟨.inl h, by dsimp only; omega⟩
 ·rename_i h
  split
  ·rename_i e; exact .inl ⟨by omega, e, rfl⟩
  ·rename_i v l e; exact .inr ⟨.inr (by rw [e]; simp), h2 v (by rw [e]; simp)⟩
theorem Em (x : Loc) (g : List Int) (p : Int) : 1 ≤ x.cL g p := by unfold Loc.cL; generalize g.length / p.toNat = q; split <;> omega
theorem zi {x : Loc} {g : List Int} (hg : ∀ v ∈ g, 0 ≤ v) (p : Int) : (g = [] ∧ (x.dV g p).2.2 = -1) ∨ (g ≠ [] ∧ 0 ≤ (x.dV g p).2.2) := by
 have hn := Em x g p
 unfold Loc.dV
 split
 ·rename_i e
  have := congrArg List.length e
  rw [List.length_take, List.length_nil] at this
  exact .inl ⟨List.length_eq_zero_iff.1 (by omega), rfl⟩
 ·rename_i v out e
  exact .inr ⟨by rintro rfl; simp at e, hg v (List.mem_of_mem_take (by rw [e]; simp))⟩
theorem G0 {x f : Loc} (hf : f.Pos) (hx : x.l.length ≤ x.room) : (f.l = [] ∧ (x.cZ f).2.2 = f.next) ∨ (f.l ≠ [] ∧ 0 ≤ (x.cZ f).2.2) := by
 obtain ⟨h1, h2⟩ := hf
 unfold Loc.cZ
 split
 ·rename_i e
  have := congrArg List.length e
  rw [List.length_take, List.length_nil] at this
  unfold Loc.gd at this
  exact .inl ⟨List.length_eq_zero_iff.1 (by omega), rfl⟩
 ·rename_i v out e
  exact .inr ⟨by intro h; rw [h] at e; simp at e, h2 v (List.mem_of_mem_take (by rw [e]; simp))⟩
theorem J2 {x : Loc} (h : x.l.length ≤ x.room ∧ x.room ≤ 1024 ∧ 0 < x.room) (v : Int) (g : List Int) : (x.put v g).1.l.length ≤ (x.put v g).1.room ∧ (x.put v g).1.room ≤ 1024 ∧ 0 < (x.put v g).1.room := by
 unfold Loc.put; split
 ·dsimp only; simp only [List.length_append, List.length_singleton]; omega
 ·dsimp only; simp only [List.length_drop]; omega
theorem J3 {x : Loc} (h : x.l.length ≤ x.room ∧ x.room ≤ 1024 ∧ 0 < x.room) (v : Int) (g : List Int) : (x.ready v g).1.l.length ≤ (x.ready v g).1.room ∧ (x.ready v g).1.room ≤ 1024 ∧ 0 < (x.ready v g).1.room := by
 unfold Loc.ready; split
 ·exact h
 ·exact J2 (x := { x with next := v }) h _ _
theorem MN {x : Loc} (h : x.l.length ≤ x.room ∧ x.room ≤ 1024 ∧ 0 < x.room) (g : List Int) : (x.eL g).1.l.length ≤ (x.eL g).1.room ∧ (x.eL g).1.room ≤ 1024 ∧ 0 < (x.eL g).1.room := by
 unfold Loc.eL; split
 ·exact h
 ·exact J2 (x := { x with next := -1 }) h _ _
theorem J4 {x : Loc} (h : x.l.length ≤ x.room ∧ x.room ≤ 1024 ∧ 0 < x.room) : x.get.1.l.length ≤ x.get.1.room ∧ x.get.1.room ≤ 1024 ∧ 0 < x.get.1.room := by
 unfold Loc.get; split
 ·exact h
 ·split
  ·exact h
  ·rename_i e; dsimp only; rw [e, List.length_cons] at h; omega
theorem J5 {x : Loc} (h : x.l.length ≤ x.room ∧ x.room ≤ 1024 ∧ 0 < x.room) (g : List Int) (p : Int) : (x.dV g p).1.l.length ≤ (x.dV g p).1.room ∧ (x.dV g p).1.room ≤ 1024 ∧ 0 < (x.dV g p).1.room := by
 have ML : x.l.length + (x.cL g p - 1) ≤ x.room := by unfold Loc.cL; generalize g.length / p.toNat = q; split <;> omega
 unfold Loc.dV; split
 ·exact h
 ·rename_i v out e
  have := congrArg List.length e
  rw [List.length_take, List.length_cons] at this
  dsimp only; simp only [List.length_append]; omega
theorem J6 {x f : Loc} (h : x.l.length ≤ x.room ∧ x.room ≤ 1024 ∧ 0 < x.room) (hf : f.l.length ≤ f.room ∧ f.room ≤ 1024 ∧ 0 < f.room) :
  ((x.cZ f).1.l.length ≤ (x.cZ f).1.room ∧ (x.cZ f).1.room ≤ 1024 ∧ 0 < (x.cZ f).1.room) ∧ ((x.cZ f).2.1.l.length ≤ (x.cZ f).2.1.room ∧ (x.cZ f).2.1.room ≤ 1024 ∧ 0 < (x.cZ f).2.1.room) := by
 have ML : x.l.length + (x.gd f - 1) ≤ x.room := by unfold Loc.gd; omega
 unfold Loc.cZ; split
 ·exact ⟨h, hf⟩
 ·rename_i v out e
  have := congrArg List.length e
  rw [List.length_take, List.length_cons] at this
  dsimp only; simp only [List.length_append, List.length_drop]; omega
end Go.Proofs
