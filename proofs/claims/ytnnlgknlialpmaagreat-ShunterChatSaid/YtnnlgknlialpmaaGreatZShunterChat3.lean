/- A part of proofs about one program. -/
import Derived.Test.YtnnlgknlialpmaaGreatZShunterChatAgg
import Derived.Test.YtnnlgknlialpmaaGreatZShunterChat1
set_option linter.unusedVariables false
namespace Go.AF
theorem Cl {α : Type} {f : Nat → α} {q m : Nat} {v : α} : ((List.range m).map f).set q v = (List.range m).map (fun j => if j = q then v else f j) := by
 apply List.ext_getElem
 ·simp
 ·intro j h1 h2
  simp only [List.getElem_set, List.getElem_map, List.getElem_range]
  by_cases hj : q = j
  ·rw [if_pos hj, if_pos hj.symm]
  ·rw [if_neg hj, if_neg (Ne.symm hj)]
theorem vV {α : Type} {f : Nat → α} {q m : Nat} (h : q < m) : ((List.range m).map f)[q]? = some (f q) := by simp [h]
theorem MH {α : Type} {a : α} {m : Nat} : List.replicate m a = (List.range m).map (fun _ => a) := by
 induction m with
 | zero => rfl
 | succ m ih => rw [List.replicate_succ', ih, List.range_succ, List.map_append]; rfl
theorem tG {α : Type} {f g : Nat → α} {m : Nat} (h : ∀ j, j < m → f j = g j) : (List.range m).map f = (List.range m).map g := List.map_congr_left fun j hj => h j (List.mem_range.1 hj)
theorem wn {z : Int} {n : Nat} (e : z = (n : Int)) (h : n < 9223372036854775808) : IntKind.wrap .i64 z = (n : Int) := by rw [e]; exact lI h
theorem Src.row {α : Type} {E : gW α} {R : Mem} {L L' : List HP} {A : Option Addr} {T c : Nat} {l : List α} [hp : ct A L α E T c l L'] : Src R L A (E.cells l) := fun M h => h.src (A := A) M h
theorem Src.pre1 {R : Mem} {L : List HP} {A : Option Addr} {c : Nat} {l : List Int} (hs : Src R L A (bI.cells l)) (hc : l.length ≤ c) (q : Nat) : Src R L (lC A 0 c 1) (bI.cells (l.take q)) := by
 have := (hs.drop (m := 0) (c := c) hc).Rf q
 rw [List.drop_zero] at this
 exact this
theorem Src.PL {R : Mem} {L : List HP} {A : Option Addr} {c : Nat} {l : List Int} (hs : Src R L A (bI.cells l)) (hc : l.length ≤ c) (q : Nat) : Src R L (lC A q c 1) (bI.cells (l.drop q)) := hs.drop hc
end Go.AF
namespace Go.AF
abbrev AL := List (Int × Value)
def c8 : Nat → AL → List MapEntry
 | _, [] => []
 | i, (k, v) :: l => ⟨.int .i64 k, v, i⟩ :: c8 (i + 1) l
def kz (l : AL) : Obj := .map (c8 0 l).toArray l.length
def tH (k : Int) : AL → Nat → Option (Nat × Value)
 | [], _ => none
 | (k', v) :: l, i => if k = k' then some (i, v) else tH k l (i + 1)
def zT (l : AL) (k : Int) : Option Value := (tH k l 0).map (·.2)
def PM (l : AL) (k : Int) (v : Value) : AL := match tH k l 0 with
 | some (i, _) => l.set i (k, v)
 | none => l ++ [(k, v)]
theorem tI {kd : IntKind} (k : Int) : ∀ (l : AL) (i b : Nat), Instr.findNow (.int kd) (.int .i64 k) (c8 b l) i = some (tH k l i)
 | [], _, _ => rfl
 | (k', v) :: l, i, b => by
  simp only [c8, Instr.findNow, Instr.sameNow, if_true, tH]
  by_cases h : k = k'
  ·simp [h]
  ·have : (k == k') = false := by simp [h]
   rw [this, if_neg h]
   exact tI k l (i + 1) (b + 1)
theorem HD {k : Int} : ∀ {l : AL} {i j : Nat} {v : Value}, tH k l i = some (j, v) → i ≤ j ∧ l[j - i]? = some (k, v)
 | [], _, _, _, h => by simp [tH] at h
 | (k', v') :: l, i, j, v, h => by
  simp only [tH] at h
  split at h
  ·rename_i e; cases h; subst e; exact ⟨Nat.le_refl _, by simp⟩
  ·obtain ⟨h1, h2⟩ := HD h
   refine ⟨by omega, ?_⟩
   rw [show j - i = (j - (i + 1)) + 1 from by omega, List.getElem?_cons_succ]; exact h2
theorem HE : ∀ {l : AL} {i b : Nat} {k : Int} {v : Value}, l[i]? = some (k, v) → (c8 b l)[i]? = some ⟨.int .i64 k, v, b + i⟩
 | [], _, _, _, _, h => by simp at h
 | (k', v') :: l, 0, b, k, v, h => by simp at h; obtain ⟨rfl, rfl⟩ := h; rfl
 | (k', v') :: l, i + 1, b, k, v, h => by
  have := HE (b := b + 1) (show l[i]? = some (k, v) from by simpa using h)
  simp only [c8, List.getElem?_cons_succ, this]
  congr 2; omega
theorem D0 : ∀ {l : AL} {i b : Nat} {k : Int} {v w : Value}, l[i]? = some (k, w) → (c8 b l).modify i (fun e => { e with key := .int .i64 k, val := v }) = c8 b (l.set i (k, v))
 | [], _, _, _, _, _, h => by simp at h
 | (k', v') :: l, 0, b, k, v, w, h => by simp at h; obtain ⟨rfl, rfl⟩ := h; rfl
 | (k', v') :: l, i + 1, b, k, v, w, h => by
  have := D0 (b := b + 1) (v := v) (show l[i]? = some (k, w) from by simpa using h)
  simp only [c8, List.modify_succ_cons, List.set_cons_succ, this]
theorem D1 : ∀ (l m : AL) (b : Nat), c8 b (l ++ m) = c8 b l ++ c8 (b + l.length) m
 | [], m, b => by simp [c8]
 | (k, v) :: l, m, b => by simp only [List.cons_append, c8, D1 l m (b + 1), List.length_cons]; congr 3; omega
def yl : AL → Int → Option Value
 | [], _ => none
 | (k', v) :: l, k => if k = k' then some v else yl l k
theorem D2 (k : Int) : ∀ (l : AL) (i : Nat), (tH k l i).map (·.2) = yl l k
 | [], _ => rfl
 | (k', v) :: l, i => by
  simp only [tH, yl]
  split
  ·rfl
  ·exact D2 k l (i + 1)
theorem PN (l : AL) (k : Int) : zT l k = yl l k := D2 k l 0
theorem AN {k : Int} : ∀ {l : AL}, yl l k = none ↔ k ∉ l.map (·.1)
 | [] => by simp [yl]
 | (q, w) :: l => by
  have ih := AN (k := k) (l := l)
  simp only [yl, List.map_cons, List.mem_cons, not_or]
  by_cases h : k = q
  ·rw [if_pos h]; simp [h]
  ·rw [if_neg h]; simp [h, ih]
section
variable {R : Mem} {L L' : List HP} {M : Mem} {P : Program} {t kt et : TypeId} {r : Nat} {l : AL} {k : Int} {kd : IntKind}
class ym (b : Nat) (L : List HP) (o : outParam Obj) (L' : outParam (List HP)) : Prop where
 pick : cG L (ob b o) L'
instance ym.here {b : Nat} {o : Obj} {L : List HP} : ym b (ob b o :: L) o L := ⟨.here⟩
instance (priority := low) ym.there {b : Nat} {o : Obj} {Q : HP} {L L' : List HP} [h : ym b L o L'] : ym b (Q :: L) o (Q :: L') := ⟨.there h.pick⟩
theorem gV {P : Program} {M : Mem} {b : Bool} (hk : P.underlying kt = some (.int kd)) : bF P (Instr.checkKey b 10000 kt (.int .i64 k)) M = some () := by
 unfold Instr.checkKey
 rw [aK, aE hk]; rfl
theorem r9 {P : Program} {M : Mem} (hk : P.underlying kt = some (.int kd)) : bF P (Instr.findKey kt (.int .i64 k) (c8 0 l)) M = some (tH k l 0) := by
 unfold Instr.findKey
 rw [aK, aE hk, Option.bind_some, tI]; rfl
theorem sg {P : Program} {α : Type} {M : Mem} {r : Nat} {l : AL} {f : Obj → Sem α} {K : α → Mem → Prop} {Kp : Value → Mem → Prop} (hb : M r = some (kz l)) (h : da P (f (kz l)) M K Kp) : da P (getObj r >>= f) M K Kp := by
 refine cJ P _ _ ?_
 unfold getObj
 simp only [da, hb, kz]
 exact h
theorem MI {z : Value} {i : TypeInfo} {K : Value → Mem → Prop} {Kp : List PanicEntry → Mem → Prop} (h : Hp R L M) [p : ym r L (kz l) L'] (hu : P.underlying t = some (.map kt et)) (hk : P.underlying kt = some (.int kd)) (hi : P.info? et = some i) (hz : i.zero = some z)
  (g : K ((zT l k).getD z) M) : aN P (Instr.lookup t (.map (some r)) (.int .i64 k) false) M K Kp := by
 have hb : M r = some (kz l) := (h.pick p.pick).Ax
 unfold aN Instr.lookup
 refine aL (aE hu M) ?_
 simp only
 refine cJ P _ _ ?_
 refine sg hb ?_
 simp only [kz]
 refine aL (x := ()) (gV hk) ?_
 refine aL (r9 hk) ?_
 unfold zT at g
 cases ha : tH k l 0 with
 | none =>
  rw [ha] at g
  simp only
  have Xr : bF P (zeroValue et) M = some z := by rw [iX]; simp [zeroOf, hi, hz]
  refine aL Xr ?_
  refine aL (x := (z, false)) rfl ?_
  exact g
 | some x =>
  rw [ha] at g
  exact g
theorem vW {v : Value} {K : Mem → Prop} {Kp : List PanicEntry → Mem → Prop} (h : Hp R L M) [p : ym r L (kz l) L'] (hu : P.underlying t = some (.map kt et)) (hk : P.underlying kt = some (.int kd))
  (g : ∀ M', Hp R (ob r (kz (PM l k v)) :: L') M' → K M') : bl P (Instr.mapUpdate t (.map (some r)) (.int .i64 k) v) M K Kp := by
 have h1 := h.pick p.pick
 have hb : M r = some (kz l) := h1.Ax
 have fin : ∀ o, o = kz (PM l k v) → K (M.set r o) := fun o e => by
  subst e
  exact g _ (h1.set (x := kz l) (fun A ha => by unfold ob at ha; exact ha) fun A ha => by unfold ob; exact di)
 unfold bl Instr.mapUpdate
 refine aL (aE hu M) ?_
 simp only
 refine sg hb ?_
 simp only [kz]
 refine aL (x := ()) (gV hk) ?_
 refine aL (r9 hk) ?_
 have yn : ∀ o : Obj, K (M.set r o) → da P (setObj r o) M (fun _ => K) (fun v M' => Kp [{ v, recovered := false }] M') := fun o hK => by
  unfold setObj
  simp only [da, hb, kz]
  exact hK
 cases ha : tH k l 0 with
 | none =>
  simp only
  refine yn _ (fin _ ?_)
  unfold PM kz
  rw [ha]
  simp only [List.push_toArray, List.length_append, List.length_singleton]
  rw [D1]; simp [c8]
 | some x =>
  obtain ⟨i, w⟩ := x
  obtain ⟨_, hw⟩ := HD ha
  rw [Nat.sub_zero] at hw
  simp only
  have he := HE (b := 0) hw
  refine aL (x := Value.int .i64 k) ?_ ?_
  ·have : (((c8 0 l).toArray[i]?).map (·.key)).getD (.int .i64 k) = .int .i64 k := by simp [he]
   rw [this]
   unfold Instr.keyThatStays
   simp [Instr.sameBits]; rfl
  ·refine yn _ (fin _ ?_)
   unfold PM kz
   rw [ha]
   simp only [List.length_set]
   rw [← D0 (v := v) hw]
   simp [List.modify_toArray]
end
end Go.AF
namespace Go.AF
theorem Cm {P : Program} {t t' e ty : TypeId} {i : TypeInfo} {zv : Value} {A B : Option Addr} {n c m d : Nat} {l r : List Value} {M : Mem} {K : Value → Mem → Prop} {Kp : List PanicEntry → Mem → Prop}
  (hu : P.underlying t = some (.slice e)) (QZ : P.underlying t' = some (.slice e)) (hi : P.info? e = some i) (hz : i.zero = some zv) (hs : zv.cells.size = i.size)
  (Vk : Sl M A l) (hl : l.length = n * i.size) (hr : Sl M B r) (jx : r.length = m * i.size) (hc : c < n + m) (hb : (n + m) * i.bytes ≤ 140737488355328) (hby : 0 < i.bytes)
  (h : ∀ k c' M', M k = none → sD M' i.size e (some ⟨k, 0, none⟩) (n + m) c' (l ++ r) → mF [] M M' → K (.slice (some ⟨k, 0, none⟩) (n + m) c') M') :
  aN P (Builtin.append_ #[t, t'] ty #[.slice A n c, .slice B m d]) M K Kp := by
 unfold aN Builtin.append_
 simp only [List.getElem?_toArray, List.getElem?_cons_zero, List.getElem?_cons_succ]
 refine aL (aE hu M) ?_
 simp only
 refine aL (eU hi M) ?_
 refine aL (aE QZ M) ?_
 refine aL (x := false) rfl ?_
 refine aL (x := m) rfl ?_
 simp only [Bool.not_false, if_true]
 rw [if_neg (by omega)]
 refine aL (cq hi M) ?_
 rw [if_neg (by simp; omega)]
 refine aL (cq hi M) ?_
 rw [if_neg (by have := growslice_fits (need := n + m) (old := c) (bytes := i.bytes) (by omega) hb; omega)]
 show ∀ q, _
 intro q
 have hcap : n + m ≤ Question.cut (.appendCap (n + m) c e) q := by simp only [Question.cut]; omega
 generalize Question.cut (.appendCap (n + m) c e) q = nc at hcap
 refine aL (x := nc) rfl ?_
 refine aL (cq hi M) ?_
 refine cJ P _ _ ?_
 have room : ∀ (X : Prop) , X → da P (askRoom (nc * i.bytes)) M (fun _ M' => M' = M) (fun _ _ => False) := by
  intro X _
  unfold askRoom
  split
  ·exact rfl
  ·exact rfl
 refine gZ P _ (room True trivial) (fun _ M' Y1 => ?_) (fun _ _ hf => hf.elim)
 subst Y1
 refine aL (fB Vk hl) ?_
 refine aL (fB hr jx) ?_
 refine aL (x := zv) (by rw [iX]; simp [zeroOf, hi, hz]) ?_
 intro k hk
 refine h k nc _ hk ⟨by rw [List.length_append, hl, jx, Nat.add_mul], .inr ⟨k, _, rfl, di, ?_, hcap, fun j hj => ?_⟩⟩ ((mF.refl _ _).set (.inr hk))
 ·simp only [Array.size_append, List.size_toArray, hl, jx]
  have : (Builtin.zeroCells zv.cells (nc - (n + m))).size = (nc - (n + m)) * i.size := by simp [Builtin.zeroCells, hs]
  rw [this, ← Nat.add_mul, ← Nat.add_mul]; congr 1; omega
 ·rw [Nat.add_mul] at hj
  rw [Array.getElem?_append_left (by simp [hl, jx]; omega)]
  simp
theorem Hp.PO {α : Type} {E : gW α} {R : Mem} {L L' : List HP} {M : Mem} {T : Nat} {P : Program} {t bytes ty d m k n c : Nat} {zero rc : List Value} {A : Option Addr} {l r : List α} {K : Value → Mem → Prop} {Kp : List PanicEntry → Mem → Prop}
  (h : Hp R L M) [hk : j4 k L rc T L'] (hA : Src R L A (E.cells l)) (hn : n = l.length) (El : bu P t T E.z bytes zero) (he : rc = E.cells r) (hm : m = r.length) (hc : c < n + m) (hb : (l.length + r.length) * bytes ≤ 140737488355328)
  (g : ∀ b c' M', Hp R (cv E T (some ⟨b, 0, none⟩) c' (l ++ r) :: L') M' → K (.slice (some ⟨b, 0, none⟩) (l ++ r).length c') M') :
  aN P (Builtin.append_ #[t, t] ty #[.slice A n c, .slice (some ⟨k, 0, none⟩) m d]) M K Kp := by
 subst hm; subst he; subst hn
 have hB : Sl M (some ⟨k, 0, none⟩) (E.cells r) := h.Lo hk.pick
 obtain ⟨hu, i, zv, hi, hs, hby, hz, rfl, hl, hpos⟩ := El
 refine Cm hu hu hi hz (by rw [hs, ← hl]; simp) (hA M h) (by rw [hs]; exact E.b7) hB (by rw [hs]; exact E.b7) hc (by rw [hby]; exact hb) (by omega) fun b c' M' hbn ho w5 => ?_
 have h2 : Hp R (cv E T (some ⟨b, 0, none⟩) c' (l ++ r) :: L) M' := by
  have h3 : Hp R (fact True :: L) M := Hp.fk.2 ⟨trivial, h⟩
  refine h3.change (D := []) (D' := [b]) (fun A hA x hx => by cases hx) w5 (fun x hx => by simp only [List.mem_singleton] at hx; subst hx; exact .inr hbn) ?_
  unfold cv own
  rw [List.length_append, E.uN]
  rw [hs] at ho
  have := ho.Fv
  simpa [zE] using this
 have := g b c' M' (h2.map fun _ hs => hs.tail fun _ hx => (bS.pick hk.pick hx).drop)
 rwa [List.length_append] at this
section
variable {R : Mem} {L L' : List HP} {M : Mem} {P : Program} {t kt et : TypeId} {r : Nat} {l : AL} {k : Int} {kd : IntKind}
theorem JK {z : Value} {i : TypeInfo} {K : Value → Mem → Prop} {Kp : List PanicEntry → Mem → Prop} (h : Hp R L M) [p : ym r L (kz l) L'] (hu : P.underlying t = some (.map kt et)) (hk : P.underlying kt = some (.int kd)) (hi : P.info? et = some i) (hz : i.zero = some z)
  (g : K (.tuple #[(zT l k).getD z, .bool (zT l k).isSome]) M) : aN P (Instr.lookup t (.map (some r)) (.int .i64 k) true) M K Kp := by
 have hb : M r = some (kz l) := (h.pick p.pick).Ax
 unfold aN Instr.lookup
 refine aL (aE hu M) ?_
 simp only
 refine cJ P _ _ ?_
 refine sg hb ?_
 simp only [kz]
 refine aL (x := ()) (gV hk) ?_
 refine aL (r9 hk) ?_
 unfold zT at g
 cases ha : tH k l 0 with
 | none =>
  rw [ha] at g
  simp only
  have Xr : bF P (zeroValue et) M = some z := by rw [iX]; simp [zeroOf, hi, hz]
  refine aL Xr ?_
  refine aL (x := (z, false)) rfl ?_
  exact g
 | some x =>
  rw [ha] at g
  exact g
end
theorem D3 {C : Ctx} {g : Nat} {args : List Value} {M : Mem} {K : Value → Mem → Prop} {Kp : List PanicEntry → Mem → Prop} (hg : 1 < g ∧ g < C.ok) (h : aa C.P g args.toArray M K Kp) : g6 C (.func (.func g) #[] #[]) args M K Kp := by
 unfold g6
 simp only
 rw [if_pos hg]
 simpa using h
theorem iM {z : Int} (h0 : 0 ≤ z) (h : z < 9223372036854775807) : IntKind.wrap .i64 (z + 1) = z + 1 := by
 obtain ⟨n, rfl⟩ := Int.eq_ofNat_of_zero_le h0
 have := lI (n := n + 1) (by omega)
 exact_mod_cast this
theorem Hp.lT {α : Type} {E : gW α} {R : Mem} {L L' nx : List HP} {M : Mem} {T c n : Nat} {A : Option Addr} {l : List α} {P : Program} {t bytes ty k d m : Nat} {zero rc : List Value} {K : Value → Mem → Prop} {Kp : List PanicEntry → Mem → Prop}
  (h : Hp R L M) [ha : ct A L α E T c l L'] [hk : j4 k L' rc T nx] (El : bu P t T E.z bytes zero) (r : List α) (he : rc = E.cells r) (hn : n = l.length) (hm : m = r.length) (hb : (l.length + r.length) * bytes ≤ 140737488355328)
  (g : ∀ A' c' M', Hp R (cv E T A' c' (l ++ r) :: nx) M' → K (.slice A' (n + m) c') M') :
  aN P (Builtin.append_ #[t, t] ty #[.slice A n c, .slice (some ⟨k, 0, none⟩) m d]) M K Kp := by
 subst hn
 refine h.bD (A := A) El r he hm hb fun A' c' M' h => ?_
 have := g A' c' M' h
 rwa [hm, ← List.length_append] at this
theorem JL {C : Ctx} {g : Nat} {caps : Array Value} {args : List Value} {M : Mem} {K : Value → Mem → Prop} {Kp : List PanicEntry → Mem → Prop} (hg : 1 < g ∧ g < C.ok) (h : aa C.P g (args ++ caps.toList).toArray M K Kp) : g6 C (.func (.func g) #[] caps) args M K Kp := by
 unfold g6
 simp only
 rw [if_pos hg]
 simpa using h
end Go.AF
namespace Go.Proofs
open Go.AF
set_option maxRecDepth 100000
set_option maxHeartbeats 1000000
attribute [local irreducible] aH cK dM b8 az dD aF aI aX aN bl aM
abbrev tJ (A : Option Addr) (c : Nat) (l : List fM) : HP := cv jG 275 A c l
theorem MJ : bu Tryz.prog 226 275 11 88 (jG.f ⟨0, 0, [], 0⟩) := bu.mk' (zv := .agg #[.int .i64 0, .int .i64 0, .int .i64 0, .int .i64 0, .int .i64 0, .int .i64 0, .int .i64 0, .int .i64 0, .int .i64 0, .int .i64 0, .int .i64 0]) (by kernel_rfl) (by kernel_rfl) rfl (by omega)
theorem fM.set_set {f : fM} {q u v : Int} : (f.set q u).set q v = f.set q v := by
 unfold fM.set
 congr 1
 apply List.map_congr_left
 intro i hi
 by_cases h : i = q.toNat
 ·rw [if_pos h, if_pos h]
 ·rw [if_neg h, if_neg h]
  simp [List.mem_range.1 hi, h]
section
variable {R : Mem} {L L' : List HP} {M : Mem} {K : Value → Mem → Prop} {Kp : List PanicEntry → Mem → Prop} {b i c : Nat} {l : List fM} {f : fM} {x : dB}
theorem tK {q : Int} {o : Nat} {G : Int → Prop} (h : Hp R L M) [p : ct (some ⟨b, 0, none⟩) L fM jG 275 c l L'] (hi : l[i]? = some f) (hq : bx q) (e : o = i * 11 + 2 + q.toNat) (g : G (f.bQ q)) : aH (M.ld ⟨b, o, none⟩) .i64 G := by
 refine bn (Src.at (h.src (A := some ⟨b, 0, none⟩)) h (i := i) (j := 2 + q.toNat) hi (S2 hq.1 hq.2) ?_) g
 show _ = 0 + (i * 11 + (2 + q.toNat)); omega
theorem u7 {q v : Int} {o : Nat} {G : Mem → Prop} (h : Hp R L M) [p : ct (some ⟨b, 0, none⟩) L fM jG 275 c l L'] (hi : l[i]? = some f) (hq : bx q) (e : o = i * 11 + 2 + q.toNat)
  (k : ∀ M', Hp R (tJ (some ⟨b, 0, none⟩) c (l.set i (f.set q v)) :: L') M' → G M') : aI M ⟨b, o, none⟩ (.int .i64 v) G := by
 obtain ⟨q0, q8⟩ := hq
 refine gp i (2 + q.toNat) h hi ?_ (Pg q0 q8) ?_ k
 ·show _ < 11; omega
 ·show _ = i * 11 + (2 + q.toNat); omega
theorem yo {o : Nat} {G : Int → Prop} (h : Hp R L M) [p : ct (some ⟨b, 0, none⟩) L fM jG 275 c l L'] (hi : l[i]? = some f) (e : o = i * 11 + 1) (g : G f.pc) : aH (M.ld ⟨b, o, none⟩) .i64 G := by
 refine bn (Src.at (h.src (A := some ⟨b, 0, none⟩)) h (i := i) (j := 1) hi rfl ?_) g
 show _ = 0 + (i * 11 + 1); omega
theorem yp {v : Int} {o : Nat} {G : Mem → Prop} (h : Hp R L M) [p : ct (some ⟨b, 0, none⟩) L fM jG 275 c l L'] (hi : l[i]? = some f) (e : o = i * 11 + 1)
  (k : ∀ M', Hp R (tJ (some ⟨b, 0, none⟩) c (l.set i { f with pc := v }) :: L') M' → G M') : aI M ⟨b, o, none⟩ (.int .i64 v) G := by
 refine gp i 1 h hi (by show 1 < 11; omega) S3 ?_ k
 show _ = i * 11 + 1; omega
theorem hU {α : Type} {l : List α} {i : Nat} {u v : α} : (l.set i u).set i v = l.set i v := by simp
def Xs : List Nat := [225, 226, 227, 228, 229, 230, 231, 232, 233]
theorem MK (h : Hp R L M) [p : ct (some ⟨b, 0, none⟩) L fM jG 275 c l L'] (hi : l[i]? = some f) (hx : x.kZ) (n : Nat) (hn : x.op = (n : Int)) (h8 : n ≤ 8)
  (k : ∀ M', Hp R (tJ (some ⟨b, 0, none⟩) c (l.set i (f.pure x)) :: L') M' → K (.tuple #[]) M') :
  aa Tryz.prog (Xs.getD n 0) #[.pointer (some ⟨b, i * 11, none⟩), .agg #[.int .i64 x.op, .int .i64 x.a, .int .i64 x.b, .int .i64 x.c]] M K Kp := by
 obtain ⟨op, xa, xb, xc⟩ := x
 obtain ⟨o1, o2, o3⟩ := hx
 dsimp only at hn o1 o2 o3 k ⊢
 have hsame : l.set i f = l := by obtain ⟨hl, rfl⟩ := List.getElem?_eq_some_iff.1 hi; simp
 subst hn
 have hlt := (List.getElem?_eq_some_iff.1 hi).1
 obtain rfl | rfl | rfl | rfl | rfl | rfl | rfl | rfl | rfl : n = 0 ∨ n = 1 ∨ n = 2 ∨ n = 3 ∨ n = 4 ∨ n = 5 ∨ n = 6 ∨ n = 7 ∨ n = 8 := by omega
 ·refine rK ?_
  have e : f.pure ⟨((0 : Nat) : Int), xa, xb, xc⟩ = f := rfl
  rw [e, hsame] at k
  repeat (first|(refine aj h ?_;clear h;intro kb M h)|(refine aq h ?_;clear h;intro M h)|refine St.to h ?_|(apply Exists.intro;(repeat apply Exists.intro);refine And.intro rfl ?_)|refine au ?_|refine af ?_|refine ai ?_)
  exact k _ ((h.row (some ⟨b, 0, none⟩)).bT)
 ·have ra : bx xa := o1 (by simp)
  refine lR ?_
  repeat (first|(refine aj h ?_;clear h;intro kb M h)|(refine aq h ?_;clear h;intro M h)|refine St.to h ?_|(apply Exists.intro;(repeat apply Exists.intro);refine And.intro rfl ?_)|refine au ?_|refine af ?_|refine ai ?_)
  refine ⟨ra.1, ra.2, u7 h hi ra rfl fun M h => ?_⟩
  exact k _ h.bT
 ·obtain ⟨ra, rb⟩ := o2 rfl
  refine qx ?_
  repeat (first|(refine aj h ?_;clear h;intro kb M h)|(refine aq h ?_;clear h;intro M h)|refine St.to h ?_|(apply Exists.intro;(repeat apply Exists.intro);refine And.intro rfl ?_)|refine au ?_|refine af ?_|refine ai ?_)
  refine ⟨rb.1, rb.2, tK h hi rb rfl ?_⟩
  refine ⟨ra.1, ra.2, u7 h hi ra rfl fun M h => ?_⟩
  exact k _ h.bT
 ·obtain ⟨ra, rb, rc⟩ := o3 (by simp)
  refine rL ?_
  repeat (first|(refine aj h ?_;clear h;intro kb M h)|(refine aq h ?_;clear h;intro M h)|refine St.to h ?_|(apply Exists.intro;(repeat apply Exists.intro);refine And.intro rfl ?_)|refine au ?_|refine af ?_|refine ai ?_)
  refine ⟨rb.1, rb.2, tK h hi rb rfl ?_⟩
  repeat (first|(refine aj h ?_;clear h;intro kb M h)|(refine aq h ?_;clear h;intro M h)|refine St.to h ?_|(apply Exists.intro;(repeat apply Exists.intro);refine And.intro rfl ?_)|refine au ?_|refine af ?_|refine ai ?_)
  refine ⟨rc.1, rc.2, tK h hi rc rfl ?_⟩
  refine ⟨ra.1, ra.2, u7 h hi ra rfl fun M h => ?_⟩
  exact k _ h.bT
 ·obtain ⟨ra, rb, rc⟩ := o3 (by simp)
  refine rM ?_
  repeat (first|(refine aj h ?_;clear h;intro kb M h)|(refine aq h ?_;clear h;intro M h)|refine St.to h ?_|(apply Exists.intro;(repeat apply Exists.intro);refine And.intro rfl ?_)|refine au ?_|refine af ?_|refine ai ?_)
  refine ⟨rb.1, rb.2, tK h hi rb rfl ?_⟩
  repeat (first|(refine aj h ?_;clear h;intro kb M h)|(refine aq h ?_;clear h;intro M h)|refine St.to h ?_|(apply Exists.intro;(repeat apply Exists.intro);refine And.intro rfl ?_)|refine au ?_|refine af ?_|refine ai ?_)
  refine ⟨rc.1, rc.2, tK h hi rc rfl ?_⟩
  refine ⟨ra.1, ra.2, u7 h hi ra rfl fun M h => ?_⟩
  exact k _ h.bT
 ·obtain ⟨ra, rb, rc⟩ := o3 (by simp)
  refine rN ?_
  repeat (first|(refine aj h ?_;clear h;intro kb M h)|(refine aq h ?_;clear h;intro M h)|refine St.to h ?_|(apply Exists.intro;(repeat apply Exists.intro);refine And.intro rfl ?_)|refine au ?_|refine af ?_|refine ai ?_)
  refine ⟨rb.1, rb.2, tK h hi rb rfl ?_⟩
  repeat (first|(refine aj h ?_;clear h;intro kb M h)|(refine aq h ?_;clear h;intro M h)|refine St.to h ?_|(apply Exists.intro;(repeat apply Exists.intro);refine And.intro rfl ?_)|refine au ?_|refine af ?_|refine ai ?_)
  refine ⟨rc.1, rc.2, tK h hi rc rfl ?_⟩
  refine ⟨ra.1, ra.2, u7 h hi ra rfl fun M h => ?_⟩
  exact k _ h.bT
 ·obtain ⟨ra, rb, rc⟩ := o3 (by simp)
  refine qy ?_
  repeat (first|(refine aj h ?_;clear h;intro kb M h)|(refine aq h ?_;clear h;intro M h)|refine St.to h ?_|(apply Exists.intro;(repeat apply Exists.intro);refine And.intro rfl ?_)|refine au ?_|refine af ?_|refine ai ?_)
  refine ⟨rb.1, rb.2, tK h hi rb rfl ?_⟩
  repeat (first|(refine aj h ?_;clear h;intro kb M h)|(refine aq h ?_;clear h;intro M h)|refine St.to h ?_|(apply Exists.intro;(repeat apply Exists.intro);refine And.intro rfl ?_)|refine au ?_|refine af ?_|refine ai ?_)
  refine ⟨rc.1, rc.2, tK h hi rc rfl ?_⟩
  repeat (first|(refine aj h ?_;clear h;intro kb M h)|(refine aq h ?_;clear h;intro M h)|refine St.to h ?_|(apply Exists.intro;(repeat apply Exists.intro);refine And.intro rfl ?_)|refine au ?_|refine af ?_|refine ai ?_)
  refine ⟨ra.1, ra.2, u7 h hi ra rfl fun M h => ?_⟩
  have e : f.pure ⟨((6 : Nat) : Int), xa, xb, xc⟩ = f.set xa (if f.bQ xb < f.bQ xc then 1 else 0) := rfl
  rw [e] at k
  refine aJ.2 ⟨fun hl => ?_, fun hl => ?_⟩
  ·rw [if_pos hl] at k
   repeat (first|(refine aj h ?_;clear h;intro kb M h)|(refine aq h ?_;clear h;intro M h)|refine St.to h ?_|(apply Exists.intro;(repeat apply Exists.intro);refine And.intro rfl ?_)|refine au ?_|refine af ?_|refine ai ?_)
   have JG : (l.set i (f.set xa 0))[i]? = some (f.set xa 0) := by simp [hlt]
   refine ⟨ra.1, ra.2, u7 h JG ra rfl fun M h => ?_⟩
   rw [hU, fM.set_set] at h
   exact k _ h.bT
  ·rw [if_neg hl] at k
   exact k _ h.bT
 ·refine qz ?_
  repeat (first|(refine aj h ?_;clear h;intro kb M h)|(refine aq h ?_;clear h;intro M h)|refine St.to h ?_|(apply Exists.intro;(repeat apply Exists.intro);refine And.intro rfl ?_)|refine au ?_|refine af ?_|refine ai ?_)
  refine yp h hi rfl fun M h => ?_
  exact k _ h.bT
 ·have ra : bx xa := o1 (by simp)
  refine nL ?_
  repeat (first|(refine aj h ?_;clear h;intro kb M h)|(refine aq h ?_;clear h;intro M h)|refine St.to h ?_|(apply Exists.intro;(repeat apply Exists.intro);refine And.intro rfl ?_)|refine au ?_|refine af ?_|refine ai ?_)
  have e : f.pure ⟨((8 : Nat) : Int), xa, xb, xc⟩ = if f.bQ xa ≠ 0 then { f with pc := xb } else f := rfl
  rw [e] at k
  refine ⟨ra.1, ra.2, tK h hi ra rfl ?_⟩
  refine eu.2 ⟨fun hl => ?_, fun hl => ?_⟩
  ·rw [if_pos hl] at k
   repeat (first|(refine aj h ?_;clear h;intro kb M h)|(refine aq h ?_;clear h;intro M h)|refine St.to h ?_|(apply Exists.intro;(repeat apply Exists.intro);refine And.intro rfl ?_)|refine au ?_|refine af ?_|refine ai ?_)
   refine yp h hi rfl fun M h => ?_
   exact k _ h.bT
  ·rw [if_neg (by simpa using hl), hsame] at k
   exact k _ ((h.row (some ⟨b, 0, none⟩)).bT)
def PR : AL := (List.range 9).map fun n : Nat => ((n : Int), .func (.func (Xs.getD n 0)) #[] #[])
theorem D4 (h : Hp R L M) (k : ∀ m M', Hp R (ob m (kz PR) :: L) M' → K (.map (some m)) M') : aa Tryz.prog 203 #[] M K Kp := by
 refine xX ?_
 refine Lj h ?_
 clear h
 intro m M h
 replace h : Hp R (ob m (kz []) :: L) M := h
 have hu : Tryz.prog.underlying 361 = some (.map 25 359) := by kernel_rfl
 have hk : Tryz.prog.underlying 25 = some (.int .i64) := by kernel_rfl
 iterate 9
  refine vW h hu hk ?_
  clear h
  intro M h
 exact k _ _ h
theorem F6 (h : Hp R L M) [p : ct (some ⟨b, 0, none⟩) L fM jG 275 c l L'] (hi : l[i]? = some f) (hx : x.kZ) (h0 : 0 ≤ x.op) (hs : 0 ≤ f.pc ∧ f.pc < 1000000000)
  (k1 : x.op ≤ 8 → ∀ M', Hp R (tJ (some ⟨b, 0, none⟩) c (l.set i (f.next.pure x)) :: L') M' → K (.bool true) M')
  (k2 : 8 < x.op → ∀ M', Hp R (tJ (some ⟨b, 0, none⟩) c l :: L') M' → K (.bool false) M') :
  aa Tryz.prog 190 #[.pointer (some ⟨b, i * 11, none⟩), .agg #[.int .i64 x.op, .int .i64 x.a, .int .i64 x.b, .int .i64 x.c]] M K Kp := by
 have hlt := (List.getElem?_eq_some_iff.1 hi).1
 obtain ⟨q, hq⟩ := Int.eq_ofNat_of_zero_le h0
 refine qk ?_
 repeat (first|(refine aj h ?_;clear h;intro kb M h)|(refine aq h ?_;clear h;intro M h)|refine St.to h ?_|(apply Exists.intro;(repeat apply Exists.intro);refine And.intro rfl ?_)|refine au ?_|refine af ?_|refine ai ?_)
 refine D4 h ?_
 clear h
 intro m M h
 repeat (first|(refine aj h ?_;clear h;intro kb M h)|(refine aq h ?_;clear h;intro M h)|refine St.to h ?_|(apply Exists.intro;(repeat apply Exists.intro);refine And.intro rfl ?_)|refine au ?_|refine af ?_|refine ai ?_)
 have hu : Tryz.prog.underlying 361 = some (.map 25 359) := by kernel_rfl
 have hk : Tryz.prog.underlying 25 = some (.int .i64) := by kernel_rfl
 obtain ⟨ti, OA, htz⟩ : ∃ ti, Tryz.prog.info? 359 = some ti ∧ ti.zero = some .nilFunc := ⟨_, rfl, rfl⟩
 refine JK h hu hk OA htz ?_
 refine ⟨_, _, rfl, bH h, ?_⟩
 by_cases h8 : x.op ≤ 8
 ·have hq8 : q ≤ 8 := by omega
  have hl : zT PR x.op = some (.func (.func (Xs.getD q 0)) #[] #[]) := by
   rw [hq]
   obtain rfl | rfl | rfl | rfl | rfl | rfl | rfl | rfl | rfl : q = 0 ∨ q = 1 ∨ q = 2 ∨ q = 3 ∨ q = 4 ∨ q = 5 ∨ q = 6 ∨ q = 7 ∨ q = 8 := by omega
   all_goals rfl
  rw [hl]
  refine af ?_
  refine yo h hi rfl ?_
  rw [iM (by omega) (by omega)]
  refine yp h hi rfl ?_
  clear h
  intro M h
  have JG : (l.set i { f with pc := f.pc + 1 })[i]? = some f.next := by simp [hlt, fM.next]
  repeat (first|(refine aj h ?_;clear h;intro kb M h)|(refine aq h ?_;clear h;intro M h)|refine St.to h ?_|(apply Exists.intro;(repeat apply Exists.intro);refine And.intro rfl ?_)|refine au ?_|refine af ?_|refine ai ?_)
  have hg : 1 < Xs.getD q 0 ∧ Xs.getD q 0 < Cx.ok := by
   obtain rfl | rfl | rfl | rfl | rfl | rfl | rfl | rfl | rfl : q = 0 ∨ q = 1 ∨ q = 2 ∨ q = 3 ∨ q = 4 ∨ q = 5 ∨ q = 6 ∨ q = 7 ∨ q = 8 := by omega
   all_goals exact ⟨by decide, by show _ < 255; decide⟩
  refine D3 hg ?_
  refine MK (f := f.next) h JG hx q hq hq8 ?_
  clear h
  intro M h
  rw [hU] at h
  exact ⟨rfl, k1 h8 _ h.bT⟩
 ·have hl : zT PR x.op = none := by
   rw [PN, AN]
   have : PR.map (·.1) = [0, 1, 2, 3, 4, 5, 6, 7, 8] := by decide
   rw [this]; simp; omega
  rw [hl]
  refine ai ?_
  exact k2 (by omega) _ ((h.row (some ⟨b, 0, none⟩)).bT)
end
section
variable {R : Mem} {L L' : List HP} {M : Mem} {K : Value → Mem → Prop} {Kp : List PanicEntry → Mem → Prop} {b i c : Nat} {l : List fM} {f : fM} {x : dB}
theorem lU {m : Nat} (hm : 0 < m) (h2 : m ≤ 1000000000) (k : K (.pointer (some ⟨b, (m - 1) * 11, none⟩)) M) : aa Tryz.prog 189 #[.slice (some ⟨b, 0, none⟩) m c] M K Kp := by
 refine rE ?_
 have e : IntKind.wrap .i64 ((m : Int) - 1) = ((m - 1 : Nat) : Int) := wn (by omega) (by omega)
 refine bN.2 ⟨fun h0 => by omega, fun _ => ?_⟩
 rw [e]
 refine ⟨by omega, by omega, bp ?_⟩
 simp only [Int.toNat_natCast, Nat.zero_add]
 exact k
theorem oT {fn v : Int} (h : Hp R L M) (k : ∀ b M', Hp R (tJ (some ⟨b, 0, none⟩) 1 [fM.begin fn v] :: L) M' → K (.slice (some ⟨b, 0, none⟩) 1 1) M') : aa Tryz.prog 112 #[.int .i64 fn, .int .i64 v] M K Kp := by
 refine xU ?_
 refine aj h ?_
 clear h
 intro b M h
 exact k b M (h.hH (E := jG) (l := [fM.begin fn v]) rfl)
theorem F7 {fn v qh : Int} {A : Option Addr} (h : Hp R L M) [p : ct A L fM jG 275 c l L'] (hl : 0 < l.length)
  (k1 : 16 ≤ l.length → K (.tuple #[.slice A l.length c, .bool false]) M)
  (k2 : l.length < 16 → ∀ b c' M', Hp R (tJ (some ⟨b, 0, none⟩) c' (l ++ [⟨fn, 0, [v, 0, 0, 0, 0, 0, 0, 0], qh⟩]) :: L) M' → K (.tuple #[.slice (some ⟨b, 0, none⟩) (l.length + 1) c', .bool true]) M') :
  aa Tryz.prog 241 #[.slice A l.length c, .int .i64 fn, .int .i64 v, .int .i64 qh] M K Kp := by
 refine qB ?_
 have hcap := h.jk A
 refine aJ.2 ⟨fun tL => k1 (by omega), fun tL => ?_⟩
 refine ⟨by omega, by omega, by omega, by omega, by omega, by omega, ?_⟩
 refine aj h ?_
 clear h
 intro kb M h
 simp only [Int.toNat_natCast, Nat.sub_zero]
 have e : lC A 0 l.length 11 = A := by
  obtain ⟨bb, rfl⟩ := h.bA (A := A) hl (by decide)
  unfold lC
  rw [if_neg (by omega)]
  rfl
 rw [e]
 refine Hp.PO (E := jG) (r := [⟨fn, 0, [v, 0, 0, 0, 0, 0, 0, 0], qh⟩]) h (h.src (A := A)) rfl MJ rfl rfl (by omega) (by simp; omega) ?_
 clear h
 intro b c' M h
 refine bk ?_
 have := k2 (by omega) b c' M h
 rwa [List.length_append]
theorem Cn {v : Int} {A : Option Addr} (h : Hp R L M) [p : ct A L fM jG 275 c l L'] (hl : 0 < l.length) (hs : l.length ≤ 1000000)
  (HF : l[l.length - 1]? = some f) (hin : bx f.qh)
  (k1 : l.length < 2 → K (.tuple #[.slice none 0 0, .bool false]) M)
  (k2 : 2 ≤ l.length → ∀ b c' M', ∀ g, l[l.length - 2]? = some g → Hp R (tJ (some ⟨b, 0, none⟩) c' ((l.take (l.length - 1)).set (l.length - 2) (g.set f.qh v)) :: L) M' → K (.tuple #[.slice (some ⟨b, 0, none⟩) (l.length - 1) c', .bool true]) M') :
  aa Tryz.prog 242 #[.slice A l.length c, .int .i64 v] M K Kp := by
 refine nN ?_
 have hcap := h.jk A
 refine aJ.2 ⟨fun tL => k1 (by omega), fun tL => ?_⟩
 have e : IntKind.wrap .i64 ((l.length : Int) - 1) = ((l.length - 1 : Nat) : Int) := wn (by omega) (by omega)
 obtain ⟨ba, rfl⟩ := h.bA (A := A) hl (by decide)
 refine aj h ?_
 clear h
 intro kb M h
 rw [e]
 refine ⟨by omega, by omega, by omega, by omega, by omega, by omega, ?_⟩
 simp only [Int.toNat_natCast, Nat.sub_zero]
 have e2 : lC (some ⟨ba, 0, none⟩) 0 c 11 = some ⟨ba, 0, none⟩ := by
  unfold lC
  rw [if_neg (by omega)]
  rfl
 rw [e2]
 refine h.kF jG MJ (l.take (l.length - 1)) ((h.src (A := some ⟨ba, 0, none⟩)).Rf _) (by simp) (by simp; omega) ?_
 clear h
 intro A' c' M h
 have hlen : (l.take (l.length - 1)).length = l.length - 1 := by simp
 obtain ⟨b', rfl⟩ := h.bA (A := A') (by omega) (by decide)
 refine bk ?_
 rw [hlen]
 refine lU (by omega) (by omega) ?_
 refine iY (bp ?_)
 refine lU (by omega) (by omega) ?_
 refine iY (bp ?_)
 refine bn (Src.at (h.src (A := some ⟨ba, 0, none⟩)) h (i := l.length - 1) (j := 10) HF rfl (by show _ = 0 + ((l.length - 1) * 11 + 10); omega)) ?_
 obtain ⟨g, hg⟩ := aO (l := l) (i := l.length - 2) (by omega)
 refine ⟨hin.1, hin.2, ?_⟩
 have Co : (l.take (l.length - 1))[l.length - 2]? = some g := by rw [List.getElem?_take, if_pos (by omega)]; exact hg
 refine u7 h Co hin (by omega) ?_
 clear h
 intro M h
 exact k2 (by omega) b' c' M g hg h
abbrev kA (A : Option Addr) (c : Nat) (l : List Int) : HP := cv bI 3 A c l
def fu : rq Lk := ⟨fun b x => exs fun A : Option Addr => exs fun c : Nat => sep [pt b [.int .i64 x.owner, .slice A x.waits.length c] 307, kA A c x.waits]⟩
def Lk.take (x : Lk) (g : Int) : Lk × Bool := if x.owner = -1 then (⟨g, x.waits⟩, true) else (⟨x.owner, x.waits ++ [g]⟩, false)
def Lk.qM (x : Lk) (g : Int) : Lk × Int × Int :=
 if x.owner = -1 ∨ x.owner ≠ g then (x, -1, 5) else (⟨x.waits.headD (-1), x.waits.tail⟩, x.waits.headD (-1), 0)
variable {y : Lk}
theorem AO (h : Hp R L M) [o : bV fu b L y L'] : ∃ A c, Hp R (pt b [.int .i64 y.owner, .slice A y.waits.length c] 307 :: kA A c y.waits :: L') M := by
 have := h.obj fu b
 simpa only [fu, Hp.c5, Hp.aR, List.cons_append, List.nil_append] using this
theorem gH {A : Option Addr} {n c : Nat} {o : Int} {ws : List Int} {L1 L2 : List HP} (h : Hp R L M) (b : Nat) [p : j4 b L [.int .i64 o, .slice A n c] 307 L1] [p1 : ct A L1 Int bI 3 c ws L2] (e : n = ws.length := by first | rfl | simp) : Hp R (ay fu b ⟨o, ws⟩ :: L2) M := by
 subst e
 refine Hp.uO ?_
 simp only [fu, Hp.c5, Hp.aR, List.cons_append, List.nil_append]
 exact ⟨_, _, h.sub (.cons p.pick (.cons p1.pick .refl))⟩
theorem AP (h : Hp R L M) (k : ∀ b M', Hp R (ay fu b ⟨-1, []⟩ :: L) M' → K (.pointer (some ⟨b, 0, none⟩)) M') : aa Tryz.prog 114 #[] M K Kp := by
 refine B4 ?_
 refine aj h ?_
 clear h
 intro b M h
 have h := h.cE bI 3
 exact k b M (gH h b)
theorem F8 {g : Int} (h : Hp R L M) [o : bV fu b L y L'] (hs : y.waits.length ≤ 1000000000) (k : ∀ M', Hp R (ay fu b (y.take g).1 :: L') M' → K (.bool (y.take g).2) M') :
  aa Tryz.prog 245 #[.pointer (some ⟨b, 0, none⟩), .int .i64 g] M K Kp := by
 refine rO ?_
 have h' := AO h (b := b)
 clear h
 obtain ⟨A, c, h⟩ := h'
 repeat (first|(refine aj h ?_;clear h;intro kb M h)|(refine aq h ?_;clear h;intro M h)|refine St.to h ?_|(apply Exists.intro;(repeat apply Exists.intro);refine And.intro rfl ?_)|refine au ?_|refine af ?_|refine ai ?_)
 unfold Lk.take at k
 refine eu.2 ⟨fun hn => ?_, fun hn => ?_⟩
 ·rw [if_neg hn] at k
  repeat (first|(refine aj h ?_;clear h;intro kb M h)|(refine aq h ?_;clear h;intro M h)|refine St.to h ?_|(apply Exists.intro;(repeat apply Exists.intro);refine And.intro rfl ?_)|refine au ?_|refine af ?_|refine ai ?_)
  refine h.bD xT [g] rfl rfl (by simp; omega) ?_
  clear h
  intro A' c' M h
  repeat (first|(refine aj h ?_;clear h;intro kb M h)|(refine aq h ?_;clear h;intro M h)|refine St.to h ?_|(apply Exists.intro;(repeat apply Exists.intro);refine And.intro rfl ?_)|refine au ?_|refine af ?_|refine ai ?_)
  exact k _ (gH h b).bT
 ·rw [if_pos hn] at k
  repeat (first|(refine aj h ?_;clear h;intro kb M h)|(refine aq h ?_;clear h;intro M h)|refine St.to h ?_|(apply Exists.intro;(repeat apply Exists.intro);refine And.intro rfl ?_)|refine au ?_|refine af ?_|refine ai ?_)
  exact k _ (gH h b).bT
theorem F9 {g : Int} (h : Hp R L M) [o : bV fu b L y L'] (hs : y.waits.length ≤ 1000000000) (k : ∀ M', Hp R (ay fu b (y.qM g).1 :: L') M' → K (.tuple #[.int .i64 (y.qM g).2.1, .int .i64 (y.qM g).2.2]) M') :
  aa Tryz.prog 246 #[.pointer (some ⟨b, 0, none⟩), .int .i64 g] M K Kp := by
 refine rQ ?_
 obtain ⟨ow, ws⟩ := y
 have h' := AO h (b := b)
 clear h
 obtain ⟨A, c, h⟩ := h'
 dsimp only at h hs
 repeat (first|(refine aj h ?_;clear h;intro kb M h)|(refine aq h ?_;clear h;intro M h)|refine St.to h ?_|(apply Exists.intro;(repeat apply Exists.intro);refine And.intro rfl ?_)|refine au ?_|refine af ?_|refine ai ?_)
 unfold Lk.qM at k
 refine bN.2 ⟨fun hn => ?_, fun hn => ?_⟩
 ·rw [if_pos (.inl hn)] at k
  exact k _ (gH h b).bT
 repeat (first|(refine aj h ?_;clear h;intro kb M h)|(refine aq h ?_;clear h;intro M h)|refine St.to h ?_|(apply Exists.intro;(repeat apply Exists.intro);refine And.intro rfl ?_)|refine au ?_|refine af ?_|refine ai ?_)
 refine eu.2 ⟨fun wq => ?_, fun wq => ?_⟩
 ·rw [if_pos (.inr wq)] at k
  exact k _ (gH h b).bT
 rw [if_neg (by rintro (h | h) <;> contradiction)] at k
 repeat (first|(refine aj h ?_;clear h;intro kb M h)|(refine aq h ?_;clear h;intro M h)|refine St.to h ?_|(apply Exists.intro;(repeat apply Exists.intro);refine And.intro rfl ?_)|refine au ?_|refine af ?_|refine ai ?_)
 refine aJ.2 ⟨fun hr => ?_, fun hr => ?_⟩
 ·cases ws with
  | nil => simp at hr
  | cons w r =>
   repeat (first|(refine aj h ?_;clear h;intro kb M h)|(refine aq h ?_;clear h;intro M h)|refine St.to h ?_|(apply Exists.intro;(repeat apply Exists.intro);refine And.intro rfl ?_)|refine au ?_|refine af ?_|refine ai ?_)
   obtain ⟨q, rfl⟩ := h.bA (A := A) (by simp) (by decide)
   repeat (first|(refine aj h ?_;clear h;intro kb M h)|(refine aq h ?_;clear h;intro M h)|refine St.to h ?_|(apply Exists.intro;(repeat apply Exists.intro);refine And.intro rfl ?_)|refine au ?_|refine af ?_|refine ai ?_)
   refine bn (Src.at (h.src (A := some ⟨q, 0, none⟩)) h (i := 0) (j := 0) rfl rfl (by simp [bI])) ?_
   have hcap := h.jk (some ⟨q, 0, none⟩)
   have hlen : r.length + 1 ≤ 1000000000 := by simpa using hs
   repeat (first|(refine aj h ?_;clear h;intro kb M h)|(refine aq h ?_;clear h;intro M h)|refine St.to h ?_|(apply Exists.intro;(repeat apply Exists.intro);refine And.intro rfl ?_)|refine au ?_|refine af ?_|refine ai ?_)
   simp only [Int.toNat_natCast]
   refine h.kF bI xT r ((h.src (A := some ⟨q, 0, none⟩)).drop (m := 1) hcap) (by simp) (by omega) ?_
   clear h
   intro A' c' M h
   repeat (first|(refine aj h ?_;clear h;intro kb M h)|(refine aq h ?_;clear h;intro M h)|refine St.to h ?_|(apply Exists.intro;(repeat apply Exists.intro);refine And.intro rfl ?_)|refine au ?_|refine af ?_|refine ai ?_)
   exact k _ (gH h b).bT
 ·cases ws with
  | cons v l => simp at hr
  | nil =>
   repeat (first|(refine aj h ?_;clear h;intro kb M h)|(refine aq h ?_;clear h;intro M h)|refine St.to h ?_|(apply Exists.intro;(repeat apply Exists.intro);refine And.intro rfl ?_)|refine au ?_|refine af ?_|refine ai ?_)
   exact k _ (gH h b).bT
end
structure PA where
 f : Option Addr
 fc : Nat
 c : Option Addr
 cc : Nat
 k : Option Addr
 kc : Nat
abbrev GA := Option Addr × Nat
abbrev oU (y : gT) (A : Option Addr) (c : Nat) : List Value := [.int .i64 y.st, .slice A y.fs.length c, .int .i64 y.wt.op, .int .i64 y.wt.a, .int .i64 y.wt.b, .int .i64 y.wt.c]
def fF : rq (gT × GA) := ⟨fun b x => sep [pt b (oU x.1 x.2.1 x.2.2) 229, tJ x.2.1 x.2.2 x.1.fs]⟩
structure WA where
 ag : Option Addr
 cg : Nat
 gb : List Nat
 ac : Option Addr
 cc : Nat
 cb : List Nat
 al : Option Addr
 cl : Nat
 lb : List Nat
 ah : Option Addr
 ch : Nat
 ao : Option Addr
 co : Nat
 ar : Option Addr
 cr : Nat
abbrev lf (pa : PA) (p : cj) (dr : Value) (a : WA) (x : Wd) : List Value :=
 [.slice pa.f p.funcs.length pa.fc, .slice pa.c p.nY.length pa.cc, .int .i64 p.aU, .slice pa.k p.cases.length pa.kc, .slice a.ag a.gb.length a.cg, .int .u64 x.clock,
  .slice a.ac a.cb.length a.cc, .slice a.al a.lb.length a.cl, .slice a.ah x.hl.length a.ch, .int .u64 x.lQ, .slice a.ao x.out.length a.co, .int .i64 x.end_, .int .i64 x.code, .slice a.ar x.ready.length a.cr, dr]
abbrev yq (A : Option Addr) (c : Nat) (l : List Nat) : HP := cv kX 224 A c l
abbrev yu (A : Option Addr) (c : Nat) (l : List Nat) : HP := cv kX 230 A c l
abbrev yw (A : Option Addr) (c : Nat) (l : List Nat) : HP := cv kX 232 A c l
abbrev fL (A : Option Addr) (c : Nat) (l : List bq) : HP := cv tu 203 A c l
abbrev qV (a : WA) (x : Wd) (L : List HP) : List HP :=
 yq a.ag a.cg a.gb :: yu a.ac a.cc a.cb :: aV bz a.cb x.aC :: yw a.al a.cl a.lb :: aV fu a.lb x.aU :: fL a.ah a.ch x.hl :: xQ a.ao a.co x.out :: kA a.ar a.cr x.ready :: L
def eB (gg : List GA) (a : WA) (x : Wd) : Prop := a.gb.length = x.gs.length ∧ gg.length = x.gs.length ∧ a.cb.length = x.aC.length ∧ a.lb.length = x.aU.length
def bj (pa : PA) (p : cj) (gg : List GA) (dr : Value) : rq Wd := ⟨fun b x => exs fun a : WA =>
 sep (pt b (lf pa p dr a x) 161 :: aV fF a.gb (x.gs.zip gg) :: fact (eB gg a x) :: qV a x [])⟩
class u9 (b : Nat) (L : List HP) (pa : outParam PA) (p : outParam cj) (gg : outParam (List GA)) (dr : outParam Value) (x : outParam Wd) (L' : outParam (List HP)) : Prop where
 pick : cG L (ay (bj pa p gg dr) b x) L'
instance u9.here {pa : PA} {p : cj} {gg : List GA} {dr : Value} {b : Nat} {x : Wd} {L : List HP} : u9 b (ay (bj pa p gg dr) b x :: L) pa p gg dr x L := ⟨.here⟩
instance (priority := low) u9.there {pa : PA} {p : cj} {gg : List GA} {dr : Value} {b : Nat} {x : Wd} {Q : HP} {L L' : List HP} [h : u9 b L pa p gg dr x L'] : u9 b (Q :: L) pa p gg dr x (Q :: L') := ⟨.there h.pick⟩
section
variable {R : Mem} {L L' : List HP} {M : Mem} {K : Value → Mem → Prop} {Kp : List PanicEntry → Mem → Prop} {pa : PA} {p : cj} {gg : List GA} {dr : Value} {b : Nat} {x : Wd}
theorem bY (h : Hp R L M) [o : u9 b L pa p gg dr x L'] : ∃ a : WA, eB gg a x ∧ Hp R (pt b (lf pa p dr a x) 161 :: aV fF a.gb (x.gs.zip gg) :: qV a x L') M := by
 have := h.pick o.pick
 unfold ay at this
 simp only [bj, qV, Hp.c5, Hp.aR, List.cons_append, List.nil_append] at this
 obtain ⟨a, h⟩ := this
 have h2 := h.pick (P := fact (eB gg a x)) (.there (.there .here))
 exact ⟨a, (Hp.fk.1 h2).1, (Hp.fk.1 h2).2⟩
theorem jc {a : WA} (hl : eB gg a x) (h : Hp R (pt b (lf pa p dr a x) 161 :: aV fF a.gb (x.gs.zip gg) :: qV a x L) M) : Hp R (ay (bj pa p gg dr) b x :: L) M := by
 refine Hp.uO ?_
 simp only [bj, qV, Hp.c5, Hp.aR, List.cons_append, List.nil_append]
 refine ⟨a, ?_⟩
 have h2 : Hp R (fact (eB gg a x) :: pt b (lf pa p dr a x) 161 :: aV fF a.gb (x.gs.zip gg) :: qV a x L) M := Hp.fk.2 ⟨hl, h⟩
 exact h2.mG (.there (.there .here))
theorem aQ {a : WA} {L0 L1 L2 L3 L4 L5 L6 L7 L8 L9 : List HP} (hl : eB gg a x) (h : Hp R L M) (b : Nat)
  [p0 : j4 b L (lf pa p dr a x) 161 L0] [p1 : e8 fF L0 a.gb (x.gs.zip gg) L1] [p2 : ct a.ag L1 Nat kX 224 a.cg a.gb L2] [p3 : ct a.ac L2 Nat kX 230 a.cc a.cb L3]
  [p4 : e8 bz L3 a.cb x.aC L4] [p5 : ct a.al L4 Nat kX 232 a.cl a.lb L5] [p6 : e8 fu L5 a.lb x.aU L6] [p7 : ct a.ah L6 bq tu 203 a.ch x.hl L7] [p8 : ct a.ao L7 Int bI 2 a.co x.out L8]
  [p9 : ct a.ar L8 Int bI 3 a.cr x.ready L9] : Hp R (ay (bj pa p gg dr) b x :: L9) M :=
 jc hl (h.sub (.cons p0.pick (.cons p1.pick (.cons p2.pick (.cons p3.pick (.cons p4.pick (.cons p5.pick (.cons p6.pick (.cons p7.pick (.cons p8.pick (.cons p9.pick .refl)))))))))))
theorem D5 {α β : Type} : ∀ {l : List α} {m : List β} {i : Nat} {u : α} {v : β}, m[i]? = some v → (l.zip m).set i (u, v) = (l.set i u).zip m
 | [], _, _, _, _, _ => by simp
 | a :: l, [], i, u, v, h => by simp at h
 | a :: l, w :: m, 0, u, v, h => by simp at h; subst h; rfl
 | a :: l, w :: m, i + 1, u, v, h => by
  have := D5 (l := l) (u := u) (show m[i]? = some v from by simpa using h)
  simp [this]
theorem m6 {α β : Type} : ∀ {l : List α} {m : List β} {i : Nat} {u : α} {v : β}, l[i]? = some u → m[i]? = some v → (l.zip m)[i]? = some (u, v)
 | [], _, _, _, _, h, _ => by simp at h
 | a :: l, [], i, u, v, _, h => by simp at h
 | a :: l, w :: m, 0, u, v, h, g => by simp at h g; subst h; subst g; rfl
 | a :: l, w :: m, i + 1, u, v, h, g => by simpa using m6 (show l[i]? = some u from by simpa using h) (show m[i]? = some v from by simpa using g)
theorem lV {c : Nat} {y : gT} {A : Option Addr} (h : Hp R L M) [o : bV fF b L (y, (A, c)) L'] : Hp R (pt b (oU y A c) 229 :: tJ A c y.fs :: L') M := by
 have := h.obj fF b
 simpa only [fF, Hp.aR, List.cons_append, List.nil_append] using this
theorem lW {A : Option Addr} {n c : Nat} {st o1 o2 o3 o4 : Int} {fs : List fM} {L1 L2 : List HP} (h : Hp R L M) (b : Nat) [p : j4 b L [.int .i64 st, .slice A n c, .int .i64 o1, .int .i64 o2, .int .i64 o3, .int .i64 o4] 229 L1] [p1 : ct A L1 fM jG 275 c fs L2]
  (e : n = fs.length := by first | rfl | simp) : Hp R (ay fF b (⟨st, fs, ⟨o1, o2, o3, o4⟩⟩, (A, c)) :: L2) M := by
 subst e
 refine Hp.uO ?_
 simp only [fF, Hp.aR, List.cons_append, List.nil_append]
 exact h.sub (.cons p.pick (.cons p1.pick .refl))
theorem jd {g : Int} (h : Hp R L M) [o : u9 b L pa p gg dr x L'] (h0 : 0 ≤ g) (hg : g < x.gs.length) :
  ∃ (a : WA) (gb : Nat) (A : Option Addr) (c : Nat), eB gg a x ∧ a.gb[g.toNat]? = some gb ∧ gg[g.toNat]? = some (A, c) ∧
   Hp R (pt gb (oU (ae x g) A c) 229 :: tJ A c (ae x g).fs :: pt b (lf pa p dr a x) 161 :: kI fF a.gb (x.gs.zip gg) g.toNat :: qV a x L') M := by
 obtain ⟨a, hl, h1⟩ := bY h (b := b)
 obtain ⟨l1, l2, l3, l4⟩ := hl
 obtain ⟨gb, fx⟩ := aO (l := a.gb) (i := g.toNat) (by omega)
 obtain ⟨⟨A, c⟩, ee⟩ := aO (l := gg) (i := g.toNat) (by omega)
 obtain ⟨y, hy⟩ := aO (l := x.gs) (i := g.toNat) (by omega)
 have e : ae x g = y := by simp [ae, hy]
 rw [e]
 have h2 := h1.cQ fF fx (m6 hy ee)
 have h3 := lV (b := gb) h2
 exact ⟨a, gb, A, c, ⟨l1, l2, l3, l4⟩, fx, ee, h3.sub bM⟩
theorem cC {a : WA} {A : Option Addr} {c n : Nat} {g : Int} {st o1 o2 o3 o4 : Int} {fs : List fM} {L1 L2 L3 : List HP} (h : Hp R L M) (gb : Nat) (hl : eB gg a x) (fx : a.gb[g.toNat]? = some gb) (ee : gg[g.toNat]? = some (A, c))
  [p1 : j4 gb L [.int .i64 st, .slice A n c, .int .i64 o1, .int .i64 o2, .int .i64 o3, .int .i64 o4] 229 L1] [p2 : ct A L1 fM jG 275 c fs L2]
  [p3 : vT fF L2 a.gb (x.gs.zip gg) g.toNat L3] (e : n = fs.length := by first | rfl | simp) : Hp R (aV fF a.gb ((x.gs.set g.toNat ⟨st, fs, ⟨o1, o2, o3, o4⟩⟩).zip gg) :: L3) M := by
 have h1 := lW h gb e
 obtain ⟨l1, l2, l3, l4⟩ := hl
 have hi := (List.getElem?_eq_some_iff.1 fx).1
 have h2 := h1.dw fF gb fx (by rw [List.length_zip]; omega)
 rwa [D5 ee] at h2
end
section
variable {R : Mem} {L L' : List HP} {M : Mem} {K : Value → Mem → Prop} {Kp : List PanicEntry → Mem → Prop} {pa : PA} {p : cj} {gg : List GA} {dr : Value} {b : Nat} {x : Wd}
theorem Uv {A : Option Addr} {l : List Nat} {T c q i bb : Nat} (h : Hp R L M) [r : ct A L Nat kX T c l L'] (hq : A = some ⟨q, 0, none⟩) (hb : l[i]? = some bb) : M.ld ⟨q, 0 + i, none⟩ = some (.pointer (some ⟨bb, 0, none⟩)) := by
 subst hq
 exact Src.at (h.src (A := some ⟨q, 0, none⟩)) h (i := i) (j := 0) hb rfl (by simp [kX])
theorem uy {A : Option Addr} {l : List Nat} {T c bb i : Nat} {G : Nat → Nat → Option Addr → Prop} (h : Hp R L M) [r : ct A L Nat kX T c l L'] (hb : l[i]? = some bb) (k : ∀ q, A = some ⟨q, 0, none⟩ → G q 0 (some ⟨bb, 0, none⟩)) :
  aF A fun k4 k5 => b8 (M.ld ⟨k4, k5 + i, none⟩) fun A6 => G k4 k5 A6 := by
 obtain ⟨q, hq⟩ := h.bA (A := A) (by have := (List.getElem?_eq_some_iff.1 hb).1; omega) (by decide)
 have h2 := Uv h hq hb
 subst hq
 refine bp ?_
 rw [h2]
 exact iY (k q rfl)
theorem gI {g : Int} (h : Hp R L M) [o : u9 b L pa p gg dr x L'] (h0 : 0 ≤ g) (hg : g < x.gs.length) (hr : x.ready.length ≤ 1000000000)
  (k : ∀ M', Hp R (ay (bj pa p gg dr) b (x.dV g) :: L') M' → K (.tuple #[]) M') : aa Tryz.prog 158 #[.pointer (some ⟨b, 0, none⟩), .int .i64 g] M K Kp := by
 refine qj ?_
 have h' := jd h (b := b) h0 hg
 clear h
 obtain ⟨a, gb, A, c, hl, fx, ee, h⟩ := h'
 have hl' := hl
 obtain ⟨l1, l2, l3, l4⟩ := hl'
 repeat (first|(refine aj h ?_;clear h;intro kb M h)|(refine aq h ?_;clear h;intro M h)|refine St.to h ?_|(apply Exists.intro;(repeat apply Exists.intro);refine And.intro rfl ?_)|refine au ?_|refine af ?_|refine ai ?_)
 refine uy h fx fun q hq => ?_
 repeat (first|(refine aj h ?_;clear h;intro kb M h)|(refine aq h ?_;clear h;intro M h)|refine St.to h ?_|(apply Exists.intro;(repeat apply Exists.intro);refine And.intro rfl ?_)|refine au ?_|refine af ?_|refine ai ?_)
 refine h.bD xT [g] rfl rfl (by simp; omega) ?_
 clear h
 intro A' c' M h
 repeat (first|(refine aj h ?_;clear h;intro kb M h)|(refine aq h ?_;clear h;intro M h)|refine St.to h ?_|(apply Exists.intro;(repeat apply Exists.intro);refine And.intro rfl ?_)|refine au ?_|refine af ?_|refine ai ?_)
 replace h := cC h gb hl fx ee
 exact k _ (jc (a := { a with ar := A', cr := c' }) ⟨by simpa [Wd.dV, Wd.bh] using l1, by simpa [Wd.dV, Wd.bh] using l2, l3, l4⟩ (h.sub bM))
theorem dJ {y : gT} (h : 0 < y.fs.length) : y.fs[y.fs.length - 1]? = some y.top := by
 unfold gT.top
 rw [List.getD_eq_getElem?_getD, List.getElem?_eq_getElem (by omega)]; rfl
theorem cR {a : WA} {g : Int} {y : gT} (hl : eB gg a x) : eB gg a (x.bh g y) := by
 obtain ⟨l1, l2, l3, l4⟩ := hl
 exact ⟨by simpa [Wd.bh] using l1, by simpa [Wd.bh] using l2, l3, l4⟩
theorem kJ {g : Int} {i : dB} (h : Hp R L M) [o : u9 b L pa p gg dr x L'] (h0 : 0 ≤ g) (hg : g < x.gs.length)
  (k : ∀ M', Hp R (ay (bj pa p gg dr) b (x.block g i) :: L') M' → K (.tuple #[]) M') : aa Tryz.prog 208 #[.pointer (some ⟨b, 0, none⟩), .int .i64 g, .agg #[.int .i64 i.op, .int .i64 i.a, .int .i64 i.b, .int .i64 i.c]] M K Kp := by
 refine oH ?_
 have h' := jd h (b := b) h0 hg
 clear h
 obtain ⟨a, gb, A, c, hl, fx, ee, h⟩ := h'
 have hl' := hl
 obtain ⟨l1, l2, l3, l4⟩ := hl'
 repeat (first|(refine aj h ?_;clear h;intro kb M h)|(refine aq h ?_;clear h;intro M h)|refine St.to h ?_|(apply Exists.intro;(repeat apply Exists.intro);refine And.intro rfl ?_)|refine au ?_|refine af ?_|refine ai ?_)
 refine uy h fx fun q hq => ?_
 repeat (first|(refine aj h ?_;clear h;intro kb M h)|(refine aq h ?_;clear h;intro M h)|refine St.to h ?_|(apply Exists.intro;(repeat apply Exists.intro);refine And.intro rfl ?_)|refine au ?_|refine af ?_|refine ai ?_)
 refine uy h fx fun q2 kK => ?_
 repeat (first|(refine aj h ?_;clear h;intro kb M h)|(refine aq h ?_;clear h;intro M h)|refine St.to h ?_|(apply Exists.intro;(repeat apply Exists.intro);refine And.intro rfl ?_)|refine au ?_|refine af ?_|refine ai ?_)
 replace h := cC h gb hl fx ee
 exact k _ (jc (a := a) (cR hl) (h.sub bM))
theorem tM {g kk : Int} (h : Hp R L M) [o : u9 b L pa p gg dr x L'] (hg : aW x g) (hc : bx (ae x g).wt.c) (hs : x.Sm)
  (k : ∀ M', Hp R (ay (bj pa p gg dr) b (x.fE g kk) :: L') M' → K (.tuple #[]) M') : aa Tryz.prog 251 #[.pointer (some ⟨b, 0, none⟩), .int .i64 g, .int .i64 kk] M K Kp := by
 refine nO ?_
 obtain ⟨h0, h1, h2, h3⟩ := hg
 obtain ⟨s1, s2, s3, s4, s5, s6, s7, s8⟩ := hs
 have h' := jd h (b := b) h0 h1
 clear h
 obtain ⟨a, gb, A, c, hl, fx, ee, h⟩ := h'
 have hl' := hl
 obtain ⟨l1, l2, l3, l4⟩ := hl'
 repeat (first|(refine aj h ?_;clear h;intro kb M h)|(refine aq h ?_;clear h;intro M h)|refine St.to h ?_|(apply Exists.intro;(repeat apply Exists.intro);refine And.intro rfl ?_)|refine au ?_|refine af ?_|refine ai ?_)
 refine uy h fx fun q hq => ?_
 repeat (first|(refine aj h ?_;clear h;intro kb M h)|(refine aq h ?_;clear h;intro M h)|refine St.to h ?_|(apply Exists.intro;(repeat apply Exists.intro);refine And.intro rfl ?_)|refine au ?_|refine af ?_|refine ai ?_)
 refine uy h fx fun q2 kK => ?_
 repeat (first|(refine aj h ?_;clear h;intro kb M h)|(refine aq h ?_;clear h;intro M h)|refine St.to h ?_|(apply Exists.intro;(repeat apply Exists.intro);refine And.intro rfl ?_)|refine au ?_|refine af ?_|refine ai ?_)
 obtain ⟨bs, rfl⟩ := h.bA (A := A) h2 (by decide)
 refine lU h2 (by omega) ?_
 repeat (first|(refine aj h ?_;clear h;intro kb M h)|(refine aq h ?_;clear h;intro M h)|refine St.to h ?_|(apply Exists.intro;(repeat apply Exists.intro);refine And.intro rfl ?_)|refine au ?_|refine af ?_|refine ai ?_)
 refine ⟨hc.1, hc.2, u7 h (dJ h2) hc rfl ?_⟩
 clear h
 intro M h
 repeat (first|(refine aj h ?_;clear h;intro kb M h)|(refine aq h ?_;clear h;intro M h)|refine St.to h ?_|(apply Exists.intro;(repeat apply Exists.intro);refine And.intro rfl ?_)|refine au ?_|refine af ?_|refine ai ?_)
 refine DK h (Src.row (A := a.ac)) rfl (by omega) l3 (fun c hc => (s1 c hc).mono (by omega)) ?_
 clear h
 intro M h
 refine ⟨rfl, ?_⟩
 replace h := cC h gb hl fx ee
 exact k _ (jc (a := a) (x := x.fE g kk) ⟨by simpa [Wd.fE, Wd.leave, Wd.bg, Wd.bh] using l1, by simpa [Wd.fE, Wd.leave, Wd.bg, Wd.bh] using l2, by simpa [Wd.fE, Wd.leave, Wd.bg, Wd.bh] using l3, l4⟩ (h.sub bM))
end
theorem ia {x : Wd} {g q v : Int} (h : aW x g) : ae (x.bg g q v) g = (ae x g).bP ((ae x g).top.set q v) := gh h.1 h.2.1
theorem ie {x : Wd} {g q v : Int} (h : aW x g) : aW (x.bg g q v) g := by
 obtain ⟨h0, h1, h2, h3⟩ := h
 refine ⟨h0, by simpa [Wd.bg, Wd.bh] using h1, ?_, ?_⟩ <;> rw [ia ⟨h0, h1, h2, h3⟩] <;> simpa [gT.bP]
theorem JM {x : Wd} {g q v : Int} (h : aW x g) : (ae (x.bg g q v) g).wt = (ae x g).wt := by rw [ia h]; rfl
theorem tN {x : Wd} {g k : Int} (h : aW x g) : aW (x.fE g k) g := ie h
theorem HG {x : Wd} {g : Int} {y : gT} (h : x.Sm) : (x.bh g y).Sm := by
 obtain ⟨s1, s2, s3, s4⟩ := h
 exact ⟨s1, s2, by simpa [Wd.bh] using s3, s4⟩
theorem cY {z : Int} (h0 : 0 ≤ z) (h : z < 9223372036854775808) : IntKind.wrap .i64 z = z := by
 obtain ⟨n, rfl⟩ := Int.eq_ofNat_of_zero_le h0
 exact lI (by omega)
section
variable {R : Mem} {L L' : List HP} {M : Mem} {K : Value → Mem → Prop} {Kp : List PanicEntry → Mem → Prop} {pa : PA} {p : cj} {gg : List GA} {dr : Value} {b : Nat} {x : Wd}
theorem Uw {A : Option Addr} {c : Nat} {l : List pS} {q : Int} {G : Nat → Nat → Int → Prop} (h : Hp R L M) (hp : RS xS R A c l) (h0 : 0 ≤ q) (hq : q < l.length) (k : ∀ b o, G b o (l.getD q.toNat ⟨0, 0, 0⟩).bQ) :
  aF A fun b o => aH (M.ld ⟨b, ((o + q.toNat * 3) + 2), none⟩) .i64 fun n => G b o n := by
 obtain ⟨bb, o, rfl⟩ := hp.some (by omega) (by decide)
 obtain ⟨y, hy⟩ := aO (l := l) (i := q.toNat) (by omega)
 have e : l.getD q.toNat ⟨0, 0, 0⟩ = y := by simp [hy]
 refine bp ?_
 refine bn (Src.at (hp.src (L := L)) h (i := q.toNat) (j := 2) hy rfl (by show _ = o + (q.toNat * 3 + 2); omega)) ?_
 have := k bb o
 rwa [e] at this
theorem oV {v : Wt} {some : Int} (h : Hp R L M) [o : u9 b L pa p gg dr x L'] (hp : RS xS R pa.k pa.kc p.cases) (hv : oF p x v) (hs : x.Sm)
  (k : ∀ M', Hp R (ay (bj pa p gg dr) b (x.received p v some) :: L') M' → K (.tuple #[]) M') : aa Tryz.prog 238 #[.pointer (Option.some ⟨b, 0, none⟩), .agg #[.int .i64 v.g, .int .i64 v.cs, .int .i64 v.v], .int .i64 some] M K Kp := by
 refine lS ?_
 obtain ⟨hg, hv⟩ := hv
 have zx := hg
 obtain ⟨h0, h1, h2, h3⟩ := zx
 have hs' := hs
 obtain ⟨s1, s2, s3, s4, s5, s6, s7, s8⟩ := hs'
 have h' := jd h (b := b) h0 h1
 clear h
 obtain ⟨a, gb, A, c, hl, fx, ee, h⟩ := h'
 have hl' := hl
 obtain ⟨l1, l2, l3, l4⟩ := hl'
 repeat (first|(refine aj h ?_;clear h;intro kb M h)|(refine aq h ?_;clear h;intro M h)|refine St.to h ?_|(apply Exists.intro;(repeat apply Exists.intro);refine And.intro rfl ?_)|refine au ?_|refine af ?_|refine ai ?_)
 refine uy h fx fun q hq => ?_
 repeat (first|(refine aj h ?_;clear h;intro kb M h)|(refine aq h ?_;clear h;intro M h)|refine St.to h ?_|(apply Exists.intro;(repeat apply Exists.intro);refine And.intro rfl ?_)|refine au ?_|refine af ?_|refine ai ?_)
 refine uy h fx fun q2 kK => ?_
 repeat (first|(refine aj h ?_;clear h;intro kb M h)|(refine aq h ?_;clear h;intro M h)|refine St.to h ?_|(apply Exists.intro;(repeat apply Exists.intro);refine And.intro rfl ?_)|refine au ?_|refine af ?_|refine ai ?_)
 obtain ⟨bs, rfl⟩ := h.bA (A := A) h2 (by decide)
 refine lU h2 (by omega) ?_
 repeat (first|(refine aj h ?_;clear h;intro kb M h)|(refine aq h ?_;clear h;intro M h)|refine St.to h ?_|(apply Exists.intro;(repeat apply Exists.intro);refine And.intro rfl ?_)|refine au ?_|refine af ?_|refine ai ?_)
 refine ⟨Uv h kK fx, ?_⟩
 repeat (first|(refine aj h ?_;clear h;intro kb M h)|(refine aq h ?_;clear h;intro M h)|refine St.to h ?_|(apply Exists.intro;(repeat apply Exists.intro);refine And.intro rfl ?_)|refine au ?_|refine af ?_|refine ai ?_)
 refine ⟨Uv h kK fx, ?_⟩
 repeat (first|(refine aj h ?_;clear h;intro kb M h)|(refine aq h ?_;clear h;intro M h)|refine St.to h ?_|(apply Exists.intro;(repeat apply Exists.intro);refine And.intro rfl ?_)|refine au ?_|refine af ?_|refine ai ?_)
 unfold Wd.received at k
 refine bN.2 ⟨fun HH => ?_, fun HH => ?_⟩
 ·simp only [HH, if_true] at k hv
  obtain ⟨v1, v2, v3, v4, v5⟩ := hv
  repeat (first|(refine aj h ?_;clear h;intro kb M h)|(refine aq h ?_;clear h;intro M h)|refine St.to h ?_|(apply Exists.intro;(repeat apply Exists.intro);refine And.intro rfl ?_)|refine au ?_|refine af ?_|refine ai ?_)
  rw [cY v1 (by omega)]
  refine ⟨v1, by omega, Uw (q := (ae x v.g).wt.a + v.cs) h hp v1 v2 fun _ _ => ?_⟩
  repeat (first|(refine aj h ?_;clear h;intro kb M h)|(refine aq h ?_;clear h;intro M h)|refine St.to h ?_|(apply Exists.intro;(repeat apply Exists.intro);refine And.intro rfl ?_)|refine au ?_|refine af ?_|refine ai ?_)
  refine ⟨v4.1, v4.2, u7 h (dJ h2) v4 rfl ?_⟩
  clear h
  intro M h
  repeat (first|(refine aj h ?_;clear h;intro kb M h)|(refine aq h ?_;clear h;intro M h)|refine St.to h ?_|(apply Exists.intro;(repeat apply Exists.intro);refine And.intro rfl ?_)|refine au ?_|refine af ?_|refine ai ?_)
  replace h := cC h gb hl fx ee
  replace h := aQ (a := a) (p := p) (pa := pa) (dr := dr) (gg := gg) (x := x.bg v.g (oE p ((ae x v.g).wt.a + v.cs)).bQ v.v) (cR hl) h b
  have v5' := v5
  rw [← JM (q := (oE p ((ae x v.g).wt.a + v.cs)).bQ) (v := v.v) hg] at v5'
  refine tM (b := b) h (ie hg) v5' (HG hs) ?_
  clear h
  intro M h
  repeat (first|(refine aj h ?_;clear h;intro kb M h)|(refine aq h ?_;clear h;intro M h)|refine St.to h ?_|(apply Exists.intro;(repeat apply Exists.intro);refine And.intro rfl ?_)|refine au ?_|refine af ?_|refine ai ?_)
  have Co := tN (k := v.cs) (ie (q := (oE p ((ae x v.g).wt.a + v.cs)).bQ) (v := v.v) hg)
  refine gI (b := b) h Co.1 Co.2.1 (by show x.ready.length ≤ _; omega) ?_
  clear h
  intro M h
  exact ⟨rfl, k _ h.bT⟩
 ·simp only [HH, if_false] at k hv
  obtain ⟨v1, v2⟩ := hv
  repeat (first|(refine aj h ?_;clear h;intro kb M h)|(refine aq h ?_;clear h;intro M h)|refine St.to h ?_|(apply Exists.intro;(repeat apply Exists.intro);refine And.intro rfl ?_)|refine au ?_|refine af ?_|refine ai ?_)
  refine ⟨v1.1, v1.2, ?_⟩
  repeat (first|(refine aj h ?_;clear h;intro kb M h)|(refine aq h ?_;clear h;intro M h)|refine St.to h ?_|(apply Exists.intro;(repeat apply Exists.intro);refine And.intro rfl ?_)|refine au ?_|refine af ?_|refine ai ?_)
  refine u7 h (dJ h2) v1 rfl ?_
  clear h
  intro M h
  repeat (first|(refine aj h ?_;clear h;intro kb M h)|(refine aq h ?_;clear h;intro M h)|refine St.to h ?_|(apply Exists.intro;(repeat apply Exists.intro);refine And.intro rfl ?_)|refine au ?_|refine af ?_|refine ai ?_)
  have JG : ((ae x v.g).fs.set ((ae x v.g).fs.length - 1) ((ae x v.g).top.set (ae x v.g).wt.b v.v))[(ae x v.g).fs.length - 1]? = Option.some ((ae x v.g).top.set (ae x v.g).wt.b v.v) := by
   rw [List.getElem?_set_self]; omega
  refine ⟨v2.1, v2.2, u7 h JG v2 rfl ?_⟩
  clear h
  intro M h
  rw [hU] at h
  repeat (first|(refine aj h ?_;clear h;intro kb M h)|(refine aq h ?_;clear h;intro M h)|refine St.to h ?_|(apply Exists.intro;(repeat apply Exists.intro);refine And.intro rfl ?_)|refine au ?_|refine af ?_|refine ai ?_)
  replace h := cC h gb hl fx ee (by simp)
  have ex : (x.bg v.g (ae x v.g).wt.b v.v).bg v.g (ae x v.g).wt.c some = x.bh v.g ((ae x v.g).bP (((ae x v.g).top.set (ae x v.g).wt.b v.v).set (ae x v.g).wt.c some)) := by
   have e1 := ia (q := (ae x v.g).wt.b) (v := v.v) hg
   have e2 : ∀ (z : Wd) (q u : Int), z.bg v.g q u = z.bh v.g ((ae z v.g).bP ((ae z v.g).top.set q u)) := fun _ _ _ => rfl
   rw [e2 (x.bg v.g (ae x v.g).wt.b v.v), e1]
   have e3 : ((ae x v.g).bP ((ae x v.g).top.set (ae x v.g).wt.b v.v)).top = (ae x v.g).top.set (ae x v.g).wt.b v.v := by
    unfold gT.top gT.bP
    dsimp only
    rw [List.length_set, List.getD_eq_getElem?_getD, List.getElem?_set_self (by omega)]; rfl
   rw [e3]
   simp [Wd.bg, Wd.bh, gT.bP]
  rw [ex] at k
  replace h := aQ (a := a) (p := p) (pa := pa) (dr := dr) (gg := gg) (x := x.bh v.g ((ae x v.g).bP (((ae x v.g).top.set (ae x v.g).wt.b v.v).set (ae x v.g).wt.c some))) (cR hl) h b
  refine gI (b := b) h h0 (by simpa [Wd.bh] using h1) (by show x.ready.length ≤ _; omega) ?_
  clear h
  intro M h
  exact ⟨rfl, k _ h.bT⟩
theorem Ga {v : Wt} (h : Hp R L M) [o : u9 b L pa p gg dr x L'] (hv : vU x v) (hs : x.Sm)
  (k : ∀ M', Hp R (ay (bj pa p gg dr) b (x.sent v) :: L') M' → K (.tuple #[]) M') : aa Tryz.prog 240 #[.pointer (some ⟨b, 0, none⟩), .agg #[.int .i64 v.g, .int .i64 v.cs, .int .i64 v.v]] M K Kp := by
 refine qA ?_
 obtain ⟨hg, hv⟩ := hv
 have zx := hg
 obtain ⟨h0, h1, h2, h3⟩ := zx
 have hs' := hs
 obtain ⟨s1, s2, s3, s4, s5, s6, s7, s8⟩ := hs'
 have h' := jd h (b := b) h0 h1
 clear h
 obtain ⟨a, gb, A, c, hl, fx, ee, h⟩ := h'
 have hl' := hl
 obtain ⟨l1, l2, l3, l4⟩ := hl'
 repeat (first|(refine aj h ?_;clear h;intro kb M h)|(refine aq h ?_;clear h;intro M h)|refine St.to h ?_|(apply Exists.intro;(repeat apply Exists.intro);refine And.intro rfl ?_)|refine au ?_|refine af ?_|refine ai ?_)
 refine uy h fx fun q hq => ?_
 repeat (first|(refine aj h ?_;clear h;intro kb M h)|(refine aq h ?_;clear h;intro M h)|refine St.to h ?_|(apply Exists.intro;(repeat apply Exists.intro);refine And.intro rfl ?_)|refine au ?_|refine af ?_|refine ai ?_)
 unfold Wd.sent at k
 have ex : x.bh v.g (ae x v.g) = x := by
  obtain ⟨y, hy⟩ := aO (l := x.gs) (i := v.g.toNat) (by omega)
  have e : ae x v.g = y := by simp [ae, hy]
  rw [e]
  obtain ⟨hi, rfl⟩ := List.getElem?_eq_some_iff.1 hy
  simp [Wd.bh]
 refine bN.2 ⟨fun HH => ?_, fun HH => ?_⟩
 ·simp only [HH, if_true] at k hv
  repeat (first|(refine aj h ?_;clear h;intro kb M h)|(refine aq h ?_;clear h;intro M h)|refine St.to h ?_|(apply Exists.intro;(repeat apply Exists.intro);refine And.intro rfl ?_)|refine au ?_|refine af ?_|refine ai ?_)
  replace h := cC h gb hl fx ee
  replace h := aQ (a := a) (p := p) (pa := pa) (dr := dr) (gg := gg) (x := x.bh v.g (ae x v.g)) (cR hl) h b
  rw [ex] at h
  refine tM (b := b) (x := x) h hg (hv trivial) hs ?_
  clear h
  intro M h
  repeat (first|(refine aj h ?_;clear h;intro kb M h)|(refine aq h ?_;clear h;intro M h)|refine St.to h ?_|(apply Exists.intro;(repeat apply Exists.intro);refine And.intro rfl ?_)|refine au ?_|refine af ?_|refine ai ?_)
  have Co := tN (k := v.cs) hg
  refine gI (b := b) h Co.1 Co.2.1 (by show x.ready.length ≤ _; omega) ?_
  clear h
  intro M h
  exact ⟨rfl, k _ h.bT⟩
 ·simp only [HH, if_false] at k
  repeat (first|(refine aj h ?_;clear h;intro kb M h)|(refine aq h ?_;clear h;intro M h)|refine St.to h ?_|(apply Exists.intro;(repeat apply Exists.intro);refine And.intro rfl ?_)|refine au ?_|refine af ?_|refine ai ?_)
  replace h := cC h gb hl fx ee
  replace h := aQ (a := a) (p := p) (pa := pa) (dr := dr) (gg := gg) (x := x.bh v.g (ae x v.g)) (cR hl) h b
  rw [ex] at h
  refine gI (b := b) (x := x) h h0 h1 (by omega) ?_
  clear h
  intro M h
  exact ⟨rfl, k _ h.bT⟩
end
def tO (x : Wd) (k : Int) : Prop := 0 ≤ k ∧ k < x.aC.length
instance (x : Wd) (k : Int) : Decidable (tO x k) := by unfold tO; infer_instance
def ny (p : cj) (x : Wd) (k v : Int) : Prop := tO x k ∧ (((dk x.aC k).send v).2.2.1 = true → oF p x ((dk x.aC k).send v).2.1) ∧ ((dk x.aC k).send v).1.Small 1000000
instance (p : cj) (x : Wd) (k v : Int) : Decidable (ny p x k v) := by unfold ny; infer_instance
def tP (x : Wd) (k : Int) : Prop := tO x k ∧ ((dk x.aC k).recv.2.2.2.2.1 = true → vU x (dk x.aC k).recv.2.2.2.1) ∧ (dk x.aC k).recv.1.Small 1000000
instance (x : Wd) (k : Int) : Decidable (tP x k) := by unfold tP; infer_instance
theorem D6 {x : Wd} {k : Int} {c : aP} (h : x.Sm) (hc : c.Small 1000000) : (x.bX k c).Sm := by
 obtain ⟨s1, s2, s3⟩ := h
 refine ⟨fun d hd => ?_, by simpa [Wd.bX] using s2, s3⟩
 rcases mem_set hd with h | rfl
 ·exact s1 d h
 ·exact hc
section
variable {R : Mem} {L L' : List HP} {M : Mem} {K : Value → Mem → Prop} {Kp : List PanicEntry → Mem → Prop} {pa : PA} {p : cj} {gg : List GA} {dr : Value} {b : Nat} {x : Wd}
theorem pT {a : WA} {k : Int} {c : aP} (hl : eB gg a x) : eB gg a (x.bX k c) := by
 obtain ⟨l1, l2, l3, l4⟩ := hl
 exact ⟨l1, l2, by simpa [Wd.bX] using l3, l4⟩
theorem ML {a : WA} {k : Int} (h : Hp R L M) [q : e8 bz L a.cb x.aC L'] (hl : eB gg a x) (hk : tO x k) : ∃ cb, a.cb[k.toNat]? = some cb ∧ x.aC[k.toNat]? = some (dk x.aC k) ∧ Hp R (ay bz cb (dk x.aC k) :: kI bz a.cb x.aC k.toNat :: L') M := by
 obtain ⟨l1, l2, l3, l4⟩ := hl
 obtain ⟨k0, k1⟩ := hk
 obtain ⟨cb, hcb⟩ := aO (l := a.cb) (i := k.toNat) (by omega)
 obtain ⟨y, hy⟩ := aO (l := x.aC) (i := k.toNat) (by omega)
 have e : dk x.aC k = y := by simp [dk, hy]
 rw [e]
 exact ⟨cb, hcb, hy, h.cQ bz hcb hy⟩
theorem AQ {k v : Int} (h : Hp R L M) [o : u9 b L pa p gg dr x L'] (hp : RS xS R pa.k pa.kc p.cases) (hk : ny p x k v) (hs : x.Sm)
  (k1 : ∀ y ok M', x.put p k v = .on (y, ok) → Hp R (ay (bj pa p gg dr) b y :: L') M' → K (.bool ok) M')
  (k2 : ∀ y n M', x.put p k v = .dx n y → Hp R (ay (bj pa p gg dr) b y :: L') M' → Kp [{ v := .iface 340 (.int .i64 n), recovered := false }] M') :
  aa Tryz.prog 209 #[.pointer (some ⟨b, 0, none⟩), .int .i64 k, .int .i64 v] M K Kp := by
 refine rH ?_
 obtain ⟨hc, hr, Hx⟩ := hk
 have hs' := hs
 obtain ⟨s1, s2, s3, s4, s5, s6, s7, s8⟩ := hs'
 have h' := bY h (b := b)
 clear h
 obtain ⟨a, hl, h⟩ := h'
 have hl' := hl
 obtain ⟨l1, l2, l3, l4⟩ := hl'
 have E1 := hc
 obtain ⟨c0, c1⟩ := E1
 have h' := ML h hl hc
 clear h
 obtain ⟨cb, hcb, w5, h⟩ := h'
 repeat (first|(refine aj h ?_;clear h;intro kb M h)|(refine aq h ?_;clear h;intro M h)|refine St.to h ?_|(apply Exists.intro;(repeat apply Exists.intro);refine And.intro rfl ?_)|refine au ?_|refine af ?_|refine ai ?_)
 refine uy h hcb fun q hq => ?_
 have hsc : (dk x.aC k).Small 1000000 := s1 _ (tr c0 c1)
 refine FG h (hsc.mono (by omega)) ?_
 clear h
 intro M h
 replace h := h.dw bz cb hcb (by omega)
 unfold Wd.put at k1 k2
 dsimp only at k1 k2
 generalize (dk x.aC k).send v = s at h k1 k2 hr Hx
 obtain ⟨c', w, ok, e⟩ := s
 dsimp only [Rn] at h k1 k2 hr Hx ⊢
 refine ⟨w.g, w.cs, w.v, ok, e, rfl, ?_⟩
 repeat (first|(refine aj h ?_;clear h;intro kb M h)|(refine aq h ?_;clear h;intro M h)|refine St.to h ?_|(apply Exists.intro;(repeat apply Exists.intro);refine And.intro rfl ?_)|refine au ?_|refine af ?_|refine ai ?_)
 refine bN.2 ⟨fun e10 => ?_, fun e10 => ?_⟩
 ·rw [if_pos e10] at k2
  replace h := aQ (a := a) (p := p) (pa := pa) (dr := dr) (gg := gg) (x := x.bX k c') (pT hl) h b
  exact k2 _ _ _ rfl h.bT
 ·rw [if_neg e10] at k1
  replace h := aQ (a := a) (p := p) (pa := pa) (dr := dr) (gg := gg) (x := x.bX k c') (pT hl) h b
  refine gf.2 ⟨fun ht => ?_, fun ht => ?_⟩
  ·subst ht
   simp only [if_true] at k1
   repeat (first|(refine aj h ?_;clear h;intro kb M h)|(refine aq h ?_;clear h;intro M h)|refine St.to h ?_|(apply Exists.intro;(repeat apply Exists.intro);refine And.intro rfl ?_)|refine au ?_|refine af ?_|refine ai ?_)
   refine oV (b := b) (v := w) h hp (show oF p (x.bX k c') w from hr rfl) (D6 hs Hx) ?_
   clear h
   intro M h
   exact ⟨rfl, k1 _ _ _ rfl h.bT⟩
  ·subst ht
   simp only [Bool.false_eq_true, if_false] at k1
   exact k1 _ _ _ rfl h.bT
theorem AR {k : Int} (h : Hp R L M) [o : u9 b L pa p gg dr x L'] (hk : tP x k) (hs : x.Sm)
  (k1 : ∀ M', Hp R (ay (bj pa p gg dr) b (x.get k).1 :: L') M' → K (.tuple #[.int .i64 (x.get k).2.1, .int .i64 (x.get k).2.2.1, .bool (x.get k).2.2.2]) M') :
  aa Tryz.prog 210 #[.pointer (some ⟨b, 0, none⟩), .int .i64 k] M K Kp := by
 refine rJ ?_
 obtain ⟨hc, hr, Hx⟩ := hk
 have hs' := hs
 obtain ⟨s1, s2, s3, s4, s5, s6, s7, s8⟩ := hs'
 have h' := bY h (b := b)
 clear h
 obtain ⟨a, hl, h⟩ := h'
 have hl' := hl
 obtain ⟨l1, l2, l3, l4⟩ := hl'
 have E1 := hc
 obtain ⟨c0, c1⟩ := E1
 have h' := ML h hl hc
 clear h
 obtain ⟨cb, hcb, w5, h⟩ := h'
 repeat (first|(refine aj h ?_;clear h;intro kb M h)|(refine aq h ?_;clear h;intro M h)|refine St.to h ?_|(apply Exists.intro;(repeat apply Exists.intro);refine And.intro rfl ?_)|refine au ?_|refine af ?_|refine ai ?_)
 refine uy h hcb fun q hq => ?_
 have hsc : (dk x.aC k).Small 1000000 := s1 _ (tr c0 c1)
 refine FH h (hsc.mono (by omega)) ?_
 clear h
 intro M h
 replace h := h.dw bz cb hcb (by omega)
 unfold Wd.get at k1
 dsimp only at k1
 generalize (dk x.aC k).recv = s at h k1 hr Hx
 obtain ⟨c', v, some, w, HI, e⟩ := s
 dsimp only [Ro] at h k1 hr Hx ⊢
 refine ⟨v, some, w.g, w.cs, w.v, HI, e, rfl, ?_⟩
 repeat (first|(refine aj h ?_;clear h;intro kb M h)|(refine aq h ?_;clear h;intro M h)|refine St.to h ?_|(apply Exists.intro;(repeat apply Exists.intro);refine And.intro rfl ?_)|refine au ?_|refine af ?_|refine ai ?_)
 replace h := aQ (a := a) (p := p) (pa := pa) (dr := dr) (gg := gg) (x := x.bX k c') (pT hl) h b
 refine gf.2 ⟨fun ht => ?_, fun ht => ?_⟩
 ·subst ht
  simp only [if_true] at k1
  repeat (first|(refine aj h ?_;clear h;intro kb M h)|(refine aq h ?_;clear h;intro M h)|refine St.to h ?_|(apply Exists.intro;(repeat apply Exists.intro);refine And.intro rfl ?_)|refine au ?_|refine af ?_|refine ai ?_)
  refine Ga (b := b) (v := w) h (show vU (x.bX k c') w from hr rfl) (D6 hs Hx) ?_
  clear h
  intro M h
  repeat (first|(refine aj h ?_;clear h;intro kb M h)|(refine aq h ?_;clear h;intro M h)|refine St.to h ?_|(apply Exists.intro;(repeat apply Exists.intro);refine And.intro rfl ?_)|refine au ?_|refine af ?_|refine ai ?_)
  refine gf.2 ⟨fun hb => ?_, fun hb => ?_⟩
  ·subst hb
   repeat (first|(refine aj h ?_;clear h;intro kb M h)|(refine aq h ?_;clear h;intro M h)|refine St.to h ?_|(apply Exists.intro;(repeat apply Exists.intro);refine And.intro rfl ?_)|refine au ?_|refine af ?_|refine ai ?_)
   exact k1 _ h.bT
  ·subst hb
   exact k1 _ h.bT
 ·subst ht
  simp only [Bool.false_eq_true, if_false] at k1
  repeat (first|(refine aj h ?_;clear h;intro kb M h)|(refine aq h ?_;clear h;intro M h)|refine St.to h ?_|(apply Exists.intro;(repeat apply Exists.intro);refine And.intro rfl ?_)|refine au ?_|refine af ?_|refine ai ?_)
  refine gf.2 ⟨fun hb => ?_, fun hb => ?_⟩
  ·subst hb
   repeat (first|(refine aj h ?_;clear h;intro kb M h)|(refine aq h ?_;clear h;intro M h)|refine St.to h ?_|(apply Exists.intro;(repeat apply Exists.intro);refine And.intro rfl ?_)|refine au ?_|refine af ?_|refine ai ?_)
   exact k1 _ h.bT
  ·subst hb
   exact k1 _ h.bT
end
end Go.Proofs
namespace Go.Proofs
open Go.AF
def aZ (x : Wd) (g q : Int) : Int := (ae x g).top.bQ q
def Wd.D7 (x : Wd) (k g v : Int) : Wd := x.bX k { dk x.aC k with snd := (dk x.aC k).snd ++ [⟨g, 0, v⟩] }
def Wd.D8 (x : Wd) (k g : Int) : Wd := x.bX k { dk x.aC k with dU := (dk x.aC k).dU ++ [⟨g, 0, 0⟩] }
def Wd.send (p : cj) (x : Wd) (g : Int) (i : dB) : Out Wd := match x.put p i.a (aZ x g i.b) with
 | .dx n y => .dx n y
 | .cz l y => .cz l y
 | .on (y, true) => .on y
 | .on (y, false) => .on ((y.D7 i.a g (aZ y g i.b)).block g i)
def Wd.recv (x : Wd) (g : Int) (i : dB) : Wd :=
 if (x.get i.a).2.2.2 then ((x.get i.a).1.bg g i.b (x.get i.a).2.1).bg g i.c (x.get i.a).2.2.1
 else ((x.get i.a).1.D8 i.a g).block g i
def dm (p : cj) (x : Wd) (v : Wt) : Wd := if (ae x v.g).st = 2 then x.received p { v with v := 0 } 0 else x
def Wd.shut (p : cj) (x : Wd) (i : dB) : Out Wd :=
 let s := (dk x.aC i.a).close
 let y := x.bX i.a s.1
 if s.2.2.2 ≠ 0 then .dx (-2) y else if 0 < s.2.2.1.length then .dx (-1) y else .on (s.2.1.foldl (dm p) y)
def va (p : cj) (x : Wd) : List Wt → Prop
 | [] => True
 | v :: l => x.Sm ∧ 0 ≤ v.g ∧ v.g < x.gs.length ∧ ((ae x v.g).st = 2 → oF p x { v with v := 0 }) ∧ va p (dm p x v) l
instance Gb (p : cj) : ∀ (l : List Wt) (x : Wd), Decidable (va p x l)
 | [], _ => isTrue trivial
 | v :: l, x => by
  have := Gb p l (dm p x v)
  unfold va; infer_instance
theorem AS {p : cj} : ∀ {l : List Wt} {x : Wd} {i : Nat} {v : Wt}, va p x l → l[i]? = some v →
  let y := (l.take i).foldl (dm p) x
  y.Sm ∧ 0 ≤ v.g ∧ v.g < y.gs.length ∧ ((ae y v.g).st = 2 → oF p y { v with v := 0 })
 | [], _, _, _, _, h => by simp at h
 | w :: l, x, 0, v, h, hv => by simp at hv; subst hv; exact ⟨h.1, h.2.1, h.2.2.1, h.2.2.2.1⟩
 | w :: l, x, i + 1, v, h, hv => AS (l := l) h.2.2.2.2 (by simpa using hv)
def Wd.emit (x : Wd) (g : Int) (i : dB) : Out Wd := if x.out.length ≥ 1000 then .dx (-6) x else .on { x with out := x.out ++ [aZ x g i.a] }
def Wd.spawn (x : Wd) (g : Int) (i : dB) : Out Wd := if x.gs.length ≥ 100 then .dx (-5) x else
 .on ((Wd.dV { x with gs := x.gs ++ [⟨0, [fM.begin i.a (aZ x g i.b)], .zero⟩] } (x.gs.length : Int)).bg g i.c (x.gs.length : Int))
def Wd.call (x : Wd) (g : Int) (i : dB) : Out Wd := if (ae x g).fs.length ≥ 16 then .dx (-4) x else
 .on (x.bh g { ae x g with fs := (ae x g).fs ++ [⟨i.a, 0, [aZ x g i.b, 0, 0, 0, 0, 0, 0, 0], i.c⟩] })
def gT.back (y : gT) (v : Int) : gT := { y with fs := (y.fs.take (y.fs.length - 1)).set (y.fs.length - 2) ((y.fs.getD (y.fs.length - 2) ⟨0, 0, [], 0⟩).set y.top.qh v) }
def Wd.back (x : Wd) (g : Int) (i : dB) : Wd := if 2 ≤ (ae x g).fs.length then x.bh g ((ae x g).back (aZ x g i.a))
 else if g = 0 then { x.bh g { ae x g with st := 4 } with end_ := 1 } else x.bh g { ae x g with st := 4 }
end Go.Proofs
namespace Go.Proofs
open Go.AF
set_option maxRecDepth 100000
set_option maxHeartbeats 1000000
attribute [local irreducible] aH cK dM b8 az dD aF aI aX aN bl aM
section
variable {R : Mem} {L L' : List HP} {M : Mem} {K : Value → Mem → Prop} {Kp : List PanicEntry → Mem → Prop} {pa : PA} {p : cj} {gg : List GA} {dr : Value} {b : Nat} {x : Wd}
theorem gk {g : Int} {A : Option Addr} {c : Nat} (h : Hp R L M) [o : u9 b L pa p gg dr x L'] (h0 : 0 ≤ g) (hg : g < x.gs.length) (ee : gg[g.toNat]? = some (A, c)) :
  ∃ (a : WA) (gb : Nat), eB gg a x ∧ a.gb[g.toNat]? = some gb ∧
   Hp R (pt gb (oU (ae x g) A c) 229 :: tJ A c (ae x g).fs :: pt b (lf pa p dr a x) 161 :: kI fF a.gb (x.gs.zip gg) g.toNat :: qV a x L') M := by
 obtain ⟨a, gb, A', c', hl, fx, Xt, h1⟩ := jd h (b := b) h0 hg
 rw [ee] at Xt
 cases Xt
 exact ⟨a, gb, hl, fx, h1⟩
theorem D9 {g q : Int} {bs c oo : Nat} {G : Int → Prop} (h : Hp R L M) [o : u9 b L pa p gg dr x L'] (hg : aW x g) (ee : gg[g.toNat]? = some (some ⟨bs, 0, none⟩, c)) (hq : bx q) (e : oo = ((ae x g).fs.length - 1) * 11 + 2 + q.toNat)
  (k : G (aZ x g q)) : aH (M.ld ⟨bs, oo, none⟩) .i64 G := by
 obtain ⟨h0, h1, h2, h3⟩ := hg
 obtain ⟨a, gb, hl, fx, h4⟩ := gk h (b := b) h0 h1 ee
 exact tK h4 (dJ h2) hq e k
theorem kL {g q v : Int} {bs c oo : Nat} {G : Mem → Prop} (h : Hp R L M) [o : u9 b L pa p gg dr x L'] (hg : aW x g) (ee : gg[g.toNat]? = some (some ⟨bs, 0, none⟩, c)) (hq : bx q) (e : oo = ((ae x g).fs.length - 1) * 11 + 2 + q.toNat)
  (k : ∀ M', Hp R (ay (bj pa p gg dr) b (x.bg g q v) :: L') M' → G M') : aI M ⟨bs, oo, none⟩ (.int .i64 v) G := by
 obtain ⟨h0, h1, h2, h3⟩ := hg
 obtain ⟨a, gb, hl, fx, h4⟩ := gk h (b := b) h0 h1 ee
 refine u7 h4 (dJ h2) hq e fun M' h5 => ?_
 replace h5 := cC h5 gb hl fx ee (by simp)
 exact k M' (aQ (a := a) (p := p) (pa := pa) (dr := dr) (gg := gg) (x := x.bg g q v) (cR hl) h5 b)
theorem Rw {G : Option Addr → Nat → Nat → Prop} (h : Hp R L M) [o : u9 b L pa p gg dr x L'] (k1 : ∀ a : WA, eB gg a x → Hp R (pt b (lf pa p dr a x) 161 :: aV fF a.gb (x.gs.zip gg) :: qV a x L') M → G a.ac a.cb.length a.cc) : az (M.ld ⟨b, 0 + 6, none⟩) G := by
 obtain ⟨a, hl, h1⟩ := bY h (b := b)
 exact be h1 (k1 a hl h1)
def Out.Ok {α : Type} (r : Out α) (k1 : α → Prop) (k2 : Int → Wd → Prop) (k3 : List PanicEntry → Wd → Prop := fun _ _ => True) : Prop := match r with
 | .on y => k1 y
 | .dx n y => k2 n y
 | .cz l y => k3 l y
def yx (x : Wd) (k : Int) : Prop := tO x k ∧ (dk x.aC k).Small 999999
instance (x : Wd) (k : Int) : Decidable (yx x k) := by unfold yx; infer_instance
def Gc (p : cj) (x : Wd) (g : Int) (i : dB) : Prop := aW x g ∧ bx i.b ∧ ny p x i.a (aZ x g i.b) ∧
 match x.put p i.a (aZ x g i.b) with
 | .on (y, false) => aW y g ∧ (ae y g).fs.length = (ae x g).fs.length ∧ yx y i.a
 | _ => True
theorem Gd {g : Int} {i : dB} {bs c : Nat} (h : Hp R L M) [o : u9 b L pa p gg dr x L'] (hp : RS xS R pa.k pa.kc p.cases) (ee : gg[g.toNat]? = some (some ⟨bs, 0, none⟩, c)) (hk : Gc p x g i) (hs : x.Sm)
  (k : Out.Ok (x.send p g i) (fun y => ∀ M', Hp R (ay (bj pa p gg dr) b y :: L') M' → K (.tuple #[]) M')
   (fun n y => ∀ M', Hp R (ay (bj pa p gg dr) b y :: L') M' → Kp [{ v := .iface 340 (.int .i64 n), recovered := false }] M')) :
  aa Tryz.prog 215 #[.pointer (some ⟨b, 0, none⟩), .int .i64 g, .pointer (some ⟨bs, ((ae x g).fs.length - 1) * 11, none⟩), .agg #[.int .i64 i.op, .int .i64 i.a, .int .i64 i.b, .int .i64 i.c]] M K Kp := by
 refine qp ?_
 obtain ⟨hg, hb, hput, hw⟩ := hk
 repeat (first|(refine aj h ?_;clear h;intro kb M h)|(refine aq h ?_;clear h;intro M h)|refine St.to h ?_|(apply Exists.intro;(repeat apply Exists.intro);refine And.intro rfl ?_)|refine au ?_|refine af ?_|refine ai ?_)
 refine ⟨hb.1, hb.2, D9 (b := b) h hg ee hb rfl ?_⟩
 unfold Wd.send at k
 refine AQ (b := b) h hp hput hs ?_ ?_
 ·intro y ok M' e h
  rw [e] at k hw
  cases ok with
  | true =>
   dsimp only at k
   refine nw (ai ?_)
   exact k _ h.bT
  | false =>
   dsimp only at k hw
   obtain ⟨Ea, hfl, w5, Hx⟩ := hw
   refine nw (af ?_)
   refine Rw h fun a hl h => ?_
   have hl' := hl
   obtain ⟨l1, l2, l3, l4⟩ := hl'
   have E1 := w5
   obtain ⟨c0, c1⟩ := E1
   have h' := ML h hl w5
   clear h
   obtain ⟨cb, hcb, Ux, h⟩ := h'
   repeat (first|(refine aj h ?_;clear h;intro kb M h)|(refine aq h ?_;clear h;intro M h)|refine St.to h ?_|(apply Exists.intro;(repeat apply Exists.intro);refine And.intro rfl ?_)|refine au ?_|refine af ?_|refine ai ?_)
   refine uy h hcb fun q hq => ?_
   repeat (first|(refine aj h ?_;clear h;intro kb M h)|(refine aq h ?_;clear h;intro M h)|refine St.to h ?_|(apply Exists.intro;(repeat apply Exists.intro);refine And.intro rfl ?_)|refine au ?_|refine af ?_|refine ai ?_)
   refine ⟨hb.1, hb.2, ?_⟩
   have h2 := h.uU bz cb hcb Ux
   have h3 := aQ (a := a) (p := p) (pa := pa) (dr := dr) (gg := gg) (x := y) hl h2 b
   refine D9 (b := b) h3 Ea ee hb (by rw [hfl]) ?_
   clear h2 h3
   refine oC (w := ⟨g, 0, aZ y g i.b⟩) h (Hx.mono (by omega)) ?_
   clear h
   intro M h
   replace h := h.dw bz cb hcb (by omega)
   replace h := aQ (a := a) (p := p) (pa := pa) (dr := dr) (gg := gg) (x := y.D7 i.a g (aZ y g i.b)) (pT hl) h b
   repeat (first|(refine aj h ?_;clear h;intro kb M h)|(refine aq h ?_;clear h;intro M h)|refine St.to h ?_|(apply Exists.intro;(repeat apply Exists.intro);refine And.intro rfl ?_)|refine au ?_|refine af ?_|refine ai ?_)
   refine kJ (b := b) (i := i) (x := y.D7 i.a g (aZ y g i.b)) h Ea.1 Ea.2.1 ?_
   clear h
   intro M h
   exact ⟨rfl, k _ h.bT⟩
 ·intro y n M' e h
  rw [e] at k
  exact k _ h.bT
def vb (x : Wd) (g : Int) (i : dB) : Prop := aW x g ∧ bx i.b ∧ bx i.c ∧ tP x i.a ∧ aW (x.get i.a).1 g ∧ (ae (x.get i.a).1 g).fs.length = (ae x g).fs.length ∧ ((x.get i.a).2.2.2 = false → yx (x.get i.a).1 i.a)
theorem Ge {g : Int} {i : dB} {bs c : Nat} (h : Hp R L M) [o : u9 b L pa p gg dr x L'] (ee : gg[g.toNat]? = some (some ⟨bs, 0, none⟩, c)) (hk : vb x g i) (hs : x.Sm)
  (k : ∀ M', Hp R (ay (bj pa p gg dr) b (x.recv g i) :: L') M' → K (.tuple #[]) M') :
  aa Tryz.prog 216 #[.pointer (some ⟨b, 0, none⟩), .int .i64 g, .pointer (some ⟨bs, ((ae x g).fs.length - 1) * 11, none⟩), .agg #[.int .i64 i.op, .int .i64 i.a, .int .i64 i.b, .int .i64 i.c]] M K Kp := by
 refine qq ?_
 obtain ⟨hg, hb, hc, Uy, Ea, hfl, hw⟩ := hk
 repeat (first|(refine aj h ?_;clear h;intro kb M h)|(refine aq h ?_;clear h;intro M h)|refine St.to h ?_|(apply Exists.intro;(repeat apply Exists.intro);refine And.intro rfl ?_)|refine au ?_|refine af ?_|refine ai ?_)
 refine AR (b := b) h Uy hs ?_
 clear h
 intro M h
 unfold Wd.recv at k
 generalize x.get i.a = r at h k Ea hfl hw
 obtain ⟨y, v, sm, ok⟩ := r
 dsimp only at h k Ea hfl hw ⊢
 refine ⟨v, sm, ok, rfl, ?_⟩
 cases ok with
 | true =>
  simp only [if_true] at k
  refine ai ?_
  repeat (first|(refine aj h ?_;clear h;intro kb M h)|(refine aq h ?_;clear h;intro M h)|refine St.to h ?_|(apply Exists.intro;(repeat apply Exists.intro);refine And.intro rfl ?_)|refine au ?_|refine af ?_|refine ai ?_)
  refine ⟨hb.1, hb.2, ?_⟩
  repeat (first|(refine aj h ?_;clear h;intro kb M h)|(refine aq h ?_;clear h;intro M h)|refine St.to h ?_|(apply Exists.intro;(repeat apply Exists.intro);refine And.intro rfl ?_)|refine au ?_|refine af ?_|refine ai ?_)
  refine kL (b := b) h Ea ee hb (by rw [hfl]) ?_
  clear h
  intro M h
  repeat (first|(refine aj h ?_;clear h;intro kb M h)|(refine aq h ?_;clear h;intro M h)|refine St.to h ?_|(apply Exists.intro;(repeat apply Exists.intro);refine And.intro rfl ?_)|refine au ?_|refine af ?_|refine ai ?_)
  have Co := ie (q := i.b) (v := v) Ea
  have Fi : (ae (y.bg g i.b v) g).fs.length = (ae x g).fs.length := by rw [ia Ea]; simpa [gT.bP] using hfl
  refine ⟨hc.1, hc.2, kL (b := b) h Co ee hc (by rw [Fi]) ?_⟩
  clear h
  intro M h
  repeat (first|(refine aj h ?_;clear h;intro kb M h)|(refine aq h ?_;clear h;intro M h)|refine St.to h ?_|(apply Exists.intro;(repeat apply Exists.intro);refine And.intro rfl ?_)|refine au ?_|refine af ?_|refine ai ?_)
  exact k _ h.bT
 | false =>
  simp only [Bool.false_eq_true, if_false] at k
  refine af ?_
  obtain ⟨w5, Hx⟩ := hw rfl
  refine Rw h fun a hl h => ?_
  have hl' := hl
  obtain ⟨l1, l2, l3, l4⟩ := hl'
  have E1 := w5
  obtain ⟨c0, c1⟩ := E1
  have h' := ML h hl w5
  clear h
  obtain ⟨cb, hcb, Ux, h⟩ := h'
  repeat (first|(refine aj h ?_;clear h;intro kb M h)|(refine aq h ?_;clear h;intro M h)|refine St.to h ?_|(apply Exists.intro;(repeat apply Exists.intro);refine And.intro rfl ?_)|refine au ?_|refine af ?_|refine ai ?_)
  refine uy h hcb fun q hq => ?_
  refine oD (w := ⟨g, 0, 0⟩) h (Hx.mono (by omega)) ?_
  clear h
  intro M h
  replace h := h.dw bz cb hcb (by omega)
  replace h := aQ (a := a) (p := p) (pa := pa) (dr := dr) (gg := gg) (x := y.D8 i.a g) (pT hl) h b
  repeat (first|(refine aj h ?_;clear h;intro kb M h)|(refine aq h ?_;clear h;intro M h)|refine St.to h ?_|(apply Exists.intro;(repeat apply Exists.intro);refine And.intro rfl ?_)|refine au ?_|refine af ?_|refine ai ?_)
  refine kJ (b := b) (i := i) (x := y.D8 i.a g) h Ea.1 Ea.2.1 ?_
  clear h
  intro M h
  exact ⟨rfl, k _ h.bT⟩
theorem Gf {g : Int} {i : dB} {bs c : Nat} (h : Hp R L M) [o : u9 b L pa p gg dr x L'] (ee : gg[g.toNat]? = some (some ⟨bs, 0, none⟩, c)) (hg : aW x g) (ha : bx i.a) (hs : x.Sm)
  (k : Out.Ok (x.emit g i) (fun y => ∀ M', Hp R (ay (bj pa p gg dr) b y :: L') M' → K (.tuple #[]) M')
   (fun n y => ∀ M', Hp R (ay (bj pa p gg dr) b y :: L') M' → Kp [{ v := .iface 340 (.int .i64 n), recovered := false }] M')) :
  aa Tryz.prog 221 #[.pointer (some ⟨b, 0, none⟩), .int .i64 g, .pointer (some ⟨bs, ((ae x g).fs.length - 1) * 11, none⟩), .agg #[.int .i64 i.op, .int .i64 i.a, .int .i64 i.b, .int .i64 i.c]] M K Kp := by
 refine qv ?_
 obtain ⟨s1, s2, s3, s4, s5, s6, s7, s8⟩ := hs
 have zx := hg
 obtain ⟨h0, h1, h2, h3⟩ := zx
 unfold Wd.emit at k
 refine aj h ?_
 clear h
 intro kb M h
 have h' := gk h (b := b) h0 h1 ee
 clear h
 obtain ⟨a, gb, hl, fx, h⟩ := h'
 have hl' := hl
 obtain ⟨l1, l2, l3, l4⟩ := hl'
 have ex : x.bh g (ae x g) = x := by
  obtain ⟨y, hy⟩ := aO (l := x.gs) (i := g.toNat) (by omega)
  have e : ae x g = y := by simp [ae, hy]
  rw [e]
  obtain ⟨hi, rfl⟩ := List.getElem?_eq_some_iff.1 hy
  simp [Wd.bh]
 repeat (first|(refine aj h ?_;clear h;intro kb M h)|(refine aq h ?_;clear h;intro M h)|refine St.to h ?_|(apply Exists.intro;(repeat apply Exists.intro);refine And.intro rfl ?_)|refine au ?_|refine af ?_|refine ai ?_)
 refine aJ.2 ⟨fun hn => ?_, fun hn => ?_⟩
 ·rw [if_pos (by omega)] at k
  replace h := cC h gb hl fx ee
  have kq := cR (y := ae x g) (g := g) hl
  replace h := aQ (a := a) (p := p) (pa := pa) (dr := dr) (gg := gg) (x := x.bh g (ae x g)) kq h b
  rw [ex] at h
  exact k _ h.bT
 ·rw [if_neg (by omega)] at k
  repeat (first|(refine aj h ?_;clear h;intro kb M h)|(refine aq h ?_;clear h;intro M h)|refine St.to h ?_|(apply Exists.intro;(repeat apply Exists.intro);refine And.intro rfl ?_)|refine au ?_|refine af ?_|refine ai ?_)
  refine ⟨ha.1, ha.2, tK h (dJ h2) ha rfl ?_⟩
  repeat (first|(refine aj h ?_;clear h;intro kb M h)|(refine aq h ?_;clear h;intro M h)|refine St.to h ?_|(apply Exists.intro;(repeat apply Exists.intro);refine And.intro rfl ?_)|refine au ?_|refine af ?_|refine ai ?_)
  refine h.bD BX [aZ x g i.a] rfl rfl (by simp; omega) ?_
  clear h
  intro A' c' M h
  repeat (first|(refine aj h ?_;clear h;intro kb M h)|(refine aq h ?_;clear h;intro M h)|refine St.to h ?_|(apply Exists.intro;(repeat apply Exists.intro);refine And.intro rfl ?_)|refine au ?_|refine af ?_|refine ai ?_)
  replace h := cC h gb hl fx ee
  have kq := cR (y := ae x g) (g := g) hl
  have h5 := aQ (a := { a with ao := A', co := c' }) (p := p) (pa := pa) (dr := dr) (gg := gg) (x := { x.bh g (ae x g) with out := x.out ++ [aZ x g i.a] }) kq h b
  rw [ex] at h5
  exact k _ h5.bT
end
theorem Rx : bu Tryz.prog 155 224 1 8 [.pointer none] := bu.mk' (zv := .pointer none) (by kernel_rfl) (by kernel_rfl) rfl (by omega)
section
variable {R : Mem} {L L' : List HP} {M : Mem} {K : Value → Mem → Prop} {Kp : List PanicEntry → Mem → Prop} {pa : PA} {p : cj} {gg : List GA} {dr : Value} {b : Nat} {x : Wd}
def ve (x : Wd) (fn v : Int) : Wd := { x with gs := x.gs ++ [⟨0, [fM.begin fn v], .zero⟩] }
theorem MM {a : WA} {k bs : Nat} {A' : Option Addr} {c' : Nat} {fn v : Int} (hl : eB gg a x)
  (h : Hp R (pt b (lf pa p dr { a with ag := A', cg := c', gb := a.gb ++ [k] } x) 161 :: yq A' c' (a.gb ++ [k]) :: pt k [.int .i64 0, .slice (some ⟨bs, 0, none⟩) 1 1, .int .i64 0, .int .i64 0, .int .i64 0, .int .i64 0] 229 ::
   tJ (some ⟨bs, 0, none⟩) 1 [fM.begin fn v] :: aV fF a.gb (x.gs.zip gg) :: yu a.ac a.cc a.cb :: aV bz a.cb x.aC :: yw a.al a.cl a.lb :: aV fu a.lb x.aU :: fL a.ah a.ch x.hl :: xQ a.ao a.co x.out :: kA a.ar a.cr x.ready :: L) M) :
  Hp R (ay (bj pa p (gg ++ [(some ⟨bs, 0, none⟩, 1)]) dr) b (ve x fn v) :: L) M := by
 obtain ⟨l1, l2, l3, l4⟩ := hl
 have h1 := lW h k
 have h2 := h1.jP fF k (by rw [List.length_zip]; omega)
 have e : x.gs.zip gg ++ [(⟨0, [fM.begin fn v], ⟨0, 0, 0, 0⟩⟩, (some ⟨bs, 0, none⟩, 1))] = (ve x fn v).gs.zip (gg ++ [(some ⟨bs, 0, none⟩, 1)]) := by
  unfold ve
  rw [List.zip_append (by omega)]; rfl
 rw [e] at h2
 exact aQ (a := { a with ag := A', cg := c', gb := a.gb ++ [k] }) (p := p) (pa := pa) (dr := dr) (gg := gg ++ [(some ⟨bs, 0, none⟩, 1)]) (x := ve x fn v) ⟨by simp [ve, l1], by simp [ve, l2], l3, l4⟩ h2 b
theorem Gg {g fn v : Int} (hg : aW x g) : ae (ve x fn v) g = ae x g := by
 obtain ⟨h0, h1, h2, h3⟩ := hg
 unfold ae ve
 dsimp only
 rw [List.getD_eq_getElem?_getD, List.getElem?_append_left (by omega), ← List.getD_eq_getElem?_getD]
theorem Eb {g : Int} {i : dB} {bs c : Nat} (h : Hp R L M) [o : u9 b L pa p gg dr x L'] (ee : gg[g.toNat]? = some (some ⟨bs, 0, none⟩, c)) (hg : aW x g) (hb : bx i.b) (hc : bx i.c) (hs : x.Sm)
  (k : Out.Ok (x.spawn g i) (fun y => ∀ kM M', Hp R (ay (bj pa p kM dr) b y :: L') M' → K (.tuple #[]) M')
   (fun n y => ∀ M', Hp R (ay (bj pa p gg dr) b y :: L') M' → Kp [{ v := .iface 340 (.int .i64 n), recovered := false }] M')) :
  aa Tryz.prog 213 #[.pointer (some ⟨b, 0, none⟩), .int .i64 g, .pointer (some ⟨bs, ((ae x g).fs.length - 1) * 11, none⟩), .agg #[.int .i64 i.op, .int .i64 i.a, .int .i64 i.b, .int .i64 i.c]] M K Kp := by
 refine oI ?_
 obtain ⟨s1, s2, s3, s4, s5, s6, s7, s8⟩ := hs
 unfold Wd.spawn at k
 refine aj h ?_
 clear h
 intro kb M h
 have hC := h
 have h' := bY h (b := b)
 clear h
 obtain ⟨a, hl, h⟩ := h'
 have hl' := hl
 obtain ⟨l1, l2, l3, l4⟩ := hl'
 refine be h ?_
 refine aJ.2 ⟨fun hn => ?_, fun hn => ?_⟩
 ·rw [if_pos (by omega)] at k
  exact k _ (hC.drop.pick o.pick)
 rw [if_neg (by omega)] at k
 refine be h ?_
 refine ⟨fun vs M => ∃ bs', Hp R (ay (bj pa p (gg ++ [(some ⟨bs', 0, none⟩, 1)]) dr) b (ve x i.a (aZ x g i.b)) :: pt kb [.int .i64 i.op, .int .i64 i.a, .int .i64 i.b, .int .i64 i.c] 27 :: L') M, ?_, ?_⟩
 ·repeat (first|(refine aj h ?_;clear h;intro kb M h)|(refine aq h ?_;clear h;intro M h)|refine St.to h ?_|(apply Exists.intro;(repeat apply Exists.intro);refine And.intro rfl ?_)|refine au ?_|refine af ?_|refine ai ?_)
  refine ⟨hb.1, hb.2, D9 (b := b) hC hg ee hb rfl ?_⟩
  clear hC
  refine ⟨?_, ?_, trivial⟩
  ·repeat (first|(refine aj h ?_;clear h;intro kb M h)|(refine aq h ?_;clear h;intro M h)|refine St.to h ?_|(apply Exists.intro;(repeat apply Exists.intro);refine And.intro rfl ?_)|refine au ?_|refine af ?_|refine ai ?_)
   refine oT h ?_
   clear h
   intro bs' M h
   repeat (first|(refine aj h ?_;clear h;intro kb M h)|(refine aq h ?_;clear h;intro M h)|refine St.to h ?_|(apply Exists.intro;(repeat apply Exists.intro);refine And.intro rfl ?_)|refine au ?_|refine af ?_|refine ai ?_)
   refine h.bD Rx [_] rfl rfl (by simp; omega) ?_
   clear h
   intro A' c' M h
   repeat (first|(refine aj h ?_;clear h;intro kb M h)|(refine aq h ?_;clear h;intro M h)|refine St.to h ?_|(apply Exists.intro;(repeat apply Exists.intro);refine And.intro rfl ?_)|refine au ?_|refine af ?_|refine ai ?_)
   exact ⟨bs', MM hl (h.sub bM)⟩
  ·refine oT h ?_
   clear h
   intro bs' M h
   repeat (first|(refine aj h ?_;clear h;intro kb M h)|(refine aq h ?_;clear h;intro M h)|refine St.to h ?_|(apply Exists.intro;(repeat apply Exists.intro);refine And.intro rfl ?_)|refine au ?_|refine af ?_|refine ai ?_)
   refine h.bD Rx [_] rfl rfl (by simp; omega) ?_
   clear h
   intro A' c' M h
   repeat (first|(refine aj h ?_;clear h;intro kb M h)|(refine aq h ?_;clear h;intro M h)|refine St.to h ?_|(apply Exists.intro;(repeat apply Exists.intro);refine And.intro rfl ?_)|refine au ?_|refine af ?_|refine ai ?_)
   exact ⟨bs', MM hl (h.sub bM)⟩
 ·clear h hC
  rintro _ M ⟨bs', h⟩
  have hlen : (ve x i.a (aZ x g i.b)).gs.length = x.gs.length + 1 := by simp [ve]
  have wq : (x.gs.length : Int) = (a.gb.length : Int) := by omega
  rw [← wq]
  refine gI (b := b) h (by omega) (by omega) (by show x.ready.length ≤ _; omega) ?_
  clear h
  intro M h
  repeat (first|(refine aj h ?_;clear h;intro kb M h)|(refine aq h ?_;clear h;intro M h)|refine St.to h ?_|(apply Exists.intro;(repeat apply Exists.intro);refine And.intro rfl ?_)|refine au ?_|refine af ?_|refine ai ?_)
  have Co : ae ((ve x i.a (aZ x g i.b)).dV (x.gs.length : Int)) g = ae x g := by
   rw [← Gg (fn := i.a) (v := aZ x g i.b) hg]
   obtain ⟨h0, h1, _⟩ := hg
   have hne : x.gs.length ≠ g.toNat := by omega
   simp [ae, Wd.dV, Wd.bh, List.getElem?_set, hne]
  have hg3 : aW ((ve x i.a (aZ x g i.b)).dV (x.gs.length : Int)) g := by
   refine ⟨hg.1, ?_, ?_, ?_⟩
   ·have h1 := hg.2.1
    simp only [Wd.dV, Wd.bh, List.length_set, hlen]; omega
   ·rw [Co]; exact hg.2.2.1
   ·rw [Co]; exact hg.2.2.2
  have Xu : (gg ++ [(some (⟨bs', 0, none⟩ : Addr), 1)])[g.toNat]? = some (some ⟨bs, 0, none⟩, c) := by
   rw [List.getElem?_append_left (by have := hg.2.1; have := hg.1; omega)]; exact ee
  refine ⟨hc.1, hc.2, kL (b := b) h hg3 Xu hc (by rw [Co]) ?_⟩
  clear h
  intro M h
  repeat (first|(refine aj h ?_;clear h;intro kb M h)|(refine aq h ?_;clear h;intro M h)|refine St.to h ?_|(apply Exists.intro;(repeat apply Exists.intro);refine And.intro rfl ?_)|refine au ?_|refine af ?_|refine ai ?_)
  exact k _ _ h.bT
end
section
variable {R : Mem} {L L' : List HP} {M : Mem} {K : Value → Mem → Prop} {Kp : List PanicEntry → Mem → Prop} {pa : PA} {p : cj} {gg : List GA} {dr : Value} {b : Nat} {x : Wd}
def m7 (p : cj) (x : Wd) (i : dB) : Prop := tO x i.a ∧ (dk x.aC i.a).dU.length ≤ 1000000 ∧
 ((dk x.aC i.a).close.2.2.2 = 0 → (dk x.aC i.a).close.2.2.1 = [] → va p (x.bX i.a (dk x.aC i.a).close.1) (dk x.aC i.a).close.2.1)
theorem Gh {g : Int} {i : dB} {f : Value} {bf of' : Nat} (h : Hp R L M) [o : u9 b L pa p gg dr x L'] (hp : RS xS R pa.k pa.kc p.cases) (hk : m7 p x i) (hs : x.Sm)
  (k : Out.Ok (x.shut p i) (fun y => ∀ M', Hp R (ay (bj pa p gg dr) b y :: L') M' → K (.tuple #[]) M')
   (fun n y => ∀ M', Hp R (ay (bj pa p gg dr) b y :: L') M' → Kp [{ v := .iface 340 (.int .i64 n), recovered := false }] M')) :
  aa Tryz.prog 217 #[.pointer (some ⟨b, 0, none⟩), .int .i64 g, .pointer (some ⟨bf, of', none⟩), .agg #[.int .i64 i.op, .int .i64 i.a, .int .i64 i.b, .int .i64 i.c]] M K Kp := by
 refine qt ?_
 obtain ⟨w5, hlen, hsh⟩ := hk
 obtain ⟨s1, s2, s3, s4, s5, s6, s7, s8⟩ := hs
 unfold Wd.shut at k
 dsimp only at k
 refine aj h ?_
 clear h
 intro kb M h
 have h' := bY h (b := b)
 clear h
 obtain ⟨a, hl, h⟩ := h'
 have hl' := hl
 obtain ⟨l1, l2, l3, l4⟩ := hl'
 have E1 := w5
 obtain ⟨c0, c1⟩ := E1
 have h' := ML h hl w5
 clear h
 obtain ⟨cb, hcb, Ux, h⟩ := h'
 repeat (first|(refine aj h ?_;clear h;intro kb M h)|(refine aq h ?_;clear h;intro M h)|refine St.to h ?_|(apply Exists.intro;(repeat apply Exists.intro);refine And.intro rfl ?_)|refine au ?_|refine af ?_|refine ai ?_)
 refine uy h hcb fun q hq => ?_
 have jx : (dk x.aC i.a).close.2.1.length ≤ 1000000 := by
  unfold aP.close; split <;> simp [hlen]
 refine DF h ?_
 clear h
 intro A ca B cb' M h
 replace h := h.dw bz cb hcb (by omega)
 generalize (dk x.aC i.a).close = s at h k hsh jx
 obtain ⟨c', r, sn, e⟩ := s
 dsimp only at h k hsh jx ⊢
 refine ⟨A, _, ca, B, _, cb', e, rfl, ?_⟩
 replace h := aQ (a := a) (p := p) (pa := pa) (dr := dr) (gg := gg) (x := x.bX i.a c') (pT hl) h b
 refine eu.2 ⟨fun he => ?_, fun he => ?_⟩
 ·rw [if_pos he] at k
  exact k _ h.bT
 rw [if_neg (by simpa using he)] at k
 refine aJ.2 ⟨fun hn => ?_, fun hn => ?_⟩
 ·rw [if_pos (by omega)] at k
  exact k _ h.bT
 rw [if_neg (by omega)] at k
 have Xv : sn = [] := by cases sn with
  | nil => rfl
  | cons _ _ => simp at hn
 have hok := hsh he Xv
 refine ⟨fun d vs M => ∃ (j : Nat), vs = [.int .i64 (j : Int)] ∧ d = r.length - j ∧ j ≤ r.length ∧ Hp R (ay (bj pa p gg dr) b ((r.take j).foldl (dm p) (x.bX i.a c')) :: th A ca r :: L') M, ⟨_, 0, rfl, rfl, by omega, h.sub bM⟩, ?_⟩
 clear h
 rintro d _ nn M ⟨j, si, hd, hj, h⟩
 simp only [List.cons.injEq, Value.int.injEq, and_true, true_and] at si
 subst si
 refine aJ.2 ⟨fun hlt => ?_, fun hge => ?_⟩
 ·obtain ⟨w, hw⟩ := aO (l := r) (i := j) (by omega)
  obtain ⟨t1, t2, t3, t4⟩ := AS hok hw
  have hstep : (r.take (j + 1)).foldl (dm p) (x.bX i.a c') = dm p ((r.take j).foldl (dm p) (x.bX i.a c')) w := by
   rw [cV hw, List.foldl_append]; rfl
  generalize (r.take j).foldl (dm p) (x.bX i.a c') = y at h t1 t3 t4 hstep
  obtain ⟨qa, rfl⟩ := h.bA (A := A) (by omega) (by decide)
  refine ⟨by omega, hlt, bp ?_⟩
  simp only [Int.toNat_natCast]
  refine bn (Src.at (h.src (A := some ⟨qa, 0, none⟩)) h (i := j) (j := 0) hw rfl (by simp [iC])) ?_
  refine bn (Src.at (h.src (A := some ⟨qa, 0, none⟩)) h (i := j) (j := 1) hw rfl (by simp [iC])) ?_
  refine bn (Src.at (h.src (A := some ⟨qa, 0, none⟩)) h (i := j) (j := 2) hw rfl (by simp [iC])) ?_
  refine aj h ?_
  clear h
  intro kw M h
  refine aq h ?_
  clear h; intro M h
  refine aq h ?_
  clear h; intro M h
  refine aq h ?_
  clear h; intro M h
  have hC := h
  have h' := jd h (b := b) t2 t3
  clear h
  obtain ⟨a2, gb, A2, c2, kq, fx, Xu, h⟩ := h'
  have Uz := kq
  obtain ⟨m1, m2, m3, m4⟩ := Uz
  repeat (first|(refine aj h ?_;clear h;intro kb M h)|(refine aq h ?_;clear h;intro M h)|refine St.to h ?_|(apply Exists.intro;(repeat apply Exists.intro);refine And.intro rfl ?_)|refine au ?_|refine af ?_|refine ai ?_)
  refine uy h fx fun q2 kK => ?_
  repeat (first|(refine aj h ?_;clear h;intro kb M h)|(refine aq h ?_;clear h;intro M h)|refine St.to h ?_|(apply Exists.intro;(repeat apply Exists.intro);refine And.intro rfl ?_)|refine au ?_|refine af ?_|refine ai ?_)
  clear h
  have h := hC
  clear hC
  rw [aS (by omega)]
  have hst : dm p y w = if (ae y w.g).st = 2 then y.received p { w with v := 0 } 0 else y := rfl
  rw [hst] at hstep
  refine bN.2 ⟨fun e2 => ?_, fun e2 => ?_⟩
  ·rw [if_pos e2] at hstep
   refine aq h ?_
   clear h; intro M h
   repeat (first|(refine aj h ?_;clear h;intro kb M h)|(refine aq h ?_;clear h;intro M h)|refine St.to h ?_|(apply Exists.intro;(repeat apply Exists.intro);refine And.intro rfl ?_)|refine au ?_|refine af ?_|refine ai ?_)
   refine oV (b := b) (v := { w with v := 0 }) h hp (t4 e2) t1 ?_
   clear h; intro M h
   refine ⟨rfl, r.length - (j + 1), by omega, j + 1, rfl, rfl, by omega, ?_⟩
   rw [hstep]
   exact h.bT
  ·rw [if_neg e2] at hstep
   refine ⟨r.length - (j + 1), by omega, j + 1, rfl, rfl, by omega, ?_⟩
   rw [hstep]
   exact h.sub bM
 ·obtain rfl : j = r.length := by omega
  rw [List.take_length] at h
  exact k _ h.bT
end
theorem pU : bu Tryz.prog 36 3 1 8 [.int .i64 0] := bu.mk' (zv := .int .i64 0) (by kernel_rfl) (by kernel_rfl) rfl (by omega)
structure Rg where
 room : Nat
 l : List Int
def Rg.Ok (x : Rg) (head : Nat) (slots : List Int) : Prop := slots.length = x.room ∧ 0 < x.room ∧ x.room ≤ 1024 ∧ head < x.room ∧ x.l.length ≤ x.room ∧ ∀ i v, x.l[i]? = some v → slots[(head + i) % x.room]? = some v
def eC : rq Rg := ⟨fun b x => exs fun A : Option Addr => exs fun c : Nat => exs fun head : Nat => exs fun slots : List Int =>
 sep [fact (x.Ok head slots), pt b [.slice A x.room c, .int .i64 (head : Int), .int .i64 (x.l.length : Int)] 309, cv bI 3 A c slots]⟩
section
variable {R : Mem} {L L' : List HP} {M : Mem} {K : Value → Mem → Prop} {Kp : List PanicEntry → Mem → Prop} {b : Nat} {x : Rg}
theorem jR (h : Hp R L M) [o : bV eC b L x L'] : ∃ A c head slots, x.Ok head slots ∧ Hp R (pt b [.slice A x.room c, .int .i64 (head : Int), .int .i64 (x.l.length : Int)] 309 :: cv bI 3 A c slots :: L') M := by
 have := h.obj eC b
 simpa only [eC, Hp.c5, Hp.aR, List.cons_append, List.nil_append, Hp.fk] using this
theorem tQ {A : Option Addr} {c head : Nat} {slots : List Int} (ok : x.Ok head slots) (h : Hp R (pt b [.slice A x.room c, .int .i64 (head : Int), .int .i64 (x.l.length : Int)] 309 :: cv bI 3 A c slots :: L) M) : Hp R (ay eC b x :: L) M := by
 refine Hp.uO ?_
 simp only [eC, Hp.c5, Hp.aR, List.cons_append, List.nil_append, Hp.fk]
 exact ⟨_, _, _, _, ok, h⟩
def fy (n : Int) : Nat := (min (max n 1) 1024).toNat
theorem HJ (n : Int) : 0 < fy n ∧ fy n ≤ 1024 := by unfold fy; omega
theorem MN {n : Int} (h : Hp R L M) (k : ∀ b M', Hp R (ay eC b ⟨fy n, []⟩ :: L) M' → K (.pointer (some ⟨b, 0, none⟩)) M') : aa Tryz.prog 115 #[.int .i64 n] M K Kp := by
 refine DW ?_
 have e : (if (1024 : Int) < (if (1 : Int) > n then 1 else n) then 1024 else (if (1 : Int) > n then 1 else n)) = ((fy n : Nat) : Int) := by unfold fy; split <;> split <;> omega
 have bd := HJ n
 rw [e]
 refine h.BP (E := bI) (a := 0) pU (by omega) ?_
 clear h
 intro kb M h
 repeat (first|(refine aj h ?_;clear h;intro kb M h)|(refine aq h ?_;clear h;intro M h)|refine St.to h ?_|(apply Exists.intro;(repeat apply Exists.intro);refine And.intro rfl ?_)|refine au ?_|refine af ?_|refine ai ?_)
 refine k _ _ (tQ (head := 0) (slots := List.replicate (fy n) 0) ⟨by simp, bd.1, bd.2, bd.1, by simp, fun i v hv => by simp at hv⟩ (h.sub bM))
theorem AT (h : Hp R L M) [o : bV eC b L x L'] (k : K (.int .i64 (x.room : Int)) M) : aa Tryz.prog 183 #[.pointer (some ⟨b, 0, none⟩)] M K Kp := by
 refine tD ?_
 have h' := jR h (b := b)
 clear h
 obtain ⟨A, c, head, slots, ok, h⟩ := h'
 repeat (first|(refine aj h ?_;clear h;intro kb M h)|(refine aq h ?_;clear h;intro M h)|refine St.to h ?_|(apply Exists.intro;(repeat apply Exists.intro);refine And.intro rfl ?_)|refine au ?_|refine af ?_|refine ai ?_)
 exact k
theorem tR (h : Hp R L M) [o : bV eC b L x L'] (k : K (.int .i64 (x.l.length : Int)) M) : aa Tryz.prog 181 #[.pointer (some ⟨b, 0, none⟩)] M K Kp := by
 refine uZ ?_
 have h' := jR h (b := b)
 clear h
 obtain ⟨A, c, head, slots, ok, h⟩ := h'
 repeat (first|(refine aj h ?_;clear h;intro kb M h)|(refine aq h ?_;clear h;intro M h)|refine St.to h ?_|(apply Exists.intro;(repeat apply Exists.intro);refine And.intro rfl ?_)|refine au ?_|refine af ?_|refine ai ?_)
 exact k
theorem sQ {a b : Nat} : Int.tmod (a : Int) (b : Int) = ((a % b : Nat) : Int) := rfl
theorem pV {v : Int} (h : Hp R L M) [o : bV eC b L x L'] (k1 : x.l.length = x.room → ∀ M', Hp R (ay eC b x :: L') M' → K (.bool false) M') (k2 : x.l.length < x.room → ∀ M', Hp R (ay eC b ⟨x.room, x.l ++ [v]⟩ :: L') M' → K (.bool true) M') :
  aa Tryz.prog 184 #[.pointer (some ⟨b, 0, none⟩), .int .i64 v] M K Kp := by
 refine tE ?_
 have h' := jR h (b := b)
 clear h
 obtain ⟨A, c, head, slots, ok, h⟩ := h'
 have ok0 := ok
 obtain ⟨h1, h2, h3, h4, h5, h6⟩ := ok0
 repeat (first|(refine aj h ?_;clear h;intro kb M h)|(refine aq h ?_;clear h;intro M h)|refine St.to h ?_|(apply Exists.intro;(repeat apply Exists.intro);refine And.intro rfl ?_)|refine au ?_|refine af ?_|refine ai ?_)
 refine bN.2 ⟨fun e => ?_, fun e => ?_⟩
 ·exact k1 (by omega) _ (tQ ok h)
 ·have hlt : x.l.length < x.room := by omega
  repeat (first|(refine aj h ?_;clear h;intro kb M h)|(refine aq h ?_;clear h;intro M h)|refine St.to h ?_|(apply Exists.intro;(repeat apply Exists.intro);refine And.intro rfl ?_)|refine au ?_|refine af ?_|refine ai ?_)
  have e1 : IntKind.wrap .i64 ((head : Int) + (x.l.length : Int)) = ((head + x.l.length : Nat) : Int) := wn (by simp) (by omega)
  rw [e1, sQ]
  have hm := Nat.mod_lt (head + x.l.length) h2
  obtain ⟨b2, rfl⟩ := h.bA (A := A) (by omega) (by decide)
  obtain ⟨w, hw⟩ := aO (l := slots) (i := (head + x.l.length) % x.room) (by omega)
  repeat (first|(refine aj h ?_;clear h;intro kb M h)|(refine aq h ?_;clear h;intro M h)|refine St.to h ?_|(apply Exists.intro;(repeat apply Exists.intro);refine And.intro rfl ?_)|refine au ?_|refine af ?_|refine ai ?_)
  simp only [Int.toNat_natCast]
  refine gp (a' := v) ((head + x.l.length) % x.room) 0 h hw (by decide) rfl (by simp [bI]) ?_
  clear h; intro M h
  repeat (first|(refine aj h ?_;clear h;intro kb M h)|(refine aq h ?_;clear h;intro M h)|refine St.to h ?_|(apply Exists.intro;(repeat apply Exists.intro);refine And.intro rfl ?_)|refine au ?_|refine af ?_|refine ai ?_)
  have e2 : IntKind.wrap .i64 ((x.l.length : Int) + 1) = ((x.l.length + 1 : Nat) : Int) := aS (by omega)
  rw [e2] at h
  refine k2 hlt _ (tQ (x := ⟨x.room, x.l ++ [v]⟩) (head := head) (slots := slots.set ((head + x.l.length) % x.room) v) ⟨by simpa using h1, h2, h3, h4, by simp; omega, fun i u hu => ?_⟩ (by simpa using h.sub bM))
  dsimp only at hu ⊢
  rcases Nat.lt_or_ge i x.l.length with hi | hi
  ·rw [List.getElem?_append_left hi] at hu
   have hne : (head + i) % x.room ≠ (head + x.l.length) % x.room := by
    intro he
    have a1 : (head + i) % x.room = if head + i < x.room then head + i else head + i - x.room := by
     split
     ·exact Nat.mod_eq_of_lt (by omega)
     ·rw [Nat.mod_eq_sub_mod (by omega)]; exact Nat.mod_eq_of_lt (by omega)
    have a2 : (head + x.l.length) % x.room = if head + x.l.length < x.room then head + x.l.length else head + x.l.length - x.room := by
     split
     ·exact Nat.mod_eq_of_lt (by omega)
     ·rw [Nat.mod_eq_sub_mod (by omega)]; exact Nat.mod_eq_of_lt (by omega)
    rw [a1, a2] at he
    split at he <;> split at he <;> omega
   rw [List.getElem?_set_ne (Ne.symm hne)]
   exact h6 i u hu
  ·rw [List.getElem?_append_right hi] at hu
   have : i = x.l.length := by
    have := (List.getElem?_eq_some_iff.1 hu).1
    simp at this; omega
   subst this
   simp at hu; subst hu
   rw [List.getElem?_set_self (by omega)]
theorem Ec (h : Hp R L M) [o : bV eC b L x L'] (k1 : x.l = [] → ∀ M', Hp R (ay eC b x :: L') M' → K (.tuple #[.int .i64 0, .bool false]) M')
  (k2 : ∀ v l, x.l = v :: l → ∀ M', Hp R (ay eC b ⟨x.room, l⟩ :: L') M' → K (.tuple #[.int .i64 v, .bool true]) M') :
  aa Tryz.prog 177 #[.pointer (some ⟨b, 0, none⟩)] M K Kp := by
 refine uY ?_
 have h' := jR h (b := b)
 clear h
 obtain ⟨A, c, head, slots, ok, h⟩ := h'
 have ok0 := ok
 obtain ⟨h1, h2, h3, h4, h5, h6⟩ := ok0
 obtain ⟨room, l⟩ := x
 dsimp only at *
 repeat (first|(refine aj h ?_;clear h;intro kb M h)|(refine aq h ?_;clear h;intro M h)|refine St.to h ?_|(apply Exists.intro;(repeat apply Exists.intro);refine And.intro rfl ?_)|refine au ?_|refine af ?_|refine ai ?_)
 refine bN.2 ⟨fun e => ?_, fun e => ?_⟩
 ·exact k1 (List.length_eq_zero_iff.1 (by omega)) _ (tQ ok h)
 ·cases l with
  | nil => simp at e
  | cons v l =>
  have hv := h6 0 v rfl
  rw [Nat.add_zero, Nat.mod_eq_of_lt h4] at hv
  obtain ⟨b2, rfl⟩ := h.bA (A := A) (by omega) (by decide)
  have s0 := h.src (A := some ⟨b2, 0, none⟩)
  repeat (first|(refine aj h ?_;clear h;intro kb M h)|(refine aq h ?_;clear h;intro M h)|refine St.to h ?_|(apply Exists.intro;(repeat apply Exists.intro);refine And.intro rfl ?_)|refine au ?_|refine af ?_|refine ai ?_)
  simp only [Int.toNat_natCast]
  refine bn (s0.at h (i := head) (j := 0) hv rfl (by simp [bI])) ?_
  repeat (first|(refine aj h ?_;clear h;intro kb M h)|(refine aq h ?_;clear h;intro M h)|refine St.to h ?_|(apply Exists.intro;(repeat apply Exists.intro);refine And.intro rfl ?_)|refine au ?_|refine af ?_|refine ai ?_)
  have e1 : IntKind.wrap .i64 ((head : Int) + 1) = ((head + 1 : Nat) : Int) := aS (by omega)
  rw [e1, sQ] at h
  have e2 : IntKind.wrap .i64 ((((v :: l).length : Nat) : Int) - 1) = ((l.length : Nat) : Int) := by rw [eJ (by simp only [List.length_cons]; omega) (by simp only [List.length_cons] at h5 ⊢; omega)]; simp
  rw [e2] at h
  have h5' : l.length + 1 ≤ room := by simpa using h5
  refine k2 v l rfl _ (tQ (x := ⟨room, l⟩) (head := (head + 1) % room) (slots := slots) ⟨h1, h2, h3, Nat.mod_lt _ h2, by dsimp only; omega, fun i u hu => ?_⟩ (h.sub bM))
  dsimp only at hu ⊢
  have := h6 (i + 1) u (by simpa using hu)
  rw [Nat.mod_add_mod, ← this]
  congr 2; omega
theorem AU {n : Int} (h : Hp R L M) [o : bV eC b L x L'] (k : ∀ A c M', Hp R (cv bI 3 A c (x.l.take n.toNat) :: ay eC b ⟨x.room, x.l.drop n.toNat⟩ :: L') M' → K (.slice A (x.l.take n.toNat).length c) M') :
  aa Tryz.prog 182 #[.pointer (some ⟨b, 0, none⟩), .int .i64 n] M K Kp := by
 replace h := h.front eC b
 have hx : x.l.length ≤ 1024 := by
  obtain ⟨A, c, head, slots, ok, _⟩ := jR h (b := b)
  have := ok.2.2.1; have := ok.2.2.2.2.1; omega
 refine tC ⟨fun d ws M => ∃ (i : Nat) (A : Option Addr) (c : Nat), ws = [.slice A (x.l.take i).length c] ∧ d = n.toNat - i ∧ i ≤ n.toNat ∧ i ≤ x.l.length ∧
  Hp R (cv bI 3 A c (x.l.take i) :: ay eC b ⟨x.room, x.l.drop i⟩ :: L') M, ⟨_, 0, none, 0, rfl, rfl, by omega, by omega, h.cE _ _⟩, ?_⟩
 clear h
 rintro d _ A n1 c M ⟨i, _, _, he, hd, hi, Vv, h⟩
 simp only [List.cons.injEq, Value.slice.injEq, and_true, true_and] at he
 obtain ⟨rfl, rfl, rfl⟩ := he
 have hlen : (x.l.take i).length = i := by rw [List.length_take]; omega
 refine aJ.2 ⟨fun hlt => ?_, fun hge => ?_⟩
 ·refine Ec h (fun e M' h' => ?_) fun v l e M' h' => ?_
  ·repeat (first|(refine aj h ?_;clear h;intro kb M h)|(refine aq h ?_;clear h;intro M h)|refine St.to h ?_|(apply Exists.intro;(repeat apply Exists.intro);refine And.intro rfl ?_)|refine au ?_|refine af ?_|refine ai ?_)
   have : x.l.length ≤ i := by
    have := congrArg List.length e; simp at this; omega
   rw [List.take_of_length_le this] at h' ⊢
   rw [List.drop_of_length_le this] at h'
   have h1 : x.l.take n.toNat = x.l := List.take_of_length_le (by omega)
   have h2 : x.l.drop n.toNat = [] := List.drop_of_length_le (by omega)
   rw [h1, h2] at k
   exact k _ _ _ h'.swap
  ·clear h
   have h := h'.swap
   clear h'
   dsimp only at e
   have hv : x.l[i]? = some v := by
    have := congrArg (fun l => l[0]?) e
    simpa using this
   have e3 : x.l.drop (i + 1) = l := by
    have := congrArg (List.drop 1) e
    simpa using this
   repeat (first|(refine aj h ?_;clear h;intro kb M h)|(refine aq h ?_;clear h;intro M h)|refine St.to h ?_|(apply Exists.intro;(repeat apply Exists.intro);refine And.intro rfl ?_)|refine au ?_|refine af ?_|refine ai ?_)
   refine h.bD pU [v] rfl rfl (by simp; omega) ?_
   clear h
   intro A' c' M h
   repeat (first|(refine aj h ?_;clear h;intro kb M h)|(refine aq h ?_;clear h;intro M h)|refine St.to h ?_|(apply Exists.intro;(repeat apply Exists.intro);refine And.intro rfl ?_)|refine au ?_|refine af ?_|refine ai ?_)
   rw [← cV hv] at h ⊢
   have kq := (List.getElem?_eq_some_iff.1 hv).1
   refine ⟨n.toNat - (i + 1), by omega, i + 1, A', c', rfl, rfl, by omega, by omega, ?_⟩
   rw [e3]; exact h.sub bM
 ·obtain rfl : i = n.toNat := by omega
  exact k _ _ _ h
end
structure Loc where
 next : Int
 room : Nat
 l : List Int
def Loc.put (x : Loc) (v : Int) (g : List Int) : Loc × List Int × Nat :=
 if x.l.length < x.room then ({ x with l := x.l ++ [v] }, g, 0) else ({ x with l := x.l.drop (x.l.length / 2) }, g ++ (x.l.take (x.l.length / 2) ++ [v]), x.l.length / 2 + 1)
def Loc.ready (x : Loc) (v : Int) (g : List Int) : Loc × List Int × Nat := if x.next = -1 then ({ x with next := v }, g, 0) else ({ x with next := v } : Loc).put x.next g
def Loc.get (x : Loc) : Loc × Int := if x.next ≠ -1 then ({ x with next := -1 }, x.next) else match x.l with
 | [] => (x, -1)
 | v :: l => ({ x with l := l }, v)
def Loc.dy (x : Loc) (g : List Int) : Loc × List Int × Nat := if x.next = -1 then (x, g, 0) else ({ x with next := -1 } : Loc).put x.next g
def Loc.cH (x : Loc) (g : List Int) (p : Int) : Nat := if p < 1 then 1 else min (g.length / p.toNat + 1) (x.room - x.l.length + 1)
def Loc.dN (x : Loc) (g : List Int) (p : Int) : Loc × List Int × Int := match g.take (x.cH g p) with
 | [] => (x, g, -1)
 | v :: out => ({ x with l := x.l ++ out }, g.drop (x.cH g p), v)
def Loc.fG (x f : Loc) : Nat := min (f.l.length - f.l.length / 2) (x.room - x.l.length + 1)
def Loc.cT (x f : Loc) : Loc × Loc × Int := match f.l.take (x.fG f) with
 | [] => (x, { f with next := -1 }, f.next)
 | v :: out => ({ x with l := x.l ++ out }, { f with l := f.l.drop (x.fG f) }, v)
def Loc.Ok (x : Loc) : Prop := x.l.length ≤ x.room ∧ x.room ≤ 1024 ∧ 0 < x.room
def bE : rq Loc := ⟨fun b x => exs fun rb : Nat => sep [pt b [.int .i64 x.next, .pointer (some ⟨rb, 0, none⟩)] 237, ay eC rb ⟨x.room, x.l⟩]⟩
structure Ry (gb go : Nat) (P : Option Addr → Nat → Nat → HP) : Prop where
 Gi : ∀ (R : Mem) (L : List HP) (M : Mem) (A : Option Addr) (n c : Nat), Hp R (P A n c :: L) M → M.ld ⟨gb, go, none⟩ = some (.slice A n c)
 Xw : ∀ (R : Mem) (L : List HP) (M : Mem) (A A' : Option Addr) (n c n' c' : Nat) (G : Mem → Prop), Hp R (P A n c :: L) M → (∀ M', Hp R (P A' n' c' :: L) M' → G M') → aI M ⟨gb, go, none⟩ (.slice A' n' c') G
def gq (P : Option Addr → Nat → Nat → HP) (l : List Int) : HP := exs fun A : Option Addr => exs fun c : Nat => sep [P A l.length c, cv bI 3 A c l]
class sj (P : Option Addr → Nat → Nat → HP) (L : List HP) (g : outParam (List Int)) (L' : outParam (List HP)) : Prop where
 pick : cG L (gq P g) L'
instance sj.here {P : Option Addr → Nat → Nat → HP} {g : List Int} {L : List HP} : sj P (gq P g :: L) g L := ⟨.here⟩
instance (priority := low) sj.there {P : Option Addr → Nat → Nat → HP} {g : List Int} {Q : HP} {L L' : List HP} [h : sj P L g L'] : sj P (Q :: L) g (Q :: L') := ⟨.there h.pick⟩
section
variable {R : Mem} {L L' nx : List HP} {M : Mem} {K : Value → Mem → Prop} {Kp : List PanicEntry → Mem → Prop} {b gb go b' : Nat} {P : Option Addr → Nat → Nat → HP} {x f : Loc} {g : List Int}
theorem ig (h : Hp R L M) [o : bV bE b L x L'] : ∃ rb, Hp R (pt b [.int .i64 x.next, .pointer (some ⟨rb, 0, none⟩)] 237 :: ay eC rb ⟨x.room, x.l⟩ :: L') M := by
 have := h.obj bE b
 simpa only [bE, Hp.c5, Hp.aR, List.cons_append, List.nil_append] using this
theorem UA {rb : Nat} (h : Hp R (pt b [.int .i64 x.next, .pointer (some ⟨rb, 0, none⟩)] 237 :: ay eC rb ⟨x.room, x.l⟩ :: L) M) : Hp R (ay bE b x :: L) M := by
 refine Hp.uO ?_
 simp only [bE, Hp.c5, Hp.aR, List.cons_append, List.nil_append]
 exact ⟨_, h⟩
theorem cu {next : Int} {rb room : Nat} {l : List Int} {L1 L2 : List HP} (h : Hp R L M) (b : Nat) [p : j4 b L [.int .i64 next, .pointer (some ⟨rb, 0, none⟩)] 237 L1] [o : bV eC rb L1 ⟨room, l⟩ L2] : Hp R (ay bE b ⟨next, room, l⟩ :: L2) M :=
 UA (h.sub (.cons p.pick (.cons o.pick .refl)))
theorem iT (h : Hp R L M) [o : sj P L g L'] : ∃ A c, Hp R (P A g.length c :: cv bI 3 A c g :: L') M := by
 have := h.pick o.pick
 simpa only [gq, Hp.c5, Hp.aR, List.cons_append, List.nil_append] using this
theorem HK {A : Option Addr} {c n : Nat} (h : Hp R (P A n c :: cv bI 3 A c g :: L) M) (e : n = g.length := by first | rfl | simp) : Hp R (gq P g :: L) M := by
 subst e
 simp only [gq, Hp.c5, Hp.aR, List.cons_append, List.nil_append]
 exact ⟨_, _, h⟩
theorem PS {rb : Nat} {r : Rg} (h : Hp R L M) [o : bV eC rb L r L'] : r.l.length ≤ r.room ∧ r.room ≤ 1024 ∧ 0 < r.room := by
 obtain ⟨A, c, head, slots, ok, _⟩ := jR h (b := rb)
 exact ⟨ok.2.2.2.2.1, ok.2.2.1, ok.2.1⟩
theorem vf (h : Hp R L M) [o : bV bE b L x L'] : x.Ok := by
 obtain ⟨rb, h2⟩ := ig h (b := b)
 exact PS (rb := rb) h2
theorem AV {room : Int} (h : Hp R L M) (k : ∀ b M', Hp R (ay bE b ⟨-1, fy room, []⟩ :: L) M' → K (.pointer (some ⟨b, 0, none⟩)) M') : aa Tryz.prog 57 #[.int .i64 room] M K Kp := by
 refine Ca ?_
 refine MN h ?_
 clear h
 intro rb M h
 repeat (first|(refine aj h ?_;clear h;intro kb M h)|(refine aq h ?_;clear h;intro M h)|refine St.to h ?_|(apply Exists.intro;(repeat apply Exists.intro);refine And.intro rfl ?_)|refine au ?_|refine af ?_|refine ai ?_)
 exact k _ _ (cu h kb)
theorem Gj (h : Hp R L M) [o : bV bE b L x L'] (k : K (.int .i64 x.next) M) : aa Tryz.prog 148 #[.pointer (some ⟨b, 0, none⟩)] M K Kp := by
 refine qE ?_
 have h' := ig h (b := b)
 clear h
 obtain ⟨rb, h⟩ := h'
 repeat (first|(refine aj h ?_;clear h;intro kb M h)|(refine aq h ?_;clear h;intro M h)|refine St.to h ?_|(apply Exists.intro;(repeat apply Exists.intro);refine And.intro rfl ?_)|refine au ?_|refine af ?_|refine ai ?_)
 exact k
theorem Gk (D : Ry gb go P) (h : Hp R L M) [o : sj P L g L'] (k : K (.int .i64 (g.length : Int)) M) : aa Tryz.prog 202 #[.pointer (some ⟨gb, go, none⟩)] M K Kp := by
 refine qG ?_
 have h' := iT h (P := P)
 clear h
 obtain ⟨A, c, h⟩ := h'
 rw [D.Gi _ _ _ _ _ _ h]
 exact bk k
theorem m8 (D : Ry gb go P) {B : Option Addr} {n c : Nat} {l : List Int} (h : Hp R L M) [o : sj P L g L'] (hB : Src R L' B (bI.cells l)) (hn : n = l.length) (hs : g.length + l.length ≤ 1000000000) (k : ∀ M', Hp R (gq P (g ++ l) :: L') M' → K (.tuple #[]) M') :
  aa Tryz.prog 58 #[.pointer (some ⟨gb, go, none⟩), .slice B n c] M K Kp := by
 refine qD ?_
 have h' := iT h (P := P)
 clear h
 obtain ⟨A, cg, h⟩ := h'
 rw [D.Gi _ _ _ _ _ _ h]
 refine bk ?_
 refine h.Jd (A := A) (r := l) pU hB.cons.cons hn (by omega) ?_
 clear h
 intro A' c' M h
 refine bk ?_
 refine D.Xw _ _ _ _ _ _ _ _ _ _ h.swap ?_
 clear h; intro M h
 exact k _ (HK h)
theorem oW (D : Ry gb go P) {n : Int} (h : Hp R L M) [o : sj P L g L'] (hs : g.length ≤ 1000000000) (k : ∀ A c M', Hp R (cv bI 3 A c (g.take n.toNat) :: gq P (g.drop n.toNat) :: L') M' → K (.slice A (g.take n.toNat).length c) M') :
  aa Tryz.prog 179 #[.pointer (some ⟨gb, go, none⟩), .int .i64 n] M K Kp := by
 refine oN ?_
 have h' := iT h (P := P)
 clear h
 obtain ⟨A, cg, h⟩ := h'
 have hcap := h.jk A
 have e : (if ((g.length : Nat) : Int) < (if (0 : Int) > n then 0 else n) then ((g.length : Nat) : Int) else (if (0 : Int) > n then 0 else n)) = ((min n.toNat g.length : Nat) : Int) := by split <;> split <;> omega
 have hq : g.take n.toNat = g.take (min n.toNat g.length) ∧ g.drop n.toNat = g.drop (min n.toNat g.length) := by
  rcases Nat.le_total n.toNat g.length with hl | hl
  ·rw [Nat.min_eq_left hl]; exact ⟨rfl, rfl⟩
  ·rw [Nat.min_eq_right hl, List.take_of_length_le hl, List.drop_of_length_le hl]; simp
 rw [hq.1, hq.2] at k
 have hql : min n.toNat g.length ≤ g.length := Nat.min_le_right ..
 rw [D.Gi _ _ _ _ _ _ h]
 refine bk ?_
 rw [e]
 generalize min n.toNat g.length = q at *
 have el : (g.take q).length = q := by rw [List.length_take]; omega
 refine aj h ?_
 clear h; intro kb M h
 rw [D.Gi _ _ _ _ _ _ h.swap]
 refine bk ?_
 simp only [Int.toNat_natCast, Nat.sub_zero]
 refine ⟨by omega, by omega, by omega, by omega, by omega, by omega, ?_⟩
 refine h.kF bI pU (g.take q) (Src.pre1 (h.src (A := A)) hcap q) (by rw [el]) (by rw [el]; omega) ?_
 clear h
 intro A' c' M h
 refine bk ?_
 refine aj h ?_
 clear h; intro kb2 M h
 replace h : Hp R (P A g.length cg :: cv bI 3 A cg g :: pt kb2 [] 3 :: cv bI 3 A' c' (g.take q) :: L') M := h.sub bM
 rw [D.Gi _ _ _ _ _ _ h]
 refine bk ?_
 refine ⟨by omega, by omega, by omega, by omega, by omega, by omega, ?_⟩
 refine h.kF bI pU (g.drop q) (Src.PL (h.src (A := A)) hcap q) (by rw [List.length_drop]) (by rw [List.length_drop]; omega) ?_
 clear h
 intro A2 c2 M h
 refine bk ?_
 replace h : Hp R (P A g.length cg :: cv bI 3 A2 c2 (g.drop q) :: cv bI 3 A' c' (g.take q) :: L') M := h.sub bM
 refine D.Xw _ _ _ _ _ _ _ _ _ _ h ?_
 clear h; intro M h
 rw [← el]
 rw [el]
 exact k _ _ _ ((HK (P := P) h).swap)
theorem AW (D : Ry gb go P) {v : Int} (h : Hp R L M) [o : bV bE b L x L'] [og : sj P L' g nx] (hs : g.length ≤ 100000000)
  (k : ∀ M', Hp R (ay bE b (x.put v g).1 :: gq P (x.put v g).2.1 :: nx) M' → K (.int .i64 ((x.put v g).2.2 : Int)) M') :
  aa Tryz.prog 185 #[.pointer (some ⟨b, 0, none⟩), .int .i64 v, .pointer (some ⟨gb, go, none⟩)] M K Kp := by
 have bd := vf h (b := b)
 have h0 : Hp R (ay bE b x :: gq P g :: nx) M := (h.pick o.pick).map fun _ hs => hs.tail (fun _ => bS.pick og.pick)
 clear h
 have h := h0
 clear h0
 refine rV ?_
 have h' := ig h (b := b)
 clear h
 obtain ⟨rb, h⟩ := h'
 repeat (first|(refine aj h ?_;clear h;intro kb M h)|(refine aq h ?_;clear h;intro M h)|refine St.to h ?_|(apply Exists.intro;(repeat apply Exists.intro);refine And.intro rfl ?_)|refine au ?_|refine af ?_|refine ai ?_)
 refine pV h (fun e M' h' => ?_) fun e M' h' => ?_
 ·clear h
  have h := h'
  clear h'
  dsimp only at e
  have hp : x.put v g = ({ x with l := x.l.drop (x.l.length / 2) }, g ++ (x.l.take (x.l.length / 2) ++ [v]), x.l.length / 2 + 1) := by unfold Loc.put; rw [if_neg (by omega)]
  rw [hp] at k
  repeat (first|(refine aj h ?_;clear h;intro kb M h)|(refine aq h ?_;clear h;intro M h)|refine St.to h ?_|(apply Exists.intro;(repeat apply Exists.intro);refine And.intro rfl ?_)|refine au ?_|refine af ?_|refine ai ?_)
  refine tR h ?_
  repeat (first|(refine aj h ?_;clear h;intro kb M h)|(refine aq h ?_;clear h;intro M h)|refine St.to h ?_|(apply Exists.intro;(repeat apply Exists.intro);refine And.intro rfl ?_)|refine au ?_|refine af ?_|refine ai ?_)
  have e2 : IntKind.wrap .i64 (Int.tdiv (x.l.length : Int) 2) = ((x.l.length / 2 : Nat) : Int) := wn rfl (by have := bd.1; have := bd.2.1; omega)
  simp only [e2]
  refine AU h ?_
  clear h
  intro A c M h
  simp only [Int.toNat_natCast] at h ⊢
  repeat (first|(refine aj h ?_;clear h;intro kb M h)|(refine aq h ?_;clear h;intro M h)|refine St.to h ?_|(apply Exists.intro;(repeat apply Exists.intro);refine And.intro rfl ?_)|refine au ?_|refine af ?_|refine ai ?_)
  have Vw : (x.l.take (x.l.length / 2)).length = x.l.length / 2 := by rw [List.length_take]; omega
  refine h.bD pU [v] rfl rfl (by have := bd.2.1; have := bd.1; simp; omega) ?_
  clear h
  intro A' c' M h
  repeat (first|(refine aj h ?_;clear h;intro kb M h)|(refine aq h ?_;clear h;intro M h)|refine St.to h ?_|(apply Exists.intro;(repeat apply Exists.intro);refine And.intro rfl ?_)|refine au ?_|refine af ?_|refine ai ?_)
  replace h := h.sub (show Sub _ (gq P g :: cv bI 3 A' c' (x.l.take (x.l.length / 2) ++ [v]) :: ay eC rb ⟨x.room, x.l.drop (x.l.length / 2)⟩ :: pt b [.int .i64 x.next, .pointer (some ⟨rb, 0, none⟩)] 237 :: nx) from bM)
  refine m8 D h Src.row rfl (by have := bd.2.1; have := bd.1; simp; omega) ?_
  clear h
  intro M h
  repeat (first|(refine aj h ?_;clear h;intro kb M h)|(refine aq h ?_;clear h;intro M h)|refine St.to h ?_|(apply Exists.intro;(repeat apply Exists.intro);refine And.intro rfl ?_)|refine au ?_|refine af ?_|refine ai ?_)
  have e3 : (((x.l.take (x.l.length / 2) ++ [v]).length : Nat) : Int) = ((x.l.length / 2 + 1 : Nat) : Int) := by simp; omega
  rw [e3]
  exact k _ ((cu h b).sub bM)
 ·clear h
  have h := h'
  clear h'
  dsimp only at e
  have hp : x.put v g = ({ x with l := x.l ++ [v] }, g, 0) := by unfold Loc.put; rw [if_pos e]
  rw [hp] at k
  repeat (first|(refine aj h ?_;clear h;intro kb M h)|(refine aq h ?_;clear h;intro M h)|refine St.to h ?_|(apply Exists.intro;(repeat apply Exists.intro);refine And.intro rfl ?_)|refine au ?_|refine af ?_|refine ai ?_)
  exact k _ ((cu h b).sub bM)
theorem Cp (h : Hp R L M) [o : bV bE b L x L'] [og : sj P L' g nx] : Hp R (ay bE b x :: gq P g :: nx) M := (h.pick o.pick).map fun _ hs => hs.tail (fun _ => bS.pick og.pick)
theorem Ed (D : Ry gb go P) {v : Int} (h : Hp R L M) [o : bV bE b L x L'] [og : sj P L' g nx] (hs : g.length ≤ 100000000)
  (k : ∀ M', Hp R (ay bE b (x.ready v g).1 :: gq P (x.ready v g).2.1 :: nx) M' → K (.int .i64 ((x.ready v g).2.2 : Int)) M') :
  aa Tryz.prog 152 #[.pointer (some ⟨b, 0, none⟩), .int .i64 v, .pointer (some ⟨gb, go, none⟩)] M K Kp := by
 replace h := Cp (P := P) h (b := b)
 refine oM ?_
 have h' := ig h (b := b)
 clear h
 obtain ⟨rb, h⟩ := h'
 repeat (first|(refine aj h ?_;clear h;intro kb M h)|(refine aq h ?_;clear h;intro M h)|refine St.to h ?_|(apply Exists.intro;(repeat apply Exists.intro);refine And.intro rfl ?_)|refine au ?_|refine af ?_|refine ai ?_)
 refine bN.2 ⟨fun e => ?_, fun e => ?_⟩
 ·have hp : x.ready v g = ({ x with next := v }, g, 0) := by unfold Loc.ready; rw [if_pos e]
  rw [hp] at k
  repeat (first|(refine aj h ?_;clear h;intro kb M h)|(refine aq h ?_;clear h;intro M h)|refine St.to h ?_|(apply Exists.intro;(repeat apply Exists.intro);refine And.intro rfl ?_)|refine au ?_|refine af ?_|refine ai ?_)
  exact k _ ((cu h b).sub bM)
 ·have hp : x.ready v g = ({ x with next := v } : Loc).put x.next g := by unfold Loc.ready; rw [if_neg e]
  rw [hp] at k
  replace h := cu h b
  refine AW D h hs ?_
  clear h
  intro M h
  repeat (first|(refine aj h ?_;clear h;intro kb M h)|(refine aq h ?_;clear h;intro M h)|refine St.to h ?_|(apply Exists.intro;(repeat apply Exists.intro);refine And.intro rfl ?_)|refine au ?_|refine af ?_|refine ai ?_)
  exact k _ h
theorem Gl (D : Ry gb go P) (h : Hp R L M) [o : bV bE b L x L'] [og : sj P L' g nx] (hs : g.length ≤ 100000000)
  (k : ∀ M', Hp R (ay bE b (x.dy g).1 :: gq P (x.dy g).2.1 :: nx) M' → K (.int .i64 ((x.dy g).2.2 : Int)) M') :
  aa Tryz.prog 178 #[.pointer (some ⟨b, 0, none⟩), .pointer (some ⟨gb, go, none⟩)] M K Kp := by
 replace h := Cp (P := P) h (b := b)
 refine qF ?_
 have h' := ig h (b := b)
 clear h
 obtain ⟨rb, h⟩ := h'
 repeat (first|(refine aj h ?_;clear h;intro kb M h)|(refine aq h ?_;clear h;intro M h)|refine St.to h ?_|(apply Exists.intro;(repeat apply Exists.intro);refine And.intro rfl ?_)|refine au ?_|refine af ?_|refine ai ?_)
 refine bN.2 ⟨fun e => ?_, fun e => ?_⟩
 ·have hp : x.dy g = (x, g, 0) := by unfold Loc.dy; rw [if_pos e]
  rw [hp] at k
  exact k _ ((cu h b).sub bM)
 ·have hp : x.dy g = ({ x with next := -1 } : Loc).put x.next g := by unfold Loc.dy; rw [if_neg e]
  rw [hp] at k
  repeat (first|(refine aj h ?_;clear h;intro kb M h)|(refine aq h ?_;clear h;intro M h)|refine St.to h ?_|(apply Exists.intro;(repeat apply Exists.intro);refine And.intro rfl ?_)|refine au ?_|refine af ?_|refine ai ?_)
  replace h := cu h b
  refine AW D h hs ?_
  clear h
  intro M h
  repeat (first|(refine aj h ?_;clear h;intro kb M h)|(refine aq h ?_;clear h;intro M h)|refine St.to h ?_|(apply Exists.intro;(repeat apply Exists.intro);refine And.intro rfl ?_)|refine au ?_|refine af ?_|refine ai ?_)
  exact k _ h
theorem AX (h : Hp R L M) [o : bV bE b L x L']
  (k : ∀ t M', (x.get.2 = -1 → x.next = -1 → x.l = [] → t = false) → (x.next ≠ -1 ∨ x.l ≠ [] → t = true) → Hp R (ay bE b x.get.1 :: L') M' → K (.tuple #[.int .i64 x.get.2, .bool t]) M') :
  aa Tryz.prog 149 #[.pointer (some ⟨b, 0, none⟩)] M K Kp := by
 refine rT ?_
 have h' := ig h (b := b)
 clear h
 obtain ⟨rb, h⟩ := h'
 obtain ⟨next, room, l⟩ := x
 dsimp only at h
 repeat (first|(refine aj h ?_;clear h;intro kb M h)|(refine aq h ?_;clear h;intro M h)|refine St.to h ?_|(apply Exists.intro;(repeat apply Exists.intro);refine And.intro rfl ?_)|refine au ?_|refine af ?_|refine ai ?_)
 refine eu.2 ⟨fun e => ?_, fun e => ?_⟩
 ·have hp : (Loc.mk next room l).get = (⟨-1, room, l⟩, next) := by unfold Loc.get; dsimp only; rw [if_pos e]
  rw [hp] at k
  repeat (first|(refine aj h ?_;clear h;intro kb M h)|(refine aq h ?_;clear h;intro M h)|refine St.to h ?_|(apply Exists.intro;(repeat apply Exists.intro);refine And.intro rfl ?_)|refine au ?_|refine af ?_|refine ai ?_)
  exact k true _ (fun _ h2 => absurd h2 e) (fun _ => rfl) ((cu h b).sub bM)
 ·repeat (first|(refine aj h ?_;clear h;intro kb M h)|(refine aq h ?_;clear h;intro M h)|refine St.to h ?_|(apply Exists.intro;(repeat apply Exists.intro);refine And.intro rfl ?_)|refine au ?_|refine af ?_|refine ai ?_)
  refine Ec h (fun e2 M' h' => ?_) fun v l2 e2 M' h' => ?_
  ·dsimp only at e2
   subst e2
   have hp : (Loc.mk next room []).get = (⟨next, room, []⟩, -1) := by unfold Loc.get; dsimp only; rw [if_neg (by simpa using e)]
   rw [hp] at k
   repeat (first|(refine aj h ?_;clear h;intro kb M h)|(refine aq h ?_;clear h;intro M h)|refine St.to h ?_|(apply Exists.intro;(repeat apply Exists.intro);refine And.intro rfl ?_)|refine au ?_|refine af ?_|refine ai ?_)
   exact k false _ (fun _ _ _ => rfl) (fun hx => by rcases hx with hx | hx; exact absurd e hx; exact absurd rfl hx) ((cu h' b).sub bM)
  ·dsimp only at e2
   subst e2
   have hp : (Loc.mk next room (v :: l2)).get = (⟨next, room, l2⟩, v) := by unfold Loc.get; dsimp only; rw [if_neg (by simpa using e)]
   rw [hp] at k
   repeat (first|(refine aj h ?_;clear h;intro kb M h)|(refine aq h ?_;clear h;intro M h)|refine St.to h ?_|(apply Exists.intro;(repeat apply Exists.intro);refine And.intro rfl ?_)|refine au ?_|refine af ?_|refine ai ?_)
   exact k true _ (fun _ _ hx => by simp at hx) (fun _ => rfl) ((cu h' b).sub bM)
end
section
variable {R : Mem} {L L' nx : List HP} {M : Mem} {K : Value → Mem → Prop} {Kp : List PanicEntry → Mem → Prop} {b gb go b' : Nat} {P : Option Addr → Nat → Nat → HP} {x f : Loc} {g : List Int}
theorem UB {b b' T T' : Nat} {cs cs' : List Value} (h : Hp R (pt b cs T :: L) M) [p : j4 b' L cs' T' L'] : b ≠ b' := by
 rintro rfl
 have h2 : Hp R (pt b cs T :: pt b cs' T' :: L') M := h.map fun _ hs => hs.tail fun _ => bS.pick p.pick
 obtain ⟨B, rfl, h1, X, Y, rfl, h2, hp, X2, Y2, rfl, h3, hp2, hs⟩ := h2
 unfold AF.pt at hp hp2
 rcases h2 b with h | h
 ·rw [hp] at h; cases h
 ·rw [Mem.union_left hp2] at h; cases h
theorem UC {a : Addr} {b : Nat} {G : Bool → Prop} (hne : a.block ≠ b) (h1 : jW M a.block) (h2 : jW M b) (g : G false) : ptrEq M (some a) (some ⟨b, 0, none⟩) G :=
 ⟨fun e => absurd (by rw [e]) hne, fun _ => ⟨.inr ⟨h1, h2⟩, g⟩⟩
theorem Ee {b T : Nat} {cs : List Value} (h : Hp R L M) [p : j4 b L cs T L'] : jW M b := ⟨_, _, (h.pick p.pick).Aw⟩
theorem Ef (D : Ry gb go P) {p : Int} (h : Hp R L M) [o : bV bE b L x L'] [og : sj P L' g nx] (hs : g.length ≤ 100000000) (hp9 : p < 9223372036854775808)
  (k : ∀ t M', ((x.dN g p).2.2 = -1 → g = [] → t = false) → (g ≠ [] → t = true) → Hp R (ay bE b (x.dN g p).1 :: gq P (x.dN g p).2.1 :: nx) M' → K (.tuple #[.int .i64 (x.dN g p).2.2, .bool t]) M') :
  aa Tryz.prog 180 #[.pointer (some ⟨b, 0, none⟩), .pointer (some ⟨gb, go, none⟩), .int .i64 p] M K Kp := by
 have bd := vf h (b := b)
 obtain ⟨bd1, bd2, bd3⟩ := bd
 replace h := Cp (P := P) h (b := b)
 refine oO ?_
 have h' := ig h (b := b)
 clear h
 obtain ⟨rb, h⟩ := h'
 repeat (first|(refine aj h ?_;clear h;intro kb M h)|(refine aq h ?_;clear h;intro M h)|refine St.to h ?_|(apply Exists.intro;(repeat apply Exists.intro);refine And.intro rfl ?_)|refine au ?_|refine af ?_|refine ai ?_)
 refine Gk D h ?_
 repeat (first|(refine aj h ?_;clear h;intro kb M h)|(refine aq h ?_;clear h;intro M h)|refine St.to h ?_|(apply Exists.intro;(repeat apply Exists.intro);refine And.intro rfl ?_)|refine au ?_|refine af ?_|refine ai ?_)
 refine AT h ?_
 repeat (first|(refine aj h ?_;clear h;intro kb M h)|(refine aq h ?_;clear h;intro M h)|refine St.to h ?_|(apply Exists.intro;(repeat apply Exists.intro);refine And.intro rfl ?_)|refine au ?_|refine af ?_|refine ai ?_)
 refine tR h ?_
 repeat (first|(refine aj h ?_;clear h;intro kb M h)|(refine aq h ?_;clear h;intro M h)|refine St.to h ?_|(apply Exists.intro;(repeat apply Exists.intro);refine And.intro rfl ?_)|refine au ?_|refine af ?_|refine ai ?_)
 dsimp only at *
 have hn0 : 1 ≤ x.cH g p := by unfold Loc.cH; generalize g.length / p.toNat = q; split <;> omega
 have PT : x.l.length + (x.cH g p - 1) ≤ x.room := by unfold Loc.cH; generalize g.length / p.toNat = q; split <;> omega
 have key : ∀ n : Int, n.toNat = x.cH g p → ∀ {Q : Prop}, Q → Q := fun _ _ _ q => q
 refine aJ.2 ⟨fun Vx => ?_, fun Vx => ?_⟩
 ·have hn : (1 : Int).toNat = x.cH g p := by unfold Loc.cH; rw [if_pos Vx]; rfl
  refine oW D h (by omega) ?_
  clear h
  intro A c M h
  rw [hn] at h ⊢
  repeat (first|(refine aj h ?_;clear h;intro kb M h)|(refine aq h ?_;clear h;intro M h)|refine St.to h ?_|(apply Exists.intro;(repeat apply Exists.intro);refine And.intro rfl ?_)|refine au ?_|refine af ?_|refine ai ?_)
  cases hg : g.take (x.cH g p) with
  | nil =>
   have JN : g = [] := by
    have := congrArg List.length hg
    rw [List.length_take, List.length_nil] at this
    exact List.length_eq_zero_iff.1 (by omega)
   have hp : x.dN g p = (x, g, -1) := by unfold Loc.dN; rw [hg]
   rw [hp] at k
   refine Lt rfl ?_
   have e3 : g.drop (x.cH g p) = g := by rw [JN]; simp
   rw [e3] at h
   exact k false _ (fun _ _ => rfl) (fun h1 => absurd JN h1) ((cu h b).sub bM)
  | cons v out =>
   have hp : x.dN g p = ({ x with l := x.l ++ out }, g.drop (x.cH g p), v) := by unfold Loc.dN; rw [hg]
   rw [hp] at k
   have Vk : out.length + 1 ≤ x.cH g p := by
    have := congrArg List.length hg
    rw [List.length_take, List.length_cons] at this
    omega
   refine Fw (by simp; omega) ?_
   rw [hg] at h
   generalize g.drop (x.cH g p) = g2 at *
   have Xx : g ≠ [] := by rintro rfl; simp at hg
   obtain ⟨A0, Rz⟩ : ∃ A0, A0 = lC A 1 c 1 := ⟨_, rfl⟩
   have hcap := h.jk A
   rw [List.length_cons] at hcap
   simp only [Int.toNat_natCast, List.length_cons]
   repeat (first|(refine aj h ?_;clear h;intro kb M h)|(refine aq h ?_;clear h;intro M h)|refine St.to h ?_|(apply Exists.intro;(repeat apply Exists.intro);refine And.intro rfl ?_)|refine au ?_|refine af ?_|refine ai ?_)
   refine ⟨fun d ws M => ∃ i : Nat, ws = [.int .i64 (i : Int)] ∧ d = out.length - i ∧ i ≤ out.length ∧
    Hp R (cv bI 3 A c (v :: out) :: pt b [.int .i64 x.next, .pointer (some ⟨rb, 0, none⟩)] 237 :: ay eC rb ⟨x.room, x.l ++ out.take i⟩ :: gq P g2 :: nx) M,
    ⟨_, 0, rfl, rfl, by omega, by rw [List.take_zero, List.append_nil]; exact h.sub bM⟩, ?_⟩
   clear h
   rintro d _ ii M ⟨i, he, hd, hi, h⟩
   simp only [List.cons.injEq, Value.int.injEq, and_true, true_and] at he
   subst he
   refine aJ.2 ⟨fun hlt => ?_, fun hge => ?_⟩
   ·obtain ⟨w, hw⟩ := aO (l := out) (i := i) (by omega)
    have s0 := Src.PL (h.src (A := A)) (by rw [List.length_cons]; exact hcap) 1
    rw [← Rz] at s0 ⊢
    rw [show (v :: out).drop 1 = out from rfl] at s0
    obtain ⟨b0, o0, rfl⟩ := s0.kD h (by omega) (by decide)
    repeat (first|(refine aj h ?_;clear h;intro kb M h)|(refine aq h ?_;clear h;intro M h)|refine St.to h ?_|(apply Exists.intro;(repeat apply Exists.intro);refine And.intro rfl ?_)|refine au ?_|refine af ?_|refine ai ?_)
    simp only [Int.toNat_natCast]
    refine bn (s0.at h (i := i) (j := 0) hw rfl (by simp [bI])) ?_
    repeat (first|(refine aj h ?_;clear h;intro kb M h)|(refine aq h ?_;clear h;intro M h)|refine St.to h ?_|(apply Exists.intro;(repeat apply Exists.intro);refine And.intro rfl ?_)|refine au ?_|refine af ?_|refine ai ?_)
    refine pV (v := w) h (fun e M' h' => ?_) fun e M' h' => ?_
    ·exfalso
     simp only [List.length_append, List.length_take] at e
     omega
    ·clear h
     have h := h'
     clear h'
     repeat (first|(refine aj h ?_;clear h;intro kb M h)|(refine aq h ?_;clear h;intro M h)|refine St.to h ?_|(apply Exists.intro;(repeat apply Exists.intro);refine And.intro rfl ?_)|refine au ?_|refine af ?_|refine ai ?_)
     rw [aS (by omega)]
     refine ⟨out.length - (i + 1), by omega, i + 1, rfl, rfl, by omega, ?_⟩
     rw [cV hw, ← List.append_assoc]
     exact h.sub bM
   ·obtain rfl : i = out.length := by omega
    rw [List.take_length] at h
    have s0 := h.src (A := A)
    obtain ⟨b0, rfl⟩ := h.bA (A := A) (by simp) (by decide)
    repeat (first|(refine aj h ?_;clear h;intro kb M h)|(refine aq h ?_;clear h;intro M h)|refine St.to h ?_|(apply Exists.intro;(repeat apply Exists.intro);refine And.intro rfl ?_)|refine au ?_|refine af ?_|refine ai ?_)
    refine bn (s0.at h (i := 0) (j := 0) rfl rfl (by simp [bI])) ?_
    repeat (first|(refine aj h ?_;clear h;intro kb M h)|(refine aq h ?_;clear h;intro M h)|refine St.to h ?_|(apply Exists.intro;(repeat apply Exists.intro);refine And.intro rfl ?_)|refine au ?_|refine af ?_|refine ai ?_)
    exact k true _ (fun _ h1 => absurd h1 Xx) (fun _ => rfl) ((cu h b).sub bM)
 ·have hn : (if IntKind.wrap .i64 (IntKind.wrap .i64 ((x.room : Int) - (x.l.length : Int)) + 1) < IntKind.wrap .i64 (IntKind.wrap .i64 (Int.tdiv (g.length : Int) (if (1 : Int) > p then 1 else p)) + 1) then IntKind.wrap .i64 (IntKind.wrap .i64 ((x.room : Int) - (x.l.length : Int)) + 1) else IntKind.wrap .i64 (IntKind.wrap .i64 (Int.tdiv (g.length : Int) (if (1 : Int) > p then 1 else p)) + 1)).toNat = x.cH g p := by
   obtain ⟨q, rfl⟩ := Int.eq_ofNat_of_zero_le (show 0 ≤ p by omega)
   have e1 : (if (1 : Int) > (q : Int) then 1 else (q : Int)) = (q : Int) := by split <;> omega
   rw [e1]
   have hd : g.length / q ≤ g.length := Nat.div_le_self ..
   have e2 : IntKind.wrap .i64 (Int.tdiv (g.length : Int) (q : Int)) = ((g.length / q : Nat) : Int) := wn rfl (by omega)
   rw [e2, aS (by omega), eJ (n := (x.room : Int) - (x.l.length : Int)) (by omega) (by omega), eJ (n := (x.room : Int) - (x.l.length : Int) + 1) (by omega) (by omega)]
   unfold Loc.cH
   rw [if_neg Vx, Int.toNat_natCast]
   generalize g.length / q = z at *
   split <;> omega
  revert hn
  generalize (if IntKind.wrap .i64 (IntKind.wrap .i64 ((x.room : Int) - (x.l.length : Int)) + 1) < IntKind.wrap .i64 (IntKind.wrap .i64 (Int.tdiv (g.length : Int) (if (1 : Int) > p then 1 else p)) + 1) then IntKind.wrap .i64 (IntKind.wrap .i64 ((x.room : Int) - (x.l.length : Int)) + 1) else IntKind.wrap .i64 (IntKind.wrap .i64 (Int.tdiv (g.length : Int) (if (1 : Int) > p then 1 else p)) + 1)) = n
  intro hn
  refine oW D h (by omega) ?_
  clear h
  intro A c M h
  rw [hn] at h ⊢
  repeat (first|(refine aj h ?_;clear h;intro kb M h)|(refine aq h ?_;clear h;intro M h)|refine St.to h ?_|(apply Exists.intro;(repeat apply Exists.intro);refine And.intro rfl ?_)|refine au ?_|refine af ?_|refine ai ?_)
  cases hg : g.take (x.cH g p) with
  | nil =>
   have JN : g = [] := by
    have := congrArg List.length hg
    rw [List.length_take, List.length_nil] at this
    exact List.length_eq_zero_iff.1 (by omega)
   have hp : x.dN g p = (x, g, -1) := by unfold Loc.dN; rw [hg]
   rw [hp] at k
   refine Lt rfl ?_
   have e3 : g.drop (x.cH g p) = g := by rw [JN]; simp
   rw [e3] at h
   exact k false _ (fun _ _ => rfl) (fun h1 => absurd JN h1) ((cu h b).sub bM)
  | cons v out =>
   have hp : x.dN g p = ({ x with l := x.l ++ out }, g.drop (x.cH g p), v) := by unfold Loc.dN; rw [hg]
   rw [hp] at k
   have Vk : out.length + 1 ≤ x.cH g p := by
    have := congrArg List.length hg
    rw [List.length_take, List.length_cons] at this
    omega
   refine Fw (by simp; omega) ?_
   rw [hg] at h
   generalize g.drop (x.cH g p) = g2 at *
   have Xx : g ≠ [] := by rintro rfl; simp at hg
   obtain ⟨A0, Rz⟩ : ∃ A0, A0 = lC A 1 c 1 := ⟨_, rfl⟩
   have hcap := h.jk A
   rw [List.length_cons] at hcap
   simp only [Int.toNat_natCast, List.length_cons]
   repeat (first|(refine aj h ?_;clear h;intro kb M h)|(refine aq h ?_;clear h;intro M h)|refine St.to h ?_|(apply Exists.intro;(repeat apply Exists.intro);refine And.intro rfl ?_)|refine au ?_|refine af ?_|refine ai ?_)
   refine ⟨fun d ws M => ∃ i : Nat, ws = [.int .i64 (i : Int)] ∧ d = out.length - i ∧ i ≤ out.length ∧
    Hp R (cv bI 3 A c (v :: out) :: pt b [.int .i64 x.next, .pointer (some ⟨rb, 0, none⟩)] 237 :: ay eC rb ⟨x.room, x.l ++ out.take i⟩ :: gq P g2 :: nx) M,
    ⟨_, 0, rfl, rfl, by omega, by rw [List.take_zero, List.append_nil]; exact h.sub bM⟩, ?_⟩
   clear h
   rintro d _ ii M ⟨i, he, hd, hi, h⟩
   simp only [List.cons.injEq, Value.int.injEq, and_true, true_and] at he
   subst he
   refine aJ.2 ⟨fun hlt => ?_, fun hge => ?_⟩
   ·obtain ⟨w, hw⟩ := aO (l := out) (i := i) (by omega)
    have s0 := Src.PL (h.src (A := A)) (by rw [List.length_cons]; exact hcap) 1
    rw [← Rz] at s0 ⊢
    rw [show (v :: out).drop 1 = out from rfl] at s0
    obtain ⟨b0, o0, rfl⟩ := s0.kD h (by omega) (by decide)
    repeat (first|(refine aj h ?_;clear h;intro kb M h)|(refine aq h ?_;clear h;intro M h)|refine St.to h ?_|(apply Exists.intro;(repeat apply Exists.intro);refine And.intro rfl ?_)|refine au ?_|refine af ?_|refine ai ?_)
    simp only [Int.toNat_natCast]
    refine bn (s0.at h (i := i) (j := 0) hw rfl (by simp [bI])) ?_
    repeat (first|(refine aj h ?_;clear h;intro kb M h)|(refine aq h ?_;clear h;intro M h)|refine St.to h ?_|(apply Exists.intro;(repeat apply Exists.intro);refine And.intro rfl ?_)|refine au ?_|refine af ?_|refine ai ?_)
    refine pV (v := w) h (fun e M' h' => ?_) fun e M' h' => ?_
    ·exfalso
     simp only [List.length_append, List.length_take] at e
     omega
    ·clear h
     have h := h'
     clear h'
     repeat (first|(refine aj h ?_;clear h;intro kb M h)|(refine aq h ?_;clear h;intro M h)|refine St.to h ?_|(apply Exists.intro;(repeat apply Exists.intro);refine And.intro rfl ?_)|refine au ?_|refine af ?_|refine ai ?_)
     rw [aS (by omega)]
     refine ⟨out.length - (i + 1), by omega, i + 1, rfl, rfl, by omega, ?_⟩
     rw [cV hw, ← List.append_assoc]
     exact h.sub bM
   ·obtain rfl : i = out.length := by omega
    rw [List.take_length] at h
    have s0 := h.src (A := A)
    obtain ⟨b0, rfl⟩ := h.bA (A := A) (by simp) (by decide)
    repeat (first|(refine aj h ?_;clear h;intro kb M h)|(refine aq h ?_;clear h;intro M h)|refine St.to h ?_|(apply Exists.intro;(repeat apply Exists.intro);refine And.intro rfl ?_)|refine au ?_|refine af ?_|refine ai ?_)
    refine bn (s0.at h (i := 0) (j := 0) rfl rfl (by simp [bI])) ?_
    repeat (first|(refine aj h ?_;clear h;intro kb M h)|(refine aq h ?_;clear h;intro M h)|refine St.to h ?_|(apply Exists.intro;(repeat apply Exists.intro);refine And.intro rfl ?_)|refine au ?_|refine af ?_|refine ai ?_)
    exact k true _ (fun _ h1 => absurd h1 Xx) (fun _ => rfl) ((cu h b).sub bM)
theorem Eg (h : Hp R L M) [o : bV bE b L x L'] [of : bV bE b' L' f nx]
  (k : ∀ t M', ((x.cT f).2.2 = -1 → f.l = [] → t = false) → ((x.cT f).2.2 ≠ -1 ∨ f.l ≠ [] → t = true) → Hp R (ay bE b (x.cT f).1 :: ay bE b' (x.cT f).2.1 :: nx) M' → K (.tuple #[.int .i64 (x.cT f).2.2, .bool t]) M') :
  aa Tryz.prog 151 #[.pointer (some ⟨b, 0, none⟩), .pointer (some ⟨b', 0, none⟩)] M K Kp := by
 have bd := vf h (b := b)
 obtain ⟨bd1, bd2, bd3⟩ := bd
 have h0 : Hp R (ay bE b x :: ay bE b' f :: nx) M := (h.pick o.pick).map fun _ hs => hs.tail (fun _ => bS.pick of.pick)
 clear h
 have h := h0
 clear h0
 have bdf := vf h (b := b')
 obtain ⟨bf1, bf2, bf3⟩ := bdf
 refine jb ?_
 have h' := ig h (b := b)
 clear h
 obtain ⟨rb, h⟩ := h'
 have h' := ig h (b := b')
 clear h
 obtain ⟨rf, h⟩ := h'
 have hne : b' ≠ b := UB h
 refine UC (Ne.symm hne) (Ee h (b := b)) (Ee h (b := b')) ?_
 repeat (first|(refine aj h ?_;clear h;intro kb M h)|(refine aq h ?_;clear h;intro M h)|refine St.to h ?_|(apply Exists.intro;(repeat apply Exists.intro);refine And.intro rfl ?_)|refine au ?_|refine af ?_|refine ai ?_)
 refine tR h ?_
 repeat (first|(refine aj h ?_;clear h;intro kb M h)|(refine aq h ?_;clear h;intro M h)|refine St.to h ?_|(apply Exists.intro;(repeat apply Exists.intro);refine And.intro rfl ?_)|refine au ?_|refine af ?_|refine ai ?_)
 dsimp only at *
 refine bN.2 ⟨fun e => ?_, fun e => ?_⟩
 ·have hl : f.l = [] := List.length_eq_zero_iff.1 (by omega)
  have hp : x.cT f = (x, { f with next := -1 }, f.next) := by unfold Loc.cT; rw [hl, List.take_nil]
  rw [hp] at k
  repeat (first|(refine aj h ?_;clear h;intro kb M h)|(refine aq h ?_;clear h;intro M h)|refine St.to h ?_|(apply Exists.intro;(repeat apply Exists.intro);refine And.intro rfl ?_)|refine au ?_|refine af ?_|refine ai ?_)
  have h2 := cu (cu h b) b'
  exact k _ _ (fun h1 _ => by dsimp only at h1; rw [h1]; rfl) (fun h1 => by rcases h1 with h1 | h1; exact bne_iff_ne.2 h1; exact absurd hl h1) (h2.sub bM)
 ·have hn0 : 1 ≤ x.fG f := by unfold Loc.fG; omega
  have PT : x.l.length + (x.fG f - 1) ≤ x.room := by unfold Loc.fG; omega
  repeat (first|(refine aj h ?_;clear h;intro kb M h)|(refine aq h ?_;clear h;intro M h)|refine St.to h ?_|(apply Exists.intro;(repeat apply Exists.intro);refine And.intro rfl ?_)|refine au ?_|refine af ?_|refine ai ?_)
  refine AT h ?_
  repeat (first|(refine aj h ?_;clear h;intro kb M h)|(refine aq h ?_;clear h;intro M h)|refine St.to h ?_|(apply Exists.intro;(repeat apply Exists.intro);refine And.intro rfl ?_)|refine au ?_|refine af ?_|refine ai ?_)
  refine tR h ?_
  repeat (first|(refine aj h ?_;clear h;intro kb M h)|(refine aq h ?_;clear h;intro M h)|refine St.to h ?_|(apply Exists.intro;(repeat apply Exists.intro);refine And.intro rfl ?_)|refine au ?_|refine af ?_|refine ai ?_)
  dsimp only at *
  have hn : (if IntKind.wrap .i64 (IntKind.wrap .i64 ((x.room : Int) - (x.l.length : Int)) + 1) < IntKind.wrap .i64 ((f.l.length : Int) - IntKind.wrap .i64 (Int.tdiv (f.l.length : Int) 2)) then IntKind.wrap .i64 (IntKind.wrap .i64 ((x.room : Int) - (x.l.length : Int)) + 1) else IntKind.wrap .i64 ((f.l.length : Int) - IntKind.wrap .i64 (Int.tdiv (f.l.length : Int) 2))).toNat = x.fG f := by
   have e2 : IntKind.wrap .i64 (Int.tdiv (f.l.length : Int) 2) = ((f.l.length / 2 : Nat) : Int) := wn rfl (by omega)
   rw [e2, eJ (n := (x.room : Int) - (x.l.length : Int)) (by omega) (by omega), eJ (n := (x.room : Int) - (x.l.length : Int) + 1) (by omega) (by omega), eJ (n := (f.l.length : Int) - ((f.l.length / 2 : Nat) : Int)) (by omega) (by omega)]
   unfold Loc.fG
   split <;> omega
  revert hn
  generalize (if IntKind.wrap .i64 (IntKind.wrap .i64 ((x.room : Int) - (x.l.length : Int)) + 1) < IntKind.wrap .i64 ((f.l.length : Int) - IntKind.wrap .i64 (Int.tdiv (f.l.length : Int) 2)) then IntKind.wrap .i64 (IntKind.wrap .i64 ((x.room : Int) - (x.l.length : Int)) + 1) else IntKind.wrap .i64 ((f.l.length : Int) - IntKind.wrap .i64 (Int.tdiv (f.l.length : Int) 2))) = n
  intro hn
  refine AU h ?_
  clear h
  intro A c M h
  rw [hn] at h ⊢
  repeat (first|(refine aj h ?_;clear h;intro kb M h)|(refine aq h ?_;clear h;intro M h)|refine St.to h ?_|(apply Exists.intro;(repeat apply Exists.intro);refine And.intro rfl ?_)|refine au ?_|refine af ?_|refine ai ?_)
  cases hg : f.l.take (x.fG f) with
  | nil =>
   exfalso
   have := congrArg List.length hg
   rw [List.length_take, List.length_nil] at this
   omega
  | cons v out =>
   have hp : x.cT f = ({ x with l := x.l ++ out }, { f with l := f.l.drop (x.fG f) }, v) := by unfold Loc.cT; rw [hg]
   rw [hp] at k
   have Vk : out.length + 1 ≤ x.fG f := by
    have := congrArg List.length hg
    rw [List.length_take, List.length_cons] at this
    omega
   dsimp only at h
   rw [hg] at h
   generalize f.l.drop (x.fG f) = f2 at *
   have Xx : f.l ≠ [] := by intro e0; rw [e0] at hg; simp at hg
   obtain ⟨A0, Rz⟩ : ∃ A0, A0 = lC A 1 c 1 := ⟨_, rfl⟩
   have hcap := h.jk A
   rw [List.length_cons] at hcap
   simp only [Int.toNat_natCast, List.length_cons]
   repeat (first|(refine aj h ?_;clear h;intro kb M h)|(refine aq h ?_;clear h;intro M h)|refine St.to h ?_|(apply Exists.intro;(repeat apply Exists.intro);refine And.intro rfl ?_)|refine au ?_|refine af ?_|refine ai ?_)
   refine ⟨fun d ws M => ∃ i : Nat, ws = [.int .i64 (i : Int)] ∧ d = out.length - i ∧ i ≤ out.length ∧
    Hp R (cv bI 3 A c (v :: out) :: pt b [.int .i64 x.next, .pointer (some ⟨rb, 0, none⟩)] 237 :: ay eC rb ⟨x.room, x.l ++ out.take i⟩ :: ay eC rf ⟨f.room, f2⟩ :: pt b' [.int .i64 f.next, .pointer (some ⟨rf, 0, none⟩)] 237 :: nx) M,
    ⟨_, 0, rfl, rfl, by omega, by rw [List.take_zero, List.append_nil]; exact h.sub bM⟩, ?_⟩
   clear h
   rintro d _ ii M ⟨i, he, hd, hi, h⟩
   simp only [List.cons.injEq, Value.int.injEq, and_true, true_and] at he
   subst he
   refine aJ.2 ⟨fun hlt => ?_, fun hge => ?_⟩
   ·obtain ⟨w, hw⟩ := aO (l := out) (i := i) (by omega)
    have s0 := Src.PL (h.src (A := A)) (by rw [List.length_cons]; exact hcap) 1
    rw [← Rz] at s0 ⊢
    rw [show (v :: out).drop 1 = out from rfl] at s0
    obtain ⟨b0, o0, rfl⟩ := s0.kD h (by omega) (by decide)
    repeat (first|(refine aj h ?_;clear h;intro kb M h)|(refine aq h ?_;clear h;intro M h)|refine St.to h ?_|(apply Exists.intro;(repeat apply Exists.intro);refine And.intro rfl ?_)|refine au ?_|refine af ?_|refine ai ?_)
    simp only [Int.toNat_natCast]
    refine bn (s0.at h (i := i) (j := 0) hw rfl (by simp [bI])) ?_
    repeat (first|(refine aj h ?_;clear h;intro kb M h)|(refine aq h ?_;clear h;intro M h)|refine St.to h ?_|(apply Exists.intro;(repeat apply Exists.intro);refine And.intro rfl ?_)|refine au ?_|refine af ?_|refine ai ?_)
    refine pV (v := w) h (fun e M' h' => ?_) fun e M' h' => ?_
    ·exfalso
     simp only [List.length_append, List.length_take] at e
     omega
    ·clear h
     have h := h'
     clear h'
     repeat (first|(refine aj h ?_;clear h;intro kb M h)|(refine aq h ?_;clear h;intro M h)|refine St.to h ?_|(apply Exists.intro;(repeat apply Exists.intro);refine And.intro rfl ?_)|refine au ?_|refine af ?_|refine ai ?_)
     rw [aS (by omega)]
     refine ⟨out.length - (i + 1), by omega, i + 1, rfl, rfl, by omega, ?_⟩
     rw [cV hw, ← List.append_assoc]
     exact h.sub bM
   ·obtain rfl : i = out.length := by omega
    rw [List.take_length] at h
    have s0 := h.src (A := A)
    obtain ⟨b0, rfl⟩ := h.bA (A := A) (by simp) (by decide)
    repeat (first|(refine aj h ?_;clear h;intro kb M h)|(refine aq h ?_;clear h;intro M h)|refine St.to h ?_|(apply Exists.intro;(repeat apply Exists.intro);refine And.intro rfl ?_)|refine au ?_|refine af ?_|refine ai ?_)
    refine bn (s0.at h (i := 0) (j := 0) rfl rfl (by simp [bI])) ?_
    repeat (first|(refine aj h ?_;clear h;intro kb M h)|(refine aq h ?_;clear h;intro M h)|refine St.to h ?_|(apply Exists.intro;(repeat apply Exists.intro);refine And.intro rfl ?_)|refine au ?_|refine af ?_|refine ai ?_)
    have h2 := cu (cu h b) b'
    exact k true _ (fun _ h1 => absurd h1 Xx) (fun _ => rfl) (h2.sub bM)
end
end Go.Proofs
namespace Go.AF
abbrev SL := List (Int × Int × Nat)
def yy (x : Int × Int × Nat) : MapEntry := ⟨.int .i64 x.1, .int .i64 x.2.1, x.2.2⟩
structure E2 where
 l : SL
 ck : Nat
def iA (x : E2) : Obj := .map (x.l.map yy).toArray x.ck
def fH : SL → Int → Option Int
 | [], _ => none
 | (k', v, _) :: l, k => if k = k' then some v else fH l k
def sk : SL → Int → Int → Nat → SL
 | [], k, v, c => [(k, v, c)]
 | (k', w, b) :: l, k, v, c => if k = k' then (k, v, b) :: l else (k', w, b) :: sk l k v c
def wM : SL → Int → SL
 | [], _ => []
 | (k', w, b) :: l, k => if k = k' then l else (k', w, b) :: wM l k
def E2.put (x : E2) (k v : Int) : E2 := ⟨sk x.l k v x.ck, if (fH x.l k).isSome then x.ck else x.ck + 1⟩
def E2.del (x : E2) (k : Int) : E2 := ⟨wM x.l k, x.ck⟩
def wN (k : Int) : SL → Nat → Option (Nat × Value)
 | [], _ => none
 | (k', v, _) :: l, i => if k = k' then some (i, .int .i64 v) else wN k l (i + 1)
theorem yz {kd : IntKind} (k : Int) : ∀ (l : SL) (i : Nat), Instr.findNow (.int kd) (.int .i64 k) (l.map yy) i = some (wN k l i)
 | [], _ => rfl
 | (k', v, b) :: l, i => by
  simp only [List.map_cons, yy, Instr.findNow, Instr.sameNow, if_true, wN]
  by_cases h : k = k'
  ·simp [h]
  ·have : (k == k') = false := by simp [h]
   rw [this, if_neg h]
   exact yz k l (i + 1)
theorem pW {k : Int} : ∀ {l : SL} {i : Nat}, wN k l i = none → fH l k = none ∧ (∀ v c, sk l k v c = l ++ [(k, v, c)]) ∧ wM l k = l
 | [], _, _ => ⟨rfl, fun _ _ => rfl, rfl⟩
 | (k', w, b) :: l, i, h => by
  simp only [wN] at h
  split at h
  ·cases h
  ·rename_i e
   obtain ⟨h1, h2, h3⟩ := pW h
   exact ⟨by simp [fH, e, h1], fun v c => by simp [sk, e, h2], by simp [wM, e, h3]⟩
theorem pX {k : Int} {j : Nat} {w : Value} : ∀ {l : SL} {i : Nat}, wN k l i = some (j, w) → ∃ v n, fH l k = some v ∧ w = .int .i64 v ∧ j = i + n ∧ (∃ b, l[n]? = some (k, v, b) ∧ ∀ v' c, sk l k v' c = l.set n (k, v', b)) ∧ wM l k = l.eraseIdx n
 | [], _, h => by simp [wN] at h
 | (k', u, b) :: l, i, h => by
  simp only [wN] at h
  split at h
  ·rename_i e
   cases h
   subst e
   exact ⟨u, 0, by simp [fH], rfl, by omega, ⟨b, by simp, fun v' c => by simp [sk]⟩, by simp [wM]⟩
  ·rename_i e
   obtain ⟨v, n, h1, h2, h3, ⟨b', h4, h5⟩, h6⟩ := pX h
   exact ⟨v, n + 1, by simp [fH, e, h1], h2, by omega, ⟨b', by simpa using h4, fun v' c => by simp [sk, e, h5]⟩, by simp [wM, e, h6]⟩
theorem MO {k v u : Int} {b : Nat} : ∀ {l : SL} {n : Nat}, l[n]? = some (k, u, b) → (l.map yy).modify n (fun e => { e with key := .int .i64 k, val := .int .i64 v }) = (l.set n (k, v, b)).map yy
 | [], _, h => by simp at h
 | x :: l, 0, h => by simp at h; subst h; rfl
 | x :: l, n + 1, h => by
  have := MO (v := v) (l := l) (n := n) (by simpa using h)
  simp only [List.map_cons, List.modify_succ_cons, List.set_cons_succ, this]
theorem MP : ∀ (l : SL) (n : Nat), (l.map yy).eraseIdx n = (l.eraseIdx n).map yy
 | [], _ => rfl
 | x :: l, 0 => rfl
 | x :: l, n + 1 => by simp only [List.map_cons, List.eraseIdx_cons_succ, MP l n]
section
variable {R : Mem} {L L' : List HP} {M : Mem} {P : Program} {t kt et : TypeId} {r : Nat} {x : E2} {k v : Int} {kd : IntKind}
theorem yA {P : Program} {M : Mem} {l : SL} (hk : P.underlying kt = some (.int kd)) : bF P (Instr.findKey kt (.int .i64 k) (l.map yy)) M = some (wN k l 0) := by
 unfold Instr.findKey
 rw [aK, aE hk, Option.bind_some, yz]; rfl
theorem yB {P : Program} {α : Type} {M : Mem} {r : Nat} {x : E2} {f : Obj → Sem α} {K : α → Mem → Prop} {Kp : Value → Mem → Prop} (hb : M r = some (iA x)) (h : da P (f (iA x)) M K Kp) : da P (getObj r >>= f) M K Kp := by
 refine cJ P _ _ ?_
 unfold getObj
 simp only [da, hb, iA]
 exact h
theorem PU {i : TypeInfo} {K : Value → Mem → Prop} {Kp : List PanicEntry → Mem → Prop} (h : Hp R L M) [p : ym r L (iA x) L'] (hu : P.underlying t = some (.map kt et)) (hk : P.underlying kt = some (.int kd)) (hi : P.info? et = some i) (hz : i.zero = some (.int .i64 0))
  (g : K (.tuple #[.int .i64 ((fH x.l k).getD 0), .bool (fH x.l k).isSome]) M) : aN P (Instr.lookup t (.map (some r)) (.int .i64 k) true) M K Kp := by
 have hb : M r = some (iA x) := (h.pick p.pick).Ax
 unfold aN Instr.lookup
 refine aL (aE hu M) ?_
 simp only
 refine cJ P _ _ ?_
 refine yB hb ?_
 simp only [iA]
 refine aL (x := ()) (gV hk) ?_
 refine aL (yA hk) ?_
 cases ha : wN k x.l 0 with
 | none =>
  rw [(pW ha).1] at g
  simp only
  have Xr : bF P (zeroValue et) M = some (.int .i64 0) := by rw [iX]; simp [zeroOf, hi, hz]
  refine aL Xr ?_
  refine aL (x := (.int .i64 0, false)) rfl ?_
  exact g
 | some y =>
  obtain ⟨j, w⟩ := y
  obtain ⟨v, n, h1, h2, _⟩ := pX ha
  rw [h1] at g
  subst h2
  exact g
theorem MQ {o : Obj} (h : Hp R (ob r (iA x) :: L) M) : Hp R (ob r o :: L) (M.set r o) :=
 h.set (x := iA x) (fun A ha => by unfold ob at ha; exact ha) fun A ha => by unfold ob; exact di
theorem tS {o : Obj} {K : Mem → Prop} {Kp : Value → Mem → Prop} (hb : M r = some (iA x)) (hK : K (M.set r o)) : da P (setObj r o) M (fun _ => K) Kp := by
 unfold setObj
 simp only [da, hb, iA]
 exact hK
theorem Gm {K : Mem → Prop} {Kp : List PanicEntry → Mem → Prop} (h : Hp R L M) [p : ym r L (iA x) L'] (hu : P.underlying t = some (.map kt et)) (hk : P.underlying kt = some (.int kd))
  (g : ∀ M', Hp R (ob r (iA (x.put k v)) :: L') M' → K M') : bl P (Instr.mapUpdate t (.map (some r)) (.int .i64 k) (.int .i64 v)) M K Kp := by
 have h1 := h.pick p.pick
 have hb : M r = some (iA x) := h1.Ax
 have fin : ∀ o, o = iA (x.put k v) → K (M.set r o) := fun o e => by subst e; exact g _ (MQ h1)
 unfold bl Instr.mapUpdate
 refine aL (aE hu M) ?_
 simp only
 refine yB hb ?_
 simp only [iA]
 refine aL (x := ()) (gV hk) ?_
 refine aL (yA hk) ?_
 cases ha : wN k x.l 0 with
 | none =>
  obtain ⟨e1, e2, e3⟩ := pW ha
  simp only
  refine tS hb (fin _ ?_)
  unfold iA E2.put
  rw [e1, e2]
  simp [yy]
 | some y =>
  obtain ⟨j, w⟩ := y
  obtain ⟨u, n, e1, e2, e3, ⟨b, e4, e5⟩, e6⟩ := pX ha
  simp only
  refine aL (x := Value.int .i64 k) ?_ ?_
  ·have : (((x.l.map yy).toArray[j]?).map (·.key)).getD (.int .i64 k) = .int .i64 k := by
    rw [e3, Nat.zero_add]; simp [e4, yy]
   rw [this]
   unfold Instr.keyThatStays
   simp [Instr.sameBits]; rfl
  ·refine tS hb (fin _ ?_)
   unfold iA E2.put
   rw [e1, e5, e3, Nat.zero_add]
   rw [← MO (v := v) e4]
   simp [List.modify_toArray]
theorem UD {K : Value → Mem → Prop} {Kp : List PanicEntry → Mem → Prop} {ty a2 : TypeId} (h : Hp R L M) [p : ym r L (iA x) L'] (hu : P.underlying t = some (.map kt et)) (hk : P.underlying kt = some (.int kd))
  (g : ∀ M', Hp R (ob r (iA (x.del k)) :: L') M' → K (.tuple #[]) M') : aN P (Builtin.delete_ #[t, a2] ty #[.map (some r), .int .i64 k]) M K Kp := by
 have h1 := h.pick p.pick
 have hb : M r = some (iA x) := h1.Ax
 have fin : ∀ o, o = iA (x.del k) → K (.tuple #[]) (M.set r o) := fun o e => by subst e; exact g _ (MQ h1)
 unfold aN Builtin.delete_
 simp only [List.getElem?_toArray, List.getElem?_cons_zero, List.getElem?_cons_succ]
 refine aL (aE hu M) ?_
 simp only
 refine cJ P _ _ ?_
 refine yB hb ?_
 simp only [iA]
 refine aL (x := ()) (gV hk) ?_
 refine aL (yA hk) ?_
 cases ha : wN k x.l 0 with
 | none =>
  obtain ⟨e1, e2, e3⟩ := pW ha
  simp only
  refine cJ P _ _ ?_
  refine tS (P := P) (Kp := fun v M' => Kp [{ v, recovered := false }] M') hb ?_
  refine fin _ ?_
  unfold iA E2.del
  rw [e3]
 | some y =>
  obtain ⟨j, w⟩ := y
  obtain ⟨u, n, e1, e2, e3, ⟨b, e4, e5⟩, e6⟩ := pX ha
  simp only
  refine cJ P _ _ ?_
  refine tS (P := P) (Kp := fun v M' => Kp [{ v, recovered := false }] M') hb ?_
  refine fin _ ?_
  unfold iA E2.del
  rw [e6, e3, Nat.zero_add]
  simp [List.eraseIdx_toArray, MP]
end
end Go.AF
namespace Go.Proofs
def Loc.all (x : Loc) : List Int := (if x.next = -1 then [] else [x.next]) ++ x.l
def je (v : Int) : List Int := if 0 ≤ v then [v] else []
theorem PV {xs : List Loc} {i : Nat} {x y : Loc} (a : Int) (h : xs[i]? = some x) : ((xs.set i y).flatMap Loc.all).count a + x.all.count a = (xs.flatMap Loc.all).count a + y.all.count a := by
 induction xs generalizing i with
 | nil => simp at h
 | cons z xs ih =>
  cases i with
  | zero => simp only [List.getElem?_cons_zero, Option.some.injEq] at h; subst h; simp only [List.set_cons_zero, List.flatMap_cons, List.count_append]; omega
  | succ i => have := ih (i := i) (by simpa using h); simp only [List.set_cons_succ, List.flatMap_cons, List.count_append]; omega
theorem Gn (a : Int) (l : List Int) (n : Nat) : (l.take n).count a + (l.drop n).count a = l.count a := by rw [← List.count_append, List.take_append_drop]
theorem HL (x : Loc) (v : Int) (g : List Int) (a : Int) : (x.put v g).1.all.count a + (x.put v g).2.1.count a = x.all.count a + g.count a + [v].count a := by
 unfold Loc.put Loc.all
 have := Gn a x.l (x.l.length / 2)
 split <;> simp only [List.count_append] <;> omega
theorem MR (x : Loc) (v : Int) (hv : v ≠ -1) (a : Int) : (({ x with next := v } : Loc).all).count a + (if x.next = -1 then ([] : List Int) else [x.next]).count a = x.all.count a + [v].count a := by
 unfold Loc.all
 simp only [List.count_append, if_neg hv]; omega
theorem Cq (x : Loc) (a : Int) : (({ x with next := -1 } : Loc).all).count a + (if x.next = -1 then ([] : List Int) else [x.next]).count a = x.all.count a := by
 unfold Loc.all
 simp only [List.count_append, if_true, List.count_nil]; omega
theorem JO (x : Loc) (v : Int) (hv : v ≠ -1) (g : List Int) (a : Int) : (x.ready v g).1.all.count a + (x.ready v g).2.1.count a = x.all.count a + g.count a + [v].count a := by
 have h1 := MR x v hv a
 unfold Loc.ready
 split
 ·rename_i h; rw [if_pos h] at h1; simp only [List.count_nil] at h1; dsimp only; omega
 ·rename_i h; rw [if_neg h] at h1; rw [HL]; omega
theorem Eh (x : Loc) (g : List Int) (a : Int) : (x.dy g).1.all.count a + (x.dy g).2.1.count a = x.all.count a + g.count a := by
 have h1 := Cq x a
 unfold Loc.dy
 split
 ·rfl
 ·rename_i h; rw [if_neg h] at h1; rw [HL]; omega
def Loc.Pos (x : Loc) : Prop := -1 ≤ x.next ∧ ∀ v ∈ x.l, 0 ≤ v
theorem ij {v : Int} (h : 0 ≤ v) : je v = [v] := if_pos h
theorem HM (x : Loc) (hx : x.Pos) (a : Int) : x.get.1.all.count a + (je x.get.2).count a = x.all.count a := by
 obtain ⟨h1, h2⟩ := hx
 have h3 := Cq x a
 unfold Loc.get
 split
 ·rename_i h; rw [if_neg h] at h3; rw [ij (show 0 ≤ x.next by omega)]; omega
 ·rename_i h
  split
  ·rfl
  ·rename_i v l e
   rw [ij (h2 v (by rw [e]; simp))]
   unfold Loc.all
   rw [e]
   simp only [List.count_append, List.count_cons, List.count_nil]; omega
theorem JP (x : Loc) (g : List Int) (hg : ∀ v ∈ g, 0 ≤ v) (p : Int) (a : Int) : (x.dN g p).1.all.count a + (x.dN g p).2.1.count a + (je (x.dN g p).2.2).count a = x.all.count a + g.count a := by
 have h1 := Gn a g (x.cH g p)
 unfold Loc.dN
 split
 ·rfl
 ·rename_i v out e
  rw [e] at h1
  rw [ij (hg v (List.mem_of_mem_take (by rw [e]; simp)))]
  unfold Loc.all
  simp only [List.count_append, List.count_cons, List.count_nil] at h1 ⊢; omega
theorem JQ (x f : Loc) (hf : f.Pos) (hx : x.l.length ≤ x.room) (a : Int) : (x.cT f).1.all.count a + (x.cT f).2.1.all.count a + (je (x.cT f).2.2).count a = x.all.count a + f.all.count a := by
 obtain ⟨h1, h2⟩ := hf
 have h3 := Gn a f.l (x.fG f)
 have h4 := Cq f a
 unfold Loc.cT
 split
 ·rename_i e
  by_cases hn : f.next = -1
  ·have : je f.next = [] := by unfold je; rw [if_neg (by omega)]
   dsimp only
   rw [this]; rw [if_pos hn] at h4; simp only [List.count_nil] at h4 ⊢; omega
  ·dsimp only; rw [ij (by omega)]; rw [if_neg hn] at h4; omega
 ·rename_i v out e
  rw [e] at h3
  rw [ij (h2 v (List.mem_of_mem_take (by rw [e]; simp)))]
  unfold Loc.all
  simp only [List.count_append, List.count_cons, List.count_nil] at h3 ⊢; omega
theorem HN {x : Loc} (hx : x.Pos) : (x.next = -1 ∧ x.l = [] ∧ x.get.2 = -1) ∨ ((x.next ≠ -1 ∨ x.l ≠ []) ∧ 0 ≤ x.get.2) := by
 obtain ⟨h1, h2⟩ := hx
 unfold Loc.get
 split
 ·rename_i h; exact .inr ⟨.inl h, by dsimp only; omega⟩
 ·rename_i h
  split
  ·rename_i e; exact .inl ⟨by omega, e, rfl⟩
  ·rename_i v l e; exact .inr ⟨.inr (by rw [e]; simp), h2 v (by rw [e]; simp)⟩
theorem Gp (x : Loc) (g : List Int) (p : Int) : 1 ≤ x.cH g p := by unfold Loc.cH; generalize g.length / p.toNat = q; split <;> omega
theorem AY {x : Loc} {g : List Int} (hg : ∀ v ∈ g, 0 ≤ v) (p : Int) : (g = [] ∧ (x.dN g p).2.2 = -1) ∨ (g ≠ [] ∧ 0 ≤ (x.dN g p).2.2) := by
 have hn := Gp x g p
 unfold Loc.dN
 split
 ·rename_i e
  have := congrArg List.length e
  rw [List.length_take, List.length_nil] at this
  exact .inl ⟨List.length_eq_zero_iff.1 (by omega), rfl⟩
 ·rename_i v out e
  exact .inr ⟨by rintro rfl; simp at e, hg v (List.mem_of_mem_take (by rw [e]; simp))⟩
theorem AZ {x f : Loc} (hf : f.Pos) (hx : x.l.length ≤ x.room) : (f.l = [] ∧ (x.cT f).2.2 = f.next) ∨ (f.l ≠ [] ∧ 0 ≤ (x.cT f).2.2) := by
 obtain ⟨h1, h2⟩ := hf
 unfold Loc.cT
 split
 ·rename_i e
  have := congrArg List.length e
  rw [List.length_take, List.length_nil] at this
  unfold Loc.fG at this
  exact .inl ⟨List.length_eq_zero_iff.1 (by omega), rfl⟩
 ·rename_i v out e
  exact .inr ⟨by intro h; rw [h] at e; simp at e, h2 v (List.mem_of_mem_take (by rw [e]; simp))⟩
theorem MS {x : Loc} (h : x.l.length ≤ x.room ∧ x.room ≤ 1024 ∧ 0 < x.room) (v : Int) (g : List Int) : (x.put v g).1.l.length ≤ (x.put v g).1.room ∧ (x.put v g).1.room ≤ 1024 ∧ 0 < (x.put v g).1.room := by
 unfold Loc.put; split
 ·dsimp only; simp only [List.length_append, List.length_singleton]; omega
 ·dsimp only; simp only [List.length_drop]; omega
theorem MT {x : Loc} (h : x.l.length ≤ x.room ∧ x.room ≤ 1024 ∧ 0 < x.room) (v : Int) (g : List Int) : (x.ready v g).1.l.length ≤ (x.ready v g).1.room ∧ (x.ready v g).1.room ≤ 1024 ∧ 0 < (x.ready v g).1.room := by
 unfold Loc.ready; split
 ·exact h
 ·exact MS (x := { x with next := v }) h _ _
theorem PW {x : Loc} (h : x.l.length ≤ x.room ∧ x.room ≤ 1024 ∧ 0 < x.room) (g : List Int) : (x.dy g).1.l.length ≤ (x.dy g).1.room ∧ (x.dy g).1.room ≤ 1024 ∧ 0 < (x.dy g).1.room := by
 unfold Loc.dy; split
 ·exact h
 ·exact MS (x := { x with next := -1 }) h _ _
theorem MU {x : Loc} (h : x.l.length ≤ x.room ∧ x.room ≤ 1024 ∧ 0 < x.room) : x.get.1.l.length ≤ x.get.1.room ∧ x.get.1.room ≤ 1024 ∧ 0 < x.get.1.room := by
 unfold Loc.get; split
 ·exact h
 ·split
  ·exact h
  ·rename_i e; dsimp only; rw [e, List.length_cons] at h; omega
theorem MW {x : Loc} (h : x.l.length ≤ x.room ∧ x.room ≤ 1024 ∧ 0 < x.room) (g : List Int) (p : Int) : (x.dN g p).1.l.length ≤ (x.dN g p).1.room ∧ (x.dN g p).1.room ≤ 1024 ∧ 0 < (x.dN g p).1.room := by
 have PT : x.l.length + (x.cH g p - 1) ≤ x.room := by unfold Loc.cH; generalize g.length / p.toNat = q; split <;> omega
 unfold Loc.dN; split
 ·exact h
 ·rename_i v out e
  have := congrArg List.length e
  rw [List.length_take, List.length_cons] at this
  dsimp only; simp only [List.length_append]; omega
theorem MX {x f : Loc} (h : x.l.length ≤ x.room ∧ x.room ≤ 1024 ∧ 0 < x.room) (hf : f.l.length ≤ f.room ∧ f.room ≤ 1024 ∧ 0 < f.room) :
  ((x.cT f).1.l.length ≤ (x.cT f).1.room ∧ (x.cT f).1.room ≤ 1024 ∧ 0 < (x.cT f).1.room) ∧ ((x.cT f).2.1.l.length ≤ (x.cT f).2.1.room ∧ (x.cT f).2.1.room ≤ 1024 ∧ 0 < (x.cT f).2.1.room) := by
 have PT : x.l.length + (x.fG f - 1) ≤ x.room := by unfold Loc.fG; omega
 unfold Loc.cT; split
 ·exact ⟨h, hf⟩
 ·rename_i v out e
  have := congrArg List.length e
  rw [List.length_take, List.length_cons] at this
  dsimp only; simp only [List.length_append, List.length_drop]; omega
end Go.Proofs
namespace Go.AF
def bytesOf (s : ByteArray) : List Int := s.data.toList.map fun b => (b.toNat : Int)
def oX (s : ByteArray) : List Value := s.data.toList.map fun b => .int .u8 b.toNat
theorem Ei (s : ByteArray) : oX s = Je.cells (bytesOf s) := by
 unfold oX bytesOf gW.cells
 rw [List.flatMap_map]
 show _ = s.data.toList.flatMap fun b => [Value.int .u8 (b.toNat : Int)]
 induction s.data.toList with
 | nil => rfl
 | cons a l ih => simp only [List.map_cons, List.flatMap_cons, ih]; rfl
theorem Cr (s : ByteArray) : (oX s).length = s.size := by simp [oX]
theorem vX (s : ByteArray) : (bytesOf s).length = s.size := by simp [bytesOf]
def strOf (l : List Int) : ByteArray := ⟨(l.map fun n => UInt8.ofNat n.toNat).toArray⟩
theorem vg (l m : List Int) : strOf (l ++ m) = strOf l ++ strOf m := by
 apply ByteArray.ext; simp [strOf]
theorem so (l : List Int) : (strOf l).size = l.length := by simp [strOf, ByteArray.size]
theorem zU {l : List Int} (h : ∀ n ∈ l, 0 ≤ n ∧ n < 256) : bytesOf (strOf l) = l := by
 unfold bytesOf strOf
 simp only [List.map_map]
 conv => rhs; rw [← List.map_id l]
 refine List.map_congr_left fun n hn => ?_
 obtain ⟨h1, h2⟩ := h n hn
 obtain ⟨k, rfl⟩ := Int.eq_ofNat_of_zero_le h1
 simp only [Function.comp, Int.toNat_natCast, id]
 rw [UInt8.toNat_ofNat']
 have : k % 256 = k := Nat.mod_eq_of_lt (by omega)
 exact congrArg _ this
theorem Ba {P : Program} {M : Mem} : ∀ (l : List Int) (s0 : ByteArray), bF P (forIn (Je.cells l) s0 fun c r => match c with
  | .int .u8 n => (pure (ForInStep.yield (r.push (UInt8.ofNat n.toNat))) : Sem (ForInStep ByteArray))
  | _ => (do stuck "bytesToString: byte expected"; pure (ForInStep.yield r))) M = some (s0 ++ strOf l)
 | [], s0 => by
  have e : s0 ++ strOf [] = s0 := by apply ByteArray.ext; simp [strOf]
  rw [e]; rfl
 | n :: l, s0 => by
  have e : s0 ++ strOf (n :: l) = s0.push (UInt8.ofNat n.toNat) ++ strOf l := by apply ByteArray.ext; simp [strOf]
  rw [e, gW.dc]
  show bF P (forIn (Value.int .u8 n :: Je.cells l) s0 _) M = _
  rw [List.forIn_cons]
  exact Ba l (s0.push (UInt8.ofNat n.toNat))
theorem qW {P : Program} {st bt e : TypeId} {A : Option Addr} {n c : Nat} {l : List Int} {M : Mem} {K : Value → Mem → Prop} {Kp : List PanicEntry → Mem → Prop}
  (h1 : P.underlying bt = some (.slice e)) (h2 : P.underlying st = some .string) (h3 : P.underlying e = some (.int .u8)) (hs : Sl M A (Je.cells l)) (hn : n = l.length) (k : K (.string (strOf l)) M) :
  aN P (convert bt st (.slice A n c)) M K Kp := by
 subst hn
 unfold aN
 refine fN P _ (x := Value.string (strOf l)) ?_ k
 unfold convert
 simp only [aK, aE h1 M, aE h2 M, aE h3 M, Option.bind_some]
 unfold Conv.bytesToString
 match A, hs with
 | none, hs =>
  have : l = [] := by
   have := congrArg List.length (show Je.cells l = [] from hs)
   rw [gW.b7] at this
   cases l with
   | nil => rfl
   | cons a l => simp [Je] at this
  subst this; rfl
 | some ⟨b, o, none⟩, hs =>
  have hl : (Je.cells l).length = l.length * 1 := gW.b7
  have hr := fB (P := P) (M := M) (A := some ⟨b, o, none⟩) (n := l.length) (c := c) (z := 1) (m := l.length) hs hl
  unfold Builtin.firstCells at hr
  rw [Nat.mul_one] at hr
  simp only [aK, hr, Option.bind_some]
  have hp := Ba (P := P) (M := M) l ByteArray.empty
  have e : ByteArray.empty ++ strOf l = strOf l := ByteArray.ext (by rw [ByteArray.data_append]; exact Array.empty_append)
  rw [e] at hp
  simp only [List.forIn_toArray]
  erw [hp]; rfl
theorem Hp.PX {R : Mem} {L : List HP} {M : Mem} {P : Program} {st bt e : TypeId} {s : ByteArray} {K : Value → Mem → Prop} {Kp : List PanicEntry → Mem → Prop} (h : Hp R L M)
  (h1 : P.underlying bt = some (.slice e)) (h2 : P.underlying st = some .string) (h3 : P.underlying e = some (.int .u8))
  (k : ∀ R' A c M', R.le R' → RS Je R' A c (bytesOf s) → Hp R' L M' → K (.slice A (bytesOf s).length c) M') :
  aN P (convert st bt (.string s)) M K Kp := by
 unfold aN convert
 refine aL (aE h2 M) ?_
 refine aL (aE h1 M) ?_
 simp only
 refine aL (aE h3 M) ?_
 simp only
 unfold Conv.stringToBytes
 show ∀ q, _
 intro q
 have hcap : s.size ≤ Question.cut (.appendCap s.size 0 e) q := by simp only [Question.cut]; omega
 generalize Question.cut (.appendCap s.size 0 e) q = nc at hcap
 intro b hb
 have hcs : ∀ j, j < (Je.cells (bytesOf s)).length → (s.data.map (fun b => Value.int .u8 (b.toNat : Int)) ++ Array.replicate (nc - s.size) (Value.int .u8 0))[j]? = (Je.cells (bytesOf s))[j]? := fun j hj => by
  rw [← Ei] at hj ⊢
  rw [Cr] at hj
  rw [Array.getElem?_append_left (by simpa using hj)]
  simp [oX]
 generalize hc0 : (s.data.map (fun b => Value.int .u8 (b.toNat : Int)) ++ Array.replicate (nc - s.size) (Value.int .u8 0)) = cs at hcs
 show da P (markStringish ⟨b, 0, none⟩ >>= fun _ => pure (Value.slice (some ⟨b, 0, none⟩) s.size nc)) (M.set b (.cells cs e (0, 0))) K _
 unfold markStringish
 refine cJ P _ _ ?_
 refine cJ P _ _ ?_
 unfold shape
 simp only [da, di, freeze, pure]
 refine ⟨by decide, rfl, ?_⟩
 have hf : (M.set b (.cells cs e (0, 0))).freeze ⟨b, cs.size, none⟩ 1 = M.set b (.cells cs e (cs.size, cs.size + 1)) := by
  funext i
  simp only [Mem.freeze, Mem.set]
  by_cases hi : i = b
  ·simp [hi]
  ·simp [hi]
 show K _ ((M.set b (.cells cs e (0, 0))).freeze ⟨b, cs.size, none⟩ 1)
 rw [hf]
 have h4 : Hp R (ob b (.cells cs e (cs.size, cs.size + 1)) :: L) (M.set b (.cells cs e (cs.size, cs.size + 1))) := h.new hb (by unfold ob; show (single b _) b = _; simp [single])
 obtain ⟨R', X, hX, g1, g2, g3⟩ := h4.We
 have := k R' (some ⟨b, 0, none⟩) nc _ g1 ⟨fun j hj => ?_, by rw [vX]; exact hcap⟩ g3
 ·rwa [vX] at this
 ·have EW : R' b = some (.cells cs e (cs.size, cs.size + 1)) := g2 b _ (by unfold ob at hX; exact hX)
  rw [Nat.zero_add, ← hcs j hj]
  unfold Mem.ld
  simp only [EW]; simp
end Go.AF
namespace Go.AF
set_option maxRecDepth 100000
def vj (n : Nat) : List Int := if h : n < 128 then [(n : Int)] else ((n % 128 + 128 : Nat) : Int) :: vj (n / 128)
termination_by n
decreasing_by omega
theorem tT {n : Nat} (h : n < 128) : vj n = [(n : Int)] := by rw [vj, dif_pos h]
theorem HO {n : Nat} (h : ¬ n < 128) : vj n = ((n % 128 + 128 : Nat) : Int) :: vj (n / 128) := by rw [vj, dif_neg h]
theorem Ej : ∀ (k n : Nat), n < 128 ^ (k + 1) → (vj n).length ≤ k + 1
 | 0, n, h => by rw [tT (by simpa using h)]; simp
 | k + 1, n, h => by
  by_cases hn : n < 128
  ·rw [tT hn]; simp
  ·rw [HO hn, List.length_cons]
   have := Ej k (n / 128) (by rw [Nat.pow_succ] at h; exact Nat.div_lt_of_lt_mul (by rw [Nat.mul_comm]; exact h))
   omega
theorem Xy {n : Nat} : (n % 256) ||| 128 = n % 128 + 128 := by
 have : ∀ k : Fin 256, k.val ||| 128 = k.val % 128 + 128 := by decide
 have h := this ⟨n % 256, Nat.mod_lt _ (by omega)⟩
 simp only at h
 rw [h]; omega
def PY : Nat := 3988292384
def yC (x : Nat) : Nat := if x % 2 = 1 then (x / 2) ^^^ PY else x / 2
def ik : Nat → Nat → Nat
 | 0, x => x
 | k + 1, x => yC (ik k x)
def JR (x b : Nat) : Nat := ik 8 (x ^^^ b)
theorem MY (a b : Nat) : (a ^^^ b) / 2 = (a / 2) ^^^ (b / 2) := by
 have := Nat.xor_div_two_pow (a := a) (b := b) (n := 1)
 simpa using this
theorem PZ (a b : Nat) : (a ^^^ b) % 2 = (a + b) % 2 := by
 have := Nat.xor_mod_two_pow (a := a) (b := b) (n := 1)
 rw [Nat.pow_one] at this
 rw [this]
 have ha := Nat.mod_lt a (show 2 > 0 by omega)
 have hb := Nat.mod_lt b (show 2 > 0 by omega)
 rw [Nat.add_mod]
 generalize a % 2 = x at *
 generalize b % 2 = y at *
 obtain rfl | rfl : x = 0 ∨ x = 1 := by omega
 ·obtain rfl | rfl : y = 0 ∨ y = 1 := by omega
  ·rfl
  ·rfl
 ·obtain rfl | rfl : y = 0 ∨ y = 1 := by omega
  ·rfl
  ·rfl
theorem MZ (a b : Nat) : yC (a ^^^ b) = yC a ^^^ yC b := by
 unfold yC
 rw [MY]
 have := PZ a b
 by_cases ha : a % 2 = 1
 ·by_cases hb : b % 2 = 1
  ·rw [if_neg (by omega), if_pos ha, if_pos hb]
   rw [Nat.xor_comm (b / 2) PY, Nat.xor_assoc, ← Nat.xor_assoc PY PY, Nat.xor_self, Nat.zero_xor]
  ·rw [if_pos (by omega), if_pos ha, if_neg hb]
   rw [Nat.xor_assoc, Nat.xor_comm (b / 2), ← Nat.xor_assoc]
 ·by_cases hb : b % 2 = 1
  ·rw [if_pos (by omega), if_neg ha, if_pos hb, Nat.xor_assoc]
  ·rw [if_neg (by omega), if_neg ha, if_neg hb]
theorem Ek (a b : Nat) : ∀ k, ik k (a ^^^ b) = ik k a ^^^ ik k b
 | 0 => rfl
 | k + 1 => by rw [ik, Ek a b k, MZ]; rfl
theorem Bb {w : Nat} : ∀ k, w % 2 ^ k = 0 → ik k w = w / 2 ^ k
 | 0, _ => by simp [ik]
 | k + 1, h => by
  have h1 : w % 2 ^ k = 0 := by
   have : 2 ^ k ∣ w := Nat.dvd_trans ⟨2, by rw [Nat.pow_succ]⟩ (Nat.dvd_of_mod_eq_zero h)
   exact Nat.mod_eq_zero_of_dvd this
  rw [ik, Bb k h1, yC]
  have h2 : w / 2 ^ k % 2 = 0 := by
   obtain ⟨q, rfl⟩ := Nat.dvd_of_mod_eq_zero h
   rw [Nat.pow_succ, Nat.mul_assoc, Nat.mul_div_cancel_left _ (Nat.two_pow_pos k)]
   exact Nat.mul_mod_right ..
  rw [if_neg (by omega), Nat.div_div_eq_div_mul, ← Nat.pow_succ]
theorem Gq {x b : Nat} (hb : b < 256) : (x / 256) ^^^ ik 8 ((x ^^^ b) % 256) = JR x b := by
 unfold JR
 generalize hz : x ^^^ b = z
 have h1 : z / 256 = x / 256 := by
  have := Nat.xor_div_two_pow (a := x) (b := b) (n := 8)
  rw [hz, show (2 : Nat) ^ 8 = 256 from rfl, show b / 256 = 0 from by omega, Nat.xor_zero] at this
  exact this
 have h2 : (z ^^^ (z % 256)) % 2 ^ 8 = 0 := by
  rw [Nat.xor_mod_two_pow, show (2 : Nat) ^ 8 = 256 from rfl, Nat.mod_mod, Nat.xor_self]
 have h3 : (z ^^^ (z % 256)) / 2 ^ 8 = z / 256 := by
  rw [Nat.xor_div_two_pow, show (2 : Nat) ^ 8 = 256 from rfl, show z % 256 / 256 = 0 from by omega, Nat.xor_zero]
 have h4 : z = (z ^^^ (z % 256)) ^^^ (z % 256) := by rw [Nat.xor_assoc, Nat.xor_self, Nat.xor_zero]
 have h5 : ik 8 z = ik 8 (z ^^^ (z % 256)) ^^^ ik 8 (z % 256) := by
  conv => lhs; rw [h4]
  exact Ek _ _ 8
 rw [h5, Bb 8 h2, h3, h1]
theorem P2 {x : Nat} (h : x < 4294967296) : yC x < 4294967296 := by
 unfold yC
 split
 ·exact Nat.xor_lt_two_pow (n := 32) (by omega) (by decide)
 ·omega
theorem w6 {x : Nat} (h : x < 4294967296) : ∀ k, ik k x < 4294967296
 | 0 => h
 | k + 1 => P2 (w6 h k)
theorem P3 {x b : Nat} (h : x < 4294967296) (hb : b < 256) : JR x b < 4294967296 := w6 (Nat.xor_lt_two_pow (n := 32) h (by omega)) 8
def yD (x : Nat) (l : List Int) : Nat := l.foldl (fun x b => JR x b.toNat) x
theorem Cs : ∀ {l : List Int} {x : Nat}, (∀ n ∈ l, 0 ≤ n ∧ n < 256) → x < 4294967296 → yD x l < 4294967296
 | [], x, _, h => h
 | b :: l, x, hl, h => Cs (l := l) (fun n hn => hl n (List.mem_cons_of_mem _ hn)) (P3 h (by have := hl b (List.mem_cons_self ..); omega))
theorem JS (x : Nat) (l : List Int) (b : Int) : yD x (l ++ [b]) = JR (yD x l) b.toNat := by simp [yD]
theorem YC {n : Nat} (h : n < 4294967296) : IntKind.wrap .u32 (n : Int) = n := by rw [IntKind.wrap_u32]; omega
theorem ofInt32 {n : Nat} (h : n < 4294967296) : (BitVec.ofInt IntKind.u32.bits (n : Int)).toNat = n := by
 have : IntKind.u32.bits = 32 := rfl
 rw [this]; simp only [BitVec.ofInt_natCast, BitVec.toNat_ofNat]; exact Nat.mod_eq_of_lt (by omega)
theorem RA {a b : Nat} (ha : a < 4294967296) (hb : b < 4294967296) : IntKind.wrap .u32 (((Nat.bitwise bne (BitVec.ofInt IntKind.u32.bits (a : Int)).toNat (BitVec.ofInt IntKind.u32.bits (b : Int)).toNat) : Nat) : Int) = ((a ^^^ b : Nat) : Int) := by
 rw [ofInt32 ha, ofInt32 hb]
 exact YC (Nat.xor_lt_two_pow (n := 32) ha hb)
theorem Xz {a : Nat} (ha : a < 4294967296) : (4294967295 ^^^ a : Nat) = 4294967295 - a := by
 have h1 : BitVec.allOnes 32 ^^^ BitVec.ofNat 32 a = ~~~ (BitVec.ofNat 32 a) := BitVec.allOnes_xor
 have h2 := congrArg BitVec.toNat h1
 rw [BitVec.toNat_xor, BitVec.toNat_not, BitVec.toNat_allOnes, BitVec.toNat_ofNat, Nat.mod_eq_of_lt (by omega)] at h2
 exact h2
end Go.AF
namespace Go.Proofs
open Go.AF
set_option maxRecDepth 100000
set_option maxHeartbeats 1000000
attribute [local irreducible] aH cK dM b8 az dD aF aI aX aN bl aM
theorem RB : bu Tryz.prog 212 5 1 1 [.int .u8 0] := bu.mk' (zv := .int .u8 0) (by kernel_rfl) (by kernel_rfl) rfl (by omega)
theorem yE : Tryz.prog.underlying 212 = some (.slice 5) := by kernel_rfl
theorem Ct : Tryz.prog.underlying 5 = some (.int .u8) := by kernel_rfl
theorem vk : Tryz.prog.underlying 9 = some .string := by kernel_rfl
section
variable {R : Mem} {L L' : List HP} {M : Mem} {K : Value → Mem → Prop} {Kp : List PanicEntry → Mem → Prop}
theorem w8 {n : Nat} : IntKind.wrap .u8 (n : Int) = ((n % 256 : Nat) : Int) := by
 unfold IntKind.wrap
 simp only [IntKind.signed, Bool.false_and, Bool.false_eq_true, if_false, IntKind.bits]
 omega
theorem ofInt8 {n : Nat} (h : n < 256) : (BitVec.ofInt IntKind.u8.bits (n : Int)).toNat = n := by
 have : IntKind.u8.bits = 8 := rfl
 rw [this]; simp only [BitVec.ofInt_natCast, BitVec.toNat_ofNat]; exact Nat.mod_eq_of_lt (by omega)
theorem Cu {n : Nat} (h : Hp R L M) (hn : n < 18446744073709551616) (k : ∀ M', Hp R L M' → K (.string (strOf (vj n))) M') : aa Tryz.prog 100 #[.int .u64 (n : Int)] M K Kp := by
 refine F3 ⟨fun d ws M => ∃ (m : Nat) (A : Option Addr) (c : Nat) (l : List Int), ws = [.int .u64 (m : Int), .slice A l.length c] ∧ d = m ∧ m < 18446744073709551616 ∧ l ++ vj m = vj n ∧ l.length ≤ 100 ∧
  Hp R (cv Je 5 A c l :: L) M, ⟨_, n, none, 0, [], rfl, rfl, hn, rfl, by simp, h.cE _ _⟩, ?_⟩
 clear h
 rintro d _ _ A _ c M ⟨m, _, _, l, he, hd, hm, hl, Vy, h⟩
 simp only [List.cons.injEq, Value.int.injEq, Value.slice.injEq, and_true, true_and] at he
 obtain ⟨rfl, rfl, rfl, rfl⟩ := he
 have hlen : (vj n).length ≤ 10 := Ej 9 n (by have : (128 : Nat) ^ (9 + 1) = 1180591620717411303424 := rfl; omega)
 refine aJ.2 ⟨fun hge => ?_, fun hlt => ?_⟩
 ·have e := HO (n := m) (by omega)
  have e1 : IntKind.wrap .u8 (((Nat.bitwise or (BitVec.ofInt IntKind.u8.bits (IntKind.u8.wrap (m : Int))).toNat (BitVec.ofInt IntKind.u8.bits 128).toNat) : Nat) : Int) = ((m % 128 + 128 : Nat) : Int) := by
   rw [show IntKind.u8.wrap (m : Int) = ((m % 256 : Nat) : Int) from w8, ofInt8 (Nat.mod_lt _ (by omega))]
   have : (BitVec.ofInt IntKind.u8.bits 128).toNat = 128 := rfl
   rw [this]
   have h2 : Nat.bitwise or (m % 256) 128 = m % 128 + 128 := Xy
   rw [h2, w8]
   exact congrArg _ (by omega)
  rw [e1]
  have kq : l.length < 10 := by
   have := congrArg List.length hl
   rw [List.length_append] at this
   have hp : 0 < (vj m).length := by rw [e]; simp
   omega
  have e2 : Int.fdiv (m : Int) 128 = ((m / 128 : Nat) : Int) := by rw [Int.fdiv_eq_ediv_of_nonneg _ (by omega)]; omega
  rw [e2]
  repeat (first|(refine aj h ?_;clear h;intro kb M h)|(refine aq h ?_;clear h;intro M h)|refine St.to h ?_|(apply Exists.intro;(repeat apply Exists.intro);refine And.intro rfl ?_)|refine au ?_|refine af ?_|refine ai ?_)
  refine h.bD RB [((m % 128 + 128 : Nat) : Int)] rfl rfl (by simp; omega) ?_
  clear h
  intro A' c' M h
  repeat (first|(refine aj h ?_;clear h;intro kb M h)|(refine aq h ?_;clear h;intro M h)|refine St.to h ?_|(apply Exists.intro;(repeat apply Exists.intro);refine And.intro rfl ?_)|refine au ?_|refine af ?_|refine ai ?_)
  refine ⟨m / 128, by omega, m / 128, A', c', _, rfl, rfl, by omega, ?_, by simp; omega, h.bT⟩
  rw [← hl, e]; simp
 ·have e := tT (n := m) (by omega)
  have e1 : IntKind.wrap .u8 (m : Int) = (m : Int) := by rw [w8]; exact congrArg _ (by omega)
  rw [e1]
  repeat (first|(refine aj h ?_;clear h;intro kb M h)|(refine aq h ?_;clear h;intro M h)|refine St.to h ?_|(apply Exists.intro;(repeat apply Exists.intro);refine And.intro rfl ?_)|refine au ?_|refine af ?_|refine ai ?_)
  refine h.bD RB [(m : Int)] rfl rfl (by simp; omega) ?_
  clear h
  intro A' c' M h
  repeat (first|(refine aj h ?_;clear h;intro kb M h)|(refine aq h ?_;clear h;intro M h)|refine St.to h ?_|(apply Exists.intro;(repeat apply Exists.intro);refine And.intro rfl ?_)|refine au ?_|refine af ?_|refine ai ?_)
  rw [e] at hl
  rw [hl] at h ⊢
  refine qW yE vk Ct (h.src (A := A') M h) rfl ?_
  exact vN (k _ h.mJ)
theorem HQ {α : Type} {E : gW α} {T c : Nat} {b : Nat} {l : List α} {G : List Value → Prop} (h : Hp R L M) [hp : ct (some ⟨b, 0, none⟩) L α E T c l L'] {n : Nat} (hn : l.length * E.z = n) (g : G (E.cells l)) : Si (M.iH ⟨b, 0, none⟩ 0 n) G := by
 subst hn
 have hs := h.src (A := some ⟨b, 0, none⟩) M h
 have := uJ (M := M) (b := b) (o := 0) (E.cells l) 0 (fun j hj => by rw [Nat.zero_add]; exact hs j hj)
 rw [gW.b7] at this
 rw [this]; exact g
theorem HR : ∀ (vs cs : List Value) (o : Nat), o + vs.length ≤ cs.length → zA cs o vs = cs.take o ++ vs ++ cs.drop (o + vs.length)
 | [], cs, o, _ => by simp [zA]
 | v :: vs, cs, o, h => by
  rw [List.length_cons] at h
  rw [zA, HR vs (cs.set o v) (o + 1) (by rw [List.length_set]; omega)]
  rw [List.length_cons, show o + 1 + vs.length = o + (vs.length + 1) from by omega, List.drop_set_of_lt (by omega)]
  have : (cs.set o v).take (o + 1) = cs.take o ++ [v] := by
   rw [List.take_add_one, List.getElem?_set_self (by omega), List.take_set_of_le (Nat.le_refl o)]; rfl
  rw [this, List.append_assoc, List.append_assoc, List.append_assoc]; rfl
theorem Na {cs vs : List Value} (h : vs.length = cs.length) : zA cs 0 vs = vs := by
 rw [HR vs cs 0 (by omega)]; simp [h]
theorem RC {b T n : Nat} {cs vs : List Value} {G : Mem → Prop} (h : Hp R L M) [hp : j4 b L cs T L'] (hc : cs.length = n) (hv : vs.length = n) (Yg : ∀ v ∈ vs, Value.plainCell v = true) (k : ∀ M', Hp R (pt b vs T :: L') M' → G M') : VM M b 0 vs n G := by
 have h2 := h.pick hp.pick
 have hb := h2.Aw
 refine ⟨hv, Yg, ⟨cs.toArray, T, hb, by simp [hc]⟩, k _ ?_⟩
 have : M.BD b 0 vs = M.set b (.cells vs.toArray T (0, 0)) := by
  funext i
  unfold Mem.BD Mem.set
  by_cases hi : i = b
  ·subst hi
   rw [if_pos rfl, if_pos rfl, hb]
   have e : zA cs 0 vs = vs := Na (by omega)
   show some (Obj.cells (zA cs.toArray.toList 0 vs).toArray T (0, 0)) = _
   rw [show cs.toArray.toList = cs from rfl, e]
  ·rw [if_neg hi, if_neg hi]
 rw [this]
 exact h2.set (x := .cells cs.toArray T (0, 0)) (fun A ha => by unfold pt at ha; exact ha) fun A ha => by unfold pt; exact di
theorem JT (h : Hp R L M) (k : ∀ M', Hp R L M' → K (.agg ⟨wv.cells ((List.range 256).map fun i => ((ik 8 i : Nat) : Int))⟩) M') : aa Tryz.prog 168 #[] M K Kp := by
 refine Cj ?_
 refine aj h ?_
 clear h; intro k1 M h
 refine aj h ?_
 clear h; intro k3 M h
 replace h := (h.pt k3).hH (E := wv) (l := (List.range 256).map fun _ => 0) rfl
 refine ⟨fun d ws M => ∃ i : Nat, ws = [.int .i64 (i : Int)] ∧ d = 256 - i ∧ i ≤ 256 ∧
  Hp R (cv wv 325 (some ⟨k3, 0, none⟩) 256 ((List.range 256).map fun j => if j < i then ((ik 8 j : Nat) : Int) else 0) :: pt k1 (wv.cells ((List.range 256).map fun _ => 0)) 325 :: L) M, ⟨_, 0, rfl, rfl, by omega, h⟩, ?_⟩
 clear h
 rintro d _ ii M ⟨i, he, hd, hi, h⟩
 simp only [List.cons.injEq, Value.int.injEq, and_true, true_and] at he
 subst he
 refine aJ.2 ⟨fun hlt => ?_, fun hge => ?_⟩
 ·rw [YC (n := i) (by omega)]
  have hI : ∀ j, ik j i < 4294967296 := fun j => w6 (by omega) j
  refine ⟨fun d2 ws M' => ∃ j : Nat, ws = [.int .u32 (ik j i : Nat), .int .i64 (j : Int)] ∧ d2 = 8 - j ∧ j ≤ 8 ∧ M' = M, ⟨_, 0, rfl, rfl, by omega, rfl⟩, ?_⟩
  rintro d2 _ _ jj M2 ⟨j, he, UE, hj, rfl⟩
  simp only [List.cons.injEq, Value.int.injEq, and_true, true_and] at he
  obtain ⟨rfl, rfl⟩ := he
  refine aJ.2 ⟨fun hj8 => ?_, fun hj8 => ?_⟩
  ·have hT : ik (j + 1) i = yC (ik j i) := rfl
   have hIj := hI j
   rw [aS (by omega)]
   generalize ik j i = x at *
   have e1 : IntKind.wrap .u32 (((Nat.bitwise and (BitVec.ofInt IntKind.u32.bits (x : Int)).toNat (BitVec.ofInt IntKind.u32.bits 1).toNat) : Nat) : Int) = ((x % 2 : Nat) : Int) := by
    rw [ofInt32 hIj, show (BitVec.ofInt IntKind.u32.bits 1).toNat = 1 from rfl]
    have : Nat.bitwise and x 1 = x % 2 := Nat.and_one_is_mod x
    rw [this, YC (by omega)]
   have p1 : (2 : Int) ^ min (Int.toNat 1) IntKind.u32.bits = 2 := rfl
   have e2 : Int.fdiv (x : Int) 2 = ((x / 2 : Nat) : Int) := by rw [Int.fdiv_eq_ediv_of_nonneg _ (by omega)]; omega
   rw [e1, p1, e2]
   refine bN.2 ⟨fun ho => ?_, fun ho => ?_⟩
   ·refine ⟨8 - (j + 1), by omega, j + 1, ?_, rfl, by omega, rfl⟩
    have e5 := RA (a := x / 2) (b := 3988292384) (by omega) (by omega)
    rw [hT]
    refine congrArg (fun v => [Value.int .u32 v, Value.int .i64 ((j + 1 : Nat) : Int)]) (Eq.trans e5 (congrArg _ ?_))
    unfold yC
    rw [if_pos (by omega)]; rfl
   ·refine ⟨8 - (j + 1), by omega, j + 1, ?_, rfl, by omega, rfl⟩
    rw [hT]
    unfold yC
    rw [if_neg (by omega)]
  ·obtain rfl : j = 8 := by omega
   refine ⟨by omega, by omega, ?_⟩
   simp only [Int.toNat_natCast]
   refine gp (a' := ((ik 8 i : Nat) : Int)) i 0 h (vV (by omega)) (by decide) rfl (by simp [wv]) ?_
   clear h; intro M h
   rw [aS (by omega)]
   refine ⟨256 - (i + 1), by omega, i + 1, rfl, rfl, by omega, ?_⟩
   rw [Cl, tG (g := fun j => if j < i + 1 then ((ik 8 j : Nat) : Int) else 0)] at h
   ·exact h
   ·intro j _
    by_cases h1 : j = i
    ·subst h1; simp
    ·simp only [h1, if_false]
     by_cases h2 : j < i
     ·rw [if_pos h2, if_pos (by omega)]
     ·rw [if_neg h2, if_neg (by omega)]
 ·obtain rfl : i = 256 := by omega
  rw [tG (g := fun j => ((ik 8 j : Nat) : Int)) (fun j hj => by simp [hj])] at h
  generalize hl : (List.range 256).map (fun i => ((ik 8 i : Nat) : Int)) = l at *
  have Vy : l.length = 256 := by rw [← hl]; simp
  refine HQ h (by rw [Vy]; rfl) ?_
  refine RC h (by rw [gW.b7]; simp; rfl) (by show (wv.cells l).length = 256; rw [gW.b7, Vy]; rfl) (fun v hv => gW.ja v hv) ?_
  clear h; intro M h
  have h2 := (h.pt k1).hH (E := wv) (l := l) rfl
  refine HQ h2 (by rw [Vy]; rfl) ?_
  exact k _ h2.mJ
end
section
variable {R : Mem} {L L' : List HP} {M : Mem} {K : Value → Mem → Prop} {Kp : List PanicEntry → Mem → Prop}
theorem UF : (BitVec.ofInt IntKind.u32.bits (if IntKind.u32.signed = true then -1 else IntKind.u32.max)).toNat = 4294967295 := by decide
theorem RD {x : Nat} (h : x < 4294967296) : IntKind.wrap .u32 (((Nat.bitwise bne (BitVec.ofInt IntKind.u32.bits (if IntKind.u32.signed = true then -1 else IntKind.u32.max)).toNat (BitVec.ofInt IntKind.u32.bits (x : Int)).toNat) : Nat) : Int) = ((4294967295 - x : Nat) : Int) := by
 rw [UF, ofInt32 h]
 have : Nat.bitwise bne 4294967295 x = 4294967295 - x := Xz h
 rw [this, YC (by omega)]
theorem P4 {x : Nat} {l : List Int} (hx : x < 4294967296) (hl : ∀ n ∈ l, 0 ≤ n ∧ n < 256) (hs : l.length ≤ 1000000) (h : Hp R L M)
  (k : ∀ R' M', R.le R' → Hp R' L M' → K (.agg #[.int .u32 (4294967295 - yD (4294967295 - x) l : Nat)]) M') : aa Tryz.prog 142 #[.agg #[.int .u32 (x : Int)], .string (strOf l)] M K Kp := by
 refine u3 ?_
 refine aj h ?_
 clear h; intro k1 M h
 refine aj h ?_
 clear h; intro k3 M h
 refine JT h ?_
 clear h; intro M h
 refine ⟨_, by rw [gW.b7]; simp; rfl, rfl, ?_⟩
 refine aj h ?_
 clear h; intro k8 M h
 refine RC h rfl (by show (wv.cells _).length = 256; rw [gW.b7]; simp; rfl) (fun v hv => gW.ja v hv) ?_
 clear h; intro M h
 refine aG h ?_
 refine h.PX yE vk Ct fun R1 A c M' g1 hA h' => ?_
 clear h
 have h := h'
 clear h'
 rw [zU hl] at hA ⊢
 rw [RD hx]
 refine bk ?_
 refine ⟨fun d ws M => ∃ i : Nat, ws = [.int .u32 (yD (4294967295 - x) (l.take i) : Nat), .int .i64 (i : Int)] ∧ d = l.length - i ∧ i ≤ l.length ∧
  Hp R1 (pt k8 (wv.cells ((List.range 256).map fun i => ((ik 8 i : Nat) : Int))) 325 :: pt k3 [.int .u32 0] 287 :: L) M, ⟨_, 0, rfl, rfl, by omega, h.sub bM⟩, ?_⟩
 clear h
 rintro d _ _ ii M ⟨i, he, hd, hi, h⟩
 simp only [List.cons.injEq, Value.int.injEq, and_true, true_and] at he
 obtain ⟨rfl, rfl⟩ := he
 have hlt : yD (4294967295 - x) (l.take i) < 4294967296 := Cs (fun n hn => hl n (List.mem_of_mem_take hn)) (by omega)
 refine aJ.2 ⟨fun Vv => ?_, fun hge => ?_⟩
 ·obtain ⟨b, hb⟩ := aO (l := l) (i := i) (by omega)
  have EW := hl b (List.mem_of_getElem? hb)
  obtain ⟨q, rfl⟩ := Int.eq_ofNat_of_zero_le EW.1
  have hstep : yD (4294967295 - x) (l.take (i + 1)) = JR (yD (4294967295 - x) (l.take i)) q := by rw [cV hb, JS, Int.toNat_natCast]
  generalize yD (4294967295 - x) (l.take i) = y at *
  obtain ⟨b1, o1, rfl⟩ := hA.some (by omega) (by decide)
  refine ⟨by omega, Vv, ?_⟩
  refine bp ?_
  simp only [Int.toNat_natCast]
  refine bn (hA.src.at h (i := i) (j := 0) hb rfl (by simp [Je])) ?_
  have e1 : IntKind.wrap .u8 (((Nat.bitwise bne (BitVec.ofInt IntKind.u8.bits (IntKind.u8.wrap (y : Int))).toNat (BitVec.ofInt IntKind.u8.bits (q : Int)).toNat) : Nat) : Int) = (((y ^^^ q) % 256 : Nat) : Int) := by
   rw [show IntKind.u8.wrap (y : Int) = ((y % 256 : Nat) : Int) from w8, ofInt8 (Nat.mod_lt _ (by omega)), ofInt8 (by omega), w8]
   have h1 := Nat.xor_mod_two_pow (a := y) (b := q) (n := 8)
   have h2 := Nat.xor_mod_two_pow (a := y % 256) (b := q) (n := 8)
   rw [show (2 : Nat) ^ 8 = 256 from rfl] at h1 h2
   have h3 : Nat.bitwise bne (y % 256) q = (y % 256) ^^^ q := rfl
   rw [h3, h1, h2, Nat.mod_mod]
  rw [e1]
  have hz := Nat.mod_lt (y ^^^ q) (show 256 > 0 by omega)
  have htab := Gq (x := y) (b := q) (by omega)
  generalize (y ^^^ q) % 256 = z at *
  refine ⟨by omega, by omega, ?_⟩
  simp only [Int.toNat_natCast]
  have s8 : ∀ L', Src R1 (pt k8 (wv.cells ((List.range 256).map fun i => ((ik 8 i : Nat) : Int))) 325 :: L') (some ⟨k8, 0, none⟩) (wv.cells ((List.range 256).map fun i => ((ik 8 i : Nat) : Int))) := fun L' => Src.pt .here
  refine bn ((s8 _).at h (i := z) (j := 0) (vV hz) rfl (by simp [wv])) ?_
  have hzI : ik 8 z < 4294967296 := w6 (by omega) 8
  have e2 : (y : Int).fdiv (2 ^ min (Int.toNat 8) IntKind.u32.bits) = ((y / 256 : Nat) : Int) := by
   rw [show (2 : Int) ^ min (Int.toNat 8) IntKind.u32.bits = 256 from rfl, Int.fdiv_eq_ediv_of_nonneg _ (by omega)]; omega
  rw [e2, RA (by omega) hzI, htab, ← hstep, aS (by omega)]
  exact ⟨l.length - (i + 1), by omega, i + 1, rfl, rfl, by omega, h⟩
 ·obtain rfl : i = l.length := by omega
  rw [List.take_length] at hlt ⊢
  rw [RD hlt]
  repeat (first|(refine aj h ?_;clear h;intro kb M h)|(refine aq h ?_;clear h;intro M h)|refine St.to h ?_|(apply Exists.intro;(repeat apply Exists.intro);refine And.intro rfl ?_)|refine au ?_|refine af ?_|refine ai ?_)
  exact k R1 _ g1 h.mJ
end
section
variable {R : Mem} {L L' : List HP} {M : Mem} {K : Value → Mem → Prop} {Kp : List PanicEntry → Mem → Prop}
theorem P5 {b T : Nat} {l1 l2 : List Int} (h1 : ∀ n ∈ l1, 0 ≤ n ∧ n < 256) (h2 : ∀ n ∈ l2, 0 ≤ n ∧ n < 256) (sM : l1.length ≤ 1000000) (Zv : l2.length ≤ 1000000) (h : Hp R (pt b [.string (strOf l1), .string (strOf l2)] T :: L) M)
  (k : ∀ R' M' (v : Nat), R.le R' → v < 4294967296 → Hp R' (pt b [.string (strOf l1), .string (strOf l2)] T :: L) M' → K (.int .u32 (v : Nat)) M') : aa Tryz.prog 102 #[.slice (some ⟨b, 0, none⟩) 2 2] M K Kp := by
 refine JH ?_
 refine aj h ?_
 clear h
 intro k1 M h
 refine ⟨fun d ws M => ∃ (i : Nat) (R' : Mem) (v : Nat), ws = [.int .i64 (i : Int)] ∧ d = 2 - i ∧ i ≤ 2 ∧ v < 4294967296 ∧ R.le R' ∧ Hp R' (pt k1 [.int .u32 (v : Nat)] 287 :: pt b [.string (strOf l1), .string (strOf l2)] T :: L) M, ⟨_, 0, R, 0, rfl, rfl, by omega, by omega, Mem.le_refl R, h⟩, ?_⟩
 clear h
 rintro d _ ii M ⟨i, R1, v, he, hd, hi, hv, g1, h⟩
 simp only [List.cons.injEq, Value.int.injEq, and_true, true_and] at he
 subst he
 refine aJ.2 ⟨fun Vv => ?_, fun hge => ?_⟩
 ·refine ⟨by omega, Vv, bp ?_⟩
  have hx : ∃ l : List Int, (∀ n ∈ l, 0 ≤ n ∧ n < 256) ∧ l.length ≤ 1000000 ∧ M.ld ⟨b, 0 + Int.toNat (i : Int), none⟩ = some (.string (strOf l)) := by
   have : i = 0 ∨ i = 1 := by omega
   rcases this with rfl | rfl
   ·exact ⟨l1, h1, sM, (bH h : M.ld ⟨b, 0, none⟩ = _)⟩
   ·exact ⟨l2, h2, Zv, (bH h : M.ld ⟨b, 0 + 1, none⟩ = _)⟩
  obtain ⟨l, hl, hs, HS⟩ := hx
  refine Wh HS ?_
  refine aG h ?_
  refine P4 (x := v) hv hl hs h fun R2 M' g2 h' => ?_
  clear h HS
  have h := h'
  clear h'
  refine ⟨_, rfl, ?_⟩
  refine aq h ?_
  clear h; intro M h
  have hlt : yD (4294967295 - v) l < 4294967296 := Cs hl (by omega)
  exact ⟨1 - i, by omega, i + 1, R2, _, by rw [aS (by omega)], by omega, by omega, by omega, Mem.le_trans g1 g2, h⟩
 ·refine aG h ?_
  refine u4 ?_
  refine aj h ?_
  clear h
  intro k2 M h
  refine aG h ?_
  refine cy ?_
  exact k R1 M v g1 hv (h.sub bM)
theorem Cv {v : Nat} (h : Hp R L M) (hv : v < 4294967296) (k : ∀ (l : List Int) M', l.length = 4 → Hp R L M' → K (.string (strOf l)) M') : aa Tryz.prog 118 #[.int .u32 (v : Nat)] M K Kp := by
 refine wL ?_
 refine aj h ?_
 clear h
 intro k1 M h
 have bd : ∀ z : Int, 0 ≤ IntKind.wrap .u8 z ∧ IntKind.wrap .u8 z < 256 := fun z => by rw [IntKind.wrap_u8]; omega
 replace h := (h.pt k1).hH (E := Je) (l := [IntKind.wrap .u8 (v : Int), IntKind.wrap .u8 (Int.fdiv (v : Int) 256), IntKind.wrap .u8 (Int.fdiv (v : Int) 65536), IntKind.wrap .u8 (Int.fdiv (v : Int) 16777216)]) rfl
 refine qW yE vk Ct (h.src (A := some ⟨k1, 0, none⟩) M h) rfl ?_
 refine vN ?_
 exact k _ M rfl (h.sub bM)
theorem yF (h : Hp R L M) (k : ∀ R' (s : ByteArray) M', R.le R' → s.size = 8 → Hp R' L M' → K (.tuple #[.string s, .int .i64 0]) M') : aa Tryz.prog 69 #[.int .u64 0, .string ⟨#[]⟩] M K Kp := by
 refine u5 ?_
 have e0 : vj 0 = [0] := tT (by decide)
 refine aJ.2 ⟨fun hc => absurd hc (by decide), fun _ => ?_⟩
 refine Cu (n := 0) h (by decide) ?_
 clear h; intro M h
 rw [e0]
 refine vN ⟨by decide, ?_⟩
 refine Cu (n := 0) h (by decide) ?_
 clear h; intro M h
 rw [e0]
 have eh : ((⟨#[83, 103]⟩ : ByteArray) ++ strOf [0]) ++ strOf [0] = strOf [83, 103, 0, 0] := by decide
 refine vN ⟨by decide, by decide, ?_⟩
 rw [eh]
 have e1 : (⟨#[]⟩ : ByteArray) = strOf [] := rfl
 rw [e1]
 refine aj h ?_
 clear h
 intro k7 M h
 refine P5 (l1 := [83, 103, 0, 0]) (l2 := []) (by decide) (by decide) (by decide) (by decide) h ?_
 clear h; intro R' M v hle hv h
 refine cy ?_
 refine Cv h hv ?_
 clear h; intro l M hl h
 have es : (strOf [83, 103, 0, 0] ++ strOf [] ++ strOf l).size = 8 := by
  rw [← vg, ← vg, so]; simp [hl]
 refine vN ⟨?_, k R' _ M hle es (h.sub bM)⟩
 rw [← vg, so, so, hl]; decide
theorem Nb (h : Hp R L M) (k : ∀ R' M', R.le R' → Hp R' L M' → K (.bool true) M') : aa Tryz.prog 27 #[] M K Kp := by
 refine r8 ?_
 refine yF h ?_
 clear h; intro R' s M hle hs h
 refine ⟨_, _, rfl, ?_⟩
 refine bN.2 ⟨fun _ => ?_, fun hc => absurd rfl hc⟩
 refine bN.2 ⟨fun _ => ?_, fun hc => absurd (by rw [hs]; rfl) hc⟩
 refine m5 ?_
 refine aj h ?_
 clear h
 intro k1 M h
 refine aG h (aG h ?_)
 have e : IntKind.wrap .u64 (((Nat.bitwise or (BitVec.ofInt IntKind.u64.bits (IntKind.u64.wrap (3 * 2 ^ min (Int.toNat 2) IntKind.u64.bits))).toNat (BitVec.ofInt IntKind.u64.bits (IntKind.u64.wrap (IntKind.i64.wrap (1 - 1)))).toNat) : Nat) : Int) = ((12 : Nat) : Int) := by decide +kernel
 rw [e]
 refine Cu (n := 12) h (by decide) ?_
 clear h; intro M h
 rw [tT (by decide)]
 refine vN (vN ?_)
 have e2 : ((strOf [((12 : Nat) : Int)]).toList == (⟨#[12]⟩ : ByteArray).toList) = true := by decide +kernel
 rw [e2]
 exact k R' M hle (h.sub bM)
end
end Go.Proofs
