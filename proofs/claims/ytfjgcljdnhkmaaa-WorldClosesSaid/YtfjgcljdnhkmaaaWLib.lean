/- A part of proofs about functions of one program: a condition over a partial memory that is enough for a call, and what calls answer by it. No condition of its own. -/
import Derived.Test.YtfjgcljdnhkmaaaMapI
import Derived.Test.YtfjgcljdnhkmaaaList
set_option linter.unusedVariables false
/- append to a row that is full; lookups that tell whether something was there. -/
namespace Go.AF
theorem semK_appendF {P : Program} {t t' e ty : TypeId} {i : TypeInfo} {zv : Value} {A B : Option Addr} {n c m d : Nat} {l r : List Value} {M : Mem} {K : Value → Mem → Prop} {Kp : List PanicEntry → Mem → Prop}
    (hu : P.underlying t = some (.slice e)) (hu' : P.underlying t' = some (.slice e)) (hi : P.info? e = some i) (hz : i.zero = some zv) (hs : zv.cells.size = i.size)
    (hol : Sl M A l) (hl : l.length = n * i.size) (hr : Sl M B r) (hrl : r.length = m * i.size) (hc : c < n + m) (hb : (n + m) * i.bytes ≤ 140737488355328) (hby : 0 < i.bytes)
    (h : ∀ k c' M', M k = none → Own M' i.size e (some ⟨k, 0, none⟩) (n + m) c' (l ++ r) → Chg [] M M' → K (.slice (some ⟨k, 0, none⟩) (n + m) c') M') :
    semK P (Builtin.append_ #[t, t'] ty #[.slice A n c, .slice B m d]) M K Kp := by
  unfold semK Builtin.append_
  simp only [List.getElem?_toArray, List.getElem?_cons_zero, List.getElem?_cons_succ]
  refine awp_run (rd_underlying hu M) ?_
  simp only
  refine awp_run (rd_sizeOfI hi M) ?_
  refine awp_run (rd_underlying hu' M) ?_
  refine awp_run (x := false) rfl ?_
  refine awp_run (x := m) rfl ?_
  simp only [Bool.not_false, if_true]
  rw [if_neg (by omega)]
  refine awp_run (rd_typeInfo hi M) ?_
  rw [if_neg (by simp; omega)]
  refine awp_run (rd_typeInfo hi M) ?_
  rw [if_neg (by have := growslice_fits (need := n + m) (old := c) (bytes := i.bytes) (by omega) hb; omega)]
  show ∀ q, _
  intro q
  have hcap : n + m ≤ Question.cut (.appendCap (n + m) c e) q := by simp only [Question.cut]; omega
  generalize Question.cut (.appendCap (n + m) c e) q = nc at hcap
  refine awp_run (x := nc) rfl ?_
  refine awp_run (rd_typeInfo hi M) ?_
  refine awp_bind P _ _ ?_
  have room : ∀ (X : Prop) , X → awp P (askRoom (nc * i.bytes)) M (fun _ M' => M' = M) (fun _ _ => False) := by
    intro X _
    unfold askRoom
    split
    · exact rfl
    · exact rfl
  refine awp_mono P _ (room True trivial) (fun _ M' hM' => ?_) (fun _ _ hf => hf.elim)
  subst hM'
  refine awp_run (rd_firstCells hol hl) ?_
  refine awp_run (rd_firstCells hr hrl) ?_
  refine awp_run (x := zv) (by rw [zeroInfo]; simp [zeroOf, hi, hz]) ?_
  intro k hk
  refine h k nc _ hk ⟨by rw [List.length_append, hl, hrl, Nat.add_mul], .inr ⟨k, _, rfl, set_same, ?_, hcap, fun j hj => ?_⟩⟩ ((Chg.refl _ _).set (.inr hk))
  · simp only [Array.size_append, List.size_toArray, hl, hrl]
    have : (Builtin.zeroCells zv.cells (nc - (n + m))).size = (nc - (n + m)) * i.size := by simp [Builtin.zeroCells, hs]
    rw [this, ← Nat.add_mul, ← Nat.add_mul]; congr 1; omega
  · rw [Nat.add_mul] at hj
    rw [Array.getElem?_append_left (by simp [hl, hrl]; omega)]
    simp
theorem Hp.appendF {α : Type} {E : Enc α} {R : Mem} {L L' : List HP} {M : Mem} {T : Nat} {P : Program} {t bytes ty d m k n c : Nat} {zero rc : List Value} {A : Option Addr} {l r : List α} {K : Value → Mem → Prop} {Kp : List PanicEntry → Mem → Prop}
    (h : Hp R L M) [hk : PtAt k L rc T L'] (hA : Src R L A (E.cells l)) (hn : n = l.length) (El : ElemOk P t T E.z bytes zero) (he : rc = E.cells r) (hm : m = r.length) (hc : c < n + m) (hb : (l.length + r.length) * bytes ≤ 140737488355328)
    (g : ∀ b c' M', Hp R (rowP E T (some ⟨b, 0, none⟩) c' (l ++ r) :: L') M' → K (.slice (some ⟨b, 0, none⟩) (l ++ r).length c') M') :
    semK P (Builtin.append_ #[t, t] ty #[.slice A n c, .slice (some ⟨k, 0, none⟩) m d]) M K Kp := by
  subst hm; subst he; subst hn
  have hB : Sl M (some ⟨k, 0, none⟩) (E.cells r) := h.sl_pt hk.pick
  obtain ⟨hu, i, zv, hi, hs, hby, hz, rfl, hl, hpos⟩ := El
  refine semK_appendF hu hu hi hz (by rw [hs, ← hl]; simp) (hA M h) (by rw [hs]; exact E.cells_len) hB (by rw [hs]; exact E.cells_len) hc (by rw [hby]; exact hb) (by omega) fun b c' M' hbn ho hch => ?_
  have h2 : Hp R (rowP E T (some ⟨b, 0, none⟩) c' (l ++ r) :: L) M' := by
    have h3 : Hp R (fact True :: L) M := Hp.fact_iff.2 ⟨trivial, h⟩
    refine h3.change (D := []) (D' := [b]) (fun A hA x hx => by cases hx) hch (fun x hx => by simp only [List.mem_singleton] at hx; subst hx; exact .inr hbn) ?_
    unfold rowP own
    rw [List.length_append, E.cells_app]
    rw [hs] at ho
    have := ho.rst
    simpa [blk] using this
  have := g b c' M' (h2.map fun _ hs => hs.tail fun _ hx => (Star.pick hk.pick hx).drop)
  rwa [List.length_append] at this
section
variable {R : Mem} {L L' : List HP} {M : Mem} {P : Program} {t kt et : TypeId} {r : Nat} {l : AL} {k : Int} {kd : IntKind}
theorem s_lookup2 {z : Value} {i : TypeInfo} {K : Value → Mem → Prop} {Kp : List PanicEntry → Mem → Prop} (h : Hp R L M) [p : ObAt r L (mapO l) L'] (hu : P.underlying t = some (.map kt et)) (hk : P.underlying kt = some (.int kd)) (hi : P.info? et = some i) (hz : i.zero = some z)
    (g : K (.tuple #[(aget l k).getD z, .bool (aget l k).isSome]) M) : semK P (Instr.lookup t (.map (some r)) (.int .i64 k) true) M K Kp := by
  have hb : M r = some (mapO l) := (h.pick p.pick).ob_at
  unfold semK Instr.lookup
  refine awp_run (rd_underlying hu M) ?_
  simp only
  refine awp_bind P _ _ ?_
  refine awp_getObj hb ?_
  simp only [mapO]
  refine awp_run (x := ()) (rd_checkKey hk) ?_
  refine awp_run (rd_findKey hk) ?_
  unfold aget at g
  cases ha : aidx k l 0 with
  | none =>
    rw [ha] at g
    simp only
    have hz0 : rdS P (zeroValue et) M = some z := by rw [zeroInfo]; simp [zeroOf, hi, hz]
    refine awp_run hz0 ?_
    refine awp_run (x := (z, false)) rfl ?_
    exact g
  | some x =>
    rw [ha] at g
    exact g
end
theorem callK_fn {C : Ctx} {g : Nat} {args : List Value} {M : Mem} {K : Value → Mem → Prop} {Kp : List PanicEntry → Mem → Prop} (hg : 1 < g ∧ g < C.ok) (h : ACalls C.P g args.toArray M K Kp) : callK C (.func (.func g) #[] #[]) args M K Kp := by
  unfold callK
  simp only
  rw [if_pos hg]
  simpa using h
theorem wrap_succ' {z : Int} (h0 : 0 ≤ z) (h : z < 9223372036854775807) : IntKind.wrap .i64 (z + 1) = z + 1 := by
  obtain ⟨n, rfl⟩ := Int.eq_ofNat_of_zero_le h0
  have := wrap_nat (n := n + 1) (by omega)
  exact_mod_cast this
/-- append(l, r...), from a row that can be read now. -/
theorem Hp.rowAppendM {α : Type} {E : Enc α} {R : Mem} {L : List HP} {M : Mem} {T c : Nat} {A : Option Addr} {l r : List α} {P : Program} {t bytes ty d m : Nat} {zero : List Value} {B : Option Addr} {K : Value → Mem → Prop} {Kp : List PanicEntry → Mem → Prop}
    (h : Hp R (rowP E T A c l :: L) M) (El : ElemOk P t T E.z bytes zero) (hr : Sl M B (E.cells r)) (hm : m = r.length) (hb : (l.length + r.length) * bytes ≤ 140737488355328)
    (g : ∀ A' c' M', Hp R (rowP E T A' c' (l ++ r) :: L) M' → K (.slice A' (l ++ r).length c') M') :
    semK P (Builtin.append_ #[t, t] ty #[.slice A l.length c, .slice B m d]) M K Kp := by
  subst hm
  have h2 : Hp R (own E.z T A l.length c (E.cells l) :: L) M := by
    have := h; unfold rowP at this; exact this
  refine h2.append El hr E.cells_len E.cells_plain hb fun A' c' M' h => ?_
  have := g A' c' M' (by unfold rowP; rw [List.length_append, E.cells_app]; exact h)
  rwa [List.length_append] at this
end Go.AF
