/- A part of proofs about functions of one program: a condition over a partial memory that is enough for a call, and what calls answer by it. No condition of its own. -/
import Derived.Test.YtodeolmcinekoaaFair
namespace Go.Proofs
open Go.AF
set_option linter.unusedVariables false
set_option maxRecDepth 100000

theorem ul_recs : Try.prog.underlying 26 = some (.slice 30) := by kernel_rfl
theorem rec_info : (Try.prog.info? 30).map (fun i => (i.size, i.bytes, i.zero)) = some (2, 16, some (.agg #[.int .i64 0, .int .u64 0])) := by kernel_rfl
theorem rec_info' : ∃ i, Try.prog.info? 30 = some i ∧ i.size = 2 ∧ i.bytes = 16 ∧ i.zero = some (.agg #[.int .i64 0, .int .u64 0]) := by
  have h := rec_info
  cases hi : Try.prog.info? 30 with
  | none => rw [hi] at h; cases h
  | some i =>
    rw [hi] at h
    simp only [Option.map_some, Option.some.injEq, Prod.mk.injEq] at h
    exact ⟨i, rfl, h.1, h.2.1, h.2.2⟩

def recCells (l : List (Int × Int)) : List Value := l.flatMap fun r => [.int .i64 r.1, .int .u64 r.2]
theorem recCells_len (l : List (Int × Int)) : (recCells l).length = l.length * 2 := by
  induction l with
  | nil => rfl
  | cons r l ih => simp only [recCells, List.flatMap_cons, List.length_append, List.length_cons, List.length_nil] at ih ⊢; omega
theorem recCells_get : ∀ (l : List (Int × Int)) (i : Nat) (h : i < l.length), (recCells l)[i * 2]? = some (.int .i64 l[i].1) ∧ (recCells l)[i * 2 + 1]? = some (.int .u64 l[i].2)
  | r :: l, 0, _ => ⟨rfl, rfl⟩
  | r :: l, i + 1, h => by
    have := recCells_get l i (by simpa using h)
    have e : recCells (r :: l) = .int .i64 r.1 :: .int .u64 r.2 :: recCells l := rfl
    rw [e, show (i + 1) * 2 = i * 2 + 1 + 1 from by omega]
    simpa using this

theorem RecAt.of_sl {M : Mem} {A : Option Addr} {l : List (Int × Int)} (h : Sl M A (recCells l)) : RecAt M A l := fun i hi => by
  have hlen := recCells_len l
  obtain ⟨b, o, rfl, g1⟩ := h.get (i := i * 2) (by omega)
  obtain ⟨b', o', e, g2⟩ := h.get (i := i * 2 + 1) (by omega)
  cases e
  obtain ⟨r1, r2⟩ := recCells_get l i hi
  exact ⟨b, o, rfl, by rw [g1, r1], by rw [show o + i * 2 + 1 = o + (i * 2 + 1) from by omega, g2, r2]⟩

theorem append1_recs {A : Option Addr} {n c k : Nat} {l : List (Int × Int)} {r : Int × Int} {M : Mem} {K : Value → Mem → Prop} {Kp : List PanicEntry → Mem → Prop}
    (ho : Own M 2 30 A n c (recCells l)) (hk : M k = none) (hn : n + 1 ≤ 1000000)
    (h : ∀ A' c' M', Own M' 2 30 A' (n + 1) c' (recCells (l ++ [r])) → Chg (blk A) M M' → Fresh M A A' → K (.slice A' (n + 1) c') M') :
    semK Try.prog (Builtin.append_ #[26, 26] 26 #[.slice A n c, .slice (some ⟨k, 0, none⟩) 1 1]) (M.set k (.cells #[.int .i64 r.1, .int .u64 r.2] 30 (0, 0))) K Kp := by
  obtain ⟨i, hi, hs, hb, hz⟩ := rec_info'
  have c0 : Chg [] M (M.set k (.cells #[.int .i64 r.1, .int .u64 r.2] 30 (0, 0))) := (Chg.refl _ _).set (.inr hk)
  refine semK_append (r := recCells [r]) ul_recs ul_recs hi hz (by rw [hs]; rfl) (by rw [hs]; exact ho.chg c0 (by simp)) (fun j hj => ?_) (by rw [hs]; rfl) (fun v hv => ?_) (by rw [hb]; omega) (by omega) ?_
  · have : j = 0 ∨ j = 1 := by simp [recCells] at hj; omega
    rw [ld_of set_same]
    rcases this with rfl | rfl <;> rfl
  · simp only [recCells, List.flatMap_cons, List.flatMap_nil, List.append_nil, List.mem_cons, List.not_mem_nil, or_false] at hv
    rcases hv with rfl | rfl <;> rfl
  · rw [hs]
    intro A' c' M' g1 g2 g3
    refine h A' c' M' (by simpa [recCells] using g1) (((Chg.refl _ _).set (.inr hk)).trans g2 (fun x hx => .inl hx)) ?_
    rcases g3 with g3 | ⟨b, g3, g4⟩
    · exact .inl g3
    · exact .inr ⟨b, g3, (set_none_ne g4).2⟩

theorem fair_awake {M : Mem} {K : Value → Mem → Prop} {Kp : List PanicEntry → Mem → Prop} (h : ∀ M', Chg [] M M' → K (.bool true) M') :
    ACalls Try.prog 18 #[] M K Kp := by
  refine vc_shunterlaw24_awake M K Kp ?_
  intro k hk
  have c1 : Chg [] M (M.set k (.cells #[.int .i64 1, .int .u64 0, .int .i64 1, .int .u64 1, .int .i64 1, .int .u64 0] 30 (0, 0))) := (Chg.refl _ _).set (.inr hk)
  refine fair_Window (l := [(1, 0), (1, 1), (1, 0)]) (m := 2) (RecAt.of_sl (fun j hj => by rw [ld_of set_same, Nat.zero_add]; simp [recCells])) rfl (by omega) (by decide) (by omega) (by decide) fun M2 c2 => ?_
  have e : wres 2 [(1, 0), (1, 1), (1, 0)] = 2 := by decide
  rw [e, exI_some]
  show ACalls _ _ _ _ _ _
  refine vc_fair_Bound 0 0 2 1 1 1 M2 _ Kp ?_
  intro k2 hk2
  rw [ld_set_eq, ld_set_eq]
  show K (.bool true) _
  exact h _ ((c1.trans c2 (fun x hx => .inl hx)).set (.inr ((c1.trans c2 (fun x hx => .inl hx)).fresh hk2)))

theorem fairCut {A1 : Option Addr} {n1 c1 : Nat} {cut : Int} {M : Mem} (hsh : ShapedSl M A1 n1 [.i64]) {K : Value → Mem → Prop} {Kp : List PanicEntry → Mem → Prop} (h : ∀ M', Chg [] M M' → K (.bool true) M') :
    ACalls Try.prog 4 #[.slice A1 n1 c1, .int .i64 cut] M K Kp := by
  obtain ⟨gv, hn1, hg⟩ := hsh
  refine vc_shunterlaw24_FairCut A1 n1 c1 cut M K Kp ?_
  refine fair_awake fun M0 c0 => ?_
  rw [exB_some]
  intro k hk
  have hkM := c0.fresh hk
  have c1' : Chg [] M (M0.set k (.cells #[] 30 (0, 0))) := c0.set (.inr hkM)
  let J : Nat → List (Int × Int) → Option Addr → Nat → Mem → Prop := fun i l A c M' => l.length = i ∧ i ≤ 40 ∧ (∀ r ∈ l, r.1 = 1 ∧ 0 ≤ r.2) ∧ Own M' 2 30 A l.length c (recCells l) ∧ Fr0 M A ∧ Chg [] M M'
  refine ⟨fun vs M' => ∃ (i : Nat) (l : List (Int × Int)) (A : Option Addr) (c : Nat), vs = [.slice A l.length c] ∧ J i l A c M', ?_, ?_⟩
  · refine ⟨fun d vs M' => ∃ (i : Nat) (l : List (Int × Int)) (A : Option Addr) (c : Nat), vs = [.slice A l.length c, .int .i64 (i : Int)] ∧ d = 40 - i ∧ J i l A c M', ⟨_, 0, [], some ⟨k, 0, none⟩, 0, rfl, rfl, rfl, by omega, by simp, ⟨rfl, .inr ⟨k, #[], rfl, set_same, rfl, by simp, by simp⟩⟩, fun x hx => by simp only [blk, List.mem_singleton] at hx; subst hx; exact hkM, c1'⟩, fun d junk A n' c ii M1 hI => ?_⟩
    obtain ⟨i, l, _, _, he, hd, hl, hi, hr, ho, hf, c2⟩ := hI
    simp only [List.cons.injEq, Value.slice.injEq, Value.int.injEq, and_true, true_and] at he
    obtain ⟨⟨rfl, rfl, rfl⟩, rfl⟩ := he
    have out : ∃ (i : Nat) (l1 : List (Int × Int)) (A1 : Option Addr) (c1 : Nat), [Value.slice A l.length c] = [Value.slice A1 l1.length c1] ∧ J i l1 A1 c1 M1 := ⟨i, l, A, c, rfl, hl, hi, hr, ho, hf, c2⟩
    refine bsp_dec.2 ⟨fun hlt => bsp_dec.2 ⟨fun h40 => ?_, fun _ => out⟩, fun _ => out⟩
    refine ⟨by omega, hlt, ?_⟩
    obtain ⟨b, o, rfl, hcell⟩ := hg i (by omega)
    have v0 := Mem.le_ld c2.keep (hcell 0 .i64 rfl).1
    simp only [List.length_cons, List.length_nil, Nat.zero_add, Nat.add_zero, Nat.mul_one] at v0
    rw [nilc_some, Int.toNat_natCast, v0, exI_some]
    obtain ⟨q, hq, hq2⟩ := mask (x := gv i 0) (y := 3) (m := 3) rfl (by omega)
    rw [hq]
    have e_u : IntKind.wrap .u64 (q : Int) = (q : Int) := by rw [IntKind.wrap_u64]; omega
    rw [e_u]
    intro k' hk'
    refine append1_recs (r := (1, (q : Int))) ho hk' (by omega) fun A' c' M2 g1 g2 g3 => ?_
    rw [exSl_some]
    refine ⟨40 - (i + 1), by omega, i + 1, l ++ [(1, (q : Int))], A', c', by rw [wrap_succ (by omega), List.length_append]; rfl, rfl, by simp [hl], by omega, fun r hr' => ?_, by rw [List.length_append]; exact g1, hf.step c2 g3, c2.trans g2 (fun x hx => .inr (hf x hx))⟩
    rcases List.mem_append.1 hr' with h1 | h1
    · exact hr r h1
    · simp only [List.mem_singleton] at h1; subst h1; exact ⟨rfl, by simp⟩
  · intro junk A n' c M1 hI
    obtain ⟨i, l, _, _, he, hl, hi, hr, ho, hf, c2⟩ := hI
    simp only [List.cons.injEq, Value.slice.injEq, and_true] at he
    obtain ⟨rfl, rfl, rfl⟩ := he
    obtain ⟨y, hy, hy2⟩ := mask (x := cut) (y := 255) (m := 255) rfl (by omega)
    rw [hy, wrap_succ (by omega), tmod_nat]
    have hC : y % (l.length + 1) < l.length + 1 := Nat.mod_lt _ (by omega)
    generalize y % (l.length + 1) = C at *
    have hcap := ho.cap
    simp only [Int.toNat_natCast, Nat.sub_zero]
    refine ⟨by omega, by omega, by omega, by omega, by omega, by omega, by omega, ?_⟩
    have hrec := RecAt.of_sl ho.sl
    have hcutrec : RecAt M1 (slA A 0 c 2) (l.take C) := fun j hj => by
      rw [List.length_take] at hj
      obtain ⟨b, o, rfl, h1, h2⟩ := hrec j (by omega)
      refine ⟨b, o, ?_, by rw [List.getElem_take]; exact h1, by rw [List.getElem_take]; exact h2⟩
      unfold slA; split <;> simp [add_eq]
    refine fair_Window (l := l.take C) (m := 3) hcutrec (by rw [List.length_take]; omega) (by omega) (by decide) (by omega) (fun r hr' => (hr r (List.mem_of_mem_take hr')).2) fun M2 c3 => ?_
    rw [exI_some]
    refine fair_Window (l := l) (m := 3) (hrec.mono c3) rfl (by omega) (by decide) (by omega) (fun r hr' => (hr r hr').2) fun M3 c4 => ?_
    rw [exI_some]
    have fin := h M3 ((c2.trans c3 (fun x hx => .inl hx)).trans c4 (fun x hx => .inl hx))
    refine bsp_eq.2 ⟨fun _ => fin, fun hne => ?_⟩
    have key := wres_more 3 (l.take C) (l.drop C) (fun r hr' => hr r (List.mem_of_mem_drop hr')) hne
    rw [List.take_append_drop, List.length_drop] at key
    have ok := wok_run 3 (l.take C)
    have bnd : wres 3 (l.take C) ≤ 41 ∧ 0 ≤ wres 3 (l.take C) := by
      obtain ⟨b1, b2, b3, b4, b5⟩ := ok
      have hlen : (l.take C).length ≤ 40 := by rw [List.length_take]; omega
      unfold wres
      split
      · refine ⟨wmax_le.2 ⟨by omega, fun j _ => by have := b3 j; omega⟩, ?_⟩
        have := (wmax_self (s := wrun 3 (l.take C)) (k := 3)).1
        omega
      · omega
    refine bsp_dec.2 ⟨fun _ => ?_, fun hno => absurd key.1 (by omega)⟩
    rw [wrap_in (n := wres 3 (l.take C) + (l.length : Int)) (by omega) (by omega), wrap_in (by omega) (by omega)]
    rw [decide_eq_true (by omega)]
    exact fin
end Go.Proofs
