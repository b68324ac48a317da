/- A part of proofs about functions of one program: a condition over a partial memory that is enough for a call, and what calls answer by it. No condition of its own. -/
import Derived.Test.YtodeolmcinekoaaRing
namespace Go.Proofs
open Go.AF
set_option linter.unusedVariables false
set_option maxRecDepth 100000

theorem ring_awake {M : Mem} {K : Value → Mem → Prop} {Kp : List PanicEntry → Mem → Prop} (h : ∀ M', Chg [] M M' → K (.bool true) M') :
    ACalls Try.prog 26 #[] M K Kp := by
  refine vc_shunterlaw07_awake M K Kp ?_
  refine ring_New fun b sb M1 hb hsb hr1 c1 => ?_
  have two : roomOf 2 = 2 := rfl
  rw [two] at hr1
  show ACalls _ _ _ _ _ _
  refine ring_Push hr1 (fun _ M2 hr2 c2 => ?_) (fun h0 => by simp at h0)
  rw [exB_some]
  refine ring_Push hr2 (fun _ M3 hr3 c3 => ?_) (fun h0 => by simp at h0)
  rw [exB_some]
  refine ring_Push hr3 (fun h0 => by simp at h0) (fun _ => ?_)
  rw [exB_some]
  refine ring_Pop hr3 (fun h0 => by simp at h0) (fun v l' hl M4 hr4 c4 => ?_)
  simp only [List.nil_append, List.cons_append, List.cons.injEq] at hl
  obtain ⟨rfl, rfl⟩ := hl
  refine ⟨5, true, rfl, ?_⟩
  show ACalls _ _ _ _ _ _
  refine ring_Len hr4 ?_
  show K (.bool true) M4
  have q : ∀ x ∈ [b, sb], x ∈ ([] : List Nat) ∨ M x = none := fun x hx => by
    simp only [List.mem_cons, List.not_mem_nil, or_false] at hx
    rcases hx with rfl | rfl
    · exact .inr hb
    · exact .inr hsb
  exact h _ (((c1.trans c2 q).trans c3 q).trans c4 (fun x hx => q x (by simp at hx; simp [hx])))

/-- The numbers from 0. -/
def upTo (n : Nat) : List Int := (List.range n).map fun (i : Nat) => (i : Int)
theorem upTo_succ (n : Nat) : upTo (n + 1) = upTo n ++ [(n : Int)] := by simp [upTo, List.range_succ]
theorem upTo_len (n : Nat) : (upTo n).length = n := by simp [upTo]
theorem upTo_get {n i : Nat} (h : i < n) : (upTo n)[i]? = some (i : Int) := by simp [upTo, h]

theorem ringRound {room steps : Int} {M : Mem} {K : Value → Mem → Prop} {Kp : List PanicEntry → Mem → Prop} (h : ∀ M', Chg [] M M' → K (.bool true) M') :
    ACalls Try.prog 5 #[.int .i64 room, .int .i64 steps] M K Kp := by
  refine vc_shunterlaw07_RingRound room steps M K Kp ?_
  refine ring_awake fun M0 c0 => ?_
  rw [exB_some]
  show ACalls _ _ _ _ _ _
  refine ring_New fun b sb M1 hb hsb hr1 c1 => ?_
  rw [exP_some]
  refine ring_Room hr1 ?_
  rw [exI_some]
  refine ⟨by omega, ?_⟩
  have c1 := c0.trans c1 (fun x hx => .inl hx)
  have hb := c0.fresh hb
  have hsb := c0.fresh hsb
  have q : ∀ x ∈ [b, sb], x ∈ ([] : List Nat) ∨ M x = none := fun x hx => by
    simp only [List.mem_cons, List.not_mem_nil, or_false] at hx
    rcases hx with rfl | rfl
    · exact .inr hb
    · exact .inr hsb
  have q1 : ∀ x ∈ [b], x ∈ ([] : List Nat) ∨ M x = none := fun x hx => q x (by simp at hx; simp [hx])
  have rp := hr1.room_pos
  have rl := hr1.room_le
  generalize roomOf room = n at *
  generalize hN : Int.tmod (IntKind.wrap .i64 _) 3000 = N
  have hN' : N < 3000 := by rw [← hN]; exact Int.tmod_lt_of_pos _ (by omega)
  refine ⟨fun m vs M' => ∃ i : Nat, vs = [.int .i64 (i : Int)] ∧ m = (N - i).toNat ∧ i ≤ 3000 ∧ RingAt M' b sb [] n ∧ Chg [] M M', ⟨_, 0, rfl, rfl, by omega, hr1, c1⟩, fun m junk i M2 hI => ?_⟩
  obtain ⟨i, he, hm, hi, hr2, c2⟩ := hI
  simp only [List.cons.injEq, Value.int.injEq, and_true, true_and] at he
  subst he
  refine bsp_dec.2 ⟨fun hlt => ?_, fun _ => ?_⟩
  · refine ring_Push hr2 (fun _ M3 hr3 c3 => ?_) (fun h0 => by simp at h0; omega)
    rw [exB_some]
    refine ring_Pop hr3 (fun h0 => by simp at h0) (fun v l' hl M4 hr4 c4 => ?_)
    simp only [List.nil_append, List.cons.injEq] at hl
    obtain ⟨rfl, rfl⟩ := hl
    refine ⟨_, true, rfl, ?_⟩
    show bsp _ _ _
    refine bsp_ne.2 ⟨fun hx => absurd rfl hx, fun _ => ?_⟩
    refine ⟨(N - (i + 1)).toNat, by omega, i + 1, ?_, rfl, by omega, hr4, (c2.trans c3 q).trans c4 q1⟩
    rw [← wrap_nat (n := i + 1) (by omega)]; rfl
  · refine ⟨fun m vs M' => ∃ i : Nat, vs = [.int .i64 (i : Int)] ∧ m = n - i ∧ i ≤ n ∧ RingAt M' b sb (upTo i) n ∧ Chg [] M M', ⟨_, 0, rfl, rfl, by omega, hr2, c2⟩, fun m junk i M3 hI => ?_⟩
    obtain ⟨i, he, hm, hi, hr3, c3⟩ := hI
    simp only [List.cons.injEq, Value.int.injEq, and_true, true_and] at he
    subst he
    refine bsp_dec.2 ⟨fun hlt => ?_, fun hge => ?_⟩
    · refine ring_Push hr3 (fun _ M4 hr4 c4 => ?_) (fun h0 => by rw [upTo_len] at h0; omega)
      rw [exB_some]
      show ∃ _, _
      refine ⟨n - (i + 1), by omega, i + 1, ?_, rfl, by omega, by rw [upTo_succ]; exact hr4, c3.trans c4 q⟩
      rw [← wrap_nat (n := i + 1) (by omega)]; rfl
    · have : i = n := by omega
      subst this
      refine ring_Push hr3 (fun h0 => by rw [upTo_len] at h0; omega) (fun _ => ?_)
      rw [exB_some]
      show ACalls _ _ _ _ _ _
      refine ring_Len hr3 ?_
      rw [exI_some, upTo_len]
      refine bsp_ne.2 ⟨fun hx => absurd rfl hx, fun _ => ?_⟩
      have e5 : IntKind.wrap .i64 ((i : Int) + 5) = ((i + 5 : Nat) : Int) := by rw [← wrap_nat (n := i + 5) (by omega)]; rfl
      rw [e5]
      refine ring_Take hr3 fun A c M4 hown hr4 c4 hfr => ?_
      rw [exSl_some]
      have e6 : min ((i + 5 : Nat) : Int).toNat (upTo i).length = i := by rw [upTo_len]; omega
      have e7 : (upTo i).take ((i + 5 : Nat) : Int).toNat = upTo i := List.take_of_length_le (by rw [upTo_len]; omega)
      have e8 : (upTo i).drop ((i + 5 : Nat) : Int).toNat = [] := List.drop_of_length_le (by rw [upTo_len]; omega)
      rw [e6, e7] at hown
      rw [e8] at hr4
      rw [e6]
      have c4' := c3.trans c4 q1
      refine ⟨fun m vs M' => ∃ j : Nat, vs = [.int .i64 (j : Int)] ∧ m = i - j ∧ M' = M4, ⟨_, 0, rfl, rfl, rfl⟩, fun m junk j M5 hI => ?_⟩
      obtain ⟨j, he, hm, rfl⟩ := hI
      simp only [List.cons.injEq, Value.int.injEq, and_true, true_and] at he
      subst he
      refine bsp_dec.2 ⟨fun hlt => ?_, fun hge => ?_⟩
      · refine ⟨by omega, hlt, ?_⟩
        have hsl := hown.sl
        obtain ⟨_, ⟨_, h0, _⟩ | ⟨x, cs, rfl, hx⟩⟩ := hown
        · omega
        rw [nilc_some, Int.toNat_natCast]
        have hg := hsl j (by simp [upTo_len]; omega)
        rw [hg, List.getElem?_map, upTo_get (by omega)]
        show exI (some (.int .i64 (j : Int))) .i64 _
        rw [exI_some]
        refine bsp_ne.2 ⟨fun hx => absurd rfl hx, fun _ => ?_⟩
        refine ⟨i - (j + 1), by omega, j + 1, ?_, rfl, rfl⟩
        rw [← wrap_nat (n := j + 1) (by omega)]; rfl
      · refine ring_Len hr4 ?_
        exact h _ c4'
end Go.Proofs
