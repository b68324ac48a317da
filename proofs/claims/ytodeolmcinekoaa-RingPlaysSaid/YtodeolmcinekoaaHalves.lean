/- A part of proofs about functions of one program: a condition over a partial memory that is enough for a call, and what calls answer by it. No condition of its own. -/
import Derived.Test.YtodeolmcinekoaaRound
namespace Go.Proofs
open Go.AF
set_option linter.unusedVariables false
set_option maxRecDepth 100000

theorem same07 {A B : Option Addr} {n c k d : Nat} {l : List Int} {M : Mem} {K : Value → Mem → Prop} {Kp : List PanicEntry → Mem → Prop}
    (ha : Sl M A (l.map iv)) (hb : Sl M B (l.map iv)) (hn : l.length = n) (hk : l.length = k) (hlt : n < 9223372036854775807) (h : K (.int .i64 0) M) :
    ACalls Try.prog 42 #[.slice A n c, .slice B k d] M K Kp := by
  subst hn hk
  refine vc_shunterlaw07_Same A l.length c B l.length d M K Kp ?_
  refine bsp_ne.2 ⟨fun hx => absurd rfl hx, fun _ => ?_⟩
  refine ⟨fun m vs M' => ∃ i : Nat, vs = [.int .i64 (i : Int)] ∧ m = l.length - i ∧ M' = M, ⟨_, 0, rfl, rfl, rfl⟩, fun m junk i M1 hI => ?_⟩
  obtain ⟨i, he, hm, rfl⟩ := hI
  simp only [List.cons.injEq, Value.int.injEq, and_true, true_and] at he
  subst he
  refine bsp_dec.2 ⟨fun hi => ?_, fun _ => h⟩
  obtain ⟨b1, o1, rfl, g1⟩ := ha.get (i := i) (by simp; omega)
  obtain ⟨b2, o2, rfl, g2⟩ := hb.get (i := i) (by simp; omega)
  refine ⟨by omega, by omega, ?_⟩
  rw [nilc_some]
  refine ⟨by omega, by omega, ?_⟩
  rw [nilc_some, Int.toNat_natCast, g1, g2, List.getElem?_map, List.getElem?_eq_getElem (show i < l.length by omega)]
  show exI (some (.int .i64 l[i])) .i64 _
  rw [exI_some]
  show exI (some (.int .i64 l[i])) .i64 _
  rw [exI_some]
  refine bsp_ne.2 ⟨fun hx => absurd rfl hx, fun _ => ?_⟩
  exact ⟨l.length - (i + 1), by omega, i + 1, by rw [wrap_succ (by omega)], rfl, rfl⟩

theorem upTo_take {n k : Nat} : (upTo n).take k = upTo (min k n) := by
  unfold upTo; rw [← List.map_take, List.take_range]

theorem ringHalves {room n : Int} {M : Mem} {K : Value → Mem → Prop} {Kp : List PanicEntry → Mem → Prop} (h : ∀ M', Chg [] M M' → K (.bool true) M') :
    ACalls Try.prog 8 #[.int .i64 room, .int .i64 n] M K Kp := by
  refine vc_shunterlaw07_RingHalves room n M K Kp ?_
  refine ring_awake fun M0 c0 => ?_
  rw [exB_some]
  refine ⟨by omega, ?_⟩
  refine ring_New fun b sb M1 hb hsb hr1 c1 => ?_
  rw [exP_some]
  refine ring_Room hr1 ?_
  rw [exI_some]
  have c1 := c0.trans c1 (fun x hx => .inl hx)
  have hb := c0.fresh hb
  have hsb := c0.fresh hsb
  have q : ∀ x ∈ [b, sb], x ∈ ([] : List Nat) ∨ M x = none := fun x hx => by
    simp only [List.mem_cons, List.not_mem_nil, or_false] at hx
    rcases hx with rfl | rfl
    · exact .inr hb
    · exact .inr hsb
  have q1 : ∀ x ∈ [b], x ∈ ([] : List Nat) ∨ M x = none := fun x hx => q x (by simp at hx; simp [hx])
  have rp := hr1.room_pos
  have rl := hr1.room_le
  generalize roomOf _ = R at *
  obtain ⟨y, hy, hy2⟩ := mask (x := n) (y := 255) (m := 255) rfl (by omega)
  rw [hy, wrap_succ (by omega), tmod_nat]
  have hN : y % (R + 1) < R + 1 := Nat.mod_lt _ (by omega)
  generalize y % (R + 1) = N at *
  have e2 : IntKind.wrap .i64 (Int.tdiv (N : Int) 2) = ((N / 2 : Nat) : Int) := by
    rw [Int.tdiv_eq_ediv_of_nonneg (by omega), show (N : Int) / 2 = ((N / 2 : Nat) : Int) from rfl, wrap_nat (by omega)]
  have e3 : IntKind.wrap .i64 ((N : Int) - ((N / 2 : Nat) : Int)) = ((N - N / 2 : Nat) : Int) := by
    rw [← wrap_nat (n := N - N / 2) (by omega)]; congr 1; omega
  rw [e2, e3]
  refine ⟨by omega, ?_⟩
  refine ⟨fun m vs M' => ∃ i : Nat, vs = [.int .i64 (i : Int)] ∧ m = N - i ∧ i ≤ N ∧ RingAt M' b sb (upTo i) R ∧ Chg [] M M', ⟨_, 0, rfl, rfl, by omega, hr1, c1⟩, fun m junk i M3 hI => ?_⟩
  obtain ⟨i, he, hm, hi, hr3, c3⟩ := hI
  simp only [List.cons.injEq, Value.int.injEq, and_true, true_and] at he
  subst he
  refine bsp_dec.2 ⟨fun hlt => ?_, fun hge => ?_⟩
  · refine ring_Push hr3 (fun _ M4 hr4 c4 => ?_) (fun h0 => by rw [upTo_len] at h0; omega)
    rw [exB_some]
    show ∃ _, _
    exact ⟨N - (i + 1), by omega, i + 1, by rw [wrap_succ (by omega)], rfl, by omega, by rw [upTo_succ]; exact hr4, c3.trans c4 q⟩
  have hiN : i = N := by omega
  subst hiN
  refine ⟨by omega, ?_⟩
  -- the first half
  refine ring_Take hr3 fun A1 cap1 M4 own1 hr4 c4 fr1 => ?_
  rw [exSl_some]
  simp only [Int.toNat_natCast, upTo_len] at own1 hr4 ⊢
  rw [Nat.min_eq_left (by omega)] at own1 ⊢
  refine ring_List hr4 fun A2 cap2 M5 own2 c5 fr2 => ?_
  rw [exSl_some]
  have l2 : ((upTo i).drop (i / 2)).length = i - i / 2 := by simp [upTo_len]
  have hr5 : RingAt M5 b sb ((upTo i).drop (i / 2)) R := hr4.chg c5 (by simp) (by simp)
  refine ring_Take hr5 fun A3 cap3 M6 own3 hr6 c6 fr3 => ?_
  rw [exSl_some]
  have t3 : ((upTo i).drop (i / 2)).take i = (upTo i).drop (i / 2) := List.take_of_length_le (by rw [l2]; omega)
  have d3 : ((upTo i).drop (i / 2)).drop i = [] := List.drop_of_length_le (by rw [l2]; omega)
  simp only [Int.toNat_natCast, t3, d3, l2] at own3 own2 hr6 ⊢
  rw [Nat.min_eq_right (by omega)] at own3 ⊢
  refine ⟨by omega, bsp_ne.2 ⟨fun hx => absurd rfl hx, fun _ => ⟨by omega, bsp_ne.2 ⟨fun hx => absurd rfl hx, fun _ => ?_⟩⟩⟩⟩
  have n2 : ∀ x ∈ blk A2, x ∉ [b] := fun x hx hxb => by
    simp only [List.mem_singleton] at hxb; subst hxb
    exact (hr4.away fr2).1 hx
  have own2' : OwnI M6 A2 (i - i / 2) cap2 ((upTo i).drop (i / 2)) := own2.chg c6 n2
  refine same07 own2'.sl own3.sl l2 l2 (by omega) ?_
  rw [exI_some]
  refine bsp_ne.2 ⟨fun hx => absurd rfl hx, fun _ => ?_⟩
  have n1 : ∀ x ∈ blk A1, x ∉ [b] := fun x hx hxb => by
    simp only [List.mem_singleton] at hxb; subst hxb
    exact (hr3.away fr1).1 hx
  have own1' : OwnI M6 A1 (i / 2) cap1 ((upTo i).take (i / 2)) := (own1.chg c5 (by simp)).chg c6 n1
  refine append_ints own1' own3.sl l2 (by omega) fun A4 cap4 M7 own4 c7 fr4 => ?_
  rw [exSl_some, List.take_append_drop] at *
  have e4 : i / 2 + (i - i / 2) = i := by omega
  rw [e4] at own4 ⊢
  have c6' : Chg [] M M6 := ((c3.trans c4 q1).trans c5 (fun x hx => .inl hx)).trans c6 q1
  have fr1' : Fr0 M A1 := fr1.back c3
  have c7' : Chg [] M M7 := c6'.trans c7 (fun x hx => .inr (fr1' x hx))
  have hr7 : RingAt M7 b sb [] R := hr6.chg c7 (hr3.away fr1).1 (hr3.away fr1).2
  refine ⟨fun m vs M' => ∃ j : Nat, vs = [.int .i64 (j : Int)] ∧ m = i - j ∧ M' = M7, ⟨_, 0, rfl, rfl, rfl⟩, fun m junk j M8 hI => ?_⟩
  obtain ⟨j, he, hm, rfl⟩ := hI
  simp only [List.cons.injEq, Value.int.injEq, and_true, true_and] at he
  subst he
  refine bsp_dec.2 ⟨fun hlt => ?_, fun hge => ?_⟩
  · refine ⟨by omega, hlt, ?_⟩
    obtain ⟨b1, o1, rfl, g1⟩ := own4.sl.get (i := j) (by simp [upTo_len]; omega)
    rw [nilc_some, Int.toNat_natCast, g1, List.getElem?_map, upTo_get (by omega)]
    show exI (some (.int .i64 (j : Int))) .i64 _
    rw [exI_some]
    refine bsp_ne.2 ⟨fun hx => absurd rfl hx, fun _ => ?_⟩
    exact ⟨i - (j + 1), by omega, j + 1, by rw [wrap_succ (by omega)], rfl, rfl⟩
  · refine ring_Pop hr7 (fun _ => ?_) (fun v l' hl => by cases hl)
    exact ⟨0, false, rfl, h _ c7'⟩
end Go.Proofs
