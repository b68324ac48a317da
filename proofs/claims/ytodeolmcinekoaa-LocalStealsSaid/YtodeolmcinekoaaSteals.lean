/- A part of proofs about functions of one program: a condition over a partial memory that is enough for a call, and what calls answer by it. No condition of its own. -/
import Derived.Test.YtodeolmcinekoaaHalves
import Derived.Test.YtodeolmcinekoaaLocal
namespace Go.Proofs
open Go.AF
set_option linter.unusedVariables false
set_option maxRecDepth 100000

theorem LocalAt.plain {M : Mem} {b rb sb room : Nat} {next : Int} {l : List Int} (h : LocalAt M b rb sb next l room) : plainB M b := by
  obtain ⟨⟨T, hb⟩, _⟩ := h; exact ⟨_, _, hb⟩

/-- How many come over. -/
def stealN (len' room len : Nat) : Nat := min (len' - len' / 2) (room - len + 1)

theorem local_Steal {b rb sb room b' rb' sb' room' : Nat} {nx nx' : Int} {l l' : List Int} {M : Mem} {K : Value → Mem → Prop} {Kp : List PanicEntry → Mem → Prop}
    (hL : LocalAt M b rb sb nx l room) (hF : LocalAt M b' rb' sb' nx' l' room') (hd : ∀ x ∈ [b, rb, sb], x ∉ [b', rb', sb'])
    (h0 : l' = [] → ∀ M', LocalAt M' b rb sb nx l room → LocalAt M' b' rb' sb' (-1) [] room' → Chg [b'] M M' → K (.tuple #[.int .i64 nx', .bool (nx' != -1)]) M')
    (h1 : ∀ v r, l' = v :: r → ∀ M', LocalAt M' b rb sb nx (l ++ (l'.take (stealN l'.length room l.length)).drop 1) room → LocalAt M' b' rb' sb' nx' (l'.drop (stealN l'.length room l.length)) room' → Chg [rb, sb, rb'] M M' →
      K (.tuple #[.int .i64 v, .bool true]) M') :
    ACalls Try.prog 62 #[.pointer (some ⟨b, 0, none⟩), .pointer (some ⟨b', 0, none⟩)] M K Kp := by
  have pl := hL.plain
  have pf := hF.plain
  obtain ⟨⟨T, hb⟩, hr, n1, n2⟩ := id hL
  obtain ⟨⟨T', hb'⟩, hr', n1', n2'⟩ := id hF
  have d1 : b ∉ [b', rb', sb'] := hd b (by simp)
  have d2 : rb ∉ [b', rb', sb'] := hd rb (by simp)
  have d3 : sb ∉ [b', rb', sb'] := hd sb (by simp)
  simp only [List.mem_cons, List.not_mem_nil, or_false, not_or] at d1 d2 d3
  have r1 := hr.len_le
  have r2 := hr.room_le
  have r1' := hr'.len_le
  have r2' := hr'.room_le
  refine vc_local_Local_Steal b 0 b' 0 M K Kp ?_
  refine ⟨fun he => ?_, fun _ => ⟨.inr ⟨pl, pf⟩, ?_⟩⟩
  · simp only [Addr.mk.injEq, and_true] at he
    exact absurd he d1.1
  show exP _ _
  rw [ld_of hb', Nat.zero_add, lit_get1, exP_some]
  refine ring_Len hr' ?_
  rw [exI_some]
  refine bsp_eq.2 ⟨fun he => ?_, fun hne => ?_⟩
  · have hl' : l' = [] := List.length_eq_zero_iff.1 (by omega)
    subst hl'
    simp only [ld_of hb', lit_get0, exI_some, wr_of' hb', put_of hb', List.setIfInBounds_toArray, List.set_cons_zero]
    refine ⟨by simp, ?_⟩
    have c : Chg [b'] M (M.set b' (.cells #[.int .i64 (-1), .pointer (some ⟨rb', 0, none⟩)] T' (0, 0))) := (Chg.refl _ _).set (.inl (by simp))
    exact h0 rfl _ (hL.chg c (by simp [d1.1]) (by simp [d2.1]) (by simp [d3.1])) ⟨⟨T', set_same⟩, hr'.chg c (by simp [n1']) (by simp [n2']), n1', n2'⟩ c
  · obtain ⟨v, r, hl'⟩ : ∃ v r, l' = v :: r := by
      cases l' with
      | nil => simp at hne
      | cons v r => exact ⟨v, r, rfl⟩
    have hpos : 0 < l'.length := by rw [hl']; simp
    simp only [ld_of hb, ld_of hb', lit_get1, exP_some]
    refine ⟨by omega, ?_⟩
    refine ring_Room hr ?_
    rw [exI_some]
    refine ⟨by rw [ld_of hb]; rfl, by rw [ld_of hb']; rfl, ?_⟩
    refine ring_Len hr ?_
    rw [exI_some]
    refine ⟨by rw [ld_of hb]; rfl, by rw [ld_of hb']; rfl, ?_⟩
    have e1 : IntKind.wrap .i64 (IntKind.wrap .i64 ((room : Int) - (l.length : Int)) + 1) = ((room - l.length + 1 : Nat) : Int) := by
      rw [wrap_in (n := (room : Int) - (l.length : Int)) (by omega) (by omega), wrap_in (by omega) (by omega)]; omega
    have e2 : IntKind.wrap .i64 ((l'.length : Int) - IntKind.wrap .i64 (Int.tdiv (l'.length : Int) 2)) = ((l'.length - l'.length / 2 : Nat) : Int) := by
      rw [Int.tdiv_eq_ediv_of_nonneg (by omega), wrap_in (n := (l'.length : Int) / 2) (by omega) (by omega), wrap_in (by omega) (by omega)]; omega
    rw [e1, e2]
    have e3 : (if ((room - l.length + 1 : Nat) : Int) < ((l'.length - l'.length / 2 : Nat) : Int) then ((room - l.length + 1 : Nat) : Int) else ((l'.length - l'.length / 2 : Nat) : Int)) = ((stealN l'.length room l.length : Nat) : Int) := by
      unfold stealN; split <;> omega
    rw [e3]
    have k1 : 1 ≤ stealN l'.length room l.length := by unfold stealN; omega
    have k2 : stealN l'.length room l.length ≤ l'.length := by unfold stealN; omega
    have k3 : stealN l'.length room l.length ≤ room - l.length + 1 := by unfold stealN; omega
    generalize stealN l'.length room l.length = k at *
    refine ring_Take hr' fun A c M1 own hr1 c1 fr => ?_
    rw [exSl_some]
    have hmin : min k l'.length = k := Nat.min_eq_left k2
    simp only [Int.toNat_natCast, hmin] at own hr1 ⊢
    have hcap : k ≤ c := by
      obtain ⟨_, ⟨_, h0, _⟩ | ⟨x, cs, _, _, _, hx, _⟩⟩ := own
      · omega
      · exact hx
    have hb1 := c1.at hb (by simp [d1.2.1])
    have hb1' := c1.at hb' (by simp [n1'.symm])
    refine ⟨by rw [ld_of hb1]; rfl, by rw [ld_of hb1']; rfl, by omega, by omega, by omega, by omega, by omega, by omega, ?_⟩
    have hlen : (l'.take k).length = k := by rw [List.length_take]; omega
    have awR : rb ∉ blk A ∧ sb ∉ blk A := ⟨(hr.away fr).1, (hr.away fr).2⟩
    refine ⟨fun m vs M' => ∃ i : Nat, vs = [.int .i64 (i : Int)] ∧ m = k - 1 - i ∧ i ≤ k - 1 ∧ RingAt M' rb sb (l ++ ((l'.take k).drop 1).take i) room ∧ Chg [rb, sb] M1 M', ⟨_, 0, rfl, rfl, by omega, by
      rw [List.take_zero, List.append_nil]; exact hr.chg c1 (by simp [d2.2.1]) (by simp [d3.2.1]), Chg.refl _ _⟩, fun m junk ii M2 hI => ?_⟩
    obtain ⟨i, he, hm, hi, hr2, c2⟩ := hI
    simp only [List.cons.injEq, Value.int.injEq, and_true, true_and] at he
    subst he
    have own2 : OwnI M2 A k c (l'.take k) := own.chg c2 (fun x hx hxL => by
      simp only [List.mem_cons, List.not_mem_nil, or_false] at hxL
      rcases hxL with rfl | rfl
      · exact awR.1 hx
      · exact awR.2 hx)
    have hb2 := c2.at hb1 (by simp [n1.symm, n2.symm])
    refine bsp_dec.2 ⟨fun hlt => ?_, fun hge => ?_⟩
    · have hik : i + 1 < k := by omega
      refine ⟨by omega, hlt, ?_⟩
      obtain ⟨b1, o1, rfl, g1⟩ := own2.sl.get (i := i + 1) (by rw [List.length_map, hlen]; omega)
      have esl : slA (some ⟨b1, o1, none⟩) 1 c 1 = some ⟨b1, o1 + 1, none⟩ := by
        unfold slA
        rw [if_neg (by omega)]
        simp [add_eq]
      rw [esl, nilc_some, Int.toNat_natCast, show o1 + 1 + i = o1 + (i + 1) from by omega, g1, List.getElem?_map, List.getElem?_eq_getElem (by rw [hlen]; omega)]
      show exI (some (.int .i64 _)) .i64 _
      rw [exI_some]
      simp only [ld_of hb2, lit_get1, exP_some]
      have hl2 : (l ++ ((l'.take k).drop 1).take i).length = l.length + i := by
        rw [List.length_append, List.length_take, List.length_drop, hlen]; omega
      refine ring_Push hr2 (fun _ M3 hr3 c3 => ?_) (fun h0 => by rw [hl2] at h0; omega)
      rw [exB_some]
      refine ⟨k - 1 - (i + 1), by omega, i + 1, by rw [wrap_succ (by omega)], rfl, by omega, ?_, c2.trans c3 (fun x hx => .inl hx)⟩
      rw [List.append_assoc] at hr3
      have : ((l'.take k).drop 1).take i ++ [(l'.take k)[i + 1]'(by rw [hlen]; omega)] = ((l'.take k).drop 1).take (i + 1) := by
        rw [List.take_add_one, List.getElem?_drop, show 1 + i = i + 1 from by omega, List.getElem?_eq_getElem (by rw [hlen]; omega)]; rfl
      rw [this] at hr3
      exact hr3
    · have hik : i = k - 1 := by
        omega
      refine ⟨by omega, by omega, ?_⟩
      obtain ⟨b1, o1, rfl, g1⟩ := own2.sl.get (i := 0) (by rw [List.length_map, hlen]; omega)
      have hv : (l'.take k)[0]? = some v := by
        rw [List.getElem?_take, if_pos (by omega), hl']; rfl
      rw [nilc_some, g1, List.getElem?_map, hv]
      show exI (some (.int .i64 v)) .i64 _
      rw [exI_some]
      have full : ((l'.take k).drop 1).take i = (l'.take k).drop 1 := List.take_of_length_le (by rw [List.length_drop, hlen]; omega)
      rw [full] at hr2
      have hb2' := c2.at hb1' (by simp [Ne.symm d2.1, Ne.symm d3.1])
      refine h1 v r hl' M2 ⟨⟨T, hb2⟩, hr2, n1, n2⟩ ⟨⟨T', hb2'⟩, hr1.chg c2 (by simp [Ne.symm d2.2.1, Ne.symm d3.2.1]) (by simp [Ne.symm d2.2.2, Ne.symm d3.2.2]), n1', n2'⟩ ?_
      exact (c1.mono (fun x hx => by simp at hx; simp [hx])).trans c2 (fun x hx => by simp at hx; rcases hx with rfl | rfl <;> simp)

theorem localSteals {n room : Int} {M : Mem} {K : Value → Mem → Prop} {Kp : List PanicEntry → Mem → Prop} (h : ∀ M', Chg [] M M' → K (.bool true) M') :
    ACalls Try.prog 14 #[.int .i64 n, .int .i64 room] M K Kp := by
  refine vc_shunterlaw08_LocalSteals n room M K Kp ?_
  refine local_awake fun M0 c0 => ?_
  rw [exB_some]
  refine ⟨by omega, ?_⟩
  refine local_New fun a ra sa M1 ha hra hsa hA1 c1 => ?_
  have e60 : roomOf 60 = 60 := rfl
  rw [e60] at hA1
  rw [exP_some]
  refine ⟨by omega, ?_⟩
  obtain ⟨y, hy, hy2⟩ := mask (x := n) (y := 255) (m := 255) rfl (by omega)
  obtain ⟨z, hz, hz2⟩ := mask (x := room) (y := 255) (m := 255) rfl (by omega)
  rw [hy, hz, show ((50 : Int)) = ((50 : Nat) : Int) from rfl, tmod_nat, show ((40 : Int)) = ((40 : Nat) : Int) from rfl, tmod_nat]
  have hN : y % 50 < 50 := Nat.mod_lt _ (by omega)
  have hR : z % 40 < 40 := Nat.mod_lt _ (by omega)
  generalize y % 50 = N at *
  generalize z % 40 = R at *
  have e2 : IntKind.wrap .i64 (2 + (R : Int)) = ((2 + R : Nat) : Int) := by rw [wrap_in (by omega) (by omega)]; rfl
  have e3 : IntKind.wrap .i64 (3 + (R : Int)) = ((3 + R : Nat) : Int) := by rw [wrap_in (by omega) (by omega)]; rfl
  have e4 : IntKind.wrap .i64 (Int.tdiv (IntKind.wrap .i64 ((N : Int) + 1)) 2) = ((N - N / 2 : Nat) : Int) := by
    rw [wrap_succ (by omega), Int.tdiv_eq_ediv_of_nonneg (by omega), wrap_in (by omega) (by omega)]; omega
  rw [e2, e3, e4]
  have e5 : (if ((3 + R : Nat) : Int) < ((N - N / 2 : Nat) : Int) then ((3 + R : Nat) : Int) else ((N - N / 2 : Nat) : Int)) = ((stealN N (2 + R) 0 : Nat) : Int) := by
    unfold stealN; split <;> omega
  rw [e5]
  refine local_New fun b rb sb M2 hb hrb hsb hB2 c2 => ?_
  have eR : roomOf ((2 + R : Nat) : Int) = 2 + R := by unfold roomOf; omega
  rw [eR] at hB2
  rw [exP_some]
  intro g hg
  obtain ⟨⟨o1, s1⟩, ⟨o2, s2⟩, ⟨o3, s3⟩⟩ := hA1.some
  have hd : ∀ x ∈ [b, rb, sb], x ∉ [a, ra, sa] := by
    intro x hx hx'
    simp only [List.mem_cons, List.not_mem_nil, or_false] at hx hx'
    have hxn : M1 x = none := by rcases hx with rfl | rfl | rfl <;> assumption
    rcases hx' with rfl | rfl | rfl
    · exact none_ne hxn s1 rfl
    · exact none_ne hxn s2 rfl
    · exact none_ne hxn s3 rfl
  have c12 := c1.trans c2 (fun x hx => .inl hx)
  have c02 := c0.trans c12 (fun x hx => .inl hx)
  have c3 : Chg [] M2 (M2.set g (.cells #[.slice none 0 0] 104 (0, 0))) := (Chg.refl _ _).set (.inr hg)
  have hA3 := (hA1.chg c2 (by simp) (by simp) (by simp)).chg c3 (by simp) (by simp) (by simp)
  have hB3 := hB2.chg c3 (by simp) (by simp) (by simp)
  have qa : ∀ x ∈ [a, ra, sa], M x = none := fun x hx => by
    simp only [List.mem_cons, List.not_mem_nil, or_false] at hx
    rcases hx with rfl | rfl | rfl
    · exact c0.fresh ha
    · exact c0.fresh hra
    · exact c0.fresh hsa
  have c01 := c0.trans c1 (fun x hx => .inl hx)
  have qb : ∀ x ∈ [b, rb, sb], M x = none := fun x hx => by
    simp only [List.mem_cons, List.not_mem_nil, or_false] at hx
    rcases hx with rfl | rfl | rfl
    · exact c01.fresh hb
    · exact c01.fresh hrb
    · exact c01.fresh hsb
  refine ⟨fun m vs M' => ∃ i : Nat, vs = [.int .i64 (i : Int)] ∧ m = N - i ∧ i ≤ N ∧ LocalAt M' a ra sa (-1) (upTo i) 60 ∧ LocalAt M' b rb sb (-1) [] (2 + R) ∧ Chg [] M M',
    ⟨_, 0, rfl, rfl, by omega, hA3, hB3, c02.trans c3 (fun x hx => .inl hx)⟩, fun m junk ii M4 hI => ?_⟩
  obtain ⟨i, he, hm, hi, hA4, hB4, c4⟩ := hI
  simp only [List.cons.injEq, Value.int.injEq, and_true, true_and] at he
  subst he
  have d1 : ∀ x ∈ [b, rb, sb], x ∉ [ra, sa] := fun x hx hx' => hd x hx (by simp at hx'; rcases hx' with rfl | rfl <;> simp)
  refine bsp_dec.2 ⟨fun hlt => ?_, fun hge => ?_⟩
  · refine local_Put_room hA4 (by rw [upTo_len]; omega) fun M5 hA5 c5 => ?_
    rw [exI_some]
    refine ⟨N - (i + 1), by omega, i + 1, by rw [wrap_succ (by omega)], rfl, by omega, by rw [upTo_succ]; exact hA5, hB4.chg c5 (d1 b (by simp)) (d1 rb (by simp)) (d1 sb (by simp)), c4.trans c5 (fun x hx => .inr (qa x (by simp at hx; rcases hx with rfl | rfl <;> simp)))⟩
  have hiN : i = N := by omega
  subst hiN
  refine local_Steal hB4 hA4 hd (fun hnil M5 hB5 hA5 c5 => ?_) (fun v r hv M5 hB5 hA5 c5 => ?_)
  · have hi0 : i = 0 := by have := upTo_len i; rw [hnil] at this; simpa using this.symm
    subst hi0
    refine ⟨-1, false, rfl, ?_⟩
    exact h _ (c4.trans c5 (fun x hx => .inr (qa x (by simp at hx; simp [hx]))))
  · rw [upTo_len] at hB5 hA5
    have hpos : 0 < i := by have := upTo_len i; rw [hv] at this; simp at this; omega
    have hv0 : v = 0 := by
      have : (upTo i)[0]? = some v := by rw [hv]; rfl
      rw [upTo_get hpos] at this
      simpa using this.symm
    subst hv0
    refine ⟨0, true, rfl, ?_⟩
    refine bsp_eq.2 ⟨fun h0 => by omega, fun _ => ⟨by omega, by omega, ?_⟩⟩
    show ACalls _ _ _ _ _ _
    have k1 : 1 ≤ stealN i (2 + R) 0 := by unfold stealN; omega
    have k2 : stealN i (2 + R) 0 ≤ i := by unfold stealN; omega
    simp only [List.length_nil] at hB5 hA5
    generalize stealN i (2 + R) 0 = k at *
    have l1 : ([] ++ ((upTo i).take k).drop 1 : List Int).length = k - 1 := by simp [upTo_len]; omega
    have l2 : ((upTo i).drop k).length = i - k := by simp [upTo_len]
    refine local_Len hB5 ?_
    simp only [qOf, if_true, l1]
    rw [exI_some]
    refine bsp_ne.2 ⟨fun hx => absurd (by rw [wrap_in (by omega) (by omega)]; omega) hx, fun _ => ?_⟩
    refine local_Len hA5 ?_
    simp only [qOf, if_true, l2]
    rw [exI_some]
    refine bsp_ne.2 ⟨fun hx => absurd (by rw [wrap_in (by omega) (by omega)]; omega) hx, fun _ => ?_⟩
    refine local_List hB5 fun A6 cap6 M6 own6 c6 fr6 => ?_
    rw [exSl_some]
    have hA6 := hA5.chg c6 (by simp) (by simp) (by simp)
    refine local_List hA6 fun A7 cap7 M7 own7 c7 fr7 => ?_
    rw [exSl_some]
    have own6' := own6.chg c7 (by simp)
    rw [l1] at own6' ⊢
    rw [l2] at own7 ⊢
    refine append_ints own6' own7.sl l2 (by omega) fun A8 cap8 M8 own8 c8 fr8 => ?_
    rw [exSl_some]
    have c5' : Chg [] M M5 := c4.trans c5 (fun x hx => .inr (by
      simp only [List.mem_cons, List.not_mem_nil, or_false] at hx
      rcases hx with rfl | rfl | rfl
      · exact qb _ (by simp)
      · exact qb _ (by simp)
      · exact qa _ (by simp)))
    have c8' : Chg [] M M8 := ((c5'.trans c6 (fun x hx => .inl hx)).trans c7 (fun x hx => .inl hx)).trans c8 (fun x hx => .inr (c5'.fresh (fr6 x hx)))
    have elist : ([] ++ ((upTo i).take k).drop 1 ++ (upTo i).drop k : List Int) = (upTo i).drop 1 := by
      rw [List.nil_append]
      have : (upTo i) = (upTo i).take k ++ (upTo i).drop k := (List.take_append_drop k _).symm
      conv => rhs; rw [this]
      rw [List.drop_append_of_le_length (by simp [upTo_len]; omega)]
    rw [elist] at own8
    have e9 : k - 1 + (i - k) = i - 1 := by omega
    rw [e9] at own8 ⊢
    refine ⟨fun m vs M' => ∃ j : Nat, vs = [.int .i64 (j : Int)] ∧ m = i - j ∧ M' = M8, ⟨_, 0, rfl, rfl, rfl⟩, fun m junk jj M9 hI => ?_⟩
    obtain ⟨j, he, hm, rfl⟩ := hI
    simp only [List.cons.injEq, Value.int.injEq, and_true, true_and] at he
    subst he
    refine bsp_dec.2 ⟨fun hlt => ?_, fun _ => h _ c8'⟩
    refine ⟨by omega, hlt, ?_⟩
    obtain ⟨b1, o1, rfl, g1⟩ := own8.sl.get (i := j) (by simp [upTo_len]; omega)
    rw [nilc_some, Int.toNat_natCast, g1, List.getElem?_map, List.getElem?_drop, upTo_get (by omega)]
    show exI (some (.int .i64 ((1 + j : Nat) : Int))) .i64 _
    rw [exI_some, wrap_succ (by omega)]
    refine bsp_ne.2 ⟨fun hx => absurd (by omega) hx, fun _ => ?_⟩
    exact ⟨i - (j + 1), by omega, j + 1, rfl, rfl, rfl⟩
end Go.Proofs
