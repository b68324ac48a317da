/- A part of proofs about functions of one program: a condition over a partial memory that is enough for a call, and what calls answer by it. No condition of its own. -/
import Derived.Test.YtodeolmcinekoaaHalves
import Derived.Test.YtodeolmcinekoaaOpen
namespace Go.Proofs
open Go.AF
set_option linter.unusedVariables false
set_option maxRecDepth 100000

theorem roomOf_eq' (n : Int) : (if (if (1024 : Int) < n then 1024 else n) > 1 then (if (1024 : Int) < n then 1024 else n) else 1) = ((roomOf n : Nat) : Int) := by
  unfold roomOf; omega

/-- The document's ring. -/
def RefV (A : Option Addr) (n c room : Nat) : Value := .agg #[.slice A n c, .int .i64 (room : Int)]

theorem ref07_New {room : Int} {M : Mem} {K : Value → Mem → Prop} {Kp : List PanicEntry → Mem → Prop} (h : ∀ M', Chg [] M M' → K (RefV none 0 0 (roomOf room)) M') :
    ACalls Try.prog 39 #[.int .i64 room] M K Kp := by
  refine vc_shunterref07_New room M K Kp ?_
  rw [roomOf_eq']
  intro k hk
  simp only [put_set_eq, ld_set_eq, wr_set_eq, Nat.zero_add, List.setIfInBounds_toArray, List.set_cons_zero, List.set_cons_succ, lit_get0, lit_get1, exSl_some, exI_some]
  exact ⟨by simp, by simp, h _ ((Chg.refl _ _).set (.inr hk))⟩

theorem ref07_Push {A : Option Addr} {n c room : Nat} {l : List Int} {v : Int} {M : Mem} {K : Value → Mem → Prop} {Kp : List PanicEntry → Mem → Prop}
    (hs : Sl M A (l.map iv)) (hl : l.length = n) (hn : n ≤ 1000000)
    (hno : n = room → ∀ M', Chg [] M M' → K (.tuple #[RefV A n c room, .bool false]) M')
    (hyes : n ≠ room → ∀ A' c' M', OwnI M' A' (n + 1) c' (l ++ [v]) → Chg [] M M' → Fr0 M A' → K (.tuple #[RefV A' (n + 1) c' room, .bool true]) M') :
    ACalls Try.prog 40 #[RefV A n c room, .int .i64 v] M K Kp := by
  refine vc_shunterref07_Push A n c room v M K Kp ?_
  intro k1 hk1 k2 hk2
  obtain ⟨h21, hk2'⟩ := set_none_ne hk2
  have h12 := Ne.symm h21
  simp only [put_set_eq, ld_set_eq, ld_set_ne h12, wr_set_eq, Nat.zero_add, List.setIfInBounds_toArray, List.set_cons_zero, List.set_cons_succ, lit_get0, lit_get1, exSl_some, exI_some]
  refine bsp_eq.2 ⟨fun he => ⟨by simp, by simp, hno (by omega) _ (((Chg.refl _ _).set (.inr hk1)).set (.inr hk2'))⟩, fun hne => ?_⟩
  intro k3 hk3
  obtain ⟨h32, hk3⟩ := set_none_ne hk3
  obtain ⟨h31, hk3⟩ := set_none_ne hk3
  rw [ld_set_ne (Ne.symm h31), ld_set_ne h12, ld_set_eq, lit_get0, exSl_some]
  generalize hM2 : Mem.set (Mem.set M k1 _) k2 _ = M2
  have c2 : Chg [] M M2 := by rw [← hM2]; exact ((Chg.refl _ _).set (.inr hk1)).set (.inr hk2')
  have g1 : M2 k1 = some (.cells #[.slice A n c, .int .i64 (room : Int)] 65 (0, 0)) := by rw [← hM2]; exact set_at set_same h12
  have g2 : M2 k2 = some (.cells #[.slice none 0 0, .int .i64 0] 65 (0, 0)) := by rw [← hM2]; exact set_same
  have hk3' : M2 k3 = none := by rw [← hM2, set_ne h32, set_ne h31, hk3]
  have c3 : Chg [] M (M2.set k3 (.cells #[] 3 (0, 0))) := c2.set (.inr hk3)
  have hs3 : Sl (M2.set k3 (.cells #[] 3 (0, 0))) A (l.map iv) := hs.chg c3 (by simp)
  refine append_ints (A := some ⟨k3, 0, none⟩) (n := 0) (l := []) (r := l) ⟨by simp, .inr ⟨k3, #[], rfl, set_same, by simp, by omega, by simp⟩⟩ hs3 hl (by omega) fun A4 cap4 M4 own4 c4 fr4 => ?_
  rw [exSl_some]
  have g1' : M4 k1 = some (.cells #[.slice A n c, .int .i64 (room : Int)] 65 (0, 0)) := c4.at (set_at g1 (Ne.symm h31)) (by simp [blk]; exact Ne.symm h31)
  have g2' : M4 k2 = some (.cells #[.slice none 0 0, .int .i64 0] 65 (0, 0)) := c4.at (set_at g2 (Ne.symm h32)) (by simp [blk]; exact Ne.symm h32)
  have fr3 : Fr0 M (some ⟨k3, 0, none⟩) := fun x hx => by simp only [blk, List.mem_singleton] at hx; subst hx; exact hk3
  have c4' : Chg [] M M4 := c3.trans c4 (fun x hx => .inr (fr3 x hx))
  have fr4' : Fr0 M A4 := fr3.step c3 fr4
  have d4 : ∀ x ∈ blk A4, x ≠ k1 ∧ x ≠ k2 := by
    intro x hx
    rcases fr4 with rfl | ⟨b, rfl, hb⟩
    · simp only [blk, List.mem_singleton] at hx; subst hx; exact ⟨h31, h32⟩
    · simp only [blk, List.mem_singleton] at hx; subst hx
      obtain ⟨_, hb⟩ := set_none_ne hb
      exact ⟨(none_ne hb g1).symm, (none_ne hb g2).symm⟩
  intro k5 hk5
  rw [Nat.zero_add] at own4 ⊢
  refine append1_ints own4 hk5 (by omega) fun A6 cap6 M6 own6 c6 fr6 => ?_
  rw [exSl_some]
  have n1 : k1 ∉ blk A4 := fun hx => (d4 _ hx).1 rfl
  have n2 : k2 ∉ blk A4 := fun hx => (d4 _ hx).2 rfl
  have g1 := c6.at g1' n1
  have g2 := c6.at g2' n2
  have c6' : Chg [] M M6 := c4'.trans c6 (fun x hx => .inr (fr4' x hx))
  have fr6' : Fr0 M A6 := fr4'.step c4' fr6
  have d6 : ∀ x ∈ blk A6, x ∉ [k1, k2] := by
    intro x hx
    simp only [List.mem_cons, List.not_mem_nil, or_false, not_or]
    rcases fr6 with rfl | ⟨b, rfl, hb⟩
    · exact d4 x hx
    · simp only [blk, List.mem_singleton] at hx; subst hx
      exact ⟨(none_ne hb g1').symm, (none_ne hb g2').symm⟩
  have g2'' := set_at (b := k1) (o := .cells #[.slice A6 (n + 1) cap6, .int .i64 (room : Int)] 65 (0, 0)) g2 h21
  simp only [put_of g1, wr_of' g1, List.setIfInBounds_toArray, List.set_cons_zero, List.set_cons_succ, ld_set_eq, lit_get0, lit_get1, exSl_some, exI_some, put_of g2'', wr_of' g2'', wr_set_eq, put_set_eq]
  refine ⟨by simp, by simp, by simp, ?_⟩
  have c7 : Chg [k1, k2] M6 ((M6.set k1 (.cells #[.slice A6 (n + 1) cap6, .int .i64 (room : Int)] 65 (0, 0))).set k2 (.cells #[.slice A6 (n + 1) cap6, .int .i64 (room : Int)] 65 (0, 0))) :=
    ((Chg.refl _ _).set (.inl (by simp))).set (.inl (by simp))
  refine hyes (by omega) A6 cap6 _ (own6.chg c7 d6) (c6'.trans c7 (fun x hx => ?_)) fr6'
  simp only [List.mem_cons, List.not_mem_nil, or_false] at hx
  rcases hx with rfl | rfl
  · exact .inr hk1
  · exact .inr hk2'

theorem ref07_Take {A : Option Addr} {n c room : Nat} {l : List Int} {x : Int} {M : Mem} {K : Value → Mem → Prop} {Kp : List PanicEntry → Mem → Prop}
    (hs : Sl M A (l.map iv)) (hl : l.length = n) (hc : n ≤ c) (hn : n ≤ 1000000)
    (h : ∀ A' c' B d M', OwnI M' A' (n - min x.toNat n) c' (l.drop (min x.toNat n)) → OwnI M' B (min x.toNat n) d (l.take (min x.toNat n)) → Fr0 M A' → Fr0 M B → Chg [] M M' →
      K (.tuple #[RefV A' (n - min x.toNat n) c' room, .slice B (min x.toNat n) d]) M') :
    ACalls Try.prog 41 #[RefV A n c room, .int .i64 x] M K Kp := by
  refine vc_shunterref07_Take A n c room x M K Kp ?_
  intro k1 hk1 k2 hk2
  obtain ⟨h21, hk2'⟩ := set_none_ne hk2
  have h12 := Ne.symm h21
  have ek : (if (if ((n : Nat) : Int) < x then ((n : Nat) : Int) else x) > 0 then (if ((n : Nat) : Int) < x then ((n : Nat) : Int) else x) else 0) = ((min x.toNat n : Nat) : Int) := by omega
  rw [ld_set_ne h12, ld_set_eq, lit_get0, exSl_some]
  have hkn : min x.toNat n ≤ n := Nat.min_le_right _ _
  intro k3 hk3
  obtain ⟨h32, hk3⟩ := set_none_ne hk3
  obtain ⟨h31, hk3⟩ := set_none_ne hk3
  rw [ld_set_ne (Ne.symm h31), ld_set_ne h12, ld_set_eq, lit_get0, exSl_some]
  rw [ek]
  generalize min x.toNat n = k at *
  simp only [Int.toNat_natCast, Nat.sub_zero]
  generalize hM2 : Mem.set (Mem.set M k1 _) k2 _ = M2
  have c2 : Chg [] M M2 := by rw [← hM2]; exact ((Chg.refl _ _).set (.inr hk1)).set (.inr hk2')
  have g1 : M2 k1 = some (.cells #[.slice A n c, .int .i64 (room : Int)] 65 (0, 0)) := by rw [← hM2]; exact set_at set_same h12
  have g2 : M2 k2 = some (.cells #[.slice none 0 0, .int .i64 0] 65 (0, 0)) := by rw [← hM2]; exact set_same
  have hk3' : M2 k3 = none := by rw [← hM2, set_ne h32, set_ne h31, hk3]
  have c3 : Chg [] M (M2.set k3 (.cells #[] 3 (0, 0))) := c2.set (.inr hk3)
  have hs3 : Sl (M2.set k3 (.cells #[] 3 (0, 0))) A (l.map iv) := hs.chg c3 (by simp)
  refine ⟨by omega, by omega, by omega, by omega, by omega, by omega, ?_⟩
  have hs3' : Sl (M2.set k3 (.cells #[] 3 (0, 0))) (slA A 0 c 1) ((l.take k).map iv) := by
    rw [List.map_take]
    have := (hs3.slA (m := 0) (c := c) (by simpa [hl] using hc)).take k
    simpa using this
  refine append_ints (A := some ⟨k3, 0, none⟩) (n := 0) (l := []) (r := l.take k) ⟨by simp, .inr ⟨k3, #[], rfl, set_same, by simp, by omega, by simp⟩⟩ hs3' (by rw [List.length_take]; omega) (by omega) fun A4 cap4 M4 own4 c4 fr4 => ?_
  rw [exSl_some]
  rw [Nat.zero_add, List.nil_append] at own4
  have fr3 : Fr0 M (some ⟨k3, 0, none⟩) := fun x hx => by simp only [blk, List.mem_singleton] at hx; subst hx; exact hk3
  have c4' : Chg [] M M4 := c3.trans c4 (fun x hx => .inr (fr3 x hx))
  have fr4' : Fr0 M A4 := fr3.step c3 fr4
  have g1' : M4 k1 = some (.cells #[.slice A n c, .int .i64 (room : Int)] 65 (0, 0)) := c4.at (set_at g1 (Ne.symm h31)) (by simp [blk]; exact Ne.symm h31)
  have g2' : M4 k2 = some (.cells #[.slice none 0 0, .int .i64 0] 65 (0, 0)) := c4.at (set_at g2 (Ne.symm h32)) (by simp [blk]; exact Ne.symm h32)
  have d4 : ∀ x ∈ blk A4, x ≠ k1 ∧ x ≠ k2 := by
    intro x hx
    rcases fr4 with rfl | ⟨b, rfl, hb⟩
    · simp only [blk, List.mem_singleton] at hx; subst hx; exact ⟨h31, h32⟩
    · simp only [blk, List.mem_singleton] at hx; subst hx
      obtain ⟨_, hb⟩ := set_none_ne hb
      exact ⟨(none_ne hb g1).symm, (none_ne hb g2).symm⟩
  intro k5 hk5
  have h51 := none_ne hk5 g1'
  have h52 := none_ne hk5 g2'
  rw [ld_set_ne h51, ld_of g1', lit_get0, exSl_some]
  refine ⟨by omega, by omega, by omega, by omega, by omega, by omega, ?_⟩
  have c5 : Chg [] M4 (M4.set k5 (.cells #[] 3 (0, 0))) := (Chg.refl _ _).set (.inr hk5)
  have hk5M := c4'.fresh hk5
  have hs5 : Sl (M4.set k5 (.cells #[] 3 (0, 0))) (slA A k c 1) ((l.drop k).map iv) := by
    rw [List.map_drop]
    exact ((hs.chg c4' (by simp)).chg c5 (by simp)).slA (by simpa [hl] using hc)
  refine append_ints (A := some ⟨k5, 0, none⟩) (n := 0) (l := []) (r := l.drop k) ⟨by simp, .inr ⟨k5, #[], rfl, set_same, by simp, by omega, by simp⟩⟩ hs5 (by rw [List.length_drop]; omega) (by omega) fun A6 cap6 M6 own6 c6 fr6 => ?_
  rw [exSl_some]
  rw [Nat.zero_add, List.nil_append] at own6
  have g1'' := c6.at (c5.at g1' (by simp)) (by simp [blk, h51])
  have g2'' := c6.at (c5.at g2' (by simp)) (by simp [blk, h52])
  have own4' : OwnI M6 A4 k cap4 (l.take k) := (own4.chg c5 (by simp)).chg c6 (fun x hx hx5 => by
    simp only [blk, List.mem_singleton] at hx5; subst hx5
    obtain ⟨o, ho⟩ := own4.some hx
    rw [hk5] at ho; cases ho)
  have fr5 : Fr0 M (some ⟨k5, 0, none⟩) := fun x hx => by simp only [blk, List.mem_singleton] at hx; subst hx; exact hk5M
  have c5' : Chg [] M (M4.set k5 (.cells #[] 3 (0, 0))) := c4'.trans c5 (fun x hx => .inl hx)
  have c6' : Chg [] M M6 := c5'.trans c6 (fun x hx => .inr (fr5 x hx))
  have fr6' : Fr0 M A6 := fr5.step c5' fr6
  have d6 : ∀ x ∈ blk A6, x ∉ [k1, k2] := by
    intro x hx
    simp only [List.mem_cons, List.not_mem_nil, or_false, not_or]
    rcases fr6 with rfl | ⟨b, rfl, hb⟩
    · simp only [blk, List.mem_singleton] at hx; subst hx; exact ⟨Ne.symm h51, Ne.symm h52⟩
    · simp only [blk, List.mem_singleton] at hx; subst hx
      obtain ⟨_, hb⟩ := set_none_ne hb
      exact ⟨(none_ne hb g1').symm, (none_ne hb g2').symm⟩
  have d4' : ∀ x ∈ blk A4, x ∉ [k1, k2] := fun x hx => by
    simp only [List.mem_cons, List.not_mem_nil, or_false, not_or]
    exact d4 x hx
  have g3 := set_at (b := k1) (o := .cells #[.slice A6 (n - k) cap6, .int .i64 (room : Int)] 65 (0, 0)) g2'' h21
  simp only [put_of g1'', wr_of' g1'', List.setIfInBounds_toArray, List.set_cons_zero, List.set_cons_succ, ld_set_eq, Nat.zero_add, lit_get0, lit_get1, exSl_some, exI_some, put_of g3, wr_of' g3, wr_set_eq, put_set_eq]
  refine ⟨by simp, by simp, by simp, ?_⟩
  have c7 : Chg [k1, k2] M6 ((M6.set k1 (.cells #[.slice A6 (n - k) cap6, .int .i64 (room : Int)] 65 (0, 0))).set k2 (.cells #[.slice A6 (n - k) cap6, .int .i64 (room : Int)] 65 (0, 0))) :=
    ((Chg.refl _ _).set (.inl (by simp))).set (.inl (by simp))
  refine h A6 cap6 A4 cap4 _ (own6.chg c7 d6) (own4'.chg c7 d4') fr6' fr4' (c6'.trans c7 (fun x hx => ?_))
  simp only [List.mem_cons, List.not_mem_nil, or_false] at hx
  rcases hx with rfl | rfl
  · exact .inr hk1
  · exact .inr hk2'
end Go.Proofs
