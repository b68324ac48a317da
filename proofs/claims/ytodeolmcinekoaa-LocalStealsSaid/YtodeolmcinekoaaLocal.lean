/- A part of proofs about functions of one program: a condition over a partial memory that is enough for a call, and what calls answer by it. No condition of its own. -/
import Derived.Test.YtodeolmcinekoaaRound
import Derived.Test.YtodeolmcinekoaaVLocal
namespace Go.Proofs
open Go.AF
set_option linter.unusedVariables false
set_option maxRecDepth 100000

/-- Who goes next, and a ring. -/
def LocalAt (M : Mem) (b rb sb : Nat) (next : Int) (l : List Int) (room : Nat) : Prop :=
  (∃ T, M b = some (.cells #[.int .i64 next, .pointer (some ⟨rb, 0, none⟩)] T (0, 0))) ∧ RingAt M rb sb l room ∧ rb ≠ b ∧ sb ≠ b

theorem LocalAt.chg {M M' : Mem} {L : List Nat} {b rb sb room : Nat} {next : Int} {l : List Int} (h : LocalAt M b rb sb next l room) (hc : Chg L M M') (h1 : b ∉ L) (h2 : rb ∉ L) (h3 : sb ∉ L) : LocalAt M' b rb sb next l room := by
  obtain ⟨⟨T, hb⟩, hr, n1, n2⟩ := h
  exact ⟨⟨T, hc.at hb h1⟩, hr.chg hc h2 h3, n1, n2⟩
theorem LocalAt.away {M : Mem} {b rb sb room : Nat} {next : Int} {l : List Int} {A : Option Addr} (h : LocalAt M b rb sb next l room) (hA : Fr0 M A) : b ∉ blk A ∧ rb ∉ blk A ∧ sb ∉ blk A := by
  obtain ⟨⟨T, hb⟩, hr, n1, n2⟩ := h
  exact ⟨hA.notin hb, hr.away hA⟩
theorem LocalAt.some {M : Mem} {b rb sb room : Nat} {next : Int} {l : List Int} (h : LocalAt M b rb sb next l room) : (∃ o, M b = .some o) ∧ (∃ o, M rb = .some o) ∧ ∃ o, M sb = .some o := by
  obtain ⟨⟨T, hb⟩, hr, n1, n2⟩ := h
  exact ⟨⟨_, hb⟩, hr.at⟩

def LocalV (b : Nat) : Value := .pointer (some ⟨b, 0, none⟩)

theorem local_New {room : Int} {M : Mem} {K : Value → Mem → Prop} {Kp : List PanicEntry → Mem → Prop}
    (h : ∀ b rb sb M', M b = none → M rb = none → M sb = none → LocalAt M' b rb sb (-1) [] (roomOf room) → Chg [] M M' → K (.pointer (some ⟨b, 0, none⟩)) M') :
    ACalls Try.prog 56 #[.int .i64 room] M K Kp := by
  refine vc_local_New room M K Kp ?_
  refine ring_New fun rb sb M1 hrb hsb hr c1 => ?_
  rw [exP_some]
  intro b hb
  obtain ⟨⟨o, h1⟩, ⟨o2, h2⟩⟩ := hr.at
  exact h b rb sb _ (c1.fresh hb) hrb hsb ⟨⟨_, set_same⟩, hr.chg ((Chg.refl [] _).set (.inr hb)) (by simp) (by simp), none_ne hb h1, none_ne hb h2⟩ (c1.set (.inr (c1.fresh hb)))

theorem local_Put_room {b rb sb room g : Nat} {next v : Int} {l : List Int} {M : Mem} {K : Value → Mem → Prop} {Kp : List PanicEntry → Mem → Prop} (hL : LocalAt M b rb sb next l room) (hlt : l.length < room)
    (h : ∀ M', LocalAt M' b rb sb next (l ++ [v]) room → Chg [rb, sb] M M' → K (.int .i64 0) M') :
    ACalls Try.prog 57 #[.pointer (some ⟨b, 0, none⟩), .int .i64 v, .pointer (some ⟨g, 0, none⟩)] M K Kp := by
  obtain ⟨⟨T, hb⟩, hr, n1, n2⟩ := hL
  refine vc_local_Local_Put b 0 v g 0 M K Kp ?_
  simp only [ld_of hb, Nat.zero_add, lit_get1, exP_some]
  refine ring_Push hr (fun _ M' hr' c' => ?_) (fun h0 => by omega)
  rw [exB_some]
  show K _ _
  exact h M' ⟨⟨T, c'.at hb (by simp [n1.symm, n2.symm])⟩, hr', n1, n2⟩ c'

theorem local_Ready_room {b rb sb room g : Nat} {next v : Int} {l : List Int} {M : Mem} {K : Value → Mem → Prop} {Kp : List PanicEntry → Mem → Prop} (hL : LocalAt M b rb sb next l room) (hlt : l.length < room)
    (h : ∀ M', LocalAt M' b rb sb v (if next = -1 then l else l ++ [next]) room → Chg [b, rb, sb] M M' → K (.int .i64 0) M') :
    ACalls Try.prog 58 #[.pointer (some ⟨b, 0, none⟩), .int .i64 v, .pointer (some ⟨g, 0, none⟩)] M K Kp := by
  obtain ⟨⟨T, hb⟩, hr, n1, n2⟩ := hL
  refine vc_local_Local_Ready b 0 v g 0 M K Kp ?_
  simp only [ld_of hb, lit_get0, exI_some, wr_of' hb, put_of hb, List.setIfInBounds_toArray, List.set_cons_zero]
  refine ⟨by simp, bsp_eq.2 ⟨fun he => ?_, fun hne => ?_⟩⟩
  · rw [if_pos he] at h
    exact h _ ⟨⟨T, set_same⟩, hr.chg ((Chg.refl [b] _).set (.inl (by simp))) (by simp [n1]) (by simp [n2]), n1, n2⟩ ((Chg.refl _ _).set (.inl (by simp)))
  · rw [if_neg hne] at h
    have c1 : Chg [b] M (M.set b (.cells #[.int .i64 v, .pointer (some ⟨rb, 0, none⟩)] T (0, 0))) := (Chg.refl [b] _).set (.inl (by simp))
    refine local_Put_room (next := v) ⟨⟨T, set_same⟩, hr.chg c1 (by simp [n1]) (by simp [n2]), n1, n2⟩ hlt fun M' h1 c2 => ?_
    rw [exI_some]
    exact h M' h1 ((c1.mono (fun x hx => by simp at hx; simp [hx])).trans c2 (fun x hx => by simp at hx; rcases hx with rfl | rfl <;> simp))

/-- Who goes next stands ahead. -/
def qOf (next : Int) (l : List Int) : List Int := if next = -1 then l else next :: l

theorem local_Get {b rb sb room : Nat} {next : Int} {l : List Int} {M : Mem} {K : Value → Mem → Prop} {Kp : List PanicEntry → Mem → Prop} (hL : LocalAt M b rb sb next l room)
    (hn : qOf next l = [] → K (.tuple #[.int .i64 (-1), .bool false]) M)
    (hk : ∀ v r, qOf next l = v :: r → ∀ M', LocalAt M' b rb sb (-1) r room → Chg [b, rb] M M' → K (.tuple #[.int .i64 v, .bool true]) M') :
    ACalls Try.prog 59 #[.pointer (some ⟨b, 0, none⟩)] M K Kp := by
  obtain ⟨⟨T, hb⟩, hr, n1, n2⟩ := hL
  refine vc_local_Local_Get b 0 M K Kp ?_
  simp only [ld_of hb, Nat.zero_add, lit_get0, lit_get1, exI_some, exP_some, wr_of' hb, put_of hb, List.setIfInBounds_toArray, List.set_cons_zero]
  refine bsp_ne.2 ⟨fun hne => ⟨by simp, ?_⟩, fun he => ?_⟩
  · have c1 : Chg [b, rb] M (M.set b (.cells #[.int .i64 (-1), .pointer (some ⟨rb, 0, none⟩)] T (0, 0))) := (Chg.refl _ _).set (.inl (by simp))
    have c2 : Chg [b] M (M.set b (.cells #[.int .i64 (-1), .pointer (some ⟨rb, 0, none⟩)] T (0, 0))) := (Chg.refl _ _).set (.inl (by simp))
    exact hk next l (by rw [qOf, if_neg hne]) _ ⟨⟨T, set_same⟩, hr.chg c2 (by simp [n1]) (by simp [n2]), n1, n2⟩ c1
  · rw [qOf, if_pos he] at hn hk
    refine ring_Pop hr (fun h0 => ⟨0, false, rfl, hn h0⟩) (fun v l' hl M' hr' c' => ⟨v, true, rfl, ?_⟩)
    subst he
    exact hk v l' hl M' ⟨⟨T, c'.at hb (by simp [n1.symm])⟩, hr', n1, n2⟩ (c'.mono (fun x hx => by simp at hx; simp [hx]))

theorem local_Len {b rb sb room : Nat} {next : Int} {l : List Int} {M : Mem} {K : Value → Mem → Prop} {Kp : List PanicEntry → Mem → Prop} (hL : LocalAt M b rb sb next l room)
    (h : K (.int .i64 ((qOf next l).length : Int)) M) : ACalls Try.prog 61 #[.pointer (some ⟨b, 0, none⟩)] M K Kp := by
  obtain ⟨⟨T, hb⟩, hr, n1, n2⟩ := hL
  have h1 := hr.len_le
  have h2 := hr.room_le
  refine vc_local_Local_Len b 0 M K Kp ?_
  simp only [ld_of hb, Nat.zero_add, lit_get0, lit_get1, exI_some, exP_some]
  refine bsp_ne.2 ⟨fun hne => ?_, fun he => ?_⟩
  · rw [qOf, if_neg hne] at h
    refine ring_Len hr ?_
    rw [exI_some, wrap_succ (by omega)]
    exact h
  · rw [qOf, if_pos he] at h
    exact ring_Len hr h

theorem local_List {b rb sb room : Nat} {next : Int} {l : List Int} {M : Mem} {K : Value → Mem → Prop} {Kp : List PanicEntry → Mem → Prop} (hL : LocalAt M b rb sb next l room)
    (h : ∀ A c M', OwnI M' A l.length c l → Chg [] M M' → Fr0 M A → K (.slice A l.length c) M') : ACalls Try.prog 63 #[.pointer (some ⟨b, 0, none⟩)] M K Kp := by
  obtain ⟨⟨T, hb⟩, hr, n1, n2⟩ := hL
  refine vc_local_Local_List b 0 M K Kp ?_
  simp only [ld_of hb, Nat.zero_add, lit_get1, exP_some]
  exact ring_List hr h

theorem global_Len0 {g T : Nat} {M : Mem} {K : Value → Mem → Prop} {Kp : List PanicEntry → Mem → Prop} {A : Option Addr} {n c : Nat} (hg : M g = some (.cells #[.slice A n c] T (0, 0))) (h : K (.int .i64 (n : Int)) M) :
    ACalls Try.prog 60 #[.pointer (some ⟨g, 0, none⟩)] M K Kp := by
  refine vc_local_Global_Len g 0 M K Kp ?_
  simp only [ld_of hg, lit_get0, exSl_some]
  exact h

theorem local_awake {M : Mem} {K : Value → Mem → Prop} {Kp : List PanicEntry → Mem → Prop} (h : ∀ M', Chg [] M M' → K (.bool true) M') :
    ACalls Try.prog 55 #[] M K Kp := by
  refine vc_shunterlaw08_awake M K Kp ?_
  refine local_New fun b rb sb M1 hb hrb hsb hL c1 => ?_
  rw [exP_some]
  show ∀ g, _
  intro g hg
  have four : roomOf 4 = 4 := rfl
  rw [four] at hL
  obtain ⟨⟨o1, s1⟩, ⟨o2, s2⟩, ⟨o3, s3⟩⟩ := hL.some
  have n1 := none_ne hg s1
  have n2 := none_ne hg s2
  have n3 := none_ne hg s3
  have c2 := c1.set (o := .cells #[.slice none 0 0] 104 (0, 0)) (.inr (c1.fresh hg))
  have hL2 := hL.chg ((Chg.refl [] M1).set (o := .cells #[.slice none 0 0] 104 (0, 0)) (.inr hg)) (by simp) (by simp) (by simp)
  have q : ∀ x ∈ [b, rb, sb], x ∈ ([] : List Nat) ∨ M x = none := fun x hx => by
    simp only [List.mem_cons, List.not_mem_nil, or_false] at hx
    rcases hx with rfl | rfl | rfl
    · exact .inr hb
    · exact .inr hrb
    · exact .inr hsb
  have q' : ∀ x ∈ [b, rb], x ∈ ([] : List Nat) ∨ M x = none := fun x hx => q x (by simp at hx; rcases hx with rfl | rfl <;> simp)
  refine local_Ready_room hL2 (by simp) fun M3 hL3 c3 => ?_
  rw [exI_some]
  simp only [if_true] at hL3
  refine local_Ready_room hL3 (by simp) fun M4 hL4 c4 => ?_
  rw [exI_some]
  rw [if_neg (by omega)] at hL4
  refine local_Get hL4 (fun h0 => by simp [qOf] at h0) fun v r hv M5 hL5 c5 => ?_
  simp only [qOf, List.nil_append] at hv
  rw [if_neg (by omega)] at hv
  cases hv
  refine ⟨6, true, rfl, ?_⟩
  refine local_Get hL5 (fun h0 => by simp [qOf] at h0) fun v r hv M6 hL6 c6 => ?_
  simp only [qOf, if_true] at hv
  cases hv
  refine ⟨5, true, rfl, ?_⟩
  refine local_Get hL6 (fun _ => ?_) (fun v r hv => by simp [qOf] at hv)
  refine ⟨-1, false, rfl, ?_⟩
  show ACalls _ _ _ _ _ _
  have hg6 : M6 g = some (.cells #[.slice none 0 0] 104 (0, 0)) :=
    c6.at (c5.at (c4.at (c3.at set_same (by simp [n1.symm, n2.symm, n3.symm])) (by simp [n1.symm, n2.symm, n3.symm])) (by simp [n1.symm, n2.symm])) (by simp [n1.symm, n2.symm])
  refine global_Len0 hg6 ?_
  exact h _ ((((c2.trans c3 q).trans c4 q).trans c5 q').trans c6 q')
end Go.Proofs
