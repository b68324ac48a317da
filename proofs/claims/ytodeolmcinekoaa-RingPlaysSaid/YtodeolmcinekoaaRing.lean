/- A part of proofs about functions of one program: a condition over a partial memory that is enough for a call, and what calls answer by it. No condition of its own. -/
import Derived.Test.YtodeolmcinekoaaTy
import Derived.Test.YtodeolmcinekoaaVRing
/- The ring, as a list. -/
namespace Go.Proofs
open Go.AF
set_option linter.unusedVariables false
set_option maxRecDepth 100000

/-- A ring stands at b, its numbers at sb. -/
def RingAt (M : Mem) (b sb : Nat) (l : List Int) (room : Nat) : Prop :=
  ∃ (T T' head : Nat) (cs : Array Value), M b = some (.cells #[.slice (some ⟨sb, 0, none⟩) room room, .int .i64 (head : Int), .int .i64 (l.length : Int)] T (0, 0)) ∧
    M sb = some (.cells cs T' (0, 0)) ∧ sb ≠ b ∧ cs.size = room ∧ 0 < room ∧ room ≤ 1024 ∧ head < room ∧ l.length ≤ room ∧ ∀ i, i < l.length → cs[(head + i) % room]? = (l.map iv)[i]?

theorem RingAt.room_pos {M : Mem} {b sb room : Nat} {l : List Int} (h : RingAt M b sb l room) : 0 < room := by obtain ⟨T, T', head, cs, h1, h2, h3, h4, h5, h6, h7, h8, h9⟩ := h; exact h5
theorem RingAt.room_le {M : Mem} {b sb room : Nat} {l : List Int} (h : RingAt M b sb l room) : room ≤ 1024 := by obtain ⟨T, T', head, cs, h1, h2, h3, h4, h5, h6, h7, h8, h9⟩ := h; exact h6
theorem RingAt.len_le {M : Mem} {b sb room : Nat} {l : List Int} (h : RingAt M b sb l room) : l.length ≤ room := by obtain ⟨T, T', head, cs, h1, h2, h3, h4, h5, h6, h7, h8, h9⟩ := h; exact h8
theorem RingAt.ne {M : Mem} {b sb room : Nat} {l : List Int} (h : RingAt M b sb l room) : sb ≠ b := by obtain ⟨T, T', head, cs, h1, h2, h3, h4, h5, h6, h7, h8, h9⟩ := h; exact h3
theorem RingAt.move {M M' : Mem} {b sb room : Nat} {l : List Int} (h : RingAt M b sb l room) (h1 : M' b = M b) (h2 : M' sb = M sb) : RingAt M' b sb l room := by
  unfold RingAt at h ⊢; rw [h1, h2]; exact h
theorem RingAt.chg {M M' : Mem} {L : List Nat} {b sb room : Nat} {l : List Int} (h : RingAt M b sb l room) (hk : Chg L M M') (hb : b ∉ L) (hs : sb ∉ L) : RingAt M' b sb l room := by
  obtain ⟨T, T', head, cs, h1, h2, h3⟩ := h
  exact ⟨T, T', head, cs, hk.at h1 hb, hk.at h2 hs, h3⟩
theorem RingAt.at {M : Mem} {b sb room : Nat} {l : List Int} (h : RingAt M b sb l room) : (∃ o, M b = some o) ∧ ∃ o, M sb = some o := by
  obtain ⟨T, T', head, cs, h1, h2, h3⟩ := h
  exact ⟨⟨_, h1⟩, ⟨_, h2⟩⟩
theorem RingAt.away {M : Mem} {b sb room : Nat} {l : List Int} {A : Option Addr} (h : RingAt M b sb l room) (hA : Fr0 M A) : b ∉ blk A ∧ sb ∉ blk A := by
  obtain ⟨⟨o, h1⟩, ⟨o2, h2⟩⟩ := h.at
  exact ⟨hA.notin h1, hA.notin h2⟩

def roomOf (n : Int) : Nat := (max 1 (min n 1024)).toNat

theorem roomOf_eq (n : Int) : (if (1024 : Int) < (if (1 : Int) > n then 1 else n) then 1024 else (if (1 : Int) > n then 1 else n)) = ((roomOf n : Nat) : Int) := by
  unfold roomOf; omega
theorem roomOf_pos (n : Int) : 0 < roomOf n := by unfold roomOf; omega
theorem roomOf_le (n : Int) : roomOf n ≤ 1024 := by unfold roomOf; omega

theorem ring_New {room : Int} {M : Mem} {K : Value → Mem → Prop} {Kp : List PanicEntry → Mem → Prop}
    (h : ∀ b sb M', M b = none → M sb = none → RingAt M' b sb [] (roomOf room) → Chg [] M M' → K (.pointer (some ⟨b, 0, none⟩)) M') :
    ACalls Try.prog 27 #[.int .i64 room] M K Kp := by
  refine vc_ring_New room M K Kp ?_
  rw [roomOf_eq]
  have p1 := roomOf_pos room
  have p2 := roomOf_le room
  refine make_ints (by omega) fun k hk => ?_
  rw [exSl_some]
  intro j hj
  have hjk : k ≠ j := by rintro rfl; rw [set_same] at hj; cases hj
  have hj' : M j = none := by rwa [set_ne (Ne.symm hjk)] at hj
  refine h j k _ hj' hk ⟨_, _, 0, _, set_same, set_at set_same hjk, hjk, by simp, p1, p2, p1, by simp, by simp⟩ ?_
  exact ((Chg.refl _ _).set (.inr hk)).set (.inr hj')

theorem ring_Room {b sb room : Nat} {l : List Int} {M : Mem} {K : Value → Mem → Prop} {Kp : List PanicEntry → Mem → Prop} (hr : RingAt M b sb l room) (h : K (.int .i64 (room : Int)) M) :
    ACalls Try.prog 28 #[.pointer (some ⟨b, 0, none⟩)] M K Kp := by
  obtain ⟨T, T', head, cs, h1, h2, h3, h4, h5, h6, h7, h8, h9⟩ := hr
  refine vc_ring_Ring_Room b 0 M K Kp ?_
  simp only [ld_of h1, lit_get0, exSl_some]
  exact h

theorem ring_Len {b sb room : Nat} {l : List Int} {M : Mem} {K : Value → Mem → Prop} {Kp : List PanicEntry → Mem → Prop} (hr : RingAt M b sb l room) (h : K (.int .i64 (l.length : Int)) M) :
    ACalls Try.prog 31 #[.pointer (some ⟨b, 0, none⟩)] M K Kp := by
  obtain ⟨T, T', head, cs, h1, h2, h3, h4, h5, h6, h7, h8, h9⟩ := hr
  refine vc_ring_Ring_Len b 0 M K Kp ?_
  simp only [ld_of h1, Nat.zero_add, lit_get2, exI_some]
  exact h

theorem mod_lt_add {a b n : Nat} (hn : 0 < n) : a % n < n := Nat.mod_lt _ hn

theorem ring_Push {b sb room : Nat} {l : List Int} {v : Int} {M : Mem} {K : Value → Mem → Prop} {Kp : List PanicEntry → Mem → Prop} (hr : RingAt M b sb l room)
    (hk : l.length < room → ∀ M', RingAt M' b sb (l ++ [v]) room → Chg [b, sb] M M' → K (.bool true) M') (hn : l.length = room → K (.bool false) M) :
    ACalls Try.prog 29 #[.pointer (some ⟨b, 0, none⟩), .int .i64 v] M K Kp := by
  obtain ⟨T, T', head, cs, h1, h2, h3, h4, h5, h6, h7, h8, h9⟩ := hr
  refine vc_ring_Ring_Push b 0 v M K Kp ?_
  simp only [ld_of h1, Nat.zero_add, lit_get0, lit_get1, lit_get2, exI_some, exSl_some]
  refine bsp_eq.2 ⟨fun he => hn (by omega), fun hne => ?_⟩
  have hlt : l.length < room := by omega
  have e1 : IntKind.wrap .i64 ((head : Int) + (l.length : Int)) = ((head + l.length : Nat) : Int) := by rw [← Int.natCast_add]; exact wrap_nat (by omega)
  have hj : (head + l.length) % room < room := Nat.mod_lt _ h5
  rw [e1, tmod_nat]
  refine ⟨by omega, by omega, by omega, ?_⟩
  rw [nilc_some, Int.toNat_natCast, Nat.zero_add]
  refine ⟨wr_of h2 (by omega), ?_⟩
  rw [put_of h2]
  have h1' := set_at (b := sb) (o := .cells (cs.setIfInBounds ((head + l.length) % room) (.int .i64 v)) T' (0, 0)) h1 (Ne.symm h3)
  simp only [ld_of h1', lit_get2, exI_some]
  refine ⟨wr_of h1' (by simp), ?_⟩
  rw [put_of h1']
  have e2 : IntKind.wrap .i64 ((l.length : Int) + 1) = (((l ++ [v]).length : Nat) : Int) := by
    rw [List.length_append, List.length_singleton, ← wrap_nat (n := l.length + 1) (by omega)]; rfl
  rw [e2]
  refine hk hlt _ ⟨T, T', head, _, set_same, set_at set_same h3, h3, by simpa using h4, h5, h6, h7, by simp; omega, fun i hi => ?_⟩ (((Chg.refl _ _).set (.inl (by simp))).set (.inl (by simp)))
  rw [List.length_append, List.length_singleton] at hi
  by_cases hil : i < l.length
  · have hne2 : (head + l.length) % room ≠ (head + i) % room := by
      intro he
      have a1 : (head + i) % room = if head + i < room then head + i else head + i - room := by
        split
        · exact Nat.mod_eq_of_lt (by assumption)
        · rw [Nat.mod_eq_sub_mod (by omega), Nat.mod_eq_of_lt (by omega)]
      have a2 : (head + l.length) % room = if head + l.length < room then head + l.length else head + l.length - room := by
        split
        · exact Nat.mod_eq_of_lt (by assumption)
        · rw [Nat.mod_eq_sub_mod (by omega), Nat.mod_eq_of_lt (by omega)]
      rw [a1, a2] at he
      split at he <;> split at he <;> omega
    rw [Array.getElem?_setIfInBounds_ne hne2, h9 i hil, List.map_append, List.getElem?_append_left (by simpa using hil)]
  · have : i = l.length := by omega
    subst this
    rw [Array.getElem?_setIfInBounds_self_of_lt (by omega), List.map_append, List.getElem?_append_right (by simp)]
    simp [iv]

theorem ring_Pop {b sb room : Nat} {l : List Int} {M : Mem} {K : Value → Mem → Prop} {Kp : List PanicEntry → Mem → Prop} (hr : RingAt M b sb l room)
    (hn : l = [] → K (.tuple #[.int .i64 0, .bool false]) M) (hk : ∀ v l', l = v :: l' → ∀ M', RingAt M' b sb l' room → Chg [b] M M' → K (.tuple #[.int .i64 v, .bool true]) M') :
    ACalls Try.prog 30 #[.pointer (some ⟨b, 0, none⟩)] M K Kp := by
  obtain ⟨T, T', head, cs, h1, h2, h3, h4, h5, h6, h7, h8, h9⟩ := hr
  refine vc_ring_Ring_Pop b 0 M K Kp ?_
  simp only [ld_of h1, Nat.zero_add, lit_get0, lit_get1, lit_get2, exI_some, exSl_some]
  refine bsp_eq.2 ⟨fun he => hn (List.length_eq_zero_iff.1 (by omega)), fun hne => ?_⟩
  obtain ⟨v, l', rfl⟩ : ∃ v l', l = v :: l' := by
    cases l with
    | nil => simp at hne
    | cons v l' => exact ⟨v, l', rfl⟩
  refine ⟨by omega, by omega, ?_⟩
  have h0 : cs[head]? = some (.int .i64 v) := by
    have := h9 0 (by simp)
    rw [Nat.add_zero, Nat.mod_eq_of_lt h7] at this
    simpa [iv] using this
  rw [nilc_some, Int.toNat_natCast, Nat.zero_add, ld_of h2, h0, exI_some]
  refine ⟨by omega, wr_of h1 (by simp), ?_⟩
  rw [put_of h1]
  have e1 : Int.tmod (IntKind.wrap .i64 ((head : Int) + 1)) (room : Int) = (((head + 1) % room : Nat) : Int) := by
    rw [show ((head : Int) + 1) = ((head + 1 : Nat) : Int) from rfl, wrap_nat (by omega), tmod_nat]
  rw [e1]
  simp only [ld_of set_same, List.setIfInBounds_toArray, List.set_cons_succ, List.set_cons_zero, lit_get2, exI_some]
  refine ⟨wr_of set_same (by simp), ?_⟩
  rw [put_of set_same, set_set]
  simp only [List.setIfInBounds_toArray, List.set_cons_succ, List.set_cons_zero]
  have e2 : IntKind.wrap .i64 ((((v :: l').length : Nat) : Int) - 1) = ((l'.length : Nat) : Int) := by
    rw [← wrap_nat (n := l'.length) (by simp only [List.length_cons] at h8; omega)]; simp
  rw [e2]
  simp only [List.length_cons] at h8 h9
  refine hk v l' rfl _ ⟨T, T', (head + 1) % room, cs, set_same, set_at h2 h3, h3, h4, h5, h6, Nat.mod_lt _ h5, by omega, fun i hi => ?_⟩ ((Chg.refl _ _).set (.inl (by simp)))
  have := h9 (i + 1) (by omega)
  rw [Nat.mod_add_mod, show head + 1 + i = head + (i + 1) from by omega, this]
  simp

theorem ring_Take {b sb room : Nat} {l : List Int} {n : Int} {M : Mem} {K : Value → Mem → Prop} {Kp : List PanicEntry → Mem → Prop} (hr : RingAt M b sb l room)
    (h : ∀ A c M', OwnI M' A (min n.toNat l.length) c (l.take n.toNat) → RingAt M' b sb (l.drop n.toNat) room → Chg [b] M M' → Fr0 M A → K (.slice A (min n.toNat l.length) c) M') :
    ACalls Try.prog 32 #[.pointer (some ⟨b, 0, none⟩), .int .i64 n] M K Kp := by
  have hle := hr.len_le
  have hro := hr.room_le
  refine vc_ring_Ring_Take b 0 n M K Kp ⟨fun m vs M' => ∃ A i c, vs = [.slice A i c] ∧ m = l.length - i ∧ i ≤ n.toNat ∧ i ≤ l.length ∧ OwnI M' A i c (l.take i) ∧ RingAt M' b sb (l.drop i) room ∧ Chg [b] M M' ∧ Fr0 M A,
    ⟨l.length, none, 0, 0, rfl, rfl, Nat.zero_le _, Nat.zero_le _, Own.nil _ _ _, hr, Chg.refl _ _, Fr0.none _⟩, fun m junk A i c M' hI => ?_⟩
  obtain ⟨_, _, _, he, hm, hin, hil, hown, hring, hch, hfr⟩ := hI
  simp only [List.cons.injEq, Value.slice.injEq, and_true] at he
  obtain ⟨rfl, rfl, rfl⟩ := he
  have stop : (i : Int) ≥ n ∨ i = l.length → K (.slice A i c) M' := fun hs => by
    have e1 : min n.toNat l.length = i := by omega
    have e2 : l.take i = l.take n.toNat := by
      rcases Nat.lt_or_ge n.toNat l.length with hlt | hge
      · have : i = n.toNat := by omega
        rw [this]
      · have : i = l.length := by omega
        rw [this, List.take_length, List.take_of_length_le hge]
    have e3 : l.drop i = l.drop n.toNat := by
      rcases Nat.lt_or_ge n.toNat l.length with hlt | hge
      · have : i = n.toNat := by omega
        rw [this]
      · have : i = l.length := by omega
        rw [this, List.drop_length, List.drop_of_length_le hge]
    have := h A c M' (by rw [e1, ← e2]; exact hown) (by rw [← e3]; exact hring) hch hfr
    rwa [e1] at this
  refine bsp_dec.2 ⟨fun hlt => ?_, fun hge => stop (.inl (by omega))⟩
  refine ring_Pop hring (fun hnil => ?_) (fun v l' hl M2 hring2 hch2 => ?_)
  · refine ⟨0, false, rfl, ?_⟩
    exact stop (.inr (by have := List.drop_eq_nil_iff.1 hnil; omega))
  · refine ⟨v, true, rfl, ?_⟩
    show ∀ k, _
    intro k hk
    have hi : i < l.length := by
      rcases Nat.lt_or_ge i l.length with h1 | h1
      · exact h1
      · rw [List.drop_of_length_le h1] at hl; cases hl
    have hv : l[i]? = some v := by rw [← List.head?_drop, hl]; rfl
    have hdrop : l' = l.drop (i + 1) := by rw [← List.tail_drop, hl]; rfl
    have htake : l.take (i + 1) = l.take i ++ [v] := by
      rw [List.take_add_one, hv]; rfl
    have haway : ∀ x ∈ blk A, x ∉ [b] := fun x hx hxb => by
      simp only [List.mem_singleton] at hxb; subst hxb
      exact (hr.away hfr).1 hx
    have hch3 := hch.trans hch2 (fun x hx => .inl hx)
    refine append1_ints (hown.chg hch2 haway) hk (by omega) fun A' c' M3 g1 g2 g3 => ?_
    rw [exSl_some]
    refine ⟨l.length - (i + 1), by omega, A', i + 1, c', rfl, rfl, by omega, by omega, by rw [htake]; exact g1, ?_, ?_, hfr.step hch3 g3⟩
    · rw [← hdrop]
      exact hring2.chg g2 (hr.away hfr).1 (hr.away hfr).2
    · exact hch3.trans g2 (fun x hx => .inr (hfr x hx))

theorem ring_List {b sb room : Nat} {l : List Int} {M : Mem} {K : Value → Mem → Prop} {Kp : List PanicEntry → Mem → Prop} (hr : RingAt M b sb l room)
    (h : ∀ A c M', OwnI M' A l.length c l → Chg [] M M' → Fr0 M A → K (.slice A l.length c) M') :
    ACalls Try.prog 43 #[.pointer (some ⟨b, 0, none⟩)] M K Kp := by
  have hle := hr.len_le
  have hro := hr.room_le
  refine vc_ring_Ring_List b 0 M K Kp ?_
  obtain ⟨T, T', head, cs, h1, h2, h3, h4, h5, h6, h7, h8, h9⟩ := id hr
  simp only [ld_of h1, Nat.zero_add, lit_get2, exI_some]
  refine ⟨fun m vs M' => ∃ A i c, vs = [.slice A i c, .int .i64 (i : Int)] ∧ m = l.length - i ∧ i ≤ l.length ∧ OwnI M' A i c (l.take i) ∧ Chg [] M M' ∧ Fr0 M A,
    ⟨l.length, none, 0, 0, rfl, rfl, Nat.zero_le _, Own.nil _ _ _, Chg.refl _ _, Fr0.none _⟩, fun m junk A i c j M' hI => ?_⟩
  obtain ⟨_, _, _, he, hm, hil, hown, hch, hfr⟩ := hI
  simp only [List.cons.injEq, Value.slice.injEq, Value.int.injEq, and_true, true_and] at he
  obtain ⟨⟨rfl, rfl, rfl⟩, rfl⟩ := he
  refine bsp_dec.2 ⟨fun hlt => ?_, fun hge => ?_⟩
  · have h1' := hch.at h1 (by simp)
    have h2' := hch.at h2 (by simp)
    simp only [ld_of h1', lit_get0, lit_get1, exI_some, exSl_some]
    have e1 : IntKind.wrap .i64 ((head : Int) + (i : Int)) = ((head + i : Nat) : Int) := by rw [← Int.natCast_add]; exact wrap_nat (by omega)
    have hj : (head + i) % room < room := Nat.mod_lt _ h5
    rw [e1, tmod_nat]
    refine ⟨by omega, by omega, by omega, ?_⟩
    have hi : i < l.length := by omega
    have hv : l[i]? = some l[i] := List.getElem?_eq_getElem hi
    rw [nilc_some, Int.toNat_natCast, Nat.zero_add, ld_of h2', h9 i hi, List.getElem?_map, hv]
    show exI (some (.int .i64 l[i])) .i64 _
    rw [exI_some]
    intro k hk
    have htake : l.take (i + 1) = l.take i ++ [l[i]] := by rw [List.take_add_one, hv]; rfl
    refine append1_ints hown hk (by omega) fun A' c' M3 g1 g2 g3 => ?_
    rw [exSl_some]
    refine ⟨l.length - (i + 1), by omega, A', i + 1, c', ?_, rfl, by omega, by rw [htake]; exact g1, ?_, hfr.step hch g3⟩
    · rw [← wrap_nat (n := i + 1) (by omega)]; rfl
    · exact hch.trans g2 (fun x hx => .inr (hfr x hx))
  · have : i = l.length := by omega
    subst this
    exact h A c M' (by rw [List.take_length] at hown; exact hown) hch hfr
end Go.Proofs
