/- A part of proofs about functions of one program: a condition over a partial memory that is enough for a call, and what calls answer by it. No condition of its own. -/
import Derived.Test.YtodeolmcinekoaaLib
import Derived.Test.YtodeolmcinekoaaCx
/- What this program's types are. -/
namespace Go.Proofs
open Go.AF
set_option linter.unusedVariables false
set_option maxRecDepth 100000

theorem ul_ints : Try.prog.underlying 39 = some (.slice 3) := by kernel_rfl
theorem int_info : (Try.prog.info? 3).map (fun i => (i.size, i.bytes, i.zero)) = some (1, 8, some (.int .i64 0)) := by kernel_rfl
theorem int_info' : ∃ i, Try.prog.info? 3 = some i ∧ i.size = 1 ∧ i.bytes = 8 ∧ i.zero = some (.int .i64 0) := by
  have h := int_info
  cases hi : Try.prog.info? 3 with
  | none => rw [hi] at h; cases h
  | some i =>
    rw [hi] at h
    simp only [Option.map_some, Option.some.injEq, Prod.mk.injEq] at h
    exact ⟨i, rfl, h.1, h.2.1, h.2.2⟩

abbrev OwnI (M : Mem) (A : Option Addr) (n c : Nat) (l : List Int) : Prop := Own M 1 3 A n c (l.map iv)

theorem OwnI.len {M : Mem} {A : Option Addr} {n c : Nat} {l : List Int} (h : OwnI M A n c l) : l.length = n := by simpa using h.1

theorem make_ints {n : Nat} {M : Mem} {K : Value → Mem → Prop} {Kp : List PanicEntry → Mem → Prop} (hn : n ≤ 17592186044416)
    (h : ∀ k, M k = none → K (.slice (some ⟨k, 0, none⟩) n n) (M.set k (.cells (List.replicate n (iv 0)).toArray 3 (0, 0)))) :
    semK Try.prog (Instr.makeSlice 39 (.int .i64 (n : Int)) (.int .i64 (n : Int))) M K Kp := by
  obtain ⟨i, hi, hs, hb, hz⟩ := int_info'
  refine semK_makeSlice ul_ints hi hz (by rw [hs]; rfl) (by rw [hb]; omega) (by omega) fun k hk => ?_
  have := h k hk
  have e : (List.replicate n (iv 0)) = (List.replicate n (Value.int .i64 0).cells.toList).flatten := by
    show _ = (List.replicate n [iv 0]).flatten
    simp
  rw [e] at this
  exact this

theorem append_ints {A B : Option Addr} {n c m d : Nat} {l r : List Int} {M : Mem} {K : Value → Mem → Prop} {Kp : List PanicEntry → Mem → Prop}
    (ho : OwnI M A n c l) (hr : Sl M B (r.map iv)) (hm : r.length = m) (hn : n + m ≤ 17592186044416)
    (h : ∀ A' c' M', OwnI M' A' (n + m) c' (l ++ r) → Chg (blk A) M M' → Fresh M A A' → K (.slice A' (n + m) c') M') :
    semK Try.prog (Builtin.append_ #[39, 39] 39 #[.slice A n c, .slice B m d]) M K Kp := by
  obtain ⟨i, hi, hs, hb, hz⟩ := int_info'
  refine semK_append ul_ints ul_ints hi hz (by rw [hs]; rfl) (by rw [hs]; exact ho) hr (by rw [hs]; simpa using hm) iv_plain (by rw [hb]; omega) (by omega) ?_
  rw [hs, ← List.map_append]
  exact h

theorem append1_ints {A : Option Addr} {n c k : Nat} {l : List Int} {v : Int} {M : Mem} {K : Value → Mem → Prop} {Kp : List PanicEntry → Mem → Prop}
    (ho : OwnI M A n c l) (hk : M k = none) (hn : n + 1 ≤ 17592186044416)
    (h : ∀ A' c' M', OwnI M' A' (n + 1) c' (l ++ [v]) → Chg (blk A) M M' → Fresh M A A' → K (.slice A' (n + 1) c') M') :
    semK Try.prog (Builtin.append_ #[39, 39] 39 #[.slice A n c, .slice (some ⟨k, 0, none⟩) 1 1]) (M.set k (.cells #[.int .i64 v] 3 (0, 0))) K Kp := by
  have ho' : OwnI (M.set k (.cells #[.int .i64 v] 3 (0, 0))) A n c l := by
    obtain ⟨h1, h2 | ⟨b, cs, h3, h4, h5⟩⟩ := ho
    · exact ⟨h1, .inl h2⟩
    · exact ⟨h1, .inr ⟨b, cs, h3, set_at h4 (by rintro rfl; rw [hk] at h4; cases h4), h5⟩⟩
  refine append_ints (r := [v]) ho' ?_ rfl hn fun A' c' M' h1 h2 h3 => h A' c' M' h1 ?_ ?_
  · intro i hi
    simp only [List.map_cons, List.map_nil, List.length_singleton] at hi
    have : i = 0 := by omega
    subst this
    rw [ld_of set_same]; rfl
  · exact ((Chg.refl (blk A) M).set (.inr hk)).trans h2 (fun x hx => .inl hx)
  · rcases h3 with h3 | ⟨b, h3, h4⟩
    · exact .inl h3
    · refine .inr ⟨b, h3, ?_⟩
      by_cases hbk : b = k
      · rw [hbk]; exact hk
      · rwa [set_ne hbk] at h4
end Go.Proofs
