/- A part of proofs about functions of one program: a condition over a partial memory that is enough for a call, and what calls answer by it. No condition of its own. -/
import Derived.Test.YtodeolmcinekoaaTy
import Derived.Test.YtodeolmcinekoaaOpen
import Derived.Test.YtodeolmcinekoaaWin
import Derived.Test.YtodeolmcinekoaaVFair
namespace Go.Proofs
open Go.AF
set_option linter.unusedVariables false
set_option maxRecDepth 100000

theorem ul_bools : Try.prog.underlying 76 = some (.slice 4) := by kernel_rfl
theorem bool_info : (Try.prog.info? 4).map (fun i => (i.size, i.bytes, i.zero)) = some (1, 1, some (.bool false)) := by kernel_rfl
theorem bool_info' : ∃ i, Try.prog.info? 4 = some i ∧ i.size = 1 ∧ i.bytes = 1 ∧ i.zero = some (.bool false) := by
  have h := bool_info
  cases hi : Try.prog.info? 4 with
  | none => rw [hi] at h; cases h
  | some i =>
    rw [hi] at h
    simp only [Option.map_some, Option.some.injEq, Prod.mk.injEq] at h
    exact ⟨i, rfl, h.1, h.2.1, h.2.2⟩
theorem make_bools {n : Nat} {M : Mem} {K : Value → Mem → Prop} {Kp : List PanicEntry → Mem → Prop} (hn : n ≤ 17592186044416)
    (h : ∀ k, M k = none → K (.slice (some ⟨k, 0, none⟩) n n) (M.set k (.cells (List.replicate n (Value.bool false)).toArray 4 (0, 0)))) :
    semK Try.prog (Instr.makeSlice 76 (.int .i64 (n : Int)) (.int .i64 (n : Int))) M K Kp := by
  obtain ⟨i, hi, hs, hb, hz⟩ := bool_info'
  refine semK_makeSlice ul_bools hi hz (by rw [hs]; rfl) (by rw [hb]; omega) (by omega) fun k hk => ?_
  have := h k hk
  have e : (List.replicate n (Value.bool false)) = (List.replicate n (Value.bool false).cells.toList).flatten := by
    show _ = (List.replicate n [Value.bool false]).flatten
    simp
  rw [e] at this
  exact this

/-- Records in a row: each a kind and a number. -/
def RecAt (M : Mem) (B : Option Addr) (l : List (Int × Int)) : Prop :=
  ∀ i (h : i < l.length), ∃ b o, B = some ⟨b, o, none⟩ ∧ M.ld ⟨b, o + i * 2, none⟩ = some (.int .i64 l[i].1) ∧ M.ld ⟨b, o + i * 2 + 1, none⟩ = some (.int .u64 l[i].2)

theorem RecAt.mono {M M' : Mem} {B : Option Addr} {l : List (Int × Int)} (h : RecAt M B l) (hc : Chg [] M M') : RecAt M' B l := fun i hi => by
  obtain ⟨b, o, h1, h2, h3⟩ := h i hi
  exact ⟨b, o, h1, Mem.le_ld hc.keep h2, Mem.le_ld hc.keep h3⟩

theorem fair_Window {B : Option Addr} {n c m : Nat} {x : Int} {l : List (Int × Int)} {M : Mem} {K : Value → Mem → Prop} {Kp : List PanicEntry → Mem → Prop}
    (hB : RecAt M B l) (hl : l.length = n) (hn : n ≤ 1000000) (hm : (if (0 : Int) > x then 0 else x) = (m : Int)) (hm2 : m ≤ 1000000) (hp : ∀ r ∈ l, 0 ≤ r.2)
    (h : ∀ M', Chg [] M M' → K (.int .i64 (wres m l)) M') : ACalls Try.prog 21 #[.slice B n c, .int .i64 x] M K Kp := by
  refine vc_fair_Window B n c x M K Kp ?_
  rw [hm]
  refine make_ints (by omega) fun kl hkl => ?_
  rw [exSl_some]
  refine ⟨fun d vs M' => ∃ (i : Nat) (cs : Array Value), vs = [.int .i64 (i : Int)] ∧ d = m - i ∧ i ≤ m ∧ M' kl = some (.cells cs 3 (0, 0)) ∧ cs.size = m ∧ (∀ j, j < i → cs[j]? = some (.int .i64 (-1))) ∧ Chg [] M M',
    ⟨_, 0, _, rfl, rfl, by omega, set_same, by simp, by simp, (Chg.refl _ _).set (.inr hkl)⟩, fun d junk ii M1 hI => ?_⟩
  obtain ⟨i, cs, he, hd, hi, h1, h2, h3, c1⟩ := hI
  simp only [List.cons.injEq, Value.int.injEq, and_true, true_and] at he
  subst he
  refine bsp_dec.2 ⟨fun hlt => ?_, fun hge => ?_⟩
  · refine ⟨by omega, hlt, ?_⟩
    rw [nilc_some, Int.toNat_natCast, Nat.zero_add]
    refine ⟨wr_of h1 (by omega), m - (i + 1), by omega, i + 1, cs.setIfInBounds i (.int .i64 (-1)), by rw [wrap_succ (by omega)], rfl, by omega, by rw [put_of h1]; exact set_same, by simpa using h2, fun j hj => ?_, by rw [put_of h1]; exact c1.set (.inr hkl)⟩
    by_cases hji : j = i
    · subst hji; rw [Array.getElem?_setIfInBounds_self_of_lt (by omega)]
    · rw [Array.getElem?_setIfInBounds_ne (Ne.symm hji)]; exact h3 j (by omega)
  have him : i = m := by omega
  subst him
  refine make_bools (by omega) fun ks hks => ?_
  rw [exSl_some]
  have hksM := c1.fresh hks
  have nkl := none_ne hks h1
  have c2 : Chg [] M (M1.set ks (.cells (List.replicate i (Value.bool false)).toArray 4 (0, 0))) := c1.set (.inr hksM)
  -- over the records
  let Inv : Mem → WS → Prop := fun M' s => (∃ cl, M' kl = some (.cells cl 3 (0, 0)) ∧ cl.size = i ∧ ∀ j, j < i → cl[j]? = some (.int .i64 (s.last j))) ∧ (∃ cb, M' ks = some (.cells cb 4 (0, 0)) ∧ cb.size = i ∧ ∀ j, j < i → cb[j]? = some (.bool (s.seen j))) ∧ Chg [] M M'
  have start : Inv (M1.set ks (.cells (List.replicate i (Value.bool false)).toArray 4 (0, 0))) wini := by
    refine ⟨⟨cs, set_at h1 nkl, h2, h3⟩, ⟨_, set_same, by simp, fun j hj => ?_⟩, c2⟩
    simp [wini, hj]
  refine ⟨fun d vs M' => ∃ (j : Nat), vs = [.int .i64 (wrun i (l.take j)).at_, .int .i64 (wrun i (l.take j)).out, .int .i64 (j : Int)] ∧ d = n - j ∧ j ≤ n ∧ Inv M' (wrun i (l.take j)),
    ⟨_, 0, rfl, rfl, by omega, start⟩, fun d junk w1 w2 jj M2 hJ => ?_⟩
  obtain ⟨j, he, hd, hj, hInv⟩ := hJ
  simp only [List.cons.injEq, Value.int.injEq, and_true, true_and] at he
  obtain ⟨rfl, rfl, rfl⟩ := he
  have ok := wok_run i (l.take j)
  have oklen : (l.take j).length ≤ n := by rw [List.length_take]; omega
  obtain ⟨⟨cl, k1, k2, k3⟩, ⟨cb, k4, k5, k6⟩, c3⟩ := hInv
  refine bsp_dec.2 ⟨fun hlt => ?_, fun hge => ?_⟩
  · have hjl : j < l.length := by omega
    have hr := hp l[j] (List.getElem_mem hjl)
    have htake : l.take (j + 1) = l.take j ++ [l[j]] := by rw [List.take_add_one, List.getElem?_eq_getElem hjl]; rfl
    have hstep : wrun i (l.take (j + 1)) = wstep i (wrun i (l.take j)) l[j] := by rw [htake, wrun_snoc]
    obtain ⟨bb, bo, hBs, r1, r2⟩ := (hB.mono c3) j hjl
    subst hBs
    refine ⟨by omega, hlt, ?_⟩
    rw [nilc_some, Int.toNat_natCast, r1, exI_some, r2, exI_some]
    intro k hk
    have nl := none_ne hk k1
    have ns := none_ne hk k4
    have hkM := c3.fresh hk
    have nls : kl ≠ ks := nkl
    generalize hS : wrun i (l.take j) = s at *
    generalize l[j] = r at *
    obtain ⟨b1, b2, b3, b4, b5⟩ := ok
    simp only [put_set_eq, wr_set_eq, ld_set_eq, Nat.zero_add, List.setIfInBounds_toArray, List.set_cons_zero, List.set_cons_succ, lit_get0, lit_get1, exI_some]
    refine ⟨by simp, by simp, ?_⟩
    have cfin : Chg [] M (M2.set k (.cells #[.int .i64 r.1, .int .u64 r.2] 30 (0, 0))) := c3.set (.inr hkM)
    have e_at : IntKind.wrap .i64 (s.at_ + 1) = s.at_ + 1 := wrap_in (by omega) (by omega)
    have e_j : IntKind.wrap .i64 ((j : Int) + 1) = ((j + 1 : Nat) : Int) := wrap_succ (by omega)
    rw [e_at, e_j]
    refine bsp_ne.2 ⟨fun hne => ?_, fun hk1 => ?_⟩
    · have es : wstep i s r = s := by unfold wstep; rw [if_neg hne]
      refine ⟨n - (j + 1), by omega, j + 1, by rw [hstep, es], rfl, by omega, ?_⟩
      rw [hstep, es]
      exact ⟨⟨cl, set_at k1 nl, k2, k3⟩, ⟨cb, set_at k4 ns, k5, k6⟩, cfin⟩
    · have e_u : IntKind.wrap .u64 ((i : Nat) : Int) = (i : Int) := by rw [IntKind.wrap_u64]; omega
      rw [e_u]
      refine bsp_dec.2 ⟨fun hri => ?_, fun hri => ?_⟩
      · have hrn : r.2.toNat < i := by omega
        have hlast := b3 r.2.toNat
        have gl := set_at (b := k) (o := .cells #[.int .i64 r.1, .int .u64 r.2] 30 (0, 0)) k1 nl
        have gs := set_at (b := k) (o := .cells #[.int .i64 r.1, .int .u64 r.2] 30 (0, 0)) k4 ns
        have gs' := set_at (b := kl) (o := .cells (cl.setIfInBounds r.2.toNat (.int .i64 s.at_)) 3 (0, 0)) gs (Ne.symm nls)
        have gk : (Mem.set (M2.set k (.cells #[.int .i64 r.1, .int .u64 r.2] 30 (0, 0))) kl (.cells (cl.setIfInBounds r.2.toNat (.int .i64 s.at_)) 3 (0, 0))) k = some (.cells #[.int .i64 r.1, .int .u64 r.2] 30 (0, 0)) := set_at set_same (Ne.symm nl)
        have gk' := set_at (b := ks) (o := .cells (cb.setIfInBounds r.2.toNat (.bool true)) 4 (0, 0)) gk (Ne.symm ns)
        have e_g : IntKind.wrap .i64 (s.at_ - s.last r.2.toNat) = s.at_ - s.last r.2.toNat := wrap_in (by omega) (by omega)
        refine ⟨by omega, by omega, ?_⟩
        rw [nilc_some, Nat.zero_add, ld_of gl, k3 _ hrn, exI_some, e_g]
        refine ⟨by omega, by omega, ?_⟩
        rw [nilc_some, Nat.zero_add, wr_of' gl, put_of gl]
        refine ⟨by simp; omega, by rw [ld_of gk]; rfl, by omega, by omega, ?_⟩
        rw [nilc_some, Nat.zero_add, wr_of' gs', put_of gs']
        refine ⟨by simp; omega, by rw [ld_of gk']; rfl, n - (j + 1), by omega, j + 1, ?_, rfl, by omega, ?_⟩
        · rw [hstep]; unfold wstep; rw [if_pos hk1, if_pos hri]
        · rw [hstep]
          have es : wstep i s r = ⟨fun j => if j = r.2.toNat then s.at_ else s.last j, fun j => if j = r.2.toNat then true else s.seen j, s.at_ + 1, if s.at_ - s.last r.2.toNat > s.out then s.at_ - s.last r.2.toNat else s.out⟩ := by unfold wstep; rw [if_pos hk1, if_pos hri]
          rw [es]
          refine ⟨⟨_, set_at set_same nls, by simpa using k2, fun t ht => ?_⟩, ⟨_, set_same, by simpa using k5, fun t ht => ?_⟩, (cfin.set (.inr hkl)).set (.inr hksM)⟩
          · by_cases he : t = r.2.toNat
            · subst he; rw [Array.getElem?_setIfInBounds_self_of_lt (by omega)]; simp
            · rw [Array.getElem?_setIfInBounds_ne (Ne.symm he), k3 t ht]; simp [he]
          · by_cases he : t = r.2.toNat
            · subst he; rw [Array.getElem?_setIfInBounds_self_of_lt (by omega)]; simp
            · rw [Array.getElem?_setIfInBounds_ne (Ne.symm he), k6 t ht]; simp [he]
      · have es : wstep i s r = ⟨s.last, s.seen, s.at_ + 1, s.out⟩ := by unfold wstep; rw [if_pos hk1, if_neg hri]
        refine ⟨n - (j + 1), by omega, j + 1, by rw [hstep, es], rfl, by omega, ?_⟩
        rw [hstep, es]
        exact ⟨⟨cl, set_at k1 nl, k2, k3⟩, ⟨cb, set_at k4 ns, k5, k6⟩, cfin⟩
  · have hjn : l.take j = l := List.take_of_length_le (by omega)
    have hres : wres i l = if wall (wrun i l) i then wmax (wrun i l) i else 0 := rfl
    rw [hjn] at ok k3 k6 oklen ⊢
    generalize wrun i l = s at hres ok k3 k6 ⊢
    obtain ⟨b1, b2, b3, b4, b5⟩ := ok
    have bw : ∀ t, wmax s t ≤ n + 1 := fun t => wmax_le.2 ⟨by omega, fun j _ => by have := b3 j; omega⟩
    refine ⟨fun d vs M' => ∃ t : Nat, vs = [.int .i64 (wmax s t), .int .i64 (t : Int)] ∧ d = i - t ∧ t ≤ i ∧ wall s t = true ∧ M' = M2, ⟨_, 0, rfl, rfl, by omega, rfl, rfl⟩, fun d junk w3 tt M3 hT => ?_⟩
    obtain ⟨t, he, hd, ht, hw, rfl⟩ := hT
    simp only [List.cons.injEq, Value.int.injEq, and_true, true_and] at he
    obtain ⟨rfl, rfl⟩ := he
    refine bsp_dec.2 ⟨fun hlt => ?_, fun hge => ?_⟩
    · have hti : t < i := by omega
      refine ⟨by omega, hlt, ?_⟩
      rw [nilc_some, Int.toNat_natCast, Nat.zero_add, ld_of k1, k3 t hti, exI_some]
      refine ⟨by omega, hlt, ?_⟩
      rw [nilc_some, Nat.zero_add, ld_of k4, k6 t hti, exB_some]
      cases hs : s.seen t with
      | false =>
        have : wres i l = 0 := by
          rw [hres, if_neg]
          intro hall
          have := wall_iff.1 hall t hti
          rw [hs] at this; cases this
        have h0 := h M3 c3
        rw [this] at h0
        exact h0
      | true =>
        show ∃ _, _
        have hl3 := b3 t
        refine ⟨i - (t + 1), by omega, t + 1, ?_, rfl, by omega, by simp [wall, hw, hs], rfl⟩
        rw [wrap_in (by omega) (by omega), wrap_succ (by omega)]
        rfl
    · have : t = i := by omega
      subst this
      have := h M3 c3
      rw [hres, if_pos hw] at this
      exact this
end Go.Proofs
