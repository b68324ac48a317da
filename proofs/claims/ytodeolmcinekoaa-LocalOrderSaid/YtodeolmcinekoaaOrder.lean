/- A part of proofs about functions of one program: a condition over a partial memory that is enough for a call, and what calls answer by it. No condition of its own. -/
import Derived.Test.YtodeolmcinekoaaLocal
namespace Go.Proofs
open Go.AF
set_option linter.unusedVariables false
set_option maxRecDepth 100000

/-- The rest of the row is what Get answers, one by one; then nobody is left. -/
theorem localOrder {n ready : Int} {M : Mem} {K : Value → Mem → Prop} {Kp : List PanicEntry → Mem → Prop} (h : ∀ M', Chg [] M M' → K (.bool true) M') :
    ACalls Try.prog 13 #[.int .i64 n, .int .i64 ready] M K Kp := by
  refine vc_shunterlaw08_LocalOrder n ready M K Kp ?_
  refine local_awake fun M0 c0 => ?_
  rw [exB_some]
  refine ⟨by omega, by omega, ?_⟩
  refine local_New fun b rb sb M1 hb hrb hsb hL1 c1 => ?_
  have hun : roomOf 100 = 100 := rfl
  rw [hun] at hL1
  rw [exP_some]
  intro g hg k hk
  obtain ⟨nkg, hk1⟩ := set_none_ne hk
  have c01 := c0.trans c1 (fun x hx => .inl hx)
  have hbM := c0.fresh hb
  have hrbM := c0.fresh hrb
  have hsbM := c0.fresh hsb
  have hgM := c01.fresh hg
  have hkM := c01.fresh hk1
  obtain ⟨y, hy, hy2⟩ := mask (x := n) (y := 255) (m := 255) rfl (by omega)
  obtain ⟨z, hz, hz2⟩ := mask (x := ready) (y := 255) (m := 255) rfl (by omega)
  rw [hy, hz, show ((60 : Int)) = ((60 : Nat) : Int) from rfl, tmod_nat, show ((20 : Int)) = ((20 : Nat) : Int) from rfl, tmod_nat]
  have hN : y % 60 < 60 := Nat.mod_lt _ (by omega)
  have hR : z % 20 < 20 := Nat.mod_lt _ (by omega)
  generalize y % 60 = N at *
  generalize z % 20 = R at *
  obtain ⟨⟨o1, s1⟩, ⟨o2, s2⟩, ⟨o3, s3⟩⟩ := hL1.some
  have ng1 := (none_ne hg s1).symm
  have ng2 := (none_ne hg s2).symm
  have ng3 := (none_ne hg s3).symm
  have q : ∀ x ∈ [b, rb, sb], x ∈ ([] : List Nat) ∨ M x = none := fun x hx => by
    simp only [List.mem_cons, List.not_mem_nil, or_false] at hx
    rcases hx with rfl | rfl | rfl
    · exact .inr hbM
    · exact .inr hrbM
    · exact .inr hsbM
  have q2 : ∀ x ∈ [rb, sb], x ∈ ([] : List Nat) ∨ M x = none := fun x hx => q x (by simp at hx; rcases hx with rfl | rfl <;> simp)
  have q3 : ∀ x ∈ [b, rb], x ∈ ([] : List Nat) ∨ M x = none := fun x hx => q x (by simp at hx; rcases hx with rfl | rfl <;> simp)
  -- what stands all the way: the queue, the empty global row, the wanted numbers
  let Inv : Mem → Int → List Int → Option Addr → Nat → Prop := fun M' nx l A c => LocalAt M' b rb sb nx l 100 ∧ M' g = some (.cells #[.slice none 0 0] 104 (0, 0)) ∧ OwnI M' A l.length c l ∧ (∀ x ∈ blk A, x ≠ b ∧ x ≠ rb ∧ x ≠ sb ∧ x ≠ g ∧ M x = none) ∧ Chg [] M M'
  have grow : ∀ {M2 : Mem} {nx : Int} {l : List Int} {A : Option Addr} {c : Nat} (v : Int), Inv M2 nx l A c → l.length ≤ 90 → ∀ {l' : List Int} {nx' : Int} {M3 : Mem} {L : List Nat}, LocalAt M3 b rb sb nx' l' 100 → Chg L M2 M3 → (∀ x ∈ L, x = b ∨ x = rb ∨ x = sb) →
      ∀ (K' : Value → Mem → Prop), (∀ A' c' M', l' = l ++ [v] → Inv M' nx' l' A' c' → K' (.slice A' (l.length + 1) c') M') → l' = l ++ [v] →
      ∀ k', M3 k' = none → semK Try.prog (Builtin.append_ #[39, 39] 39 #[.slice A l.length c, .slice (some ⟨k', 0, none⟩) 1 1]) (M3.set k' (.cells #[.int .i64 v] 3 (0, 0))) K' Kp := by
    intro M2 nx l A c v hI hlen l' nx' M3 L hL3 c3 hLs K' hK he k' hk'
    obtain ⟨i1, i2, i3, i4, i5⟩ := hI
    have nA : ∀ x ∈ blk A, x ∉ L := fun x hx hxL => by
      obtain ⟨a1, a2, a3, a4, a5⟩ := i4 x hx
      rcases hLs x hxL with h | h | h
      · exact a1 h
      · exact a2 h
      · exact a3 h
    have i3' : OwnI M3 A l.length c l := i3.chg c3 nA
    have gL : g ∉ L := fun hx => by
      rcases hLs g hx with h | h | h
      · exact ng1 h
      · exact ng2 h
      · exact ng3 h
    have i2' := c3.at i2 gL
    have i5' : Chg [] M M3 := i5.trans c3 (fun x hx => by
      rcases hLs x hx with rfl | rfl | rfl
      · exact .inr hbM
      · exact .inr hrbM
      · exact .inr hsbM)
    refine append1_ints i3' hk' (by omega) fun A' c' M' g1 g2 g3 => ?_
    have nb : b ∉ blk A := fun hx => (i4 b hx).1 rfl
    have nrb : rb ∉ blk A := fun hx => (i4 rb hx).2.1 rfl
    have nsb : sb ∉ blk A := fun hx => (i4 sb hx).2.2.1 rfl
    have nbg : g ∉ blk A := fun hx => (i4 g hx).2.2.2.1 rfl
    refine hK A' c' M' he ⟨hL3.chg g2 nb nrb nsb, g2.at i2' nbg, by rw [he, List.length_append]; exact g1, fun x hx => ?_, i5'.trans g2 (fun x hx => .inr (i4 x hx).2.2.2.2)⟩
    rcases g3 with rfl | ⟨w, rfl, hw⟩
    · exact i4 x hx
    · simp only [blk, List.mem_singleton] at hx; subst hx
      obtain ⟨⟨o1, s1⟩, ⟨o2, s2⟩, ⟨o3, s3⟩⟩ := hL3.some
      exact ⟨(none_ne hw s1).symm, (none_ne hw s2).symm, (none_ne hw s3).symm, (none_ne hw i2').symm, i5'.fresh hw⟩
  have start : Inv ((M1.set g (.cells #[.slice none 0 0] 104 (0, 0))).set k (.cells #[] 3 (0, 0))) (-1) [] (some ⟨k, 0, none⟩) 0 := by
    have cc : Chg [] M1 ((M1.set g (.cells #[.slice none 0 0] 104 (0, 0))).set k (.cells #[] 3 (0, 0))) := ((Chg.refl _ _).set (.inr hg)).set (.inr hk1)
    refine ⟨hL1.chg cc (by simp) (by simp) (by simp), set_at set_same (Ne.symm nkg), ⟨by simp, .inr ⟨k, #[], rfl, set_same, by simp, by simp, by simp⟩⟩, fun x hx => ?_, c01.trans cc (fun x hx => .inl hx)⟩
    simp only [blk, List.mem_singleton] at hx; subst hx
    exact ⟨(none_ne hk1 s1).symm, (none_ne hk1 s2).symm, (none_ne hk1 s3).symm, nkg, hkM⟩
  refine ⟨fun m vs M' => ∃ (i : Nat) (l : List Int) (A : Option Addr) (c : Nat), vs = [.slice A l.length c, .int .i64 (i : Int)] ∧ m = N - i ∧ i ≤ N ∧ l.length = i ∧ Inv M' (-1) l A c,
    ⟨N, 0, [], _, 0, rfl, rfl, by omega, rfl, start⟩, fun m junk A i0 c ii M2 hI => ?_⟩
  obtain ⟨i, l, _, _, he, hm, hi, hl, hI⟩ := hI
  simp only [List.cons.injEq, Value.slice.injEq, Value.int.injEq, and_true, true_and] at he
  obtain ⟨⟨rfl, rfl, rfl⟩, rfl⟩ := he
  refine bsp_dec.2 ⟨fun hlt => ?_, fun hge => ?_⟩
  · refine local_Put_room hI.1 (by omega) fun M3 hL3 c3 => ?_
    rw [exI_some]
    refine fun k' hk' => grow (i : Int) hI (by omega) hL3 c3 (fun x hx => by simp at hx; exact .inr hx) _ (fun A' c' M' _ hI' => ?_) rfl k' hk'
    rw [exSl_some]
    refine ⟨N - (i + 1), by omega, i + 1, l ++ [(i : Int)], A', c', by rw [wrap_succ (by omega), List.length_append]; rfl, rfl, by omega, by simp [hl], hI'⟩
  have hiN : i = N := by omega
  -- those that are Ready
  refine ⟨fun m vs M' => ∃ (j : Nat) (l : List Int) (A : Option Addr) (c : Nat), vs = [.slice A l.length c, .int .i64 (j : Int)] ∧ m = R - j ∧ j ≤ R ∧ l.length ≤ N + j ∧ Inv M' (if j = 0 then -1 else 999 + (j : Int)) l A c,
    ⟨R, 0, l, _, _, rfl, rfl, by omega, by omega, hI⟩, fun m junk A i0 c jj M3 hJ => ?_⟩
  clear hI
  obtain ⟨j, l, _, _, he, hm, hj, hl, hI⟩ := hJ
  simp only [List.cons.injEq, Value.slice.injEq, Value.int.injEq, and_true, true_and] at he
  obtain ⟨⟨rfl, rfl, rfl⟩, rfl⟩ := he
  refine bsp_dec.2 ⟨fun hlt => ?_, fun hge => ?_⟩
  · have e1 : IntKind.wrap .i64 (1000 + (j : Int)) = 1000 + (j : Int) := wrap_in (by omega) (by omega)
    have e2 : IntKind.wrap .i64 (999 + (j : Int)) = 999 + (j : Int) := wrap_in (by omega) (by omega)
    rw [e1, e2]
    refine local_Ready_room hI.1 (by omega) fun M4 hL4 c4 => ?_
    rw [exI_some]
    have e3 : (if j + 1 = 0 then (-1 : Int) else 999 + ((j + 1 : Nat) : Int)) = 1000 + (j : Int) := by rw [if_neg (by omega)]; omega
    refine bsp_dec.2 ⟨fun hpos => ?_, fun hz => ?_⟩
    · rw [if_neg (show ¬ j = 0 by omega)] at hI hL4
      rw [if_neg (show ¬ (999 + (j : Int)) = -1 by omega)] at hL4
      refine fun k' hk' => grow (999 + (j : Int)) hI (by omega) hL4 c4 (fun x hx => by simpa using hx) _ (fun A' c' M' _ hI' => ?_) rfl k' hk'
      rw [exSl_some]
      exact ⟨R - (j + 1), by omega, j + 1, l ++ [999 + (j : Int)], A', c', by rw [wrap_succ (by omega), List.length_append]; rfl, rfl, by omega, by simp; omega, by rw [e3]; exact hI'⟩
    · have hj0 : j = 0 := by omega
      subst hj0
      obtain ⟨i1, i2, i3, i4, i5⟩ := hI
      simp only [if_true] at hL4
      refine ⟨R - 1, by omega, 1, l, A, c, by rw [show ((0 : Nat) : Int) + 1 = ((0 : Nat) : Int) + 1 from rfl, wrap_succ (by omega)], rfl, by omega, by omega, ?_⟩
      rw [if_neg (by omega)]
      have nA : ∀ x ∈ blk A, x ∉ [b, rb, sb] := fun x hx hxL => by
        obtain ⟨a1, a2, a3, a4, a5⟩ := i4 x hx
        simp only [List.mem_cons, List.not_mem_nil, or_false] at hxL
        rcases hxL with h | h | h
        · exact a1 h
        · exact a2 h
        · exact a3 h
      exact ⟨hL4, c4.at i2 (by simp [ng1, ng2, ng3]), i3.chg c4 nA, i4, i5.trans c4 q⟩
  have hjR : j = R := by omega
  -- the end: one by one
  have last : ∀ (nx : Int) (l w : List Int) (A : Option Addr) (c : Nat) (M' : Mem), qOf nx l = w → w.length ≤ 100 → LocalAt M' b rb sb nx l 100 → M' g = some (.cells #[.slice none 0 0] 104 (0, 0)) → OwnI M' A w.length c w → (∀ x ∈ blk A, x ≠ b ∧ x ≠ rb) → Chg [] M M' →
      ∀ (vc : Prop), ((∃ I : Nat → List Value → Mem → Prop, (∃ k, I k [.int .i64 0] M') ∧ ∀ kk, ∀ junk : Nat → Value, ∀ n58 : Int, ∀ M59 : Mem, (I kk [.int .i64 n58] M59) → bsp (decide ((n58 : Int) < ((w.length : Nat) : Int)))
         (((0 : Int) ≤ n58) ∧ ((n58 : Int) < ((w.length : Nat) : Int)) ∧ nilc A fun k60 k61 => exI (Mem.ld M59 ⟨k60, (k61 + (Int.toNat n58)), none⟩) .i64 fun n62 =>
          ACalls Try.prog 59 #[.pointer (some ⟨b, 0, none⟩)] M59 (fun v63 M64 => ∃ n65 : Int, ∃ t66 : Bool, (v63 = (.tuple #[(.int .i64 n65), (.bool t66)])) ∧
          bsp (!t66) (K (.bool false) M64) (bsp (n65 != n62) (K (.bool false) M64) (∃ k67 : Nat, (k67 < kk) ∧ I k67 [(.int .i64 (IntKind.wrap .i64 (n58 + 1)))] M64))) Kp)
         (ACalls Try.prog 59 #[.pointer (some ⟨b, 0, none⟩)] M59 (fun v68 M69 => ∃ n70 : Int, ∃ t71 : Bool, (v68 = (.tuple #[(.int .i64 n70), (.bool t71)])) ∧
          bsp (!t71) (ACalls Try.prog 60 #[.pointer (some ⟨g, 0, none⟩)] M69 (fun v72 M73 => exI (some v72) .i64 fun n74 =>
            bsp (n74 == 0) (ACalls Try.prog 61 #[.pointer (some ⟨b, 0, none⟩)] M73 (fun v75 M76 => exI (some v75) .i64 fun n77 => K (.bool (n77 == 0)) M76) Kp) (K (.bool false) M73)) Kp)
           (K (.bool false) M69)) Kp)) → vc) → vc := by
    intro nx l w A c M' hq hw hL hg' hown hA hc vc hvc
    refine hvc ⟨fun kk vs M'' => ∃ (i : Nat) (nx' : Int) (l' : List Int), vs = [.int .i64 (i : Int)] ∧ kk = w.length - i ∧ i ≤ w.length ∧ qOf nx' l' = w.drop i ∧ LocalAt M'' b rb sb nx' l' 100 ∧ Chg [b, rb] M' M'',
      ⟨_, 0, nx, l, rfl, rfl, by omega, hq, hL, Chg.refl _ _⟩, fun kk junk ii M2 hI => ?_⟩
    obtain ⟨i, nx', l', he, hm, hi, hq', hL', hc'⟩ := hI
    simp only [List.cons.injEq, Value.int.injEq, and_true, true_and] at he
    subst he
    refine bsp_dec.2 ⟨fun hlt => ?_, fun hge => ?_⟩
    · have hiw : i < w.length := by omega
      refine ⟨by omega, hlt, ?_⟩
      have hown' : OwnI M2 A w.length c w := hown.chg hc' (fun x hx hxL => by
        obtain ⟨a1, a2⟩ := hA x hx
        simp only [List.mem_cons, List.not_mem_nil, or_false] at hxL
        rcases hxL with h | h
        · exact a1 h
        · exact a2 h)
      obtain ⟨b1, o1, rfl, g1⟩ := hown'.sl.get (i := i) (by simpa using hiw)
      rw [nilc_some, Int.toNat_natCast, g1, List.getElem?_map, List.getElem?_eq_getElem hiw]
      show exI (some (.int .i64 w[i])) .i64 _
      rw [exI_some]
      have hd : w.drop i = w[i] :: w.drop (i + 1) := List.drop_eq_getElem_cons hiw
      refine local_Get hL' (fun h0 => by rw [hq', hd] at h0; cases h0) fun v r hv M3 hL3 c3 => ?_
      rw [hq', hd] at hv
      simp only [List.cons.injEq] at hv
      obtain ⟨rfl, rfl⟩ := hv
      refine ⟨_, true, rfl, ?_⟩
      show bsp _ _ _
      refine bsp_ne.2 ⟨fun hx => absurd rfl hx, fun _ => ?_⟩
      exact ⟨w.length - (i + 1), by omega, i + 1, -1, w.drop (i + 1), by rw [wrap_succ (by omega)], rfl, by omega, by simp [qOf], hL3, hc'.trans c3 (fun x hx => .inl hx)⟩
    · have hd : w.drop i = [] := List.drop_of_length_le (by omega)
      rw [hd] at hq'
      refine local_Get hL' (fun _ => ?_) (fun v r hv => by rw [hq'] at hv; cases hv)
      refine ⟨-1, false, rfl, ?_⟩
      have hg2 := hc'.at hg' (by simp [ng1, ng2])
      show ACalls _ _ _ _ _ _
      refine global_Len0 hg2 ?_
      rw [exI_some]
      show ACalls _ _ _ _ _ _
      refine local_Len hL' ?_
      rw [exI_some, hq']
      exact h _ (hc.trans hc' q3)
  obtain ⟨i1, i2, i3, i4, i5⟩ := hI
  have e4 : IntKind.wrap .i64 (999 + (R : Int)) = 999 + (R : Int) := wrap_in (by omega) (by omega)
  rw [e4]
  refine bsp_dec.2 ⟨fun hpos => ?_, fun hz => ?_⟩
  · intro k2 hk2
    rw [hjR, if_neg (by omega)] at i1
    have cs : Chg [] M3 (M3.set k2 (.cells #[.int .i64 (999 + (R : Int))] 3 (0, 0))) := (Chg.refl _ _).set (.inr hk2)
    have o1 : OwnI (M3.set k2 (.cells #[.int .i64 (999 + (R : Int))] 3 (0, 0))) (some ⟨k2, 0, none⟩) 1 1 [999 + (R : Int)] := ⟨by simp, .inr ⟨k2, _, rfl, set_same, by simp, by omega, fun i hi => by
      have : i = 0 := by omega
      subst this; rfl⟩⟩
    refine append_ints o1 (i3.chg cs (by simp)).sl rfl (by omega) fun A' c' M' g1 g2 g3 => ?_
    rw [exSl_some]
    obtain ⟨⟨p1, s1⟩, ⟨p2, s2⟩, ⟨p3, s3⟩⟩ := i1.some
    have n1 := (none_ne hk2 s1)
    have n2 := (none_ne hk2 s2)
    have n3 := (none_ne hk2 s3)
    have n4 := (none_ne hk2 i2)
    have hL' := (i1.chg cs (by simp) (by simp) (by simp)).chg g2 (by simp [blk, n1]) (by simp [blk, n2]) (by simp [blk, n3])
    have g2' := g2.at (cs.at i2 (by simp)) (by simp [blk, n4])
    have e6 : 1 + l.length = ([999 + (R : Int)] ++ l).length := by simp [Nat.add_comm]
    rw [e6] at g1 ⊢
    refine last (999 + (R : Int)) l ([999 + (R : Int)] ++ l) A' c' M' (by rw [qOf, if_neg (by omega)]; rfl) (by simp; omega) hL' g2' g1 (fun x hx => ?_) ((i5.trans cs (fun x hx => .inl hx)).trans g2 (fun x hx => ?_)) _ id
    · rcases g3 with rfl | ⟨w, rfl, hw⟩
      · simp only [blk, List.mem_singleton] at hx; subst hx
        exact ⟨n1.symm, n2.symm⟩
      · simp only [blk, List.mem_singleton] at hx; subst hx
        obtain ⟨_, hw⟩ := set_none_ne hw
        exact ⟨(none_ne hw s1).symm, (none_ne hw s2).symm⟩
    · simp only [blk, List.mem_singleton] at hx; subst hx
      exact .inr (i5.fresh hk2)
  · rw [hjR, if_pos (show R = 0 by omega)] at i1
    exact last (-1) l l A c M3 (by simp [qOf]) (by omega) i1 i2 i3 (fun x hx => ⟨(i4 x hx).1, (i4 x hx).2.1⟩) i5 _ id
end Go.Proofs
