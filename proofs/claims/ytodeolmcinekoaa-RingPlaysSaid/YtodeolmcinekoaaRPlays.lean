/- A part of proofs about functions of one program: a condition over a partial memory that is enough for a call, and what calls answer by it. No condition of its own. -/
import Derived.Test.YtodeolmcinekoaaPlays
import Derived.Test.YtodeolmcinekoaaVPlays
namespace Go.Proofs
open Go.AF
set_option linter.unusedVariables false
set_option maxRecDepth 100000

/-- One contract for both ways of the document's Push. -/
theorem ref07_Push' {A : Option Addr} {n c room : Nat} {l : List Int} {v : Int} {M : Mem} {K : Value → Mem → Prop} {Kp : List PanicEntry → Mem → Prop}
    (hs : Sl M A (l.map iv)) (hl : l.length = n) (hc : n ≤ c) (hn : n ≤ 1000000)
    (h : ∀ A' n' c' ok l' M', (ok = true ↔ n ≠ room) → l' = (if n = room then l else l ++ [v]) → Sl M' A' (l'.map iv) → l'.length = n' → n' ≤ c' → (A' = A ∨ Fr0 M A') → Chg [] M M' → K (.tuple #[RefV A' n' c' room, .bool ok]) M') :
    ACalls Try.prog 40 #[RefV A n c room, .int .i64 v] M K Kp := by
  refine ref07_Push hs hl hn (fun he M' c1 => ?_) (fun hne A' c' M' own c1 fr => ?_)
  · exact h A n c false l M' (by simp [he]) (by rw [if_pos he]) (hs.chg c1 (by simp)) hl hc (.inl rfl) c1
  · exact h A' (n + 1) c' true (l ++ [v]) M' (by simp [hne]) (by rw [if_neg hne]) own.sl (by simp [hl]) own.cap (.inr fr) c1

/-- The ring and the document's ring are alike. -/
def Alike (M0 : Mem) (b sb kx room : Nat) (M : Mem) : Prop :=
  ∃ l A c, RingAt M b sb l room ∧ M kx = some (.cells #[.slice A l.length c, .int .i64 (room : Int)] 65 (0, 0)) ∧ l.length ≤ c ∧ Sl M A (l.map iv) ∧ (∀ x ∈ blk A, x ∉ [b, sb, kx]) ∧ Chg [] M0 M

theorem fresh_away {M : Mem} {A : Option Addr} {L : List Nat} (hA : Fr0 M A) (h : ∀ k ∈ L, ∃ o, M k = some o) : ∀ x ∈ blk A, x ∉ L := fun x hx hL => by
  obtain ⟨o, ho⟩ := h x hL
  rw [hA x hx] at ho; cases ho

theorem ringPlays {room : Int} {A1 : Option Addr} {n1 c1 : Nat} {M : Mem} (hsh : ShapedSl M A1 n1 [.i64, .i64]) {K : Value → Mem → Prop} {Kp : List PanicEntry → Mem → Prop} (h : ∀ M', Chg [] M M' → K (.bool true) M') :
    ACalls Try.prog 7 #[.int .i64 room, .slice A1 n1 c1] M K Kp := by
  obtain ⟨gv, hn1, hg⟩ := hsh
  refine vc_shunterlaw07_RingPlays room A1 n1 c1 M K Kp ?_
  refine ring_awake fun M0 c0 => ?_
  rw [exB_some]
  refine ring_New fun b sb M1 hb hsb hr1 c1' => ?_
  rw [exP_some]
  refine ref07_New fun M2 c2 => ?_
  refine ⟨_, _, _, _, rfl, ?_⟩
  intro kx hkx
  have rp := hr1.room_pos
  have rl := hr1.room_le
  generalize roomOf room = R at *
  simp only [put_set_eq, wr_set_eq, Nat.zero_add, List.setIfInBounds_toArray, List.set_cons_zero, List.set_cons_succ]
  refine ⟨by simp, by simp, ?_⟩
  have c02 := (c0.trans c1' (fun x hx => .inl hx)).trans c2 (fun x hx => .inl hx)
  have hbM := c0.fresh hb
  have hsbM := c0.fresh hsb
  have hkM := c02.fresh hkx
  have hr2 := hr1.chg c2 (by simp) (by simp)
  obtain ⟨⟨o1, s1⟩, ⟨o2, s2⟩⟩ := hr2.at
  have nkb := none_ne hkx s1
  have nks := none_ne hkx s2
  have cx : Chg [] M2 (M2.set kx (.cells #[.slice none 0 0, .int .i64 (R : Int)] 65 (0, 0))) := (Chg.refl _ _).set (.inr hkx)
  have q : ∀ x ∈ [b, sb, kx], x ∈ ([] : List Nat) ∨ M x = none := fun x hx => by
    simp only [List.mem_cons, List.not_mem_nil, or_false] at hx
    rcases hx with rfl | rfl | rfl
    · exact .inr hbM
    · exact .inr hsbM
    · exact .inr hkM
  refine ⟨fun m vs M' => ∃ i : Nat, vs = [.int .i64 (i : Int)] ∧ m = n1 - i ∧ i ≤ 80 ∧ Alike M b sb kx R M', ⟨_, 0, rfl, rfl, by omega, [], none, 0, hr2.chg cx (by simp) (by simp), set_same, by simp, rfl, by simp [blk], c02.trans cx (fun x hx => .inl hx)⟩, fun m junk ii M3 hI => ?_⟩
  obtain ⟨i, he, hm, hi, l, A, c, hr3, hx3, hlc, hs3, hA3, c3⟩ := hI
  simp only [List.cons.injEq, Value.int.injEq, and_true, true_and] at he
  subst he
  refine bsp_dec.2 ⟨fun hlt => ?_, fun _ => h _ c3⟩
  refine bsp_dec.2 ⟨fun h80 => ?_, fun _ => h _ c3⟩
  refine ⟨by omega, hlt, ?_⟩
  obtain ⟨ab, ao, hA1, hcell⟩ := hg i (by omega)
  subst hA1
  rw [nilc_some, Int.toNat_natCast]
  have keep : ∀ (o : Nat) (v : Value), M.ld ⟨ab, o, none⟩ = some v → M3.ld ⟨ab, o, none⟩ = some v := fun o v hv => Mem.le_ld (M := M) (M' := M3) (fun k x hk => c3.at hk (by simp)) hv
  have v0 := keep _ _ (hcell 0 .i64 rfl).1
  have v1 := keep _ _ (hcell 1 .i64 rfl).1
  simp only [List.length_cons, List.length_nil, Nat.zero_add, Nat.add_zero] at v0 v1
  rw [v0, exI_some, v1, exI_some]
  generalize gv i 0 = kind
  generalize gv i 1 = arg
  intro ka hka
  simp only [put_set_eq, wr_set_eq, ld_set_eq, Nat.zero_add, List.setIfInBounds_toArray, List.set_cons_zero, List.set_cons_succ, lit_get0, lit_get1, exI_some]
  refine ⟨by simp, by simp, by omega, ?_⟩
  generalize hM4 : M3.set ka _ = M4
  have ca : Chg [] M3 M4 := by rw [← hM4]; exact (Chg.refl _ _).set (.inr hka)
  have ga : M4 ka = some (.cells #[.int .i64 kind, .int .i64 arg] 68 (0, 0)) := by rw [← hM4]; exact set_same
  have nax := none_ne hka hx3
  obtain ⟨⟨p1, t1⟩, ⟨p2, t2⟩⟩ := hr3.at
  have nab := none_ne hka t1
  have nas := none_ne hka t2
  have hr4 := hr3.chg ca (by simp) (by simp)
  have hx4 := ca.at hx3 (by simp)
  have hs4 := hs3.chg ca (by simp)
  have c4 := c3.trans ca (fun x hx => .inl hx)
  have hll := hr4.len_le
  have some4 : ∀ k ∈ [b, sb, kx, ka], ∃ o, M4 k = some o := fun k hk => by
    simp only [List.mem_cons, List.not_mem_nil, or_false] at hk
    rcases hk with rfl | rfl | rfl | rfl
    · exact hr4.at.1
    · exact hr4.at.2
    · exact ⟨_, hx4⟩
    · exact ⟨_, ga⟩
  have part : ∀ {x : Nat} {L : List Nat}, x ∉ [b, sb, kx, ka] → (∀ y ∈ L, y ∈ [b, sb, kx, ka]) → x ∉ L := fun hx hL hxL => hx (hL _ hxL)
  refine ⟨fun vs M' => Alike M b sb kx R M', ?_, ?_⟩
  · -- the three ways
    simp only [ld_of hx4, ld_of ga, lit_get0, lit_get1, exI_some, exSl_some]
    have inA : ∀ {A' : Option Addr} {M' : Mem}, (A' = A ∨ Fr0 M4 A') → ∀ x ∈ blk A', x ∉ [b, sb, kx] := fun {A' M'} hA' x hx => by
      rcases hA' with rfl | hf
      · exact hA3 x hx
      · exact fun hL => (fresh_away hf some4 x hx) (by simp at hL ⊢; rcases hL with rfl | rfl | rfl <;> simp)
    refine bsp_dec.2 ⟨fun _ => ?_, fun _ => bsp_dec.2 ⟨fun _ => ?_, fun _ => ?_⟩⟩
    · refine ref07_Push' (room := R) hs4 rfl hlc (by omega) fun A5 n5 cap5 ok l5 M5 hok hl5 hs5 hn5 hc5 hA5 c5 => ?_
      refine ⟨_, _, _, _, _, rfl, ?_⟩
      intro ky hky
      have hx5 := c5.at hx4 (by simp)
      have ga5 := c5.at ga (by simp)
      have nyx := none_ne hky hx5
      have nya := none_ne hky ga5
      have hr5 := hr4.chg c5 (by simp) (by simp)
      have gx6 := set_at (b := ky) (o := .cells #[.slice A5 n5 cap5, .int .i64 (R : Int)] 65 (0, 0)) hx5 nyx
      have ga6 := set_at (b := ky) (o := .cells #[.slice A5 n5 cap5, .int .i64 (R : Int)] 65 (0, 0)) ga5 nya
      simp only [put_set_eq, wr_set_eq, ld_set_eq, Nat.zero_add, List.setIfInBounds_toArray, List.set_cons_zero, List.set_cons_succ, lit_get0, lit_get1, exI_some, exSl_some, put_of gx6, wr_of' gx6]
      refine ⟨by simp, by simp, by simp, by simp, ?_⟩
      generalize hM6 : Mem.set (M5.set ky _) kx _ = M6
      have hkyM := (c4.trans c5 (fun x hx => .inl hx)).fresh hky
      have c6 : Chg [kx] M5 M6 := by rw [← hM6]; exact ((Chg.refl _ _).set (.inr hky)).set (.inl (by simp))
      have gx : M6 kx = some (.cells #[.slice A5 n5 cap5, .int .i64 (R : Int)] 65 (0, 0)) := by rw [← hM6]; exact set_same
      have hr6 := hr5.chg c6 (by simp; exact nkb) (by simp; exact nks)
      have iA := inA (M' := M6) hA5
      have hs6 : Sl M6 A5 (l5.map iv) := hs5.chg c6 (fun x hx hL => iA x hx (by simp at hL; simp [hL]))
      have c6' : Chg [] M M6 := (c4.trans c5 (fun x hx => .inl hx)).trans c6 (fun x hx => q x (by simp at hx; simp [hx]))
      have fin : ∀ M7, RingAt M7 b sb l5 R → Chg [b, sb] M6 M7 → Alike M b sb kx R M7 := fun M7 hr7 c7 =>
        ⟨l5, A5, cap5, hr7, by rw [hn5]; exact c7.at gx (by simp [Ne.symm nkb, Ne.symm nks]), by omega, hs6.chg c7 (fun x hx hL => iA x hx (by simp at hL; rcases hL with rfl | rfl <;> simp)), iA, c6'.trans c7 (fun x hx => q x (by simp at hx; rcases hx with rfl | rfl <;> simp))⟩
      have ga_6 := c6.at ga5 (by simp [Ne.symm nax])
      rw [ld_of ga_6, lit_get1, exI_some]
      refine ring_Push hr6 (fun hlt M7 hr7 c7 => ?_) (fun hfull => ?_)
      · have : ok = true := hok.2 (by omega)
        subst this
        rw [exB_some]
        show Alike _ _ _ _ _ _
        rw [if_neg (by omega)] at hl5
        subst hl5
        exact fin M7 hr7 c7
      · have : ok = false := by cases ok with
          | false => rfl
          | true => exact absurd hfull (hok.1 rfl)
        subst this
        rw [exB_some]
        show Alike _ _ _ _ _ _
        rw [if_pos hfull] at hl5
        subst hl5
        exact fin M6 hr6 (Chg.refl _ _)
    · -- Pop
      refine ref07_Take (room := R) (x := 1) hs4 rfl hlc (by omega) fun A5 cap5 B5 d5 M5 own5 ownB fr5 frB c5 => ?_
      have hk : min (1 : Int).toNat l.length ≤ l.length := Nat.min_le_right _ _
      refine ⟨_, _, _, _, _, _, _, rfl, ?_⟩
      intro ky hky
      have hx5 := c5.at hx4 (by simp)
      have nyx := none_ne hky hx5
      have hr5 := hr4.chg c5 (by simp) (by simp)
      refine ⟨by simp, by simp, ?_⟩
      generalize hM6 : M5.set ky _ = M6
      have c6 : Chg [] M5 M6 := by rw [← hM6]; exact (Chg.refl _ _).set (.inr hky)
      have gy6 : M6 ky = some (.cells #[.slice A5 (l.length - min (1 : Int).toNat l.length) cap5, .int .i64 (R : Int)] 65 (0, 0)) := by rw [← hM6]; exact set_same
      have hx6 := c6.at hx5 (by simp)
      have hr6 := hr5.chg c6 (by simp) (by simp)
      have c6' : Chg [] M M6 := (c4.trans c5 (fun x hx => .inl hx)).trans c6 (fun x hx => .inl hx)
      have iA : ∀ x ∈ blk A5, x ∉ [b, sb, kx] := inA (M' := M6) (.inr fr5)
      have iB : ∀ x ∈ blk B5, x ∉ [b, sb, kx] := inA (M' := M6) (.inr frB)
      have nyb : ky ≠ b := by
        rintro rfl
        obtain ⟨⟨o, ho⟩, _⟩ := hr5.at
        rw [hky] at ho; cases ho
      have own6 := own5.chg c6 (by simp)
      have ownB6 := ownB.chg c6 (by simp)
      -- behind the ring's Pop
      have tail : ∀ (v : Int) (ok : Bool) (M7 : Mem) (l7 : List Int), RingAt M7 b sb l7 R → Chg [b] M6 M7 → l7 = l.drop (min (1 : Int).toNat l.length) → ok = decide (0 < l.length) → (ok = false → v = 0) → (ok = true → l[0]? = some v) →
          exSl (M7.ld ⟨ky, 0, none⟩) fun A66 k67 k68 => exI (M7.ld ⟨ky, 1, none⟩) .i64 fun n69 =>
           (Mem.wr M7 ⟨kx, 0, none⟩ = true) ∧ (Mem.wr (Mem.put M7 ⟨kx, 0, none⟩ (.slice A66 k67 k68)) ⟨kx, 1, none⟩ = true) ∧
           bsp (!(ok == (((min (1 : Int).toNat l.length : Nat) : Int) == 1)))
            (K (.bool false) (Mem.put (Mem.put M7 ⟨kx, 0, none⟩ (.slice A66 k67 k68)) ⟨kx, 1, none⟩ (.int .i64 n69)))
            (bsp ok
              (((0 : Int) ≤ 0) ∧ ((0 : Int) < ((min (1 : Int).toNat l.length : Nat) : Int)) ∧ nilc B5 fun k70 k71 =>
               exI (Mem.ld (Mem.put (Mem.put M7 ⟨kx, 0, none⟩ (.slice A66 k67 k68)) ⟨kx, 1, none⟩ (.int .i64 n69)) ⟨k70, (k71 + 0), none⟩) .i64 fun n72 =>
               bsp (v != n72)
                (K (.bool false) (Mem.put (Mem.put M7 ⟨kx, 0, none⟩ (.slice A66 k67 k68)) ⟨kx, 1, none⟩ (.int .i64 n69)))
                (bsp (!ok)
                  (bsp (v != 0)
                    (K (.bool false) (Mem.put (Mem.put M7 ⟨kx, 0, none⟩ (.slice A66 k67 k68)) ⟨kx, 1, none⟩ (.int .i64 n69)))
                    (Alike M b sb kx R (Mem.put (Mem.put M7 ⟨kx, 0, none⟩ (.slice A66 k67 k68)) ⟨kx, 1, none⟩ (.int .i64 n69))))
                  (Alike M b sb kx R (Mem.put (Mem.put M7 ⟨kx, 0, none⟩ (.slice A66 k67 k68)) ⟨kx, 1, none⟩ (.int .i64 n69)))))
              (bsp (!ok)
                (bsp (v != 0)
                  (K (.bool false) (Mem.put (Mem.put M7 ⟨kx, 0, none⟩ (.slice A66 k67 k68)) ⟨kx, 1, none⟩ (.int .i64 n69)))
                  (Alike M b sb kx R (Mem.put (Mem.put M7 ⟨kx, 0, none⟩ (.slice A66 k67 k68)) ⟨kx, 1, none⟩ (.int .i64 n69))))
                (Alike M b sb kx R (Mem.put (Mem.put M7 ⟨kx, 0, none⟩ (.slice A66 k67 k68)) ⟨kx, 1, none⟩ (.int .i64 n69))))) := by
        intro v ok M7 l7 hr7 c7 hl7 hok hv0 hv1
        have gy7 := c7.at gy6 (by simp [nyb])
        have hx7 := c7.at hx6 (by simp [nkb.symm])
        simp only [ld_of gy7, lit_get0, lit_get1, exI_some, exSl_some, put_of hx7, wr_of' hx7, put_set_eq, wr_set_eq, List.setIfInBounds_toArray, List.set_cons_zero, List.set_cons_succ]
        refine ⟨by simp, by simp, ?_⟩
        generalize hM8 : M7.set kx _ = M8
        have c8 : Chg [kx] M7 M8 := by rw [← hM8]; exact (Chg.refl _ _).set (.inl (by simp))
        have gx8 : M8 kx = some (.cells #[.slice A5 (l.length - min (1 : Int).toNat l.length) cap5, .int .i64 (R : Int)] 65 (0, 0)) := by rw [← hM8]; exact set_same
        have c78 : Chg [b, sb, kx] M6 M8 := (c7.mono (fun x hx => by simp at hx; simp [hx])).trans c8 (fun x hx => by simp at hx; simp [hx])
        have hl7' : l7.length = l.length - min (1 : Int).toNat l.length := by rw [hl7, List.length_drop]
        have al : Alike M b sb kx R M8 := ⟨l7, A5, cap5, hr7.chg c8 (by simp; exact nkb) (by simp; exact nks), by rw [hl7']; exact gx8, by rw [hl7']; exact own6.cap, (by rw [hl7]; exact (own6.chg c78 iA).sl), iA, c6'.trans c78 q⟩
        have ownB8 := ownB6.chg c78 iB
        cases ok with
        | false =>
          have hl0 : l.length = 0 := by simpa using hok.symm
          have : min (1 : Int).toNat l.length = 0 := by omega
          rw [this, hv0 rfl]
          exact al
        | true =>
          have hl0 : 0 < l.length := by simpa using hok.symm
          have hm1 : min (1 : Int).toNat l.length = 1 := by omega
          rw [hm1] at ownB8 ⊢
          show ((0 : Int) ≤ 0) ∧ _
          refine ⟨by omega, by omega, ?_⟩
          obtain ⟨b1, o1, rfl, g1⟩ := ownB8.sl.get (i := 0) (by simp; omega)
          rw [nilc_some, g1, List.getElem?_map, List.getElem?_take, if_pos (by omega), hv1 rfl]
          show exI (some (.int .i64 v)) .i64 _
          rw [exI_some]
          exact bsp_ne.2 ⟨fun hx => absurd rfl hx, fun _ => al⟩
      refine ring_Pop hr6 (fun hnil => ⟨0, false, rfl, ?_⟩) (fun v r hl M7 hr7 c7 => ⟨v, true, rfl, ?_⟩)
      · exact tail 0 false M6 l hr6 (Chg.refl _ _) (by rw [hnil]; rfl) (by rw [hnil]; rfl) (fun _ => rfl) (fun h => by cases h)
      · exact tail v true M7 r hr7 c7 (by rw [hl]; rfl) (by rw [hl]; simp) (fun h => by cases h) (fun _ => by rw [hl]; rfl)
    · -- Take
      refine ref07_Take (room := R) (x := arg) hs4 rfl hlc (by omega) fun A5 cap5 B5 d5 M5 own5 ownB fr5 frB c5 => ?_
      have hk : min arg.toNat l.length ≤ l.length := Nat.min_le_right _ _
      refine ⟨_, _, _, _, _, _, _, rfl, ?_⟩
      intro ky hky
      have hx5 := c5.at hx4 (by simp)
      have ga5 := c5.at ga (by simp)
      have nyx := none_ne hky hx5
      have nya := none_ne hky ga5
      have hr5 := hr4.chg c5 (by simp) (by simp)
      have gx6 := set_at (b := ky) (o := .cells #[.slice A5 (l.length - min arg.toNat l.length) cap5, .int .i64 (R : Int)] 65 (0, 0)) hx5 nyx
      simp only [put_set_eq, wr_set_eq, ld_set_eq, Nat.zero_add, List.setIfInBounds_toArray, List.set_cons_zero, List.set_cons_succ, lit_get0, lit_get1, exI_some, exSl_some, put_of gx6, wr_of' gx6]
      refine ⟨by simp, by simp, by simp, by simp, ?_⟩
      generalize hM6 : Mem.set (M5.set ky _) kx _ = M6
      have hkyM := (c4.trans c5 (fun x hx => .inl hx)).fresh hky
      have c6 : Chg [kx] M5 M6 := by rw [← hM6]; exact ((Chg.refl _ _).set (.inr hky)).set (.inl (by simp))
      have gx : M6 kx = some (.cells #[.slice A5 (l.length - min arg.toNat l.length) cap5, .int .i64 (R : Int)] 65 (0, 0)) := by rw [← hM6]; exact set_same
      have hr6 := hr5.chg c6 (by simp; exact nkb) (by simp; exact nks)
      have iA : ∀ x ∈ blk A5, x ∉ [b, sb, kx] := inA (M' := M6) (.inr fr5)
      have iB : ∀ x ∈ blk B5, x ∉ [b, sb, kx] := inA (M' := M6) (.inr frB)
      have own6 := own5.chg c6 (fun x hx hL => iA x hx (by simp at hL; simp [hL]))
      have ownB6 := ownB.chg c6 (fun x hx hL => iB x hx (by simp at hL; simp [hL]))
      have c6' : Chg [] M M6 := (c4.trans c5 (fun x hx => .inl hx)).trans c6 (fun x hx => q x (by simp at hx; simp [hx]))
      have ga_6 := c6.at ga5 (by simp [Ne.symm nax])
      rw [ld_of ga_6, lit_get1, exI_some]
      refine ring_Take hr6 fun A7 cap7 M7 own7 hr7 c7 fr7 => ?_
      rw [exSl_some]
      have ownB7 := ownB6.chg c7 (fun x hx hL => iB x hx (by simp at hL; simp [hL]))
      have etake : l.take (min arg.toNat l.length) = l.take arg.toNat := by
        rcases Nat.le_total arg.toNat l.length with hle | hge
        · rw [Nat.min_eq_left hle]
        · rw [Nat.min_eq_right hge, List.take_length, List.take_of_length_le hge]
      have edrop : l.drop (min arg.toNat l.length) = l.drop arg.toNat := by
        rcases Nat.le_total arg.toNat l.length with hle | hge
        · rw [Nat.min_eq_left hle]
        · rw [Nat.min_eq_right hge, List.drop_length, List.drop_of_length_le hge]
      rw [etake] at ownB7
      rw [edrop] at own6
      refine same07 own7.sl ownB7.sl (by rw [List.length_take]) (by rw [List.length_take]) (by omega) ?_
      rw [exI_some]
      refine bsp_ne.2 ⟨fun hx => absurd rfl hx, fun _ => ?_⟩
      refine ⟨l.drop arg.toNat, A5, cap5, hr7, ?_, ?_, (own6.chg c7 (fun x hx hL => iA x hx (by simp at hL; simp [hL]))).sl, iA, c6'.trans c7 (fun x hx => q x (by simp at hx; simp [hx]))⟩
      · rw [← edrop, List.length_drop]; exact c7.at gx (by simp; exact nkb.symm)
      · rw [← edrop, List.length_drop]; exact own6.cap
  · -- the same behind it
    intro junk M5 hal
    obtain ⟨l5, A5, cap5, hr5, hx5, hlc5, hs5, hA5, c5⟩ := hal
    have r1 := hr5.len_le
    rw [ld_of hx5, lit_get0, exSl_some]
    refine ring_List hr5 fun A6 cap6 M6 own6 c6 fr6 => ?_
    rw [exSl_some]
    have hx6 := c6.at hx5 (by simp)
    refine ⟨by rw [ld_of hx6]; rfl, ?_⟩
    refine same07 own6.sl (hs5.chg c6 (by simp)) rfl rfl (by omega) ?_
    rw [exI_some]
    refine ⟨by rw [ld_of hx6]; rfl, ?_⟩
    refine bsp_ne.2 ⟨fun hx => absurd rfl hx, fun _ => ?_⟩
    have hr6 := hr5.chg c6 (by simp) (by simp)
    rw [ld_of hx6, lit_get0, exSl_some]
    refine ring_Len hr6 ?_
    rw [exI_some]
    refine ⟨by rw [ld_of hx6]; rfl, by rw [ld_of hx6]; rfl, ?_⟩
    refine bsp_ne.2 ⟨fun hx => absurd rfl hx, fun _ => ?_⟩
    rw [ld_of hx6, lit_get1, exI_some]
    refine ring_Room hr6 ?_
    rw [exI_some]
    refine ⟨by rw [ld_of hx6]; rfl, by rw [ld_of hx6]; rfl, by rw [ld_of hx6]; rfl, ?_⟩
    refine bsp_ne.2 ⟨fun hx => absurd rfl hx, fun _ => ?_⟩
    exact ⟨n1 - (i + 1), by omega, i + 1, by rw [wrap_succ (by omega)], rfl, by omega, l5, A5, cap5, hr6, hx6, hlc5, hs5.chg c6 (by simp), hA5, c5.trans c6 (fun x hx => .inl hx)⟩
end Go.Proofs
