/- A part of proofs about functions of one program: a condition over a partial memory that is enough for a call, and what calls answer by it. No condition of its own. -/
import Derived.Test.YtodeolmcinekoaaSend
namespace Go.Proofs
open Go.AF
set_option linter.unusedVariables false
set_option maxRecDepth 100000

def gotV (v : Int) (some : Bool) (g c x : Int) (woken : Bool) : Value := .agg #[.int .i64 v, .bool some, .int .i64 g, .int .i64 c, .int .i64 x, .bool woken]
def rBuf (buf : List Int) : List Wt → List Int
  | [] => buf
  | w :: _ => buf ++ [w.v]
def rWt : List Wt → Wt
  | [] => ⟨0, 0, 0⟩
  | w :: _ => w

theorem chans_Recv {b R : Nat} {F : List Nat} {buf : List Int} {snd rcv : List Wt} {closed : Bool} {M : Mem} {K : Value → Mem → Prop} {Kp : List PanicEntry → Mem → Prop}
    (hC : ChanAt M b F R buf snd rcv closed) (hn : snd.length ≤ 100000) (hb : buf.length ≤ 100000)
    (hv : ∀ v l, rBuf buf snd = v :: l → ∀ F' M', ChanAt M' b F' R l snd.tail rcv closed → Chg (b :: F) M M' → (∀ x ∈ F', x ∈ F ∨ M x = none) →
      K (.tuple #[gotV v true (rWt snd).g (rWt snd).cs (rWt snd).v (!snd.isEmpty), .int .i64 0]) M')
    (hno : rBuf buf snd = [] → ∀ M', Chg [] M M' → K (.tuple #[gotV 0 false 0 0 0 false, .int .i64 (if closed then 0 else 5)]) M') :
    ACalls Try.prog 37 #[.pointer (some ⟨b, 0, none⟩)] M K Kp := by
  obtain ⟨T, Ab, cb, As, cs, Ar, cr, g1, g2, g3, g4, g5, g6, g7, g8⟩ := id hC
  subst g5
  simp only [List.append_assoc, List.mem_append, not_or] at g6
  refine vc_chans_Chan_Recv b 0 M K Kp ?_
  intro k1 hk1 k2 hk2
  obtain ⟨n21, hk2'⟩ := set_none_ne hk2
  have n12 := Ne.symm n21
  have nb1 := none_ne hk1 g1
  have nb2 := none_ne hk2' g1
  have nb1' := Ne.symm nb1
  have nb2' := Ne.symm nb2
  have c2 : Chg [] M ((M.set k1 (.cells #[.int .i64 0, .bool false, .int .i64 0, .int .i64 0, .int .i64 0, .bool false] 56 (0, 0))).set k2 (.cells #[.int .i64 0, .bool false, .int .i64 0, .int .i64 0, .int .i64 0, .bool false] 56 (0, 0))) := ((Chg.refl _ _).set (.inr hk1)).set (.inr hk2')
  have p1 : ((M.set k1 (.cells #[.int .i64 0, .bool false, .int .i64 0, .int .i64 0, .int .i64 0, .bool false] 56 (0, 0))).set k2 (.cells #[.int .i64 0, .bool false, .int .i64 0, .int .i64 0, .int .i64 0, .bool false] 56 (0, 0))) k1 = some (.cells #[.int .i64 0, .bool false, .int .i64 0, .int .i64 0, .int .i64 0, .bool false] 56 (0, 0)) := set_at set_same n12
  have p2 : ((M.set k1 (.cells #[.int .i64 0, .bool false, .int .i64 0, .int .i64 0, .int .i64 0, .bool false] 56 (0, 0))).set k2 (.cells #[.int .i64 0, .bool false, .int .i64 0, .int .i64 0, .int .i64 0, .bool false] 56 (0, 0))) k2 = some (.cells #[.int .i64 0, .bool false, .int .i64 0, .int .i64 0, .int .i64 0, .bool false] 56 (0, 0)) := set_same
  generalize hM2 : Mem.set (Mem.set M k1 _) k2 _ = M2 at *
  have gb := c2.at g1 (by simp)
  have C2 := hC.chg c2 (by simp) (by simp)
  rw [ld_of gb]
  show exSl (some (.slice As snd.length cs)) _
  rw [exSl_some]
  -- behind the sender
  refine ⟨fun vs M' => ∃ F' , ChanAt M' b F' R (rBuf buf snd) snd.tail rcv closed ∧ M' k1 = some (.cells #[.int .i64 0, .bool false, .int .i64 0, .int .i64 0, .int .i64 0, .bool false] 56 (0, 0)) ∧
    M' k2 = some (.cells #[.int .i64 0, .bool false, .int .i64 (rWt snd).g, .int .i64 (rWt snd).cs, .int .i64 (rWt snd).v, .bool (!snd.isEmpty)] 56 (0, 0)) ∧
    k1 ∉ F' ∧ k2 ∉ F' ∧ Chg (b :: (blk Ab ++ blk As ++ blk Ar)) M M' ∧ (∀ x ∈ F', x ∈ blk Ab ++ blk As ++ blk Ar ∨ M x = none) ∧ (snd = [] → Chg [] M M'), ?_, ?_⟩
  · refine bsp_dec.2 ⟨fun hpos => ?_, fun hz => ?_⟩
    · obtain ⟨w, r, hs⟩ : ∃ w r, snd = w :: r := by
        cases snd with
        | nil => simp at hpos
        | cons w r => exact ⟨w, r, rfl⟩
      show exSl (some (.slice As snd.length cs)) _
      rw [exSl_some]
      have g3r := g3
      rw [hs] at g3r
      refine chans_first (w := w) (r := r) (g3r.sl.chg c2 (by simp)) (by rw [hs]; rfl) g3.cap (by omega) fun A' c' M11 own c11 fr => ?_
      refine ⟨_, _, _, _, _, _, rfl, ?_⟩
      have qb := c11.at gb (by simp)
      have q1 := c11.at p1 (by simp)
      have q2 := c11.at p2 (by simp)
      simp only [put_of qb, put_of q2, wr_of' qb, wr_of' q2, put_set_eq, wr_set_eq, ld_set_eq, put_set_ne nb2, put_set_ne nb2', wr_set_ne nb2, wr_set_ne nb2', ld_set_ne nb2, ld_set_ne nb2', Nat.zero_add, List.setIfInBounds_toArray, List.set_cons_zero, List.set_cons_succ, lit_get0, lit_get1, lit_get2, exI_some, exSl_some]
      refine ⟨by simp, by simp, by simp, by simp, by simp, ?_⟩
      show exI (some (.int .i64 w.v)) _ _
      rw [exI_some, set_comm nb2]
      have f2 : k2 ∉ blk A' := fun hx => by
        have := fr k2 hx
        rw [p2] at this; cases this
      have f1 : k1 ∉ blk A' := fun hx => by
        have := fr k1 hx
        rw [p1] at this; cases this
      have c15 : Chg [k2] M11 (M11.set k2 (.cells #[.int .i64 0, .bool false, .int .i64 w.g, .int .i64 w.cs, .int .i64 w.v, .bool true] 56 (0, 0))) := (Chg.refl _ _).set (.inl (by simp))
      have c16 := (c2.trans c11 (fun x hx => .inl hx)).trans c15 (fun x hx => by
        simp only [List.mem_singleton] at hx; subst hx; exact .inr hk2')
      obtain ⟨F1, a1, a2, a3⟩ := chan_s (l2 := r) (closed' := closed) g1 g2 g3 g4 g6 g7 g8 (c16.mono (fun x hx => by simp at hx)) (fun x hx => .inr (c2.fresh (fr x hx))) (own.chg c15 (fun x hx hL => by
        simp only [List.mem_singleton] at hL; subst hL; exact f2 hx))
      have w2 : ((M11.set k2 (.cells #[.int .i64 0, .bool false, .int .i64 w.g, .int .i64 w.cs, .int .i64 w.v, .bool true] 56 (0, 0))).set b (.cells #[.int .i64 (R : Int), .slice Ab buf.length cb, .slice A' r.length c', .slice Ar rcv.length cr, .bool closed] T (0, 0))) k2 = some (.cells #[.int .i64 0, .bool false, .int .i64 w.g, .int .i64 w.cs, .int .i64 w.v, .bool true] 56 (0, 0)) := set_at set_same nb2'
      have w1 : ((M11.set k2 (.cells #[.int .i64 0, .bool false, .int .i64 w.g, .int .i64 w.cs, .int .i64 w.v, .bool true] 56 (0, 0))).set b (.cells #[.int .i64 (R : Int), .slice Ab buf.length cb, .slice A' r.length c', .slice Ar rcv.length cr, .bool closed] T (0, 0))) k1 = some (.cells #[.int .i64 0, .bool false, .int .i64 0, .int .i64 0, .int .i64 0, .bool false] 56 (0, 0)) := set_at (set_at q1 n12) nb1'
      have wb : ((M11.set k2 (.cells #[.int .i64 0, .bool false, .int .i64 w.g, .int .i64 w.cs, .int .i64 w.v, .bool true] 56 (0, 0))).set b (.cells #[.int .i64 (R : Int), .slice Ab buf.length cb, .slice A' r.length c', .slice Ar rcv.length cr, .bool closed] T (0, 0))) b = some (.cells #[.int .i64 (R : Int), .slice Ab buf.length cb, .slice A' r.length c', .slice Ar rcv.length cr, .bool closed] T (0, 0)) := set_same
      generalize Mem.set (M11.set k2 _) b _ = N at *
      obtain ⟨T3, Ab3, cb3, As3, cs3, Ar3, cr3, x1, x2, x3, x4, x5, x6, x7, x8⟩ := id a1
      rw [wb] at x1
      have x1' := Option.some.inj x1
      injection x1' with y1 y2 y3
      have y1 := congrArg Array.toList y1
      simp only [List.cons.injEq, Value.slice.injEq, and_true, true_and] at y1
      obtain ⟨⟨rfl, rfl⟩, ⟨rfl, rfl⟩, rfl, rfl⟩ := y1
      subst y2
      subst x5
      simp only [List.append_assoc, List.mem_append, not_or] at x6
      intro k22 hk22
      refine el_i64.append_new (r := [iv w.v]) (m := 1) x2 hk22 rfl (by intro x hx; simp only [List.mem_singleton] at hx; subst hx; rfl) (by omega) fun A4 c4 M24 own4 cc4 fr4 => ?_
      rw [exSl_some]
      have no1 : ∀ {A : Option Addr} {z T n c : Nat} {l : List Value}, Own M z T A n c l → k1 ∉ blk A := fun ho hx => by
        obtain ⟨o, h⟩ := ho.some hx
        rw [hk1] at h; cases h
      have no2 : ∀ {A : Option Addr} {z T n c : Nat} {l : List Value}, Own M z T A n c l → k2 ∉ blk A := fun ho hx => by
        obtain ⟨o, h⟩ := ho.some hx
        rw [hk2'] at h; cases h
      have qb4 := cc4.at wb x6.1
      rw [put_of qb4, wr_of' qb4]
      refine ⟨by simp, ?_⟩
      simp only [List.setIfInBounds_toArray, List.set_cons_zero, List.set_cons_succ]
      have old4 : ∀ x ∈ blk A4, x ∈ blk Ab ∨ N x = none := fun x hx => by
        rcases fr4 with rfl | ⟨y, rfl, hy⟩
        · exact .inl hx
        · simp only [blk, List.mem_singleton] at hx; subst hx; exact .inr hy
      obtain ⟨F4, b1, b2, b3⟩ := chan_b (l2 := buf ++ [w.v]) (closed' := closed) wb x2 x3 x4 x6 x7 x8 cc4 old4 (by rw [List.length_append, List.map_append]; exact own4)
      rw [List.length_append] at b1 b2
      have k1F : k1 ∉ F4 := fun hx => by
        rcases b3 k1 hx with h | h
        · simp only [List.append_assoc, List.mem_append] at h
          rcases h with h | h | h
          · exact no1 g2 h
          · exact f1 h
          · exact no1 g4 h
        · rw [w1] at h; cases h
      have k2F : k2 ∉ F4 := fun hx => by
        rcases b3 k2 hx with h | h
        · simp only [List.append_assoc, List.mem_append] at h
          rcases h with h | h | h
          · exact no2 g2 h
          · exact f2 h
          · exact no2 g4 h
        · rw [w2] at h; cases h
      subst hs
      refine ⟨F4, b1, set_at (cc4.at w1 (no1 g2)) nb1', set_at (cc4.at w2 (no2 g2)) nb2', k1F, k2F, a2.trans b2 (fun x hx => ?_), fun x hx => ?_, fun h => by cases h⟩
      · rcases List.mem_cons.1 hx with rfl | hx
        · exact .inl (List.mem_cons_self ..)
        · rcases a3 x hx with h | h
          · exact .inl (List.mem_cons_of_mem _ h)
          · exact .inr h
      · rcases b3 x hx with h | h
        · exact a3 x h
        · exact .inr (a2.fresh h)
    · have hs : snd = [] := List.length_eq_zero_iff.1 (by omega)
      subst hs
      have so := C2.some
      exact ⟨_, C2, p1, p2, fun hx => (by
        obtain ⟨o, ho⟩ := hC.some.2 k1 hx
        rw [hk1] at ho; cases ho), fun hx => (by
        obtain ⟨o, ho⟩ := hC.some.2 k2 hx
        rw [hk2'] at ho; cases ho), c2.mono (fun x hx => by simp at hx), fun x hx => .inl hx, fun _ => c2⟩
  · intro junk M3 hJ
    obtain ⟨F', C3, q1, q2, k1F, k2F, cM, oldF, hsn⟩ := hJ
    obtain ⟨T3, Ab3, cb3, As3, cs3, Ar3, cr3, x1, x2, x3, x4, x5, x6, x7, x8⟩ := id C3
    subst x5
    simp only [List.append_assoc, List.mem_append, not_or] at x6 k1F k2F
    rw [ld_of x1]
    show exSl (some (.slice Ab3 (rBuf buf snd).length cb3)) _
    rw [exSl_some]
    have hlen : (rBuf buf snd).length ≤ 100001 := by
      unfold rBuf; split
      · omega
      · rw [List.length_append]; simp; omega
    refine bsp_dec.2 ⟨fun hpos => ?_, fun hz => ?_⟩
    · obtain ⟨v, l, hvl⟩ : ∃ v l, rBuf buf snd = v :: l := by
        cases hh : rBuf buf snd with
        | nil => rw [hh] at hpos; simp at hpos
        | cons v l => exact ⟨v, l, rfl⟩
      have hv' := hv v l hvl
      rw [hvl] at x1 x2 hlen ⊢
      show exSl (some (.slice Ab3 (v :: l).length cb3)) _
      rw [exSl_some]
      refine ⟨by omega, by simp, ?_⟩
      obtain ⟨bb, bo, rfl, e0⟩ := x2.sl.get (i := 0) (by simp)
      rw [nilc_some, e0]
      show exI (some (.int .i64 v)) _ _
      rw [exI_some]
      simp only [put_of q2, wr_of' q2, put_set_eq, wr_set_eq, Nat.zero_add, List.setIfInBounds_toArray, List.set_cons_zero, List.set_cons_succ]
      refine ⟨by simp, by simp, ?_⟩
      have cN : Chg [k2] M3 (M3.set k2 (.cells #[.int .i64 v, .bool true, .int .i64 (rWt snd).g, .int .i64 (rWt snd).cs, .int .i64 (rWt snd).v, .bool (!snd.isEmpty)] 56 (0, 0))) := (Chg.refl _ _).set (.inl (by simp))
      have r2 : (M3.set k2 (.cells #[.int .i64 v, .bool true, .int .i64 (rWt snd).g, .int .i64 (rWt snd).cs, .int .i64 (rWt snd).v, .bool (!snd.isEmpty)] 56 (0, 0))) k2 = some (.cells #[.int .i64 v, .bool true, .int .i64 (rWt snd).g, .int .i64 (rWt snd).cs, .int .i64 (rWt snd).v, .bool (!snd.isEmpty)] 56 (0, 0)) := set_same
      generalize M3.set k2 _ = N at *
      have rb := cN.at x1 (by simp; exact nb2)
      have r1 := cN.at q1 (by simp; exact n12)
      have no2 : ∀ {A : Option Addr}, k2 ∉ blk A → ∀ x ∈ blk A, x ∉ [k2] := fun hA x hx hL => by simp only [List.mem_singleton] at hL; subst hL; exact hA hx
      have y2 := x2.chg cN (no2 k2F.1)
      have y3 := x3.chg cN (no2 k2F.2.1)
      have y4 := x4.chg cN (no2 k2F.2.2)
      intro k3 hk3
      have nb3 := none_ne hk3 rb
      rw [ld_set_ne nb3, ld_of rb]
      show exSl (some (.slice _ (v :: l).length cb3)) _
      rw [exSl_some]
      have hcap := y2.cap
      simp only [List.length_cons] at hcap hlen ⊢
      refine ⟨by omega, by omega, by omega, by omega, by omega, by omega, ?_⟩
      simp only [Int.toNat_natCast, Nat.add_sub_cancel]
      have sl2 : Sl N (slA (some ⟨bb, bo, none⟩) 1 cb3 1) (l.map iv) := y2.sl.slA (m := 1) (c := cb3) (by simp; omega)
      refine el_i64.copy hk3 sl2 (by simp) iv_plain (by omega) fun A4 c4 M4 own4 cc4 fr4 => ?_
      rw [exSl_some]
      have z2 := cc4.at r2 (by simp)
      have z1 := cc4.at r1 (by simp)
      have zb := cc4.at rb (by simp)
      simp only [put_of zb, put_of z1, put_of z2, wr_of' zb, wr_of' z1, wr_of' z2, ld_of z2, ld_of z1, put_set_eq, wr_set_eq, ld_set_eq, put_set_ne nb1, put_set_ne nb1', wr_set_ne nb1, wr_set_ne nb1', ld_set_ne nb1', ld_set_ne nb2', ld_set_ne n12, ld_set_ne n21,
        Nat.zero_add, List.setIfInBounds_toArray, List.set_cons_zero, List.set_cons_succ, lit_get0, lit_get1, lit_get2, lit_get3, lit_get4, lit_get5, exI_some, exB_some]
      refine ⟨by simp, by simp, by simp, by simp, by simp, by simp, by simp, ?_⟩
      rw [set_comm nb1']
      obtain ⟨F4, b1, b2, b3⟩ := chan_b (l2 := l) (closed' := closed) rb y2 y3 y4 x6 x7 x8 (cc4.mono (fun x hx => by simp at hx)) (fun x hx => .inr (fr4 x hx)) own4
      have k1F4 : k1 ∉ F4 := fun hx => by
        rcases b3 k1 hx with h | h
        · simp only [List.append_assoc, List.mem_append] at h
          rcases h with h | h | h
          · exact k1F.1 h
          · exact k1F.2.1 h
          · exact k1F.2.2 h
        · rw [r1] at h; cases h
      have c5 : ∀ (m : Mem) (Z : Obj), Chg [k1] m (m.set k1 Z) := fun m Z => (Chg.refl _ _).set (.inl (by simp))
      have cMN := cM.trans cN (fun x hx => by simp only [List.mem_singleton] at hx; subst hx; exact .inr hk2')
      refine hv' F4 _ (b1.chg (c5 _ _) (by simp; exact nb1) (fun x hx hL => by simp only [List.mem_singleton] at hL; subst hL; exact k1F4 hx)) ((cMN.trans b2 (fun x hx => ?_)).trans (c5 _ _) (fun x hx => by simp only [List.mem_singleton] at hx; subst hx; exact .inr hk1)) (fun x hx => ?_)
      · rcases List.mem_cons.1 hx with rfl | hx
        · exact .inl (List.mem_cons_self ..)
        · rcases oldF x hx with h | h
          · exact .inl (List.mem_cons_of_mem _ h)
          · exact .inr h
      · rcases b3 x hx with h | h
        · exact oldF x h
        · exact .inr (cMN.fresh h)
    · have hnil : rBuf buf snd = [] := List.length_eq_zero_iff.1 (by omega)
      have hsn0 : snd = [] := by
        cases snd with
        | nil => rfl
        | cons w r => simp [rBuf] at hnil
      have hno' := hno hnil
      have c0 := hsn hsn0
      subst hsn0
      rw [ld_of x1]
      show exB (some (.bool closed)) _
      rw [exB_some]
      simp only [ld_of q2, put_of q1, wr_of' q1, ld_of q1, put_set_eq, wr_set_eq, ld_set_eq, Nat.zero_add, List.setIfInBounds_toArray, List.set_cons_zero, List.set_cons_succ, lit_get0, lit_get1, lit_get2, lit_get3, lit_get4, lit_get5, exI_some, exB_some]
      have cf : ∀ Z : Obj, Chg [] M (M3.set k1 Z) := fun Z => c0.set (.inr hk1)
      refine bsp_iff.2 ⟨fun hc => ⟨by simp, by simp, by simp, by simp, by simp, by simp, ?_⟩, fun hc => ⟨by simp, by simp, by simp, by simp, by simp, by simp, ?_⟩⟩
      · have e : (if closed then (0 : Int) else 5) = 0 := by rw [hc]; rfl
        rw [e] at hno'
        exact hno' _ (cf _)
      · have e : (if closed then (0 : Int) else 5) = 5 := by rw [hc]; rfl
        rw [e] at hno'
        exact hno' _ (cf _)
end Go.Proofs
