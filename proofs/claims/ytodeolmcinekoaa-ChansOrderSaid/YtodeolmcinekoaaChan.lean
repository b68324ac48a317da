/- A part of proofs about functions of one program: a condition over a partial memory that is enough for a call, and what calls answer by it. No condition of its own. -/
import Derived.Test.YtodeolmcinekoaaOpen
import Derived.Test.YtodeolmcinekoaaCx
import Derived.Test.YtodeolmcinekoaaVChan
namespace Go.Proofs
open Go.AF
set_option linter.unusedVariables false
set_option maxRecDepth 100000

theorem el_i64 : ElemOk Try.prog 49 2 1 8 [.int .i64 0] := ElemOk.mk' (zv := .int .i64 0) (by kernel_rfl) (by kernel_rfl) rfl (by omega)
theorem el_wait : ElemOk Try.prog 77 54 3 24 [.int .i64 0, .int .i64 0, .int .i64 0] := ElemOk.mk' (zv := .agg #[.int .i64 0, .int .i64 0, .int .i64 0]) (by kernel_rfl) (by kernel_rfl) rfl (by omega)

/-- Who waits, with which case, with which number. -/
structure Wt where
  g : Int
  cs : Int
  v : Int

def wCells (l : List Wt) : List Value := l.flatMap fun w => [.int .i64 w.g, .int .i64 w.cs, .int .i64 w.v]
theorem wCells_cons (w : Wt) (l : List Wt) : wCells (w :: l) = .int .i64 w.g :: .int .i64 w.cs :: .int .i64 w.v :: wCells l := rfl
theorem wCells_app (l m : List Wt) : wCells (l ++ m) = wCells l ++ wCells m := by simp [wCells]
theorem wCells_len (l : List Wt) : (wCells l).length = l.length * 3 := by
  induction l with
  | nil => rfl
  | cons w l ih => rw [wCells_cons]; simp only [List.length_cons, ih]; omega
theorem wCells_plain (l : List Wt) : ∀ v ∈ wCells l, Value.plainCell v = true := by
  intro v hv
  simp only [wCells, List.mem_flatMap, List.mem_cons, List.not_mem_nil, or_false] at hv
  obtain ⟨w, _, rfl | rfl | rfl⟩ := hv <;> rfl
theorem wCells_drop : ∀ (l : List Wt) (k : Nat), (wCells l).drop (k * 3) = wCells (l.drop k)
  | l, 0 => by simp
  | [], k + 1 => by simp [wCells]
  | w :: l, k + 1 => by
    rw [wCells_cons, show (k + 1) * 3 = k * 3 + 1 + 1 + 1 from by omega]
    simpa using wCells_drop l k

/-- A channel at b; its rows lie in the blocks F. -/
def ChanAt (M : Mem) (b : Nat) (F : List Nat) (R : Nat) (buf : List Int) (snd rcv : List Wt) (closed : Bool) : Prop :=
  ∃ T Ab cb As cs Ar cr, M b = some (.cells #[.int .i64 (R : Int), .slice Ab buf.length cb, .slice As snd.length cs, .slice Ar rcv.length cr, .bool closed] T (0, 0)) ∧
    Own M 1 2 Ab buf.length cb (buf.map iv) ∧ Own M 3 54 As snd.length cs (wCells snd) ∧ Own M 3 54 Ar rcv.length cr (wCells rcv) ∧
    F = blk Ab ++ blk As ++ blk Ar ∧ b ∉ F ∧ (∀ x ∈ blk Ab, x ∉ blk As ∧ x ∉ blk Ar) ∧ (∀ x ∈ blk As, x ∉ blk Ar)

theorem ChanAt.chg {M M' : Mem} {L F : List Nat} {b R : Nat} {buf : List Int} {snd rcv : List Wt} {closed : Bool} (h : ChanAt M b F R buf snd rcv closed) (hc : Chg L M M') (h1 : b ∉ L) (h2 : ∀ x ∈ F, x ∉ L) : ChanAt M' b F R buf snd rcv closed := by
  obtain ⟨T, Ab, cb, As, cs, Ar, cr, g1, g2, g3, g4, g5, g6, g7, g8⟩ := h
  subst g5
  exact ⟨T, Ab, cb, As, cs, Ar, cr, hc.at g1 h1, g2.chg hc (fun x hx => h2 x (by simp [hx])), g3.chg hc (fun x hx => h2 x (by simp [hx])), g4.chg hc (fun x hx => h2 x (by simp [hx])), rfl, g6, g7, g8⟩

theorem Sl.slAz {M : Mem} {A : Option Addr} {l : List Value} {m c z : Nat} (h : Sl M A l) (hc : l.length ≤ c * z) : Sl M (slA A m c z) (l.drop (m * z)) := by
  unfold slA
  split
  · rename_i he
    have : l.drop (m * z) = [] := List.drop_of_length_le (by rw [← he]; exact hc)
    rw [this]
    match A, h with
    | none, h => rfl
    | some ⟨b, o, none⟩, h => intro i hi; simp at hi
  · match A, h with
    | none, h => rw [show l = [] from h]; simp [Sl]
    | some ⟨b, o, none⟩, h =>
      rw [Option.map_some, add_eq]
      intro i hi
      rw [List.length_drop] at hi
      rw [show o + m * z + i = o + (m * z + i) from by omega, h (m * z + i) (by omega), List.getElem?_drop]

def capOf (n : Int) : Nat := (min (max n 0) 16).toNat
theorem capOf_eq (n : Int) : (if (16 : Int) < (if (0 : Int) > n then 0 else n) then 16 else (if (0 : Int) > n then 0 else n)) = ((capOf n : Nat) : Int) := by unfold capOf; omega

theorem chans_New {room : Int} {M : Mem} {K : Value → Mem → Prop} {Kp : List PanicEntry → Mem → Prop}
    (h : ∀ b M', M b = none → ChanAt M' b [] (capOf room) [] [] [] false → Chg [] M M' → K (.pointer (some ⟨b, 0, none⟩)) M') :
    ACalls Try.prog 34 #[.int .i64 room] M K Kp := by
  refine vc_chans_New room M K Kp ?_
  rw [capOf_eq]
  intro b hb
  exact h b _ hb ⟨_, none, 0, none, 0, none, 0, set_same, Own.nil _ _ _, Own.nil _ _ _, Own.nil _ _ _, rfl, by simp, by simp [blk], by simp [blk]⟩ ((Chg.refl _ _).set (.inr hb))

theorem chans_first {B : Option Addr} {m c : Nat} {w : Wt} {r : List Wt} {M : Mem} {K : Value → Mem → Prop} {Kp : List PanicEntry → Mem → Prop}
    (hB : Sl M B (wCells (w :: r))) (hm : m = r.length + 1) (hc : m ≤ c) (hn : m ≤ 1000000)
    (h : ∀ A' c' M', Own M' 3 54 A' r.length c' (wCells r) → Chg [] M M' → Fr0 M A' → K (.tuple #[.agg #[.int .i64 w.g, .int .i64 w.cs, .int .i64 w.v], .slice A' r.length c']) M') :
    ACalls Try.prog 80 #[.slice B m c] M K Kp := by
  refine vc_chans_first B m c M K Kp ?_
  intro k1 hk1
  have hlen : (wCells (w :: r)).length = m * 3 := by rw [wCells_len, hm]; rfl
  obtain ⟨bb, bo, rfl, g0⟩ := hB.get (i := 0) (by omega)
  obtain ⟨b', o', e1, g1⟩ := hB.get (i := 1) (by omega)
  cases e1
  obtain ⟨b', o', e2, g2⟩ := hB.get (i := 2) (by omega)
  cases e2
  rw [wCells_cons] at g0 g1 g2
  simp only [List.getElem?_cons_zero, List.getElem?_cons_succ, Nat.add_zero] at g0 g1 g2
  have nbk : bb ≠ k1 := by
    rintro rfl
    simp [Mem.ld, hk1] at g0
  have c1 : Chg [] M (M.set k1 (.cells #[.int .i64 0, .int .i64 0, .int .i64 0] 54 (0, 0))) := (Chg.refl _ _).set (.inr hk1)
  have s1 := hB.chg c1 (by simp)
  refine ⟨by omega, by omega, ?_⟩
  rw [nilc_some]
  refine ⟨by omega, by omega, by omega, by omega, by omega, by omega, ?_⟩
  simp only [Int.toNat_natCast, Nat.add_zero, ld_set_ne nbk, g0, g1, g2, exI_some]
  intro k2 hk2
  obtain ⟨n21, hk2'⟩ := set_none_ne hk2
  have s2 : Sl (M.set k1 (.cells #[.int .i64 0, .int .i64 0, .int .i64 0] 54 (0, 0))) (slA (some ⟨bb, bo, none⟩) 1 c 3) (wCells r) := by
    have := Sl.slAz (m := 1) (c := c) (z := 3) s1 (by omega)
    rw [wCells_drop (w :: r) 1] at this
    exact this
  have em : m - 1 = r.length := by omega
  rw [em]
  refine el_wait.copy hk2 s2 (wCells_len r) (wCells_plain r) (by omega) fun A' c' M2 own c2 fr => ?_
  rw [exSl_some]
  have q1 := c2.at set_same (by simp)
  have c12 := c1.trans c2 (fun x hx => .inl hx)
  have l0 := Mem.le_ld c12.keep g0
  have l1 := Mem.le_ld c12.keep g1
  have l2 := Mem.le_ld c12.keep g2
  have n1 : k1 ∉ blk A' := fun hx => by
    have := fr k1 hx
    rw [set_same] at this; cases this
  simp only [put_of q1, wr_of' q1, put_set_eq, wr_set_eq, ld_set_eq, Nat.zero_add, List.setIfInBounds_toArray, List.set_cons_zero, List.set_cons_succ, lit_get0, lit_get1, lit_get2, exI_some]
  have c3 : Chg [k1] M2 (M2.set k1 (.cells #[.int .i64 w.g, .int .i64 w.cs, .int .i64 w.v] 54 (0, 0))) := (Chg.refl _ _).set (.inl (by simp))
  refine ⟨by simp only [Mem.lds, add_eq, Nat.add_zero, l0, l1, l2, Option.map_some, show bo + (0 + 1) = bo + 1 from rfl, show bo + (0 + 1 + 1) = bo + 2 from rfl], by simp, by simp, by simp, ?_, ?_⟩
  · simp only [Mem.lds, add_eq, Nat.add_zero, ld_set_ne nbk, l0, l1, l2, Option.map_some, show bo + (0 + 1) = bo + 1 from rfl, show bo + (0 + 1 + 1) = bo + 2 from rfl]
  · refine h A' c' _ (own.chg c3 (fun x hx hL => n1 (by simp at hL; subst hL; exact hx))) (c12.trans c3 (fun x hx => by simp at hx; subst hx; exact .inr hk1)) (fr.back c1)

theorem ChanAt.some {M : Mem} {F : List Nat} {b R : Nat} {buf : List Int} {snd rcv : List Wt} {closed : Bool} (h : ChanAt M b F R buf snd rcv closed) : (∃ o, M b = .some o) ∧ ∀ x ∈ F, ∃ o, M x = .some o := by
  obtain ⟨T, Ab, cb, As, cs, Ar, cr, g1, g2, g3, g4, g5, g6, g7, g8⟩ := h
  subst g5
  refine ⟨⟨_, g1⟩, fun x hx => ?_⟩
  simp only [List.append_assoc, List.mem_append] at hx
  rcases hx with hx | hx | hx
  · exact g2.some hx
  · exact g3.some hx
  · exact g4.some hx

theorem chans_WaitSend {b R : Nat} {F : List Nat} {buf : List Int} {snd rcv : List Wt} {closed : Bool} {w : Wt} {M : Mem} {K : Value → Mem → Prop} {Kp : List PanicEntry → Mem → Prop}
    (hC : ChanAt M b F R buf snd rcv closed) (hn : snd.length ≤ 100000)
    (h : ∀ F' M', ChanAt M' b F' R buf (snd ++ [w]) rcv closed → Chg (b :: F) M M' → (∀ x ∈ F', x ∈ F ∨ M x = none) → K (.tuple #[]) M') :
    ACalls Try.prog 35 #[.pointer (some ⟨b, 0, none⟩), .agg #[.int .i64 w.g, .int .i64 w.cs, .int .i64 w.v]] M K Kp := by
  obtain ⟨T, Ab, cb, As, cs, Ar, cr, g1, g2, g3, g4, g5, g6, g7, g8⟩ := id hC
  subst g5
  simp only [List.append_assoc, List.mem_append, not_or] at g6
  refine vc_chans_Chan_WaitSend b 0 w.g w.cs w.v M K Kp ?_
  intro k1 hk1
  have nb1 := none_ne hk1 g1
  have c1 : Chg [] M (M.set k1 (.cells #[.int .i64 w.g, .int .i64 w.cs, .int .i64 w.v] 54 (0, 0))) := (Chg.refl _ _).set (.inr hk1)
  simp only [ld_set_ne nb1, ld_of g1, ld_set_eq, Nat.zero_add, lit_get0, lit_get1, lit_get2, exI_some, exSl_some]
  intro k2 hk2
  refine el_wait.append_new (r := wCells [w]) (m := 1) (g3.chg c1 (by simp)) hk2 rfl (wCells_plain [w]) (by omega) fun A' c' M2 own c2 fr => ?_
  rw [exSl_some]
  have q1 := c2.at (c1.at g1 (by simp)) g6.2.1
  simp only [put_of q1, wr_of' q1, List.setIfInBounds_toArray, List.set_cons_zero, List.set_cons_succ]
  refine ⟨by simp, ?_⟩
  have c12 : Chg (blk As) M M2 := (c1.mono (fun x hx => by simp at hx)).trans c2 (fun x hx => .inl hx)
  have nbA : b ∉ blk A' := by
    rcases fr with rfl | ⟨x, rfl, hx⟩
    · exact g6.2.1
    · simp only [blk, List.mem_singleton]
      rintro rfl
      rw [c1.at g1 (by simp)] at hx; cases hx
  have oldA : ∀ x ∈ blk A', x ∈ blk As ∨ M x = none := fun x hx => by
    rcases fr with rfl | ⟨y, rfl, hy⟩
    · exact .inl hx
    · simp only [blk, List.mem_singleton] at hx; subst hx; exact .inr (c1.fresh hy)
  have c3 : Chg [b] M2 (M2.set b (.cells #[.int .i64 (R : Int), .slice Ab buf.length cb, .slice A' (snd.length + 1) c', .slice Ar rcv.length cr, .bool closed] T (0, 0))) := (Chg.refl _ _).set (.inl (by simp))
  have nAb : ∀ x ∈ blk Ab, x ∉ blk As := fun x hx => (g7 x hx).1
  have nAr : ∀ x ∈ blk Ar, x ∉ blk As := fun x hx hs => g8 x hs hx
  have nb : ∀ {A : Option Addr}, b ∉ blk A → ∀ x ∈ blk A, x ∉ [b] := fun hA x hx hL => by simp only [List.mem_singleton] at hL; subst hL; exact hA hx
  refine h (blk Ab ++ blk A' ++ blk Ar) _ ⟨T, Ab, cb, A', c', Ar, cr, by rw [List.length_append]; exact set_same, (g2.chg c12 nAb).chg c3 (nb g6.1), by rw [List.length_append, wCells_app]; exact own.chg c3 (nb nbA), (g4.chg c12 nAr).chg c3 (nb g6.2.2), rfl, by simp only [List.append_assoc, List.mem_append, not_or]; exact ⟨g6.1, nbA, g6.2.2⟩, fun x hx => ⟨fun hA => ?_, (g7 x hx).2⟩, fun x hx hr => ?_⟩ ?_ ?_
  · rcases oldA x hA with h1 | h1
    · exact (g7 x hx).1 h1
    · obtain ⟨o, ho⟩ := g2.some hx
      rw [h1] at ho; cases ho
  · rcases oldA x hx with h1 | h1
    · exact g8 x h1 hr
    · obtain ⟨o, ho⟩ := g4.some hr
      rw [h1] at ho; cases ho
  · exact (c12.mono (fun x hx => .inl (by simp [hx]))).trans c3 (fun x hx => .inl (by simp at hx; simp [hx]))
  · intro x hx
    simp only [List.append_assoc, List.mem_append] at hx ⊢
    rcases hx with hx | hx | hx
    · exact .inl (.inl hx)
    · rcases oldA x hx with h1 | h1
      · exact .inl (.inr (.inl h1))
      · exact .inr h1
    · exact .inl (.inr (.inr hx))

/-- One row anew: buf. -/
theorem chan_b {b R T : Nat} {buf : List Int} {snd rcv : List Wt} {closed closed' : Bool} {Ab As Ar A' : Option Addr} {cb cs cr c' : Nat} {l2 : List Int} {M M2 : Mem}
    (g1 : M b = some (.cells #[.int .i64 (R : Int), .slice Ab buf.length cb, .slice As snd.length cs, .slice Ar rcv.length cr, .bool closed] T (0, 0)))
    (g2 : Own M 1 2 Ab buf.length cb (buf.map iv)) (g3 : Own M 3 54 As snd.length cs (wCells snd)) (g4 : Own M 3 54 Ar rcv.length cr (wCells rcv))
    (g6 : b ∉ blk Ab ∧ b ∉ blk As ∧ b ∉ blk Ar) (g7 : ∀ x ∈ blk Ab, x ∉ blk As ∧ x ∉ blk Ar) (g8 : ∀ x ∈ blk As, x ∉ blk Ar)
    (c12 : Chg (blk Ab) M M2) (old : ∀ x ∈ blk A', x ∈ blk Ab ∨ M x = none) (own : Own M2 1 2 A' l2.length c' (l2.map iv)) :
    ∃ F', ChanAt (M2.set b (.cells #[.int .i64 (R : Int), .slice A' l2.length c', .slice As snd.length cs, .slice Ar rcv.length cr, .bool closed'] T (0, 0))) b F' R l2 snd rcv closed' ∧
      Chg (b :: (blk Ab ++ blk As ++ blk Ar)) M (M2.set b (.cells #[.int .i64 (R : Int), .slice A' l2.length c', .slice As snd.length cs, .slice Ar rcv.length cr, .bool closed'] T (0, 0))) ∧
      (∀ x ∈ F', x ∈ blk Ab ++ blk As ++ blk Ar ∨ M x = none) := by
  have nbA : b ∉ blk A' := fun hx => by
    rcases old b hx with h1 | h1
    · exact g6.1 h1
    · rw [g1] at h1; cases h1
  have c3 : Chg [b] M2 (M2.set b (.cells #[.int .i64 (R : Int), .slice A' l2.length c', .slice As snd.length cs, .slice Ar rcv.length cr, .bool closed'] T (0, 0))) := (Chg.refl _ _).set (.inl (by simp))
  have nb : ∀ {A : Option Addr}, b ∉ blk A → ∀ x ∈ blk A, x ∉ [b] := fun hA x hx hL => by simp only [List.mem_singleton] at hL; subst hL; exact hA hx
  have ds : ∀ x ∈ blk As, x ∉ blk Ab := fun x hx hb => (g7 x hb).1 hx
  have es : ∀ x ∈ blk A', x ∉ blk As := fun x hx hy => by
    rcases old x hx with h1 | h1
    · exact ds x hy h1
    · obtain ⟨o, ho⟩ := g3.some hy
      rw [h1] at ho; cases ho
  have dr : ∀ x ∈ blk Ar, x ∉ blk Ab := fun x hx hb => (g7 x hb).2 hx
  have er : ∀ x ∈ blk A', x ∉ blk Ar := fun x hx hy => by
    rcases old x hx with h1 | h1
    · exact dr x hy h1
    · obtain ⟨o, ho⟩ := g4.some hy
      rw [h1] at ho; cases ho
  refine ⟨blk A' ++ blk As ++ blk Ar, ⟨T, A', c', As, cs, Ar, cr, set_same, own.chg c3 (nb nbA), (g3.chg c12 ds).chg c3 (nb g6.2.1), (g4.chg c12 dr).chg c3 (nb g6.2.2), rfl, ?_, fun x hx => ⟨es x hx, er x hx⟩, fun x hx => g8 x hx⟩, ?_, ?_⟩
  · simp only [List.append_assoc, List.mem_append, not_or]; exact ⟨nbA, g6.2.1, g6.2.2⟩
  · exact (c12.mono (fun x hx => .inl (by simp [hx]))).trans c3 (fun x hx => .inl (by simp at hx; simp [hx]))
  · intro x hx
    simp only [List.append_assoc, List.mem_append] at hx ⊢
    rcases hx with hx | hx | hx
    · rcases old x hx with h1 | h1
      · exact .inl (.inl h1)
      · exact .inr h1
    · exact .inl (.inr (.inl hx))
    · exact .inl (.inr (.inr hx))

/-- One row anew: snd. -/
theorem chan_s {b R T : Nat} {buf : List Int} {snd rcv : List Wt} {closed closed' : Bool} {Ab As Ar A' : Option Addr} {cb cs cr c' : Nat} {l2 : List Wt} {M M2 : Mem}
    (g1 : M b = some (.cells #[.int .i64 (R : Int), .slice Ab buf.length cb, .slice As snd.length cs, .slice Ar rcv.length cr, .bool closed] T (0, 0)))
    (g2 : Own M 1 2 Ab buf.length cb (buf.map iv)) (g3 : Own M 3 54 As snd.length cs (wCells snd)) (g4 : Own M 3 54 Ar rcv.length cr (wCells rcv))
    (g6 : b ∉ blk Ab ∧ b ∉ blk As ∧ b ∉ blk Ar) (g7 : ∀ x ∈ blk Ab, x ∉ blk As ∧ x ∉ blk Ar) (g8 : ∀ x ∈ blk As, x ∉ blk Ar)
    (c12 : Chg (blk As) M M2) (old : ∀ x ∈ blk A', x ∈ blk As ∨ M x = none) (own : Own M2 3 54 A' l2.length c' (wCells l2)) :
    ∃ F', ChanAt (M2.set b (.cells #[.int .i64 (R : Int), .slice Ab buf.length cb, .slice A' l2.length c', .slice Ar rcv.length cr, .bool closed'] T (0, 0))) b F' R buf l2 rcv closed' ∧
      Chg (b :: (blk Ab ++ blk As ++ blk Ar)) M (M2.set b (.cells #[.int .i64 (R : Int), .slice Ab buf.length cb, .slice A' l2.length c', .slice Ar rcv.length cr, .bool closed'] T (0, 0))) ∧
      (∀ x ∈ F', x ∈ blk Ab ++ blk As ++ blk Ar ∨ M x = none) := by
  have nbA : b ∉ blk A' := fun hx => by
    rcases old b hx with h1 | h1
    · exact g6.2.1 h1
    · rw [g1] at h1; cases h1
  have c3 : Chg [b] M2 (M2.set b (.cells #[.int .i64 (R : Int), .slice Ab buf.length cb, .slice A' l2.length c', .slice Ar rcv.length cr, .bool closed'] T (0, 0))) := (Chg.refl _ _).set (.inl (by simp))
  have nb : ∀ {A : Option Addr}, b ∉ blk A → ∀ x ∈ blk A, x ∉ [b] := fun hA x hx hL => by simp only [List.mem_singleton] at hL; subst hL; exact hA hx
  have db : ∀ x ∈ blk Ab, x ∉ blk As := fun x hx => (g7 x hx).1
  have eb : ∀ x ∈ blk A', x ∉ blk Ab := fun x hx hy => by
    rcases old x hx with h1 | h1
    · exact db x hy h1
    · obtain ⟨o, ho⟩ := g2.some hy
      rw [h1] at ho; cases ho
  have dr : ∀ x ∈ blk Ar, x ∉ blk As := fun x hx hs => g8 x hs hx
  have er : ∀ x ∈ blk A', x ∉ blk Ar := fun x hx hy => by
    rcases old x hx with h1 | h1
    · exact dr x hy h1
    · obtain ⟨o, ho⟩ := g4.some hy
      rw [h1] at ho; cases ho
  refine ⟨blk Ab ++ blk A' ++ blk Ar, ⟨T, Ab, cb, A', c', Ar, cr, set_same, (g2.chg c12 db).chg c3 (nb g6.1), own.chg c3 (nb nbA), (g4.chg c12 dr).chg c3 (nb g6.2.2), rfl, ?_, fun x hx => ⟨fun hq => eb x hq hx, (g7 x hx).2⟩, fun x hx => er x hx⟩, ?_, ?_⟩
  · simp only [List.append_assoc, List.mem_append, not_or]; exact ⟨g6.1, nbA, g6.2.2⟩
  · exact (c12.mono (fun x hx => .inl (by simp [hx]))).trans c3 (fun x hx => .inl (by simp at hx; simp [hx]))
  · intro x hx
    simp only [List.append_assoc, List.mem_append] at hx ⊢
    rcases hx with hx | hx | hx
    · exact .inl (.inl hx)
    · rcases old x hx with h1 | h1
      · exact .inl (.inr (.inl h1))
      · exact .inr h1
    · exact .inl (.inr (.inr hx))

/-- One row anew: rcv. -/
theorem chan_r {b R T : Nat} {buf : List Int} {snd rcv : List Wt} {closed closed' : Bool} {Ab As Ar A' : Option Addr} {cb cs cr c' : Nat} {l2 : List Wt} {M M2 : Mem}
    (g1 : M b = some (.cells #[.int .i64 (R : Int), .slice Ab buf.length cb, .slice As snd.length cs, .slice Ar rcv.length cr, .bool closed] T (0, 0)))
    (g2 : Own M 1 2 Ab buf.length cb (buf.map iv)) (g3 : Own M 3 54 As snd.length cs (wCells snd)) (g4 : Own M 3 54 Ar rcv.length cr (wCells rcv))
    (g6 : b ∉ blk Ab ∧ b ∉ blk As ∧ b ∉ blk Ar) (g7 : ∀ x ∈ blk Ab, x ∉ blk As ∧ x ∉ blk Ar) (g8 : ∀ x ∈ blk As, x ∉ blk Ar)
    (c12 : Chg (blk Ar) M M2) (old : ∀ x ∈ blk A', x ∈ blk Ar ∨ M x = none) (own : Own M2 3 54 A' l2.length c' (wCells l2)) :
    ∃ F', ChanAt (M2.set b (.cells #[.int .i64 (R : Int), .slice Ab buf.length cb, .slice As snd.length cs, .slice A' l2.length c', .bool closed'] T (0, 0))) b F' R buf snd l2 closed' ∧
      Chg (b :: (blk Ab ++ blk As ++ blk Ar)) M (M2.set b (.cells #[.int .i64 (R : Int), .slice Ab buf.length cb, .slice As snd.length cs, .slice A' l2.length c', .bool closed'] T (0, 0))) ∧
      (∀ x ∈ F', x ∈ blk Ab ++ blk As ++ blk Ar ∨ M x = none) := by
  have nbA : b ∉ blk A' := fun hx => by
    rcases old b hx with h1 | h1
    · exact g6.2.2 h1
    · rw [g1] at h1; cases h1
  have c3 : Chg [b] M2 (M2.set b (.cells #[.int .i64 (R : Int), .slice Ab buf.length cb, .slice As snd.length cs, .slice A' l2.length c', .bool closed'] T (0, 0))) := (Chg.refl _ _).set (.inl (by simp))
  have nb : ∀ {A : Option Addr}, b ∉ blk A → ∀ x ∈ blk A, x ∉ [b] := fun hA x hx hL => by simp only [List.mem_singleton] at hL; subst hL; exact hA hx
  have db : ∀ x ∈ blk Ab, x ∉ blk Ar := fun x hx => (g7 x hx).2
  have eb : ∀ x ∈ blk A', x ∉ blk Ab := fun x hx hy => by
    rcases old x hx with h1 | h1
    · exact db x hy h1
    · obtain ⟨o, ho⟩ := g2.some hy
      rw [h1] at ho; cases ho
  have ds : ∀ x ∈ blk As, x ∉ blk Ar := fun x hx => g8 x hx
  have es : ∀ x ∈ blk A', x ∉ blk As := fun x hx hy => by
    rcases old x hx with h1 | h1
    · exact ds x hy h1
    · obtain ⟨o, ho⟩ := g3.some hy
      rw [h1] at ho; cases ho
  refine ⟨blk Ab ++ blk As ++ blk A', ⟨T, Ab, cb, As, cs, A', c', set_same, (g2.chg c12 db).chg c3 (nb g6.1), (g3.chg c12 ds).chg c3 (nb g6.2.1), own.chg c3 (nb nbA), rfl, ?_, fun x hx => ⟨(g7 x hx).1, fun hq => eb x hq hx⟩, fun x hx => fun hq => es x hq hx⟩, ?_, ?_⟩
  · simp only [List.append_assoc, List.mem_append, not_or]; exact ⟨g6.1, g6.2.1, nbA⟩
  · exact (c12.mono (fun x hx => .inl (by simp [hx]))).trans c3 (fun x hx => .inl (by simp at hx; simp [hx]))
  · intro x hx
    simp only [List.append_assoc, List.mem_append] at hx ⊢
    rcases hx with hx | hx | hx
    · exact .inl (.inl hx)
    · exact .inl (.inr (.inl hx))
    · rcases old x hx with h1 | h1
      · exact .inl (.inr (.inr h1))
      · exact .inr h1
end Go.Proofs
