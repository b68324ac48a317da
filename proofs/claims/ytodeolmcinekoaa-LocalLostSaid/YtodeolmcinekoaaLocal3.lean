/- A part of proofs about functions of one program: a condition over a partial memory that is enough for a call, and what calls answer by it. No condition of its own. -/
import Derived.Test.YtodeolmcinekoaaLocal2
/- Queues: what is fetched, what is stolen. -/
namespace Go.Proofs
open Go.AF
set_option linter.unusedVariables false
set_option maxRecDepth 100000
set_option maxHeartbeats 1000000
attribute [local irreducible] exI exB exS exP exSl exV nilc stc nwc semK semU bsp
section
variable {R : Mem} {L L' L'' : List HP} {M : Mem} {K : Value → Mem → Prop} {Kp : List PanicEntry → Mem → Prop} {b gb b' : Nat} {x f : Loc} {g : List Int}
theorem pts_ne {b b' T T' : Nat} {cs cs' : List Value} (h : Hp R (pt b cs T :: L) M) [p : PtAt b' L cs' T' L'] : b ≠ b' := by
  rintro rfl
  have h2 : Hp R (pt b cs T :: pt b cs' T' :: L') M := h.map fun _ hs => hs.tail fun _ => Star.pick p.pick
  obtain ⟨B, rfl, h1, X, Y, rfl, h2, hp, X2, Y2, rfl, h3, hp2, hs⟩ := h2
  unfold AF.pt at hp hp2
  rcases h2 b with h | h
  · rw [hp] at h; cases h
  · rw [Mem.union_left hp2] at h; cases h
theorem ptr_ne {a : Addr} {b : Nat} {G : Bool → Prop} (hne : a.block ≠ b) (h1 : plainB M a.block) (h2 : plainB M b) (g : G false) : ptrEq M (some a) (some ⟨b, 0, none⟩) G :=
  ⟨fun e => absurd (by rw [e]) hne, fun _ => ⟨.inr ⟨h1, h2⟩, g⟩⟩
theorem plain_at {b T : Nat} {cs : List Value} (h : Hp R L M) [p : PtAt b L cs T L'] : plainB M b := ⟨_, _, (h.pick p.pick).pt_at⟩
theorem local_Fetch {p : Int} (h : Hp R L M) [o : ObjAt locR b L x L'] [og : ObjAt glR gb L' g L''] (hs : g.length ≤ 100000000) (hp9 : p < 9223372036854775808)
    (k : ∀ t M', ((x.fetch g p).2.2 = -1 → g = [] → t = false) → (g ≠ [] → t = true) → Hp R (objP locR b (x.fetch g p).1 :: objP glR gb (x.fetch g p).2.1 :: L'') M' → K (.tuple #[.int .i64 (x.fetch g p).2.2, .bool t]) M') :
    ACalls Try.prog 100 #[.pointer (some ⟨b, 0, none⟩), .pointer (some ⟨gb, 0, none⟩), .int .i64 p] M K Kp := by
  have bd := loc_bd h (b := b)
  obtain ⟨bd1, bd2, bd3⟩ := bd
  replace h := loc_two h (b := b) (gb := gb)
  refine vc_local_Local_Fetch ?_
  have h' := loc_open h (b := b)
  clear h
  obtain ⟨rb, h⟩ := h'
  repeat (first | (refine s_nwc h ?_; clear h; intro kb M h) | (refine s_stc h ?_; clear h; intro M h) | refine t_exI h ?_ | refine t_exB h ?_ | refine t_exS h ?_ | refine t_exP h ?_ | refine t_exSl h ?_ | refine t_exV h ?_ | refine u_exI ?_ | refine u_exB ?_ | refine u_exS ?_ | refine u_exP ?_ | refine u_exSl ?_ | refine u_exV ?_ | refine u_nilc ?_ | (apply Exists.intro; (repeat apply Exists.intro); refine And.intro rfl ?_) | (refine And.intro ?_ ?_; first | exact trivial | exact rfl | exact t_ld h | (refine lds_s (t_ld h) ?_; (repeat (refine lds_s (t_ld h) ?_)); exact lds_nil) | omega) | refine u_bspT ?_ | refine u_bspF ?_)
  refine local_gLen h ?_
  repeat (first | (refine s_nwc h ?_; clear h; intro kb M h) | (refine s_stc h ?_; clear h; intro M h) | refine t_exI h ?_ | refine t_exB h ?_ | refine t_exS h ?_ | refine t_exP h ?_ | refine t_exSl h ?_ | refine t_exV h ?_ | refine u_exI ?_ | refine u_exB ?_ | refine u_exS ?_ | refine u_exP ?_ | refine u_exSl ?_ | refine u_exV ?_ | refine u_nilc ?_ | (apply Exists.intro; (repeat apply Exists.intro); refine And.intro rfl ?_) | (refine And.intro ?_ ?_; first | exact trivial | exact rfl | exact t_ld h | (refine lds_s (t_ld h) ?_; (repeat (refine lds_s (t_ld h) ?_)); exact lds_nil) | omega) | refine u_bspT ?_ | refine u_bspF ?_)
  refine ring_Room h ?_
  repeat (first | (refine s_nwc h ?_; clear h; intro kb M h) | (refine s_stc h ?_; clear h; intro M h) | refine t_exI h ?_ | refine t_exB h ?_ | refine t_exS h ?_ | refine t_exP h ?_ | refine t_exSl h ?_ | refine t_exV h ?_ | refine u_exI ?_ | refine u_exB ?_ | refine u_exS ?_ | refine u_exP ?_ | refine u_exSl ?_ | refine u_exV ?_ | refine u_nilc ?_ | (apply Exists.intro; (repeat apply Exists.intro); refine And.intro rfl ?_) | (refine And.intro ?_ ?_; first | exact trivial | exact rfl | exact t_ld h | (refine lds_s (t_ld h) ?_; (repeat (refine lds_s (t_ld h) ?_)); exact lds_nil) | omega) | refine u_bspT ?_ | refine u_bspF ?_)
  refine ring_Len h ?_
  repeat (first | (refine s_nwc h ?_; clear h; intro kb M h) | (refine s_stc h ?_; clear h; intro M h) | refine t_exI h ?_ | refine t_exB h ?_ | refine t_exS h ?_ | refine t_exP h ?_ | refine t_exSl h ?_ | refine t_exV h ?_ | refine u_exI ?_ | refine u_exB ?_ | refine u_exS ?_ | refine u_exP ?_ | refine u_exSl ?_ | refine u_exV ?_ | refine u_nilc ?_ | (apply Exists.intro; (repeat apply Exists.intro); refine And.intro rfl ?_) | (refine And.intro ?_ ?_; first | exact trivial | exact rfl | exact t_ld h | (refine lds_s (t_ld h) ?_; (repeat (refine lds_s (t_ld h) ?_)); exact lds_nil) | omega) | refine u_bspT ?_ | refine u_bspF ?_)
  dsimp only at *
  have hn0 : 1 ≤ x.fetchN g p := by unfold Loc.fetchN; generalize g.length / p.toNat = q; split <;> omega
  have hn1 : x.l.length + (x.fetchN g p - 1) ≤ x.room := by unfold Loc.fetchN; generalize g.length / p.toNat = q; split <;> omega
  have key : ∀ n : Int, n.toNat = x.fetchN g p → ∀ {Q : Prop}, Q → Q := fun _ _ _ q => q
  refine bsp_dec.2 ⟨fun hp1 => ?_, fun hp1 => ?_⟩
  · have hn : (1 : Int).toNat = x.fetchN g p := by unfold Loc.fetchN; rw [if_pos hp1]; rfl
    refine local_gTake h (by omega) ?_
    clear h
    intro A c M h
    rw [hn] at h ⊢
    repeat (first | (refine s_nwc h ?_; clear h; intro kb M h) | (refine s_stc h ?_; clear h; intro M h) | refine t_exI h ?_ | refine t_exB h ?_ | refine t_exS h ?_ | refine t_exP h ?_ | refine t_exSl h ?_ | refine t_exV h ?_ | refine u_exI ?_ | refine u_exB ?_ | refine u_exS ?_ | refine u_exP ?_ | refine u_exSl ?_ | refine u_exV ?_ | refine u_nilc ?_ | (apply Exists.intro; (repeat apply Exists.intro); refine And.intro rfl ?_) | (refine And.intro ?_ ?_; first | exact trivial | exact rfl | exact t_ld h | (refine lds_s (t_ld h) ?_; (repeat (refine lds_s (t_ld h) ?_)); exact lds_nil) | omega) | refine u_bspT ?_ | refine u_bspF ?_)
    cases hg : g.take (x.fetchN g p) with
    | nil =>
      have hg0 : g = [] := by
        have := congrArg List.length hg
        rw [List.length_take, List.length_nil] at this
        exact List.length_eq_zero_iff.1 (by omega)
      have hp : x.fetch g p = (x, g, -1) := by unfold Loc.fetch; rw [hg]
      rw [hp] at k
      refine u_bspC rfl ?_
      have e3 : g.drop (x.fetchN g p) = g := by rw [hg0]; simp
      rw [e3] at h
      exact k false _ (fun _ _ => rfl) (fun h1 => absurd hg0 h1) ((loc_close h b).sub (by repeat (first | exact Sub.refl | refine Sub.cons (by first | exact Pick.here | exact (.there .here) | exact (.there (.there .here)) | exact (.there (.there (.there .here))) | exact (.there (.there (.there (.there .here)))) | exact (.there (.there (.there (.there (.there .here))))) | exact (.there (.there (.there (.there (.there (.there .here)))))) | exact (.there (.there (.there (.there (.there (.there (.there .here))))))) | exact (.there (.there (.there (.there (.there (.there (.there (.there .here)))))))) | exact (.there (.there (.there (.there (.there (.there (.there (.there (.there .here))))))))) | exact (.there (.there (.there (.there (.there (.there (.there (.there (.there (.there .here)))))))))) | exact (.there (.there (.there (.there (.there (.there (.there (.there (.there (.there (.there .here))))))))))) | exact (.there (.there (.there (.there (.there (.there (.there (.there (.there (.there (.there (.there .here)))))))))))) | exact (.there (.there (.there (.there (.there (.there (.there (.there (.there (.there (.there (.there (.there .here))))))))))))) | exact (.there (.there (.there (.there (.there (.there (.there (.there (.there (.there (.there (.there (.there (.there .here)))))))))))))) | exact (.there (.there (.there (.there (.there (.there (.there (.there (.there (.there (.there (.there (.there (.there (.there .here)))))))))))))))) ?_ | refine Sub.drop ?_)))
    | cons v out =>
      have hp : x.fetch g p = ({ x with l := x.l ++ out }, g.drop (x.fetchN g p), v) := by unfold Loc.fetch; rw [hg]
      rw [hp] at k
      have hol : out.length + 1 ≤ x.fetchN g p := by
        have := congrArg List.length hg
        rw [List.length_take, List.length_cons] at this
        omega
      refine u_bspD (by simp; omega) ?_
      rw [hg] at h
      generalize g.drop (x.fetchN g p) = g2 at *
      have hgn : g ≠ [] := by rintro rfl; simp at hg
      obtain ⟨A0, hA0⟩ : ∃ A0, A0 = slA A 1 c 1 := ⟨_, rfl⟩
      have hcap := h.row_le A
      rw [List.length_cons] at hcap
      simp only [Int.toNat_natCast, List.length_cons]
      repeat (first | (refine s_nwc h ?_; clear h; intro kb M h) | (refine s_stc h ?_; clear h; intro M h) | refine t_exI h ?_ | refine t_exB h ?_ | refine t_exS h ?_ | refine t_exP h ?_ | refine t_exSl h ?_ | refine t_exV h ?_ | refine u_exI ?_ | refine u_exB ?_ | refine u_exS ?_ | refine u_exP ?_ | refine u_exSl ?_ | refine u_exV ?_ | refine u_nilc ?_ | (apply Exists.intro; (repeat apply Exists.intro); refine And.intro rfl ?_) | (refine And.intro ?_ ?_; first | exact trivial | exact rfl | exact t_ld h | (refine lds_s (t_ld h) ?_; (repeat (refine lds_s (t_ld h) ?_)); exact lds_nil) | omega) | refine u_bspT ?_ | refine u_bspF ?_)
      refine ⟨fun d ws M => ∃ i : Nat, ws = [.int .i64 (i : Int)] ∧ d = out.length - i ∧ i ≤ out.length ∧
        Hp R (rowP intE 3 A c (v :: out) :: pt b [.int .i64 x.next, .pointer (some ⟨rb, 0, none⟩)] 166 :: objP ringR rb ⟨x.room, x.l ++ out.take i⟩ :: objP glR gb g2 :: L'') M,
        ⟨_, 0, rfl, rfl, by omega, by rw [List.take_zero, List.append_nil]; exact h.sub (by repeat (first | exact Sub.refl | refine Sub.cons (by first | exact Pick.here | exact (.there .here) | exact (.there (.there .here)) | exact (.there (.there (.there .here))) | exact (.there (.there (.there (.there .here)))) | exact (.there (.there (.there (.there (.there .here))))) | exact (.there (.there (.there (.there (.there (.there .here)))))) | exact (.there (.there (.there (.there (.there (.there (.there .here))))))) | exact (.there (.there (.there (.there (.there (.there (.there (.there .here)))))))) | exact (.there (.there (.there (.there (.there (.there (.there (.there (.there .here))))))))) | exact (.there (.there (.there (.there (.there (.there (.there (.there (.there (.there .here)))))))))) | exact (.there (.there (.there (.there (.there (.there (.there (.there (.there (.there (.there .here))))))))))) | exact (.there (.there (.there (.there (.there (.there (.there (.there (.there (.there (.there (.there .here)))))))))))) | exact (.there (.there (.there (.there (.there (.there (.there (.there (.there (.there (.there (.there (.there .here))))))))))))) | exact (.there (.there (.there (.there (.there (.there (.there (.there (.there (.there (.there (.there (.there (.there .here)))))))))))))) | exact (.there (.there (.there (.there (.there (.there (.there (.there (.there (.there (.there (.there (.there (.there (.there .here)))))))))))))))) ?_ | refine Sub.drop ?_))⟩, ?_⟩
      clear h
      rintro d _ ii M ⟨i, he, hd, hi, h⟩
      simp only [List.cons.injEq, Value.int.injEq, and_true, true_and] at he
      subst he
      refine bsp_dec.2 ⟨fun hlt => ?_, fun hge => ?_⟩
      · obtain ⟨w, hw⟩ := idx_ex (l := out) (i := i) (by omega)
        have s0 := Src.suf1 (h.src (A := A)) (by rw [List.length_cons]; exact hcap) 1
        rw [← hA0] at s0 ⊢
        rw [show (v :: out).drop 1 = out from rfl] at s0
        obtain ⟨b0, o0, rfl⟩ := s0.someE h (by omega) (by decide)
        repeat (first | (refine s_nwc h ?_; clear h; intro kb M h) | (refine s_stc h ?_; clear h; intro M h) | refine t_exI h ?_ | refine t_exB h ?_ | refine t_exS h ?_ | refine t_exP h ?_ | refine t_exSl h ?_ | refine t_exV h ?_ | refine u_exI ?_ | refine u_exB ?_ | refine u_exS ?_ | refine u_exP ?_ | refine u_exSl ?_ | refine u_exV ?_ | refine u_nilc ?_ | (apply Exists.intro; (repeat apply Exists.intro); refine And.intro rfl ?_) | (refine And.intro ?_ ?_; first | exact trivial | exact rfl | exact t_ld h | (refine lds_s (t_ld h) ?_; (repeat (refine lds_s (t_ld h) ?_)); exact lds_nil) | omega) | refine u_bspT ?_ | refine u_bspF ?_)
        simp only [Int.toNat_natCast]
        refine v_exI (s0.at h (i := i) (j := 0) hw rfl (by simp [intE])) ?_
        repeat (first | (refine s_nwc h ?_; clear h; intro kb M h) | (refine s_stc h ?_; clear h; intro M h) | refine t_exI h ?_ | refine t_exB h ?_ | refine t_exS h ?_ | refine t_exP h ?_ | refine t_exSl h ?_ | refine t_exV h ?_ | refine u_exI ?_ | refine u_exB ?_ | refine u_exS ?_ | refine u_exP ?_ | refine u_exSl ?_ | refine u_exV ?_ | refine u_nilc ?_ | (apply Exists.intro; (repeat apply Exists.intro); refine And.intro rfl ?_) | (refine And.intro ?_ ?_; first | exact trivial | exact rfl | exact t_ld h | (refine lds_s (t_ld h) ?_; (repeat (refine lds_s (t_ld h) ?_)); exact lds_nil) | omega) | refine u_bspT ?_ | refine u_bspF ?_)
        refine ring_Push (v := w) h (fun e M' h' => ?_) fun e M' h' => ?_
        · exfalso
          simp only [List.length_append, List.length_take] at e
          omega
        · clear h
          have h := h'
          clear h'
          repeat (first | (refine s_nwc h ?_; clear h; intro kb M h) | (refine s_stc h ?_; clear h; intro M h) | refine t_exI h ?_ | refine t_exB h ?_ | refine t_exS h ?_ | refine t_exP h ?_ | refine t_exSl h ?_ | refine t_exV h ?_ | refine u_exI ?_ | refine u_exB ?_ | refine u_exS ?_ | refine u_exP ?_ | refine u_exSl ?_ | refine u_exV ?_ | refine u_nilc ?_ | (apply Exists.intro; (repeat apply Exists.intro); refine And.intro rfl ?_) | (refine And.intro ?_ ?_; first | exact trivial | exact rfl | exact t_ld h | (refine lds_s (t_ld h) ?_; (repeat (refine lds_s (t_ld h) ?_)); exact lds_nil) | omega) | refine u_bspT ?_ | refine u_bspF ?_)
          rw [wrap_succ (by omega)]
          refine ⟨out.length - (i + 1), by omega, i + 1, rfl, rfl, by omega, ?_⟩
          rw [take_snoc hw, ← List.append_assoc]
          exact h.sub (by repeat (first | exact Sub.refl | refine Sub.cons (by first | exact Pick.here | exact (.there .here) | exact (.there (.there .here)) | exact (.there (.there (.there .here))) | exact (.there (.there (.there (.there .here)))) | exact (.there (.there (.there (.there (.there .here))))) | exact (.there (.there (.there (.there (.there (.there .here)))))) | exact (.there (.there (.there (.there (.there (.there (.there .here))))))) | exact (.there (.there (.there (.there (.there (.there (.there (.there .here)))))))) | exact (.there (.there (.there (.there (.there (.there (.there (.there (.there .here))))))))) | exact (.there (.there (.there (.there (.there (.there (.there (.there (.there (.there .here)))))))))) | exact (.there (.there (.there (.there (.there (.there (.there (.there (.there (.there (.there .here))))))))))) | exact (.there (.there (.there (.there (.there (.there (.there (.there (.there (.there (.there (.there .here)))))))))))) | exact (.there (.there (.there (.there (.there (.there (.there (.there (.there (.there (.there (.there (.there .here))))))))))))) | exact (.there (.there (.there (.there (.there (.there (.there (.there (.there (.there (.there (.there (.there (.there .here)))))))))))))) | exact (.there (.there (.there (.there (.there (.there (.there (.there (.there (.there (.there (.there (.there (.there (.there .here)))))))))))))))) ?_ | refine Sub.drop ?_))
      · obtain rfl : i = out.length := by omega
        rw [List.take_length] at h
        have s0 := h.src (A := A)
        obtain ⟨b0, rfl⟩ := h.row_some (A := A) (by simp) (by decide)
        repeat (first | (refine s_nwc h ?_; clear h; intro kb M h) | (refine s_stc h ?_; clear h; intro M h) | refine t_exI h ?_ | refine t_exB h ?_ | refine t_exS h ?_ | refine t_exP h ?_ | refine t_exSl h ?_ | refine t_exV h ?_ | refine u_exI ?_ | refine u_exB ?_ | refine u_exS ?_ | refine u_exP ?_ | refine u_exSl ?_ | refine u_exV ?_ | refine u_nilc ?_ | (apply Exists.intro; (repeat apply Exists.intro); refine And.intro rfl ?_) | (refine And.intro ?_ ?_; first | exact trivial | exact rfl | exact t_ld h | (refine lds_s (t_ld h) ?_; (repeat (refine lds_s (t_ld h) ?_)); exact lds_nil) | omega) | refine u_bspT ?_ | refine u_bspF ?_)
        refine v_exI (s0.at h (i := 0) (j := 0) rfl rfl (by simp [intE])) ?_
        repeat (first | (refine s_nwc h ?_; clear h; intro kb M h) | (refine s_stc h ?_; clear h; intro M h) | refine t_exI h ?_ | refine t_exB h ?_ | refine t_exS h ?_ | refine t_exP h ?_ | refine t_exSl h ?_ | refine t_exV h ?_ | refine u_exI ?_ | refine u_exB ?_ | refine u_exS ?_ | refine u_exP ?_ | refine u_exSl ?_ | refine u_exV ?_ | refine u_nilc ?_ | (apply Exists.intro; (repeat apply Exists.intro); refine And.intro rfl ?_) | (refine And.intro ?_ ?_; first | exact trivial | exact rfl | exact t_ld h | (refine lds_s (t_ld h) ?_; (repeat (refine lds_s (t_ld h) ?_)); exact lds_nil) | omega) | refine u_bspT ?_ | refine u_bspF ?_)
        exact k true _ (fun _ h1 => absurd h1 hgn) (fun _ => rfl) ((loc_close h b).sub (by repeat (first | exact Sub.refl | refine Sub.cons (by first | exact Pick.here | exact (.there .here) | exact (.there (.there .here)) | exact (.there (.there (.there .here))) | exact (.there (.there (.there (.there .here)))) | exact (.there (.there (.there (.there (.there .here))))) | exact (.there (.there (.there (.there (.there (.there .here)))))) | exact (.there (.there (.there (.there (.there (.there (.there .here))))))) | exact (.there (.there (.there (.there (.there (.there (.there (.there .here)))))))) | exact (.there (.there (.there (.there (.there (.there (.there (.there (.there .here))))))))) | exact (.there (.there (.there (.there (.there (.there (.there (.there (.there (.there .here)))))))))) | exact (.there (.there (.there (.there (.there (.there (.there (.there (.there (.there (.there .here))))))))))) | exact (.there (.there (.there (.there (.there (.there (.there (.there (.there (.there (.there (.there .here)))))))))))) | exact (.there (.there (.there (.there (.there (.there (.there (.there (.there (.there (.there (.there (.there .here))))))))))))) | exact (.there (.there (.there (.there (.there (.there (.there (.there (.there (.there (.there (.there (.there (.there .here)))))))))))))) | exact (.there (.there (.there (.there (.there (.there (.there (.there (.there (.there (.there (.there (.there (.there (.there .here)))))))))))))))) ?_ | refine Sub.drop ?_)))
  · have hn : (if IntKind.wrap .i64 (IntKind.wrap .i64 ((x.room : Int) - (x.l.length : Int)) + 1) < IntKind.wrap .i64 (IntKind.wrap .i64 (Int.tdiv (g.length : Int) (if (1 : Int) > p then 1 else p)) + 1) then IntKind.wrap .i64 (IntKind.wrap .i64 ((x.room : Int) - (x.l.length : Int)) + 1) else IntKind.wrap .i64 (IntKind.wrap .i64 (Int.tdiv (g.length : Int) (if (1 : Int) > p then 1 else p)) + 1)).toNat = x.fetchN g p := by
      obtain ⟨q, rfl⟩ := Int.eq_ofNat_of_zero_le (show 0 ≤ p by omega)
      have e1 : (if (1 : Int) > (q : Int) then 1 else (q : Int)) = (q : Int) := by split <;> omega
      rw [e1]
      have hd : g.length / q ≤ g.length := Nat.div_le_self ..
      have e2 : IntKind.wrap .i64 (Int.tdiv (g.length : Int) (q : Int)) = ((g.length / q : Nat) : Int) := wn rfl (by omega)
      rw [e2, wrap_succ (by omega), wrap_in (n := (x.room : Int) - (x.l.length : Int)) (by omega) (by omega), wrap_in (n := (x.room : Int) - (x.l.length : Int) + 1) (by omega) (by omega)]
      unfold Loc.fetchN
      rw [if_neg hp1, Int.toNat_natCast]
      generalize g.length / q = z at *
      split <;> omega
    revert hn
    generalize (if IntKind.wrap .i64 (IntKind.wrap .i64 ((x.room : Int) - (x.l.length : Int)) + 1) < IntKind.wrap .i64 (IntKind.wrap .i64 (Int.tdiv (g.length : Int) (if (1 : Int) > p then 1 else p)) + 1) then IntKind.wrap .i64 (IntKind.wrap .i64 ((x.room : Int) - (x.l.length : Int)) + 1) else IntKind.wrap .i64 (IntKind.wrap .i64 (Int.tdiv (g.length : Int) (if (1 : Int) > p then 1 else p)) + 1)) = n
    intro hn
    refine local_gTake h (by omega) ?_
    clear h
    intro A c M h
    rw [hn] at h ⊢
    repeat (first | (refine s_nwc h ?_; clear h; intro kb M h) | (refine s_stc h ?_; clear h; intro M h) | refine t_exI h ?_ | refine t_exB h ?_ | refine t_exS h ?_ | refine t_exP h ?_ | refine t_exSl h ?_ | refine t_exV h ?_ | refine u_exI ?_ | refine u_exB ?_ | refine u_exS ?_ | refine u_exP ?_ | refine u_exSl ?_ | refine u_exV ?_ | refine u_nilc ?_ | (apply Exists.intro; (repeat apply Exists.intro); refine And.intro rfl ?_) | (refine And.intro ?_ ?_; first | exact trivial | exact rfl | exact t_ld h | (refine lds_s (t_ld h) ?_; (repeat (refine lds_s (t_ld h) ?_)); exact lds_nil) | omega) | refine u_bspT ?_ | refine u_bspF ?_)
    cases hg : g.take (x.fetchN g p) with
    | nil =>
      have hg0 : g = [] := by
        have := congrArg List.length hg
        rw [List.length_take, List.length_nil] at this
        exact List.length_eq_zero_iff.1 (by omega)
      have hp : x.fetch g p = (x, g, -1) := by unfold Loc.fetch; rw [hg]
      rw [hp] at k
      refine u_bspC rfl ?_
      have e3 : g.drop (x.fetchN g p) = g := by rw [hg0]; simp
      rw [e3] at h
      exact k false _ (fun _ _ => rfl) (fun h1 => absurd hg0 h1) ((loc_close h b).sub (by repeat (first | exact Sub.refl | refine Sub.cons (by first | exact Pick.here | exact (.there .here) | exact (.there (.there .here)) | exact (.there (.there (.there .here))) | exact (.there (.there (.there (.there .here)))) | exact (.there (.there (.there (.there (.there .here))))) | exact (.there (.there (.there (.there (.there (.there .here)))))) | exact (.there (.there (.there (.there (.there (.there (.there .here))))))) | exact (.there (.there (.there (.there (.there (.there (.there (.there .here)))))))) | exact (.there (.there (.there (.there (.there (.there (.there (.there (.there .here))))))))) | exact (.there (.there (.there (.there (.there (.there (.there (.there (.there (.there .here)))))))))) | exact (.there (.there (.there (.there (.there (.there (.there (.there (.there (.there (.there .here))))))))))) | exact (.there (.there (.there (.there (.there (.there (.there (.there (.there (.there (.there (.there .here)))))))))))) | exact (.there (.there (.there (.there (.there (.there (.there (.there (.there (.there (.there (.there (.there .here))))))))))))) | exact (.there (.there (.there (.there (.there (.there (.there (.there (.there (.there (.there (.there (.there (.there .here)))))))))))))) | exact (.there (.there (.there (.there (.there (.there (.there (.there (.there (.there (.there (.there (.there (.there (.there .here)))))))))))))))) ?_ | refine Sub.drop ?_)))
    | cons v out =>
      have hp : x.fetch g p = ({ x with l := x.l ++ out }, g.drop (x.fetchN g p), v) := by unfold Loc.fetch; rw [hg]
      rw [hp] at k
      have hol : out.length + 1 ≤ x.fetchN g p := by
        have := congrArg List.length hg
        rw [List.length_take, List.length_cons] at this
        omega
      refine u_bspD (by simp; omega) ?_
      rw [hg] at h
      generalize g.drop (x.fetchN g p) = g2 at *
      have hgn : g ≠ [] := by rintro rfl; simp at hg
      obtain ⟨A0, hA0⟩ : ∃ A0, A0 = slA A 1 c 1 := ⟨_, rfl⟩
      have hcap := h.row_le A
      rw [List.length_cons] at hcap
      simp only [Int.toNat_natCast, List.length_cons]
      repeat (first | (refine s_nwc h ?_; clear h; intro kb M h) | (refine s_stc h ?_; clear h; intro M h) | refine t_exI h ?_ | refine t_exB h ?_ | refine t_exS h ?_ | refine t_exP h ?_ | refine t_exSl h ?_ | refine t_exV h ?_ | refine u_exI ?_ | refine u_exB ?_ | refine u_exS ?_ | refine u_exP ?_ | refine u_exSl ?_ | refine u_exV ?_ | refine u_nilc ?_ | (apply Exists.intro; (repeat apply Exists.intro); refine And.intro rfl ?_) | (refine And.intro ?_ ?_; first | exact trivial | exact rfl | exact t_ld h | (refine lds_s (t_ld h) ?_; (repeat (refine lds_s (t_ld h) ?_)); exact lds_nil) | omega) | refine u_bspT ?_ | refine u_bspF ?_)
      refine ⟨fun d ws M => ∃ i : Nat, ws = [.int .i64 (i : Int)] ∧ d = out.length - i ∧ i ≤ out.length ∧
        Hp R (rowP intE 3 A c (v :: out) :: pt b [.int .i64 x.next, .pointer (some ⟨rb, 0, none⟩)] 166 :: objP ringR rb ⟨x.room, x.l ++ out.take i⟩ :: objP glR gb g2 :: L'') M,
        ⟨_, 0, rfl, rfl, by omega, by rw [List.take_zero, List.append_nil]; exact h.sub (by repeat (first | exact Sub.refl | refine Sub.cons (by first | exact Pick.here | exact (.there .here) | exact (.there (.there .here)) | exact (.there (.there (.there .here))) | exact (.there (.there (.there (.there .here)))) | exact (.there (.there (.there (.there (.there .here))))) | exact (.there (.there (.there (.there (.there (.there .here)))))) | exact (.there (.there (.there (.there (.there (.there (.there .here))))))) | exact (.there (.there (.there (.there (.there (.there (.there (.there .here)))))))) | exact (.there (.there (.there (.there (.there (.there (.there (.there (.there .here))))))))) | exact (.there (.there (.there (.there (.there (.there (.there (.there (.there (.there .here)))))))))) | exact (.there (.there (.there (.there (.there (.there (.there (.there (.there (.there (.there .here))))))))))) | exact (.there (.there (.there (.there (.there (.there (.there (.there (.there (.there (.there (.there .here)))))))))))) | exact (.there (.there (.there (.there (.there (.there (.there (.there (.there (.there (.there (.there (.there .here))))))))))))) | exact (.there (.there (.there (.there (.there (.there (.there (.there (.there (.there (.there (.there (.there (.there .here)))))))))))))) | exact (.there (.there (.there (.there (.there (.there (.there (.there (.there (.there (.there (.there (.there (.there (.there .here)))))))))))))))) ?_ | refine Sub.drop ?_))⟩, ?_⟩
      clear h
      rintro d _ ii M ⟨i, he, hd, hi, h⟩
      simp only [List.cons.injEq, Value.int.injEq, and_true, true_and] at he
      subst he
      refine bsp_dec.2 ⟨fun hlt => ?_, fun hge => ?_⟩
      · obtain ⟨w, hw⟩ := idx_ex (l := out) (i := i) (by omega)
        have s0 := Src.suf1 (h.src (A := A)) (by rw [List.length_cons]; exact hcap) 1
        rw [← hA0] at s0 ⊢
        rw [show (v :: out).drop 1 = out from rfl] at s0
        obtain ⟨b0, o0, rfl⟩ := s0.someE h (by omega) (by decide)
        repeat (first | (refine s_nwc h ?_; clear h; intro kb M h) | (refine s_stc h ?_; clear h; intro M h) | refine t_exI h ?_ | refine t_exB h ?_ | refine t_exS h ?_ | refine t_exP h ?_ | refine t_exSl h ?_ | refine t_exV h ?_ | refine u_exI ?_ | refine u_exB ?_ | refine u_exS ?_ | refine u_exP ?_ | refine u_exSl ?_ | refine u_exV ?_ | refine u_nilc ?_ | (apply Exists.intro; (repeat apply Exists.intro); refine And.intro rfl ?_) | (refine And.intro ?_ ?_; first | exact trivial | exact rfl | exact t_ld h | (refine lds_s (t_ld h) ?_; (repeat (refine lds_s (t_ld h) ?_)); exact lds_nil) | omega) | refine u_bspT ?_ | refine u_bspF ?_)
        simp only [Int.toNat_natCast]
        refine v_exI (s0.at h (i := i) (j := 0) hw rfl (by simp [intE])) ?_
        repeat (first | (refine s_nwc h ?_; clear h; intro kb M h) | (refine s_stc h ?_; clear h; intro M h) | refine t_exI h ?_ | refine t_exB h ?_ | refine t_exS h ?_ | refine t_exP h ?_ | refine t_exSl h ?_ | refine t_exV h ?_ | refine u_exI ?_ | refine u_exB ?_ | refine u_exS ?_ | refine u_exP ?_ | refine u_exSl ?_ | refine u_exV ?_ | refine u_nilc ?_ | (apply Exists.intro; (repeat apply Exists.intro); refine And.intro rfl ?_) | (refine And.intro ?_ ?_; first | exact trivial | exact rfl | exact t_ld h | (refine lds_s (t_ld h) ?_; (repeat (refine lds_s (t_ld h) ?_)); exact lds_nil) | omega) | refine u_bspT ?_ | refine u_bspF ?_)
        refine ring_Push (v := w) h (fun e M' h' => ?_) fun e M' h' => ?_
        · exfalso
          simp only [List.length_append, List.length_take] at e
          omega
        · clear h
          have h := h'
          clear h'
          repeat (first | (refine s_nwc h ?_; clear h; intro kb M h) | (refine s_stc h ?_; clear h; intro M h) | refine t_exI h ?_ | refine t_exB h ?_ | refine t_exS h ?_ | refine t_exP h ?_ | refine t_exSl h ?_ | refine t_exV h ?_ | refine u_exI ?_ | refine u_exB ?_ | refine u_exS ?_ | refine u_exP ?_ | refine u_exSl ?_ | refine u_exV ?_ | refine u_nilc ?_ | (apply Exists.intro; (repeat apply Exists.intro); refine And.intro rfl ?_) | (refine And.intro ?_ ?_; first | exact trivial | exact rfl | exact t_ld h | (refine lds_s (t_ld h) ?_; (repeat (refine lds_s (t_ld h) ?_)); exact lds_nil) | omega) | refine u_bspT ?_ | refine u_bspF ?_)
          rw [wrap_succ (by omega)]
          refine ⟨out.length - (i + 1), by omega, i + 1, rfl, rfl, by omega, ?_⟩
          rw [take_snoc hw, ← List.append_assoc]
          exact h.sub (by repeat (first | exact Sub.refl | refine Sub.cons (by first | exact Pick.here | exact (.there .here) | exact (.there (.there .here)) | exact (.there (.there (.there .here))) | exact (.there (.there (.there (.there .here)))) | exact (.there (.there (.there (.there (.there .here))))) | exact (.there (.there (.there (.there (.there (.there .here)))))) | exact (.there (.there (.there (.there (.there (.there (.there .here))))))) | exact (.there (.there (.there (.there (.there (.there (.there (.there .here)))))))) | exact (.there (.there (.there (.there (.there (.there (.there (.there (.there .here))))))))) | exact (.there (.there (.there (.there (.there (.there (.there (.there (.there (.there .here)))))))))) | exact (.there (.there (.there (.there (.there (.there (.there (.there (.there (.there (.there .here))))))))))) | exact (.there (.there (.there (.there (.there (.there (.there (.there (.there (.there (.there (.there .here)))))))))))) | exact (.there (.there (.there (.there (.there (.there (.there (.there (.there (.there (.there (.there (.there .here))))))))))))) | exact (.there (.there (.there (.there (.there (.there (.there (.there (.there (.there (.there (.there (.there (.there .here)))))))))))))) | exact (.there (.there (.there (.there (.there (.there (.there (.there (.there (.there (.there (.there (.there (.there (.there .here)))))))))))))))) ?_ | refine Sub.drop ?_))
      · obtain rfl : i = out.length := by omega
        rw [List.take_length] at h
        have s0 := h.src (A := A)
        obtain ⟨b0, rfl⟩ := h.row_some (A := A) (by simp) (by decide)
        repeat (first | (refine s_nwc h ?_; clear h; intro kb M h) | (refine s_stc h ?_; clear h; intro M h) | refine t_exI h ?_ | refine t_exB h ?_ | refine t_exS h ?_ | refine t_exP h ?_ | refine t_exSl h ?_ | refine t_exV h ?_ | refine u_exI ?_ | refine u_exB ?_ | refine u_exS ?_ | refine u_exP ?_ | refine u_exSl ?_ | refine u_exV ?_ | refine u_nilc ?_ | (apply Exists.intro; (repeat apply Exists.intro); refine And.intro rfl ?_) | (refine And.intro ?_ ?_; first | exact trivial | exact rfl | exact t_ld h | (refine lds_s (t_ld h) ?_; (repeat (refine lds_s (t_ld h) ?_)); exact lds_nil) | omega) | refine u_bspT ?_ | refine u_bspF ?_)
        refine v_exI (s0.at h (i := 0) (j := 0) rfl rfl (by simp [intE])) ?_
        repeat (first | (refine s_nwc h ?_; clear h; intro kb M h) | (refine s_stc h ?_; clear h; intro M h) | refine t_exI h ?_ | refine t_exB h ?_ | refine t_exS h ?_ | refine t_exP h ?_ | refine t_exSl h ?_ | refine t_exV h ?_ | refine u_exI ?_ | refine u_exB ?_ | refine u_exS ?_ | refine u_exP ?_ | refine u_exSl ?_ | refine u_exV ?_ | refine u_nilc ?_ | (apply Exists.intro; (repeat apply Exists.intro); refine And.intro rfl ?_) | (refine And.intro ?_ ?_; first | exact trivial | exact rfl | exact t_ld h | (refine lds_s (t_ld h) ?_; (repeat (refine lds_s (t_ld h) ?_)); exact lds_nil) | omega) | refine u_bspT ?_ | refine u_bspF ?_)
        exact k true _ (fun _ h1 => absurd h1 hgn) (fun _ => rfl) ((loc_close h b).sub (by repeat (first | exact Sub.refl | refine Sub.cons (by first | exact Pick.here | exact (.there .here) | exact (.there (.there .here)) | exact (.there (.there (.there .here))) | exact (.there (.there (.there (.there .here)))) | exact (.there (.there (.there (.there (.there .here))))) | exact (.there (.there (.there (.there (.there (.there .here)))))) | exact (.there (.there (.there (.there (.there (.there (.there .here))))))) | exact (.there (.there (.there (.there (.there (.there (.there (.there .here)))))))) | exact (.there (.there (.there (.there (.there (.there (.there (.there (.there .here))))))))) | exact (.there (.there (.there (.there (.there (.there (.there (.there (.there (.there .here)))))))))) | exact (.there (.there (.there (.there (.there (.there (.there (.there (.there (.there (.there .here))))))))))) | exact (.there (.there (.there (.there (.there (.there (.there (.there (.there (.there (.there (.there .here)))))))))))) | exact (.there (.there (.there (.there (.there (.there (.there (.there (.there (.there (.there (.there (.there .here))))))))))))) | exact (.there (.there (.there (.there (.there (.there (.there (.there (.there (.there (.there (.there (.there (.there .here)))))))))))))) | exact (.there (.there (.there (.there (.there (.there (.there (.there (.there (.there (.there (.there (.there (.there (.there .here)))))))))))))))) ?_ | refine Sub.drop ?_)))

theorem local_Steal (h : Hp R L M) [o : ObjAt locR b L x L'] [of : ObjAt locR b' L' f L'']
    (k : ∀ t M', ((x.steal f).2.2 = -1 → f.l = [] → t = false) → ((x.steal f).2.2 ≠ -1 ∨ f.l ≠ [] → t = true) → Hp R (objP locR b (x.steal f).1 :: objP locR b' (x.steal f).2.1 :: L'') M' → K (.tuple #[.int .i64 (x.steal f).2.2, .bool t]) M') :
    ACalls Try.prog 62 #[.pointer (some ⟨b, 0, none⟩), .pointer (some ⟨b', 0, none⟩)] M K Kp := by
  have bd := loc_bd h (b := b)
  obtain ⟨bd1, bd2, bd3⟩ := bd
  have h0 : Hp R (objP locR b x :: objP locR b' f :: L'') M := (h.pick o.pick).map fun _ hs => hs.tail (fun _ => Star.pick of.pick)
  clear h
  have h := h0
  clear h0
  have bdf := loc_bd h (b := b')
  obtain ⟨bf1, bf2, bf3⟩ := bdf
  refine vc_local_Local_Steal ?_
  have h' := loc_open h (b := b)
  clear h
  obtain ⟨rb, h⟩ := h'
  have h' := loc_open h (b := b')
  clear h
  obtain ⟨rf, h⟩ := h'
  have hne : b' ≠ b := pts_ne h
  refine ptr_ne (Ne.symm hne) (plain_at h (b := b)) (plain_at h (b := b')) ?_
  repeat (first | (refine s_nwc h ?_; clear h; intro kb M h) | (refine s_stc h ?_; clear h; intro M h) | refine t_exI h ?_ | refine t_exB h ?_ | refine t_exS h ?_ | refine t_exP h ?_ | refine t_exSl h ?_ | refine t_exV h ?_ | refine u_exI ?_ | refine u_exB ?_ | refine u_exS ?_ | refine u_exP ?_ | refine u_exSl ?_ | refine u_exV ?_ | refine u_nilc ?_ | (apply Exists.intro; (repeat apply Exists.intro); refine And.intro rfl ?_) | (refine And.intro ?_ ?_; first | exact trivial | exact rfl | exact t_ld h | (refine lds_s (t_ld h) ?_; (repeat (refine lds_s (t_ld h) ?_)); exact lds_nil) | omega) | refine u_bspT ?_ | refine u_bspF ?_)
  refine ring_Len h ?_
  repeat (first | (refine s_nwc h ?_; clear h; intro kb M h) | (refine s_stc h ?_; clear h; intro M h) | refine t_exI h ?_ | refine t_exB h ?_ | refine t_exS h ?_ | refine t_exP h ?_ | refine t_exSl h ?_ | refine t_exV h ?_ | refine u_exI ?_ | refine u_exB ?_ | refine u_exS ?_ | refine u_exP ?_ | refine u_exSl ?_ | refine u_exV ?_ | refine u_nilc ?_ | (apply Exists.intro; (repeat apply Exists.intro); refine And.intro rfl ?_) | (refine And.intro ?_ ?_; first | exact trivial | exact rfl | exact t_ld h | (refine lds_s (t_ld h) ?_; (repeat (refine lds_s (t_ld h) ?_)); exact lds_nil) | omega) | refine u_bspT ?_ | refine u_bspF ?_)
  dsimp only at *
  refine bsp_eq.2 ⟨fun e => ?_, fun e => ?_⟩
  · have hl : f.l = [] := List.length_eq_zero_iff.1 (by omega)
    have hp : x.steal f = (x, { f with next := -1 }, f.next) := by unfold Loc.steal; rw [hl, List.take_nil]
    rw [hp] at k
    repeat (first | (refine s_nwc h ?_; clear h; intro kb M h) | (refine s_stc h ?_; clear h; intro M h) | refine t_exI h ?_ | refine t_exB h ?_ | refine t_exS h ?_ | refine t_exP h ?_ | refine t_exSl h ?_ | refine t_exV h ?_ | refine u_exI ?_ | refine u_exB ?_ | refine u_exS ?_ | refine u_exP ?_ | refine u_exSl ?_ | refine u_exV ?_ | refine u_nilc ?_ | (apply Exists.intro; (repeat apply Exists.intro); refine And.intro rfl ?_) | (refine And.intro ?_ ?_; first | exact trivial | exact rfl | exact t_ld h | (refine lds_s (t_ld h) ?_; (repeat (refine lds_s (t_ld h) ?_)); exact lds_nil) | omega) | refine u_bspT ?_ | refine u_bspF ?_)
    have h2 := loc_close (loc_close h b) b'
    exact k _ _ (fun h1 _ => by dsimp only at h1; rw [h1]; rfl) (fun h1 => by rcases h1 with h1 | h1; exact bne_iff_ne.2 h1; exact absurd hl h1) (h2.sub (by repeat (first | exact Sub.refl | refine Sub.cons (by first | exact Pick.here | exact (.there .here) | exact (.there (.there .here)) | exact (.there (.there (.there .here))) | exact (.there (.there (.there (.there .here)))) | exact (.there (.there (.there (.there (.there .here))))) | exact (.there (.there (.there (.there (.there (.there .here)))))) | exact (.there (.there (.there (.there (.there (.there (.there .here))))))) | exact (.there (.there (.there (.there (.there (.there (.there (.there .here)))))))) | exact (.there (.there (.there (.there (.there (.there (.there (.there (.there .here))))))))) | exact (.there (.there (.there (.there (.there (.there (.there (.there (.there (.there .here)))))))))) | exact (.there (.there (.there (.there (.there (.there (.there (.there (.there (.there (.there .here))))))))))) | exact (.there (.there (.there (.there (.there (.there (.there (.there (.there (.there (.there (.there .here)))))))))))) | exact (.there (.there (.there (.there (.there (.there (.there (.there (.there (.there (.there (.there (.there .here))))))))))))) | exact (.there (.there (.there (.there (.there (.there (.there (.there (.there (.there (.there (.there (.there (.there .here)))))))))))))) | exact (.there (.there (.there (.there (.there (.there (.there (.there (.there (.there (.there (.there (.there (.there (.there .here)))))))))))))))) ?_ | refine Sub.drop ?_)))
  · have hn0 : 1 ≤ x.stealN f := by unfold Loc.stealN; omega
    have hn1 : x.l.length + (x.stealN f - 1) ≤ x.room := by unfold Loc.stealN; omega
    repeat (first | (refine s_nwc h ?_; clear h; intro kb M h) | (refine s_stc h ?_; clear h; intro M h) | refine t_exI h ?_ | refine t_exB h ?_ | refine t_exS h ?_ | refine t_exP h ?_ | refine t_exSl h ?_ | refine t_exV h ?_ | refine u_exI ?_ | refine u_exB ?_ | refine u_exS ?_ | refine u_exP ?_ | refine u_exSl ?_ | refine u_exV ?_ | refine u_nilc ?_ | (apply Exists.intro; (repeat apply Exists.intro); refine And.intro rfl ?_) | (refine And.intro ?_ ?_; first | exact trivial | exact rfl | exact t_ld h | (refine lds_s (t_ld h) ?_; (repeat (refine lds_s (t_ld h) ?_)); exact lds_nil) | omega) | refine u_bspT ?_ | refine u_bspF ?_)
    refine ring_Room h ?_
    repeat (first | (refine s_nwc h ?_; clear h; intro kb M h) | (refine s_stc h ?_; clear h; intro M h) | refine t_exI h ?_ | refine t_exB h ?_ | refine t_exS h ?_ | refine t_exP h ?_ | refine t_exSl h ?_ | refine t_exV h ?_ | refine u_exI ?_ | refine u_exB ?_ | refine u_exS ?_ | refine u_exP ?_ | refine u_exSl ?_ | refine u_exV ?_ | refine u_nilc ?_ | (apply Exists.intro; (repeat apply Exists.intro); refine And.intro rfl ?_) | (refine And.intro ?_ ?_; first | exact trivial | exact rfl | exact t_ld h | (refine lds_s (t_ld h) ?_; (repeat (refine lds_s (t_ld h) ?_)); exact lds_nil) | omega) | refine u_bspT ?_ | refine u_bspF ?_)
    refine ring_Len h ?_
    repeat (first | (refine s_nwc h ?_; clear h; intro kb M h) | (refine s_stc h ?_; clear h; intro M h) | refine t_exI h ?_ | refine t_exB h ?_ | refine t_exS h ?_ | refine t_exP h ?_ | refine t_exSl h ?_ | refine t_exV h ?_ | refine u_exI ?_ | refine u_exB ?_ | refine u_exS ?_ | refine u_exP ?_ | refine u_exSl ?_ | refine u_exV ?_ | refine u_nilc ?_ | (apply Exists.intro; (repeat apply Exists.intro); refine And.intro rfl ?_) | (refine And.intro ?_ ?_; first | exact trivial | exact rfl | exact t_ld h | (refine lds_s (t_ld h) ?_; (repeat (refine lds_s (t_ld h) ?_)); exact lds_nil) | omega) | refine u_bspT ?_ | refine u_bspF ?_)
    dsimp only at *
    have hn : (if IntKind.wrap .i64 (IntKind.wrap .i64 ((x.room : Int) - (x.l.length : Int)) + 1) < IntKind.wrap .i64 ((f.l.length : Int) - IntKind.wrap .i64 (Int.tdiv (f.l.length : Int) 2)) then IntKind.wrap .i64 (IntKind.wrap .i64 ((x.room : Int) - (x.l.length : Int)) + 1) else IntKind.wrap .i64 ((f.l.length : Int) - IntKind.wrap .i64 (Int.tdiv (f.l.length : Int) 2))).toNat = x.stealN f := by
      have e2 : IntKind.wrap .i64 (Int.tdiv (f.l.length : Int) 2) = ((f.l.length / 2 : Nat) : Int) := wn rfl (by omega)
      rw [e2, wrap_in (n := (x.room : Int) - (x.l.length : Int)) (by omega) (by omega), wrap_in (n := (x.room : Int) - (x.l.length : Int) + 1) (by omega) (by omega), wrap_in (n := (f.l.length : Int) - ((f.l.length / 2 : Nat) : Int)) (by omega) (by omega)]
      unfold Loc.stealN
      split <;> omega
    revert hn
    generalize (if IntKind.wrap .i64 (IntKind.wrap .i64 ((x.room : Int) - (x.l.length : Int)) + 1) < IntKind.wrap .i64 ((f.l.length : Int) - IntKind.wrap .i64 (Int.tdiv (f.l.length : Int) 2)) then IntKind.wrap .i64 (IntKind.wrap .i64 ((x.room : Int) - (x.l.length : Int)) + 1) else IntKind.wrap .i64 ((f.l.length : Int) - IntKind.wrap .i64 (Int.tdiv (f.l.length : Int) 2))) = n
    intro hn
    refine ring_Take h ?_
    clear h
    intro A c M h
    rw [hn] at h ⊢
    repeat (first | (refine s_nwc h ?_; clear h; intro kb M h) | (refine s_stc h ?_; clear h; intro M h) | refine t_exI h ?_ | refine t_exB h ?_ | refine t_exS h ?_ | refine t_exP h ?_ | refine t_exSl h ?_ | refine t_exV h ?_ | refine u_exI ?_ | refine u_exB ?_ | refine u_exS ?_ | refine u_exP ?_ | refine u_exSl ?_ | refine u_exV ?_ | refine u_nilc ?_ | (apply Exists.intro; (repeat apply Exists.intro); refine And.intro rfl ?_) | (refine And.intro ?_ ?_; first | exact trivial | exact rfl | exact t_ld h | (refine lds_s (t_ld h) ?_; (repeat (refine lds_s (t_ld h) ?_)); exact lds_nil) | omega) | refine u_bspT ?_ | refine u_bspF ?_)
    cases hg : f.l.take (x.stealN f) with
    | nil =>
      exfalso
      have := congrArg List.length hg
      rw [List.length_take, List.length_nil] at this
      omega
    | cons v out =>
      have hp : x.steal f = ({ x with l := x.l ++ out }, { f with l := f.l.drop (x.stealN f) }, v) := by unfold Loc.steal; rw [hg]
      rw [hp] at k
      have hol : out.length + 1 ≤ x.stealN f := by
        have := congrArg List.length hg
        rw [List.length_take, List.length_cons] at this
        omega
      dsimp only at h
      rw [hg] at h
      generalize f.l.drop (x.stealN f) = f2 at *
      have hgn : f.l ≠ [] := by intro e0; rw [e0] at hg; simp at hg
      obtain ⟨A0, hA0⟩ : ∃ A0, A0 = slA A 1 c 1 := ⟨_, rfl⟩
      have hcap := h.row_le A
      rw [List.length_cons] at hcap
      simp only [Int.toNat_natCast, List.length_cons]
      repeat (first | (refine s_nwc h ?_; clear h; intro kb M h) | (refine s_stc h ?_; clear h; intro M h) | refine t_exI h ?_ | refine t_exB h ?_ | refine t_exS h ?_ | refine t_exP h ?_ | refine t_exSl h ?_ | refine t_exV h ?_ | refine u_exI ?_ | refine u_exB ?_ | refine u_exS ?_ | refine u_exP ?_ | refine u_exSl ?_ | refine u_exV ?_ | refine u_nilc ?_ | (apply Exists.intro; (repeat apply Exists.intro); refine And.intro rfl ?_) | (refine And.intro ?_ ?_; first | exact trivial | exact rfl | exact t_ld h | (refine lds_s (t_ld h) ?_; (repeat (refine lds_s (t_ld h) ?_)); exact lds_nil) | omega) | refine u_bspT ?_ | refine u_bspF ?_)
      refine ⟨fun d ws M => ∃ i : Nat, ws = [.int .i64 (i : Int)] ∧ d = out.length - i ∧ i ≤ out.length ∧
        Hp R (rowP intE 3 A c (v :: out) :: pt b [.int .i64 x.next, .pointer (some ⟨rb, 0, none⟩)] 166 :: objP ringR rb ⟨x.room, x.l ++ out.take i⟩ :: objP ringR rf ⟨f.room, f2⟩ :: pt b' [.int .i64 f.next, .pointer (some ⟨rf, 0, none⟩)] 166 :: L'') M,
        ⟨_, 0, rfl, rfl, by omega, by rw [List.take_zero, List.append_nil]; exact h.sub (by repeat (first | exact Sub.refl | refine Sub.cons (by first | exact Pick.here | exact (.there .here) | exact (.there (.there .here)) | exact (.there (.there (.there .here))) | exact (.there (.there (.there (.there .here)))) | exact (.there (.there (.there (.there (.there .here))))) | exact (.there (.there (.there (.there (.there (.there .here)))))) | exact (.there (.there (.there (.there (.there (.there (.there .here))))))) | exact (.there (.there (.there (.there (.there (.there (.there (.there .here)))))))) | exact (.there (.there (.there (.there (.there (.there (.there (.there (.there .here))))))))) | exact (.there (.there (.there (.there (.there (.there (.there (.there (.there (.there .here)))))))))) | exact (.there (.there (.there (.there (.there (.there (.there (.there (.there (.there (.there .here))))))))))) | exact (.there (.there (.there (.there (.there (.there (.there (.there (.there (.there (.there (.there .here)))))))))))) | exact (.there (.there (.there (.there (.there (.there (.there (.there (.there (.there (.there (.there (.there .here))))))))))))) | exact (.there (.there (.there (.there (.there (.there (.there (.there (.there (.there (.there (.there (.there (.there .here)))))))))))))) | exact (.there (.there (.there (.there (.there (.there (.there (.there (.there (.there (.there (.there (.there (.there (.there .here)))))))))))))))) ?_ | refine Sub.drop ?_))⟩, ?_⟩
      clear h
      rintro d _ ii M ⟨i, he, hd, hi, h⟩
      simp only [List.cons.injEq, Value.int.injEq, and_true, true_and] at he
      subst he
      refine bsp_dec.2 ⟨fun hlt => ?_, fun hge => ?_⟩
      · obtain ⟨w, hw⟩ := idx_ex (l := out) (i := i) (by omega)
        have s0 := Src.suf1 (h.src (A := A)) (by rw [List.length_cons]; exact hcap) 1
        rw [← hA0] at s0 ⊢
        rw [show (v :: out).drop 1 = out from rfl] at s0
        obtain ⟨b0, o0, rfl⟩ := s0.someE h (by omega) (by decide)
        repeat (first | (refine s_nwc h ?_; clear h; intro kb M h) | (refine s_stc h ?_; clear h; intro M h) | refine t_exI h ?_ | refine t_exB h ?_ | refine t_exS h ?_ | refine t_exP h ?_ | refine t_exSl h ?_ | refine t_exV h ?_ | refine u_exI ?_ | refine u_exB ?_ | refine u_exS ?_ | refine u_exP ?_ | refine u_exSl ?_ | refine u_exV ?_ | refine u_nilc ?_ | (apply Exists.intro; (repeat apply Exists.intro); refine And.intro rfl ?_) | (refine And.intro ?_ ?_; first | exact trivial | exact rfl | exact t_ld h | (refine lds_s (t_ld h) ?_; (repeat (refine lds_s (t_ld h) ?_)); exact lds_nil) | omega) | refine u_bspT ?_ | refine u_bspF ?_)
        simp only [Int.toNat_natCast]
        refine v_exI (s0.at h (i := i) (j := 0) hw rfl (by simp [intE])) ?_
        repeat (first | (refine s_nwc h ?_; clear h; intro kb M h) | (refine s_stc h ?_; clear h; intro M h) | refine t_exI h ?_ | refine t_exB h ?_ | refine t_exS h ?_ | refine t_exP h ?_ | refine t_exSl h ?_ | refine t_exV h ?_ | refine u_exI ?_ | refine u_exB ?_ | refine u_exS ?_ | refine u_exP ?_ | refine u_exSl ?_ | refine u_exV ?_ | refine u_nilc ?_ | (apply Exists.intro; (repeat apply Exists.intro); refine And.intro rfl ?_) | (refine And.intro ?_ ?_; first | exact trivial | exact rfl | exact t_ld h | (refine lds_s (t_ld h) ?_; (repeat (refine lds_s (t_ld h) ?_)); exact lds_nil) | omega) | refine u_bspT ?_ | refine u_bspF ?_)
        refine ring_Push (v := w) h (fun e M' h' => ?_) fun e M' h' => ?_
        · exfalso
          simp only [List.length_append, List.length_take] at e
          omega
        · clear h
          have h := h'
          clear h'
          repeat (first | (refine s_nwc h ?_; clear h; intro kb M h) | (refine s_stc h ?_; clear h; intro M h) | refine t_exI h ?_ | refine t_exB h ?_ | refine t_exS h ?_ | refine t_exP h ?_ | refine t_exSl h ?_ | refine t_exV h ?_ | refine u_exI ?_ | refine u_exB ?_ | refine u_exS ?_ | refine u_exP ?_ | refine u_exSl ?_ | refine u_exV ?_ | refine u_nilc ?_ | (apply Exists.intro; (repeat apply Exists.intro); refine And.intro rfl ?_) | (refine And.intro ?_ ?_; first | exact trivial | exact rfl | exact t_ld h | (refine lds_s (t_ld h) ?_; (repeat (refine lds_s (t_ld h) ?_)); exact lds_nil) | omega) | refine u_bspT ?_ | refine u_bspF ?_)
          rw [wrap_succ (by omega)]
          refine ⟨out.length - (i + 1), by omega, i + 1, rfl, rfl, by omega, ?_⟩
          rw [take_snoc hw, ← List.append_assoc]
          exact h.sub (by repeat (first | exact Sub.refl | refine Sub.cons (by first | exact Pick.here | exact (.there .here) | exact (.there (.there .here)) | exact (.there (.there (.there .here))) | exact (.there (.there (.there (.there .here)))) | exact (.there (.there (.there (.there (.there .here))))) | exact (.there (.there (.there (.there (.there (.there .here)))))) | exact (.there (.there (.there (.there (.there (.there (.there .here))))))) | exact (.there (.there (.there (.there (.there (.there (.there (.there .here)))))))) | exact (.there (.there (.there (.there (.there (.there (.there (.there (.there .here))))))))) | exact (.there (.there (.there (.there (.there (.there (.there (.there (.there (.there .here)))))))))) | exact (.there (.there (.there (.there (.there (.there (.there (.there (.there (.there (.there .here))))))))))) | exact (.there (.there (.there (.there (.there (.there (.there (.there (.there (.there (.there (.there .here)))))))))))) | exact (.there (.there (.there (.there (.there (.there (.there (.there (.there (.there (.there (.there (.there .here))))))))))))) | exact (.there (.there (.there (.there (.there (.there (.there (.there (.there (.there (.there (.there (.there (.there .here)))))))))))))) | exact (.there (.there (.there (.there (.there (.there (.there (.there (.there (.there (.there (.there (.there (.there (.there .here)))))))))))))))) ?_ | refine Sub.drop ?_))
      · obtain rfl : i = out.length := by omega
        rw [List.take_length] at h
        have s0 := h.src (A := A)
        obtain ⟨b0, rfl⟩ := h.row_some (A := A) (by simp) (by decide)
        repeat (first | (refine s_nwc h ?_; clear h; intro kb M h) | (refine s_stc h ?_; clear h; intro M h) | refine t_exI h ?_ | refine t_exB h ?_ | refine t_exS h ?_ | refine t_exP h ?_ | refine t_exSl h ?_ | refine t_exV h ?_ | refine u_exI ?_ | refine u_exB ?_ | refine u_exS ?_ | refine u_exP ?_ | refine u_exSl ?_ | refine u_exV ?_ | refine u_nilc ?_ | (apply Exists.intro; (repeat apply Exists.intro); refine And.intro rfl ?_) | (refine And.intro ?_ ?_; first | exact trivial | exact rfl | exact t_ld h | (refine lds_s (t_ld h) ?_; (repeat (refine lds_s (t_ld h) ?_)); exact lds_nil) | omega) | refine u_bspT ?_ | refine u_bspF ?_)
        refine v_exI (s0.at h (i := 0) (j := 0) rfl rfl (by simp [intE])) ?_
        repeat (first | (refine s_nwc h ?_; clear h; intro kb M h) | (refine s_stc h ?_; clear h; intro M h) | refine t_exI h ?_ | refine t_exB h ?_ | refine t_exS h ?_ | refine t_exP h ?_ | refine t_exSl h ?_ | refine t_exV h ?_ | refine u_exI ?_ | refine u_exB ?_ | refine u_exS ?_ | refine u_exP ?_ | refine u_exSl ?_ | refine u_exV ?_ | refine u_nilc ?_ | (apply Exists.intro; (repeat apply Exists.intro); refine And.intro rfl ?_) | (refine And.intro ?_ ?_; first | exact trivial | exact rfl | exact t_ld h | (refine lds_s (t_ld h) ?_; (repeat (refine lds_s (t_ld h) ?_)); exact lds_nil) | omega) | refine u_bspT ?_ | refine u_bspF ?_)
        have h2 := loc_close (loc_close h b) b'
        exact k true _ (fun _ h1 => absurd h1 hgn) (fun _ => rfl) (h2.sub (by repeat (first | exact Sub.refl | refine Sub.cons (by first | exact Pick.here | exact (.there .here) | exact (.there (.there .here)) | exact (.there (.there (.there .here))) | exact (.there (.there (.there (.there .here)))) | exact (.there (.there (.there (.there (.there .here))))) | exact (.there (.there (.there (.there (.there (.there .here)))))) | exact (.there (.there (.there (.there (.there (.there (.there .here))))))) | exact (.there (.there (.there (.there (.there (.there (.there (.there .here)))))))) | exact (.there (.there (.there (.there (.there (.there (.there (.there (.there .here))))))))) | exact (.there (.there (.there (.there (.there (.there (.there (.there (.there (.there .here)))))))))) | exact (.there (.there (.there (.there (.there (.there (.there (.there (.there (.there (.there .here))))))))))) | exact (.there (.there (.there (.there (.there (.there (.there (.there (.there (.there (.there (.there .here)))))))))))) | exact (.there (.there (.there (.there (.there (.there (.there (.there (.there (.there (.there (.there (.there .here))))))))))))) | exact (.there (.there (.there (.there (.there (.there (.there (.there (.there (.there (.there (.there (.there (.there .here)))))))))))))) | exact (.there (.there (.there (.there (.there (.there (.there (.there (.there (.there (.there (.there (.there (.there (.there .here)))))))))))))))) ?_ | refine Sub.drop ?_)))
end
end Go.Proofs
