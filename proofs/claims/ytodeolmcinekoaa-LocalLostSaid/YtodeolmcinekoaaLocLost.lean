/- A part of proofs about functions of one program: a condition over a partial memory that is enough for a call, and what calls answer by it. No condition of its own. -/
import Derived.Test.YtodeolmcinekoaaLocPlays
namespace Go.Proofs
open Go.AF
set_option linter.unusedVariables false
set_option maxRecDepth 100000
set_option maxHeartbeats 1000000
attribute [local irreducible] exI exB exS exP exSl exV nilc stc nwc semK semU bsp
attribute [local irreducible] objsP objsX
section
variable {R : Mem} {L : List HP} {M : Mem} {K : Value → Mem → Prop} {Kp : List PanicEntry → Mem → Prop}
theorem ul_cmap : Try.prog.underlying 136 = some (.map 3 3) := by kernel_rfl
theorem ul_int : Try.prog.underlying 3 = some (.int .i64) := by kernel_rfl
theorem int_info : (Try.prog.info? 3).map (fun i => i.zero) = some (some (.int .i64 0)) := by kernel_rfl
theorem int_info' : ∃ i, Try.prog.info? 3 = some i ∧ i.zero = some (.int .i64 0) := by
  have h := int_info
  cases hi : Try.prog.info? 3 with
  | none => rw [hi] at h; cases h
  | some i => rw [hi] at h; exact ⟨i, rfl, by simpa using h⟩
/-- Who stands at a queue, in the order in which the law counts. -/
def Loc.cnt (x : Loc) : List Int := x.l ++ (if x.next = -1 then [] else [x.next])
theorem cnt_all (xs : List Loc) (a : Int) : (xs.flatMap Loc.cnt).count a = (xs.flatMap Loc.all).count a := by
  induction xs with
  | nil => rfl
  | cons x xs ih => simp only [List.flatMap_cons, List.count_append, ih, Loc.cnt, Loc.all]; omega
theorem cnt_len (x : Loc) : x.cnt.length = x.all.length := by unfold Loc.cnt Loc.all; simp only [List.length_append]; omega
theorem flat_len (xs : List Loc) : (xs.flatMap Loc.cnt).length = (xs.flatMap Loc.all).length := by
  induction xs with
  | nil => rfl
  | cons x xs ih => simp only [List.flatMap_cons, List.length_append, ih, cnt_len]
theorem flat_take (xs : List Loc) (i : Nat) : ((xs.take i).flatMap Loc.cnt).length ≤ (xs.flatMap Loc.cnt).length := by
  have : xs.flatMap Loc.cnt = (xs.take i).flatMap Loc.cnt ++ (xs.drop i).flatMap Loc.cnt := by rw [← List.flatMap_append, List.take_append_drop]
  rw [this, List.length_append]; omega
set_option maxHeartbeats 4000000 in
theorem localLost {r0 r1 r2 r3 : Int} {A : Option Addr} {n c : Nat} {M0 : Mem} (hs : ArgSl M0 A n c [.i64, .i64, .i64]) (k : ∀ M', Chg [] M0 M' → K (.bool true) M') :
    ACalls Try.prog 16 #[.agg #[.int .i64 r0, .int .i64 r1, .int .i64 r2, .int .i64 r3], .slice A n c] M0 K Kp := by
  obtain ⟨acts, rfl, hc, hrl, hB, hw⟩ := hs
  have hB2 : 0 < acts.length → RS (kE [.i64, .i64, .i64]) M0 A c acts := fun h0 => ⟨hB h0, hc⟩
  refine vc_shunterlaw08_LocalLost ?_
  have h := Hp.start M0
  repeat (first | (refine s_nwc h ?_; clear h; intro kb M h) | (refine s_stc h ?_; clear h; intro M h) | refine t_exI h ?_ | refine t_exB h ?_ | refine t_exS h ?_ | refine t_exP h ?_ | refine t_exSl h ?_ | refine t_exV h ?_ | refine u_exI ?_ | refine u_exB ?_ | refine u_exS ?_ | refine u_exP ?_ | refine u_exSl ?_ | refine u_exV ?_ | refine u_nilc ?_ | (apply Exists.intro; (repeat apply Exists.intro); refine And.intro rfl ?_) | (refine And.intro ?_ ?_; first | exact trivial | exact rfl | exact t_ld h | (refine lds_s (t_ld h) ?_; (repeat (refine lds_s (t_ld h) ?_)); exact lds_nil) | omega) | refine u_bspT ?_ | refine u_bspF ?_)
  refine law08_awake h ?_
  clear h
  intro M h
  repeat (first | (refine s_nwc h ?_; clear h; intro kb M h) | (refine s_stc h ?_; clear h; intro M h) | refine t_exI h ?_ | refine t_exB h ?_ | refine t_exS h ?_ | refine t_exP h ?_ | refine t_exSl h ?_ | refine t_exV h ?_ | refine u_exI ?_ | refine u_exB ?_ | refine u_exS ?_ | refine u_exP ?_ | refine u_exSl ?_ | refine u_exV ?_ | refine u_nilc ?_ | (apply Exists.intro; (repeat apply Exists.intro); refine And.intro rfl ?_) | (refine And.intro ?_ ?_; first | exact trivial | exact rfl | exact t_ld h | (refine lds_s (t_ld h) ?_; (repeat (refine lds_s (t_ld h) ?_)); exact lds_nil) | omega) | refine u_bspT ?_ | refine u_bspF ?_)
  refine law08_made h fun wb s M hw8 hok => ?_
  clear h
  refine u_exP ?_
  refine ⟨fun d ws M => ∃ (i : Nat) (R1 : Mem) (s : S8) (n : Nat) (L : List HP), ws = [.int .i64 (i : Int)] ∧ d = 60 - i ∧ i ≤ 60 ∧ M0.le R1 ∧ s.Ok n ∧ n ≤ i ∧ W8 R1 L wb s M, ⟨_, 0, M0, s, 0, _, rfl, rfl, by omega, Mem.le_refl _, hok, by omega, hw8⟩, ?_⟩
  clear hw8 hok
  rintro d _ ii M ⟨i, R1, s, n, L, he, hd, hi, g1, hok, hn, hw8⟩
  simp only [List.cons.injEq, Value.int.injEq, and_true, true_and] at he
  subst he
  refine bsp_two ?_ fun hlt h60 => ?_
  rotate_left
  · obtain ⟨a, ha⟩ := idx_ex (l := acts) (i := i) (by omega)
    have hwf := wf_lt (hw a (List.mem_of_getElem? ha) 2 .i64 rfl)
    have hB3 := (hB2 (by omega)).le g1
    obtain ⟨b1, o1, rfl⟩ := hB3.some (by omega) (by decide)
    refine And.intro (by omega) (And.intro hlt (u_nilc ?_))
    simp only [Int.toNat_natCast]
    obtain ⟨L1, h1⟩ : ∃ L1, Hp R1 L1 M := by
      obtain ⟨_, _, _, _, _, _, _, _, _, _, _, _, _, _, h⟩ := id hw8
      exact ⟨_, h⟩
    refine v_exI (hB3.src.at h1 (i := i) (j := 0) ha rfl rfl) ?_
    refine v_exI (hB3.src.at h1 (i := i) (j := 1) ha rfl rfl) ?_
    refine v_exI (hB3.src.at h1 (i := i) (j := 2) ha rfl rfl) ?_
    clear h1
    refine law08_does hw8 hok (by omega) hwf.2 fun kd i' j' R2 M hi' hj' g2 hw8 => ?_
    obtain ⟨n', hn', hok'⟩ := does8_ok hok kd i' j' hi' hj' (a 2)
    refine u_exB (u_bspF ?_)
    rw [wrap_succ (by omega)]
    exact ⟨60 - (i + 1), by omega, i + 1, R2, _, n', _, rfl, rfl, by omega, Mem.le_trans g1 g2, hok', by omega, hw8⟩
  -- all are counted
  clear hd
  obtain ⟨ti, hti, htz⟩ := int_info'
  have okg := hok.gl
  have tot := hok.total
  have tot2 : (s.xs.flatMap Loc.cnt).length + s.g.length + s.out.length = n := by
    rw [flat_len]; unfold S8.all at tot; simp only [List.length_append] at tot; omega
  obtain ⟨ok1, ok2, ok3, okp⟩ := id hok
  obtain ⟨Al, ca, Ax, cx, Ay, cy, Ao, co, gb, bs, rs, hbl, hx, hy, h⟩ := hw8
  refine s_nwo (o := mapO []) h ?_
  clear h; intro r M h
  refine u_nilc ?_
  refine t_exSl h ?_
  refine count_loop (seen := []) (xs := s.out) h (Src.row (A := Ao)) rfl Cnt.nil (by simp; omega) ul_cmap ul_int hti htz fun l1 M hc1 h' => ?_
  clear h
  have h := h'
  clear h'
  rw [List.nil_append] at hc1
  refine u_nilc ?_
  refine t_exSl h ?_
  refine ⟨fun d ws M => ∃ (i : Nat) (l' : AL), ws = [.int .i64 (i : Int)] ∧ d = 4 - i ∧ i ≤ 4 ∧ Cnt l' (s.out ++ (s.xs.take i).flatMap Loc.cnt) ∧
    Hp R1 (ob r (mapO l') :: pt wb [.slice Al 4 ca, .pointer (some ⟨gb, 0, none⟩), .slice Ax 4 cx, .slice Ay s.g.length cy, .int .i64 s.next, .slice Ao s.out.length co] 140 ::
    rowP ptrE 101 Al ca bs :: objsP locR bs s.xs :: objP glR gb s.g :: L) M, ⟨_, 0, l1, rfl, rfl, by omega, by simpa using hc1, h.sub (by repeat (first | exact Sub.refl | refine Sub.cons (by first | exact Pick.here | exact (.there .here) | exact (.there (.there .here)) | exact (.there (.there (.there .here))) | exact (.there (.there (.there (.there .here)))) | exact (.there (.there (.there (.there (.there .here))))) | exact (.there (.there (.there (.there (.there (.there .here)))))) | exact (.there (.there (.there (.there (.there (.there (.there .here))))))) | exact (.there (.there (.there (.there (.there (.there (.there (.there .here)))))))) | exact (.there (.there (.there (.there (.there (.there (.there (.there (.there .here))))))))) | exact (.there (.there (.there (.there (.there (.there (.there (.there (.there (.there .here)))))))))) | exact (.there (.there (.there (.there (.there (.there (.there (.there (.there (.there (.there .here))))))))))) | exact (.there (.there (.there (.there (.there (.there (.there (.there (.there (.there (.there (.there .here)))))))))))) | exact (.there (.there (.there (.there (.there (.there (.there (.there (.there (.there (.there (.there (.there .here))))))))))))) | exact (.there (.there (.there (.there (.there (.there (.there (.there (.there (.there (.there (.there (.there (.there .here)))))))))))))) | exact (.there (.there (.there (.there (.there (.there (.there (.there (.there (.there (.there (.there (.there (.there (.there .here)))))))))))))))) ?_ | refine Sub.drop ?_))⟩, ?_⟩
  clear h hc1
  rintro d _ ii M ⟨j, l2, he, hd, hj, hc2, h⟩
  simp only [List.cons.injEq, Value.int.injEq, and_true, true_and] at he
  subst he
  refine bsp_dec.2 ⟨fun hlt => ?_, fun hge => ?_⟩
  · have hxi := lc_at (xs := s.xs) (i := j) (by omega)
    obtain ⟨b, hb⟩ := idx_ex (l := bs) (i := j) (by omega)
    obtain ⟨b1, rfl⟩ := h.row_some (A := Al) (by omega) (by decide)
    refine ⟨by omega, hlt, u_nilc ?_⟩
    simp only [Int.toNat_natCast]
    refine v_exP (Src.at (h.src (A := some ⟨b1, 0, none⟩)) h (i := j) (j := 0) hb rfl (by simp [ptrE])) ?_
    have hft := flat_take s.xs (j + 1)
    rw [take_snoc hxi, List.flatMap_append, List.length_append] at hft
    have hfm : [lc s.xs j].flatMap Loc.cnt = (lc s.xs j).cnt := by simp
    rw [hfm] at hft
    have hcl : (lc s.xs j).l.length ≤ (lc s.xs j).cnt.length := by unfold Loc.cnt; simp
    have hstep : (s.xs.take (j + 1)).flatMap Loc.cnt = (s.xs.take j).flatMap Loc.cnt ++ (lc s.xs j).cnt := by rw [take_snoc hxi, List.flatMap_append, hfm]
    generalize lc s.xs j = x at *
    replace h := h.objs_out locR hb hxi
    refine local_List h ?_
    clear h
    intro A5 c5 M h
    refine u_exSl ?_
    replace h := h.sub (show Sub _ (ob r (mapO l2) :: rowP intE 3 A5 c5 x.l :: objP locR b x :: objsX locR bs s.xs j :: pt wb [.slice (some ⟨b1, 0, none⟩) 4 ca, .pointer (some ⟨gb, 0, none⟩), .slice Ax 4 cx, .slice Ay s.g.length cy, .int .i64 s.next, .slice Ao s.out.length co] 140 :: rowP ptrE 101 (some ⟨b1, 0, none⟩) ca bs :: objP glR gb s.g :: L) from (by repeat (first | exact Sub.refl | refine Sub.cons (by first | exact Pick.here | exact (.there .here) | exact (.there (.there .here)) | exact (.there (.there (.there .here))) | exact (.there (.there (.there (.there .here)))) | exact (.there (.there (.there (.there (.there .here))))) | exact (.there (.there (.there (.there (.there (.there .here)))))) | exact (.there (.there (.there (.there (.there (.there (.there .here))))))) | exact (.there (.there (.there (.there (.there (.there (.there (.there .here)))))))) | exact (.there (.there (.there (.there (.there (.there (.there (.there (.there .here))))))))) | exact (.there (.there (.there (.there (.there (.there (.there (.there (.there (.there .here)))))))))) | exact (.there (.there (.there (.there (.there (.there (.there (.there (.there (.there (.there .here))))))))))) | exact (.there (.there (.there (.there (.there (.there (.there (.there (.there (.there (.there (.there .here)))))))))))) | exact (.there (.there (.there (.there (.there (.there (.there (.there (.there (.there (.there (.there (.there .here))))))))))))) | exact (.there (.there (.there (.there (.there (.there (.there (.there (.there (.there (.there (.there (.there (.there .here)))))))))))))) | exact (.there (.there (.there (.there (.there (.there (.there (.there (.there (.there (.there (.there (.there (.there (.there .here)))))))))))))))) ?_ | refine Sub.drop ?_)))
    refine count_loop (xs := x.l) h (Src.row (A := A5)) rfl hc2 (by simp only [List.length_append]; omega) ul_cmap ul_int hti htz fun l3 M hc3 h' => ?_
    clear h
    have h := h'
    clear h'
    refine local_Next (b := b) h ?_
    refine u_exI ?_
    refine bsp_ne.2 ⟨fun hne => ?_, fun heq => ?_⟩
    · have hcn : x.cnt = x.l ++ [x.next] := by unfold Loc.cnt; rw [if_neg hne]
      refine local_Next (b := b) h ?_
      refine u_exI ?_
      refine s_lookup h ul_cmap ul_int hti htz ?_
      rw [hc3.get]
      refine u_exI ?_
      have hcc : (s.out ++ (s.xs.take j).flatMap Loc.cnt ++ x.l).count x.next ≤ 1000000000 := by
        refine Nat.le_trans List.count_le_length ?_
        simp only [List.length_append]; omega
      rw [wrap_succ (by omega), wrap_succ (by omega)]
      refine s_mapUpdate h ul_cmap ul_int fun M h' => ?_
      replace h' := h'.objs_same locR b hb hxi
      refine ⟨4 - (j + 1), by omega, j + 1, _, rfl, rfl, by omega, ?_, h'.sub (by repeat (first | exact Sub.refl | refine Sub.cons (by first | exact Pick.here | exact (.there .here) | exact (.there (.there .here)) | exact (.there (.there (.there .here))) | exact (.there (.there (.there (.there .here)))) | exact (.there (.there (.there (.there (.there .here))))) | exact (.there (.there (.there (.there (.there (.there .here)))))) | exact (.there (.there (.there (.there (.there (.there (.there .here))))))) | exact (.there (.there (.there (.there (.there (.there (.there (.there .here)))))))) | exact (.there (.there (.there (.there (.there (.there (.there (.there (.there .here))))))))) | exact (.there (.there (.there (.there (.there (.there (.there (.there (.there (.there .here)))))))))) | exact (.there (.there (.there (.there (.there (.there (.there (.there (.there (.there (.there .here))))))))))) | exact (.there (.there (.there (.there (.there (.there (.there (.there (.there (.there (.there (.there .here)))))))))))) | exact (.there (.there (.there (.there (.there (.there (.there (.there (.there (.there (.there (.there (.there .here))))))))))))) | exact (.there (.there (.there (.there (.there (.there (.there (.there (.there (.there (.there (.there (.there (.there .here)))))))))))))) | exact (.there (.there (.there (.there (.there (.there (.there (.there (.there (.there (.there (.there (.there (.there (.there .here)))))))))))))))) ?_ | refine Sub.drop ?_))⟩
      rw [hstep, hcn, ← List.append_assoc, ← List.append_assoc]
      exact hc3.step x.next
    · have hcn : x.cnt = x.l := by unfold Loc.cnt; rw [if_pos heq, List.append_nil]
      replace h := h.objs_same locR b hb hxi
      rw [wrap_succ (by omega)]
      refine ⟨4 - (j + 1), by omega, j + 1, _, rfl, rfl, by omega, ?_, h.sub (by repeat (first | exact Sub.refl | refine Sub.cons (by first | exact Pick.here | exact (.there .here) | exact (.there (.there .here)) | exact (.there (.there (.there .here))) | exact (.there (.there (.there (.there .here)))) | exact (.there (.there (.there (.there (.there .here))))) | exact (.there (.there (.there (.there (.there (.there .here)))))) | exact (.there (.there (.there (.there (.there (.there (.there .here))))))) | exact (.there (.there (.there (.there (.there (.there (.there (.there .here)))))))) | exact (.there (.there (.there (.there (.there (.there (.there (.there (.there .here))))))))) | exact (.there (.there (.there (.there (.there (.there (.there (.there (.there (.there .here)))))))))) | exact (.there (.there (.there (.there (.there (.there (.there (.there (.there (.there (.there .here))))))))))) | exact (.there (.there (.there (.there (.there (.there (.there (.there (.there (.there (.there (.there .here)))))))))))) | exact (.there (.there (.there (.there (.there (.there (.there (.there (.there (.there (.there (.there (.there .here))))))))))))) | exact (.there (.there (.there (.there (.there (.there (.there (.there (.there (.there (.there (.there (.there (.there .here)))))))))))))) | exact (.there (.there (.there (.there (.there (.there (.there (.there (.there (.there (.there (.there (.there (.there (.there .here)))))))))))))))) ?_ | refine Sub.drop ?_))⟩
      rw [hstep, hcn, ← List.append_assoc]
      exact hc3
  obtain rfl : j = 4 := by omega
  rw [List.take_of_length_le (by omega)] at hc2
  refine u_nilc ?_
  refine t_exP h ?_
  refine local_gList (gb := gb) h (by omega) ?_
  clear h
  intro A5 c5 M h
  refine u_exSl ?_
  replace h := h.sub (show Sub _ (ob r (mapO l2) :: rowP intE 3 A5 c5 s.g :: pt wb [.slice Al 4 ca, .pointer (some ⟨gb, 0, none⟩), .slice Ax 4 cx, .slice Ay s.g.length cy, .int .i64 s.next, .slice Ao s.out.length co] 140 :: L) from (by repeat (first | exact Sub.refl | refine Sub.cons (by first | exact Pick.here | exact (.there .here) | exact (.there (.there .here)) | exact (.there (.there (.there .here))) | exact (.there (.there (.there (.there .here)))) | exact (.there (.there (.there (.there (.there .here))))) | exact (.there (.there (.there (.there (.there (.there .here)))))) | exact (.there (.there (.there (.there (.there (.there (.there .here))))))) | exact (.there (.there (.there (.there (.there (.there (.there (.there .here)))))))) | exact (.there (.there (.there (.there (.there (.there (.there (.there (.there .here))))))))) | exact (.there (.there (.there (.there (.there (.there (.there (.there (.there (.there .here)))))))))) | exact (.there (.there (.there (.there (.there (.there (.there (.there (.there (.there (.there .here))))))))))) | exact (.there (.there (.there (.there (.there (.there (.there (.there (.there (.there (.there (.there .here)))))))))))) | exact (.there (.there (.there (.there (.there (.there (.there (.there (.there (.there (.there (.there (.there .here))))))))))))) | exact (.there (.there (.there (.there (.there (.there (.there (.there (.there (.there (.there (.there (.there (.there .here)))))))))))))) | exact (.there (.there (.there (.there (.there (.there (.there (.there (.there (.there (.there (.there (.there (.there (.there .here)))))))))))))))) ?_ | refine Sub.drop ?_)))
  refine count_loop (xs := s.g) h (Src.row (A := A5)) rfl hc2 (by simp only [List.length_append]; omega) ul_cmap ul_int hti htz fun l4 M hc4 h' => ?_
  clear h
  have h := h'
  clear h'
  have hcnt : ∀ v, (s.out ++ s.xs.flatMap Loc.cnt ++ s.g).count v = (nums n).count v := fun v => by
    rw [show (nums n).count v = s.all.count v from (okp v).symm]
    unfold S8.all
    simp only [List.count_append, cnt_all]; omega
  have nnd : (nums n).Nodup := by
    unfold nums
    exact List.Pairwise.map _ (fun a b hab e => hab (Int.ofNat.inj e)) List.nodup_range
  have hone : ∀ v : Nat, v < n → (s.out ++ s.xs.flatMap Loc.cnt ++ s.g).count (v : Int) = 1 := fun v hv => by
    rw [hcnt]
    have hm : (v : Int) ∈ nums n := List.mem_map.2 ⟨v, List.mem_range.2 hv, rfl⟩
    exact Nat.le_antisymm (List.nodup_iff_count.1 nnd _) (List.count_pos_iff.2 hm)
  have hlen : l4.length = n := by
    have : (l4.map (·.1)).Perm (nums n) := by
      refine (List.perm_ext_iff_of_nodup hc4.1 nnd).2 fun a => ?_
      have h1 := aget_none (k := a) (l := l4)
      have h2 := hc4.2 a
      rw [hcnt a] at h2
      constructor
      · intro hm
        refine Classical.byContradiction fun hn => ?_
        rw [if_pos (List.count_eq_zero.2 hn)] at h2
        exact h1.1 h2 hm
      · intro hm
        refine Classical.byContradiction fun hn => ?_
        rw [h1.2 hn, if_neg (by rw [List.count_eq_zero]; exact fun h => h hm)] at h2
        cases h2
    have := this.length_eq
    simpa [nums] using this
  refine u_nilc ?_
  refine t_exI h ?_
  rw [ok2]
  refine ⟨fun d ws M => ∃ (i : Nat), ws = [.int .i64 (i : Int)] ∧ d = n - i ∧ i ≤ n ∧ Hp R1 (ob r (mapO l4) :: pt wb [.slice Al 4 ca, .pointer (some ⟨gb, 0, none⟩), .slice Ax 4 cx, .slice Ay s.g.length cy, .int .i64 s.next, .slice Ao s.out.length co] 140 :: L) M, ⟨_, 0, rfl, rfl, by omega, h.sub (by repeat (first | exact Sub.refl | refine Sub.cons (by first | exact Pick.here | exact (.there .here) | exact (.there (.there .here)) | exact (.there (.there (.there .here))) | exact (.there (.there (.there (.there .here)))) | exact (.there (.there (.there (.there (.there .here))))) | exact (.there (.there (.there (.there (.there (.there .here)))))) | exact (.there (.there (.there (.there (.there (.there (.there .here))))))) | exact (.there (.there (.there (.there (.there (.there (.there (.there .here)))))))) | exact (.there (.there (.there (.there (.there (.there (.there (.there (.there .here))))))))) | exact (.there (.there (.there (.there (.there (.there (.there (.there (.there (.there .here)))))))))) | exact (.there (.there (.there (.there (.there (.there (.there (.there (.there (.there (.there .here))))))))))) | exact (.there (.there (.there (.there (.there (.there (.there (.there (.there (.there (.there (.there .here)))))))))))) | exact (.there (.there (.there (.there (.there (.there (.there (.there (.there (.there (.there (.there (.there .here))))))))))))) | exact (.there (.there (.there (.there (.there (.there (.there (.there (.there (.there (.there (.there (.there (.there .here)))))))))))))) | exact (.there (.there (.there (.there (.there (.there (.there (.there (.there (.there (.there (.there (.there (.there (.there .here)))))))))))))))) ?_ | refine Sub.drop ?_))⟩, ?_⟩
  clear h
  rintro d _ ii M ⟨j, he, hd, hj, h⟩
  simp only [List.cons.injEq, Value.int.injEq, and_true, true_and] at he
  subst he
  refine bsp_dec.2 ⟨fun hlt => ?_, fun hge => ?_⟩
  · refine s_lookup h ul_cmap ul_int hti htz ?_
    rw [hc4.get, hone j (by omega)]
    refine u_exI ?_
    refine u_bspD (by simp) ?_
    rw [wrap_succ (by omega)]
    exact ⟨n - (j + 1), by omega, j + 1, rfl, rfl, by omega, h⟩
  · refine u_nilc ?_
    refine t_exI h ?_
    refine s_mapLen h ul_cmap ?_
    refine u_exI ?_
    refine ⟨t_ld h, ?_⟩
    rw [hlen, ok2, beq_self_eq_true]
    exact k _ (h.done g1)
end
end Go.Proofs
