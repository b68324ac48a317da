/- A part of proofs about functions of one program: a condition over a partial memory that is enough for a call, and what calls answer by it. No condition of its own. -/
import Derived.Test.YtodeolmcinekoaaPickLaw
import Derived.Test.YtodeolmcinekoaaSame
namespace Go.Proofs
open Go.AF
set_option linter.unusedVariables false
set_option maxRecDepth 100000
set_option maxHeartbeats 1000000
attribute [local irreducible] exI exB exS exP exSl exV nilc stc nwc semK semU bsp
attribute [local irreducible] objsP objsX
theorem argSl_rs {M : Mem} {A : Option Addr} {n c : Nat} {ks : List IntKind} (h : ArgSl M A n c ks) : ∃ l, l.length = n ∧ n ≤ 9223372036854775807 ∧ (0 < n → RS (kE ks) M A c l) := by
  obtain ⟨l, rfl, hc, hl, hs, _⟩ := h
  exact ⟨l, rfl, Nat.le_trans hl (by decide), fun h0 => ⟨hs h0, hc⟩⟩
theorem el_ccase : ElemOk Try.prog 116 119 3 24 [.int .i64 0, .int .i64 0, .int .i64 0] := ElemOk.mk' (zv := .agg #[.int .i64 0, .int .i64 0, .int .i64 0]) (by kernel_rfl) (by kernel_rfl) rfl (by omega)
theorem el_rcase : ElemOk Try.prog 110 118 3 24 [.int .i64 0, .int .i64 0, .int .i64 0] := ElemOk.mk' (zv := .agg #[.int .i64 0, .int .i64 0, .int .i64 0]) (by kernel_rfl) (by kernel_rfl) rfl (by omega)

theorem bsp_both {p q : Bool} {X Y : Prop} (hy : Y) (hx : p = true → q = true → X) : bsp p (bsp q X Y) Y := by
  cases p
  · exact u_bspF hy
  · cases q
    · exact u_bspT (u_bspF hy)
    · exact u_bspT (u_bspT (hx rfl rfl))
theorem picksCases {r0 r1 r2 y0 y1 y2 y3 y4 y5 y6 y7 g : Int} {A1 A2 : Option Addr} {n1 c1 n2 c2 : Nat} {M0 : Mem} {K : Value → Mem → Prop} {Kp : List PanicEntry → Mem → Prop}
    (hs1 : ArgSl M0 A1 n1 c1 [.i64, .i64, .i64, .i64]) (hs2 : ArgSl M0 A2 n2 c2 [.i64, .i64, .i64]) (k : ∀ M', Chg [] M0 M' → K (.bool true) M') :
    ACalls Try.prog 15 #[.agg #[.int .i64 r0, .int .i64 r1, .int .i64 r2], .slice A1 n1 c1, .slice A2 n2 c2, .agg #[.int .i64 y0, .int .i64 y1, .int .i64 y2, .int .i64 y3, .int .i64 y4, .int .i64 y5, .int .i64 y6, .int .i64 y7], .int .i64 g] M0 K Kp := by
  obtain ⟨acts, rfl, hal, hB⟩ := argSl_rs hs1
  obtain ⟨raw, rfl, hrl, hC⟩ := argSl_rs hs2
  refine vc_shunterlaw15_PicksCases ?_
  have h := Hp.start M0
  repeat (first | (refine s_stc h ?_; clear h; intro M h) | refine t_exI h ?_ | refine t_exB h ?_ | refine t_exS h ?_ | refine t_exP h ?_ | refine t_exSl h ?_ | refine t_exV h ?_ | refine u_exI ?_ | refine u_exB ?_ | refine u_exS ?_ | refine u_exP ?_ | refine u_exSl ?_ | refine u_exV ?_ | refine u_nilc ?_ | (apply Exists.intro; (repeat apply Exists.intro); refine And.intro rfl ?_) | (refine And.intro ?_ ?_; first | exact trivial | exact rfl | exact t_ld h | (refine lds_s (t_ld h) ?_; (repeat (refine lds_s (t_ld h) ?_)); exact lds_nil) | omega) | refine u_bspT ?_ | refine u_bspF ?_)
  refine s_nwc h ?_
  clear h
  intro kq M h
  refine s_nwc h ?_
  clear h
  intro kr M h
  refine law15_awake h ?_
  clear h
  intro M h
  repeat (first | (refine s_nwc h ?_; clear h; intro kb M h) | (refine s_stc h ?_; clear h; intro M h) | refine t_exI h ?_ | refine t_exB h ?_ | refine t_exS h ?_ | refine t_exP h ?_ | refine t_exSl h ?_ | refine t_exV h ?_ | refine u_exI ?_ | refine u_exB ?_ | refine u_exS ?_ | refine u_exP ?_ | refine u_exSl ?_ | refine u_exV ?_ | refine u_nilc ?_ | (apply Exists.intro; (repeat apply Exists.intro); refine And.intro rfl ?_) | (refine And.intro ?_ ?_; first | exact trivial | exact rfl | exact t_ld h | (refine lds_s (t_ld h) ?_; (repeat (refine lds_s (t_ld h) ?_)); exact lds_nil) | omega) | refine u_bspT ?_ | refine u_bspF ?_)
  refine law15_made h hB hal rfl ?_
  clear h
  intro R1 A ca bs X cx xs cs M g1 h hx hbl hcl hsm
  repeat (first | (refine s_stc h ?_; clear h; intro M h) | refine t_exI h ?_ | refine t_exB h ?_ | refine t_exS h ?_ | refine t_exP h ?_ | refine t_exSl h ?_ | refine t_exV h ?_ | refine u_exI ?_ | refine u_exB ?_ | refine u_exS ?_ | refine u_exP ?_ | refine u_exSl ?_ | refine u_exV ?_ | refine u_nilc ?_ | (apply Exists.intro; (repeat apply Exists.intro); refine And.intro rfl ?_) | (refine And.intro ?_ ?_; first | exact trivial | exact rfl | exact t_ld h | (refine lds_s (t_ld h) ?_; (repeat (refine lds_s (t_ld h) ?_)); exact lds_nil) | omega) | refine u_bspT ?_ | refine u_bspF ?_)
  refine s_nwc h ?_
  clear h
  intro ko M h
  refine s_nwc h ?_
  clear h
  intro kt M h
  replace h := (h.pt ko).row_pt (E := casE) (l := []) rfl
  replace h := (h.pt kt).row_pt (E := casE) (l := []) rfl
  refine ⟨fun d ws M => ∃ (i : Nat) (Ao : Option Addr) (co : Nat) (At : Option Addr) (ct : Nat) (own : List Cas), ws = [.slice Ao own.length co, .slice At own.length ct, .int .i64 (i : Int)] ∧ d = 8 - i ∧ i ≤ 8 ∧ own.length = i ∧ (∀ c ∈ own, c.Ok 3) ∧
      Hp R1 (rowP casE 119 Ao co own :: rowP casE 118 At ct own :: rowL A ca bs :: objsP chanR bs cs :: rowX X cx xs :: pt kr [.int .i64 y0, .int .i64 y1, .int .i64 y2, .int .i64 y3, .int .i64 y4, .int .i64 y5, .int .i64 y6, .int .i64 y7] 111 :: []) M,
    ⟨_, 0, _, _, _, _, [], rfl, rfl, by omega, rfl, by simp, h.sub (by repeat (first | exact Sub.refl | refine Sub.cons (by first | exact Pick.here | exact (.there .here) | exact (.there (.there .here)) | exact (.there (.there (.there .here))) | exact (.there (.there (.there (.there .here)))) | exact (.there (.there (.there (.there (.there .here))))) | exact (.there (.there (.there (.there (.there (.there .here)))))) | exact (.there (.there (.there (.there (.there (.there (.there .here))))))) | exact (.there (.there (.there (.there (.there (.there (.there (.there .here)))))))) | exact (.there (.there (.there (.there (.there (.there (.there (.there (.there .here))))))))) | exact (.there (.there (.there (.there (.there (.there (.there (.there (.there (.there .here)))))))))) | exact (.there (.there (.there (.there (.there (.there (.there (.there (.there (.there (.there .here))))))))))) | exact (.there (.there (.there (.there (.there (.there (.there (.there (.there (.there (.there (.there .here)))))))))))) | exact (.there (.there (.there (.there (.there (.there (.there (.there (.there (.there (.there (.there (.there .here))))))))))))) | exact (.there (.there (.there (.there (.there (.there (.there (.there (.there (.there (.there (.there (.there (.there .here)))))))))))))) | exact (.there (.there (.there (.there (.there (.there (.there (.there (.there (.there (.there (.there (.there (.there (.there .here)))))))))))))))) ?_ | refine Sub.drop ?_))⟩, ?_⟩
  clear h
  rintro d _ Ao n1 co At n2 ct ii M ⟨i, _, _, _, _, own, he, hd, hi, hol, hok, h⟩
  simp only [List.cons.injEq, Value.int.injEq, Value.slice.injEq, and_true, true_and] at he
  obtain ⟨⟨rfl, rfl, rfl⟩, ⟨rfl, rfl, rfl⟩, rfl⟩ := he
  refine bsp_both ?_ fun hlt h8 => ?_
  · have hsm9 : ∀ c ∈ cs, c.Small 1000000000 := fun c hc => (hsm c hc).mono (by omega)
    have hsm6 : ∀ c ∈ cs, c.Small 1000000 := fun c hc => (hsm c hc).mono (by omega)
    have hok' : ∀ c ∈ own, c.Ok cs.length := by rw [hcl]; exact hok
    have h' := h.sealRow Ao
    clear h
    obtain ⟨R2, g2, so, h⟩ := h'
    have h' := h.sealRow At
    clear h
    obtain ⟨R3, g3, st, h⟩ := h'
    have h' := h.sealRow X
    clear h
    obtain ⟨R4, g4, sx, h⟩ := h'
    have h' := h.sealRow A
    clear h
    obtain ⟨R5, g5, sb, h⟩ := h'
    replace so := so.le (Mem.le_trans g3 (Mem.le_trans g4 g5))
    replace st := st.le (Mem.le_trans g4 g5)
    replace sx := sx.le g5
    replace hx := hx.le (Mem.le_trans g2 (Mem.le_trans g3 (Mem.le_trans g4 g5)))
    have g6 : M0.le R5 := Mem.le_trans g1 (Mem.le_trans g2 (Mem.le_trans g3 (Mem.le_trans g4 g5)))
    clear g1 g2 g3 g4 g5
    refine picks_Else h so.src rfl (by omega) ?_
    clear h
    intro M h
    repeat (first | (refine s_nwc h ?_; clear h; intro kb M h) | (refine s_stc h ?_; clear h; intro M h) | refine t_exI h ?_ | refine t_exB h ?_ | refine t_exS h ?_ | refine t_exP h ?_ | refine t_exSl h ?_ | refine t_exV h ?_ | refine u_exI ?_ | refine u_exB ?_ | refine u_exS ?_ | refine u_exP ?_ | refine u_exSl ?_ | refine u_exV ?_ | refine u_nilc ?_ | (apply Exists.intro; (repeat apply Exists.intro); refine And.intro rfl ?_) | (refine And.intro ?_ ?_; first | exact trivial | exact rfl | exact t_ld h | (refine lds_s (t_ld h) ?_; (repeat (refine lds_s (t_ld h) ?_)); exact lds_nil) | omega) | refine u_bspT ?_ | refine u_bspF ?_)
    refine ref15_Else h st.src rfl (by omega) ?_
    clear h
    intro M h
    repeat (first | (refine s_nwc h ?_; clear h; intro kb M h) | (refine s_stc h ?_; clear h; intro M h) | refine t_exI h ?_ | refine t_exB h ?_ | refine t_exS h ?_ | refine t_exP h ?_ | refine t_exSl h ?_ | refine t_exV h ?_ | refine u_exI ?_ | refine u_exB ?_ | refine u_exS ?_ | refine u_exP ?_ | refine u_exSl ?_ | refine u_exV ?_ | refine u_nilc ?_ | (apply Exists.intro; (repeat apply Exists.intro); refine And.intro rfl ?_) | (refine And.intro ?_ ?_; first | exact trivial | exact rfl | exact t_ld h | (refine lds_s (t_ld h) ?_; (repeat (refine lds_s (t_ld h) ?_)); exact lds_nil) | omega) | refine u_bspT ?_ | refine u_bspF ?_)
    refine picks_Enabled h so.src sb.src rfl hbl.symm (by omega) (by omega) hok' ?_
    clear h
    intro A5 c5 M h
    repeat (first | (refine s_nwc h ?_; clear h; intro kb M h) | (refine s_stc h ?_; clear h; intro M h) | refine t_exI h ?_ | refine t_exB h ?_ | refine t_exS h ?_ | refine t_exP h ?_ | refine t_exSl h ?_ | refine t_exV h ?_ | refine u_exI ?_ | refine u_exB ?_ | refine u_exS ?_ | refine u_exP ?_ | refine u_exSl ?_ | refine u_exV ?_ | refine u_nilc ?_ | (apply Exists.intro; (repeat apply Exists.intro); refine And.intro rfl ?_) | (refine And.intro ?_ ?_; first | exact trivial | exact rfl | exact t_ld h | (refine lds_s (t_ld h) ?_; (repeat (refine lds_s (t_ld h) ?_)); exact lds_nil) | omega) | refine u_bspT ?_ | refine u_bspF ?_)
    refine ref15_Enabled h st.src sx.src hx rfl hcl.symm (by omega) hok' hsm9 ?_
    clear h
    intro A6 c6 M h
    repeat (first | (refine s_nwc h ?_; clear h; intro kb M h) | (refine s_stc h ?_; clear h; intro M h) | refine t_exI h ?_ | refine t_exB h ?_ | refine t_exS h ?_ | refine t_exP h ?_ | refine t_exSl h ?_ | refine t_exV h ?_ | refine u_exI ?_ | refine u_exB ?_ | refine u_exS ?_ | refine u_exP ?_ | refine u_exSl ?_ | refine u_exV ?_ | refine u_nilc ?_ | (apply Exists.intro; (repeat apply Exists.intro); refine And.intro rfl ?_) | (refine And.intro ?_ ?_; first | exact trivial | exact rfl | exact t_ld h | (refine lds_s (t_ld h) ?_; (repeat (refine lds_s (t_ld h) ?_)); exact lds_nil) | omega) | refine u_bspT ?_ | refine u_bspF ?_)
    have hen : (enabled own cs).length ≤ 1000000000 := Nat.le_trans (enTo_len own cs own.length) (by omega)
    refine law07_Same h Src.row Src.row rfl rfl hen ?_
    clear h
    intro M h
    repeat (first | (refine s_nwc h ?_; clear h; intro kb M h) | (refine s_stc h ?_; clear h; intro M h) | refine t_exI h ?_ | refine t_exB h ?_ | refine t_exS h ?_ | refine t_exP h ?_ | refine t_exSl h ?_ | refine t_exV h ?_ | refine u_exI ?_ | refine u_exB ?_ | refine u_exS ?_ | refine u_exP ?_ | refine u_exSl ?_ | refine u_exV ?_ | refine u_nilc ?_ | (apply Exists.intro; (repeat apply Exists.intro); refine And.intro rfl ?_) | (refine And.intro ?_ ?_; first | exact trivial | exact rfl | exact t_ld h | (refine lds_s (t_ld h) ?_; (repeat (refine lds_s (t_ld h) ?_)); exact lds_nil) | omega) | refine u_bspT ?_ | refine u_bspF ?_)
    cases he : els own
    · refine u_bspD (by simp) ?_
      refine u_bspD (by simp) ?_
      refine u_bspC (by simp) ?_
      refine u_bspD (by simp) ?_
      repeat (first | (refine s_nwc h ?_; clear h; intro kb M h) | (refine s_stc h ?_; clear h; intro M h) | refine t_exI h ?_ | refine t_exB h ?_ | refine t_exS h ?_ | refine t_exP h ?_ | refine t_exSl h ?_ | refine t_exV h ?_ | refine u_exI ?_ | refine u_exB ?_ | refine u_exS ?_ | refine u_exP ?_ | refine u_exSl ?_ | refine u_exV ?_ | refine u_nilc ?_ | (apply Exists.intro; (repeat apply Exists.intro); refine And.intro rfl ?_) | (refine And.intro ?_ ?_; first | exact trivial | exact rfl | exact t_ld h | (refine lds_s (t_ld h) ?_; (repeat (refine lds_s (t_ld h) ?_)); exact lds_nil) | omega) | refine u_bspT ?_ | refine u_bspF ?_)
      have esl : slA (some ⟨kr, 0, none⟩) 0 8 1 = some ⟨kr, 0, none⟩ := rfl
      rw [esl]
      refine picks_Wait (regs := [y0, y1, y2, y3, y4, y5, y6, y7]) h so.src sb.src (show Src R5 _ (some ⟨kr, 0, none⟩) (intE.cells [y0, y1, y2, y3, y4, y5, y6, y7]) from Src.pt (by first | exact Pick.here | exact (.there .here) | exact (.there (.there .here)) | exact (.there (.there (.there .here))) | exact (.there (.there (.there (.there .here)))) | exact (.there (.there (.there (.there (.there .here))))) | exact (.there (.there (.there (.there (.there (.there .here)))))) | exact (.there (.there (.there (.there (.there (.there (.there .here))))))) | exact (.there (.there (.there (.there (.there (.there (.there (.there .here)))))))) | exact (.there (.there (.there (.there (.there (.there (.there (.there (.there .here))))))))) | exact (.there (.there (.there (.there (.there (.there (.there (.there (.there (.there .here)))))))))) | exact (.there (.there (.there (.there (.there (.there (.there (.there (.there (.there (.there .here))))))))))) | exact (.there (.there (.there (.there (.there (.there (.there (.there (.there (.there (.there (.there .here)))))))))))) | exact (.there (.there (.there (.there (.there (.there (.there (.there (.there (.there (.there (.there (.there .here))))))))))))) | exact (.there (.there (.there (.there (.there (.there (.there (.there (.there (.there (.there (.there (.there (.there .here)))))))))))))) | exact (.there (.there (.there (.there (.there (.there (.there (.there (.there (.there (.there (.there (.there (.there (.there .here))))))))))))))))) rfl hbl.symm rfl rfl (by omega) (by omega) hok' hsm6 ?_
      clear h
      intro M h
      repeat (first | (refine s_nwc h ?_; clear h; intro kb M h) | (refine s_stc h ?_; clear h; intro M h) | refine t_exI h ?_ | refine t_exB h ?_ | refine t_exS h ?_ | refine t_exP h ?_ | refine t_exSl h ?_ | refine t_exV h ?_ | refine u_exI ?_ | refine u_exB ?_ | refine u_exS ?_ | refine u_exP ?_ | refine u_exSl ?_ | refine u_exV ?_ | refine u_nilc ?_ | (apply Exists.intro; (repeat apply Exists.intro); refine And.intro rfl ?_) | (refine And.intro ?_ ?_; first | exact trivial | exact rfl | exact t_ld h | (refine lds_s (t_ld h) ?_; (repeat (refine lds_s (t_ld h) ?_)); exact lds_nil) | omega) | refine u_bspT ?_ | refine u_bspF ?_)
      refine ref15_Wait h st sx hx rfl hcl.symm (by omega) (by omega) hok' hsm6 ?_
      clear h
      intro R6 X6 c6 xs6 M g7 h hx6
      have hl6 := waitTo_len g [y0, y1, y2, y3, y4, y5, y6, y7] own cs own.length
      have hs6 := waitTo_small (g := g) (regs := [y0, y1, y2, y3, y4, y5, y6, y7]) hsm hok' own.length
      generalize waitTo g [y0, y1, y2, y3, y4, y5, y6, y7] own cs own.length = ws at *
      rw [hcl]
      repeat (first | (refine s_nwc h ?_; clear h; intro kb M h) | (refine s_stc h ?_; clear h; intro M h) | refine t_exI h ?_ | refine t_exB h ?_ | refine t_exS h ?_ | refine t_exP h ?_ | refine t_exSl h ?_ | refine t_exV h ?_ | refine u_exI ?_ | refine u_exB ?_ | refine u_exS ?_ | refine u_exP ?_ | refine u_exSl ?_ | refine u_exV ?_ | refine u_nilc ?_ | (apply Exists.intro; (repeat apply Exists.intro); refine And.intro rfl ?_) | (refine And.intro ?_ ?_; first | exact trivial | exact rfl | exact t_ld h | (refine lds_s (t_ld h) ?_; (repeat (refine lds_s (t_ld h) ?_)); exact lds_nil) | omega) | refine u_bspT ?_ | refine u_bspF ?_)
      have h' := h.sealRow X6
      clear h
      obtain ⟨R7, g8, s7, h⟩ := h'
      replace hx6 := hx6.le g8
      replace sb := sb.le (Mem.le_trans g7 g8)
      replace g6 := Mem.le_trans g6 (Mem.le_trans g7 g8)
      refine ⟨fun d vs M => ∃ i : Nat, vs = [.int .i64 (i : Int)] ∧ d = 3 - i ∧ i ≤ 3 ∧ Hp R7 (objsP chanR bs ws :: []) M, ⟨_, 0, rfl, rfl, by omega, h.sub (by repeat (first | exact Sub.refl | refine Sub.cons (by first | exact Pick.here | exact (.there .here) | exact (.there (.there .here)) | exact (.there (.there (.there .here))) | exact (.there (.there (.there (.there .here)))) | exact (.there (.there (.there (.there (.there .here))))) | exact (.there (.there (.there (.there (.there (.there .here)))))) | exact (.there (.there (.there (.there (.there (.there (.there .here))))))) | exact (.there (.there (.there (.there (.there (.there (.there (.there .here)))))))) | exact (.there (.there (.there (.there (.there (.there (.there (.there (.there .here))))))))) | exact (.there (.there (.there (.there (.there (.there (.there (.there (.there (.there .here)))))))))) | exact (.there (.there (.there (.there (.there (.there (.there (.there (.there (.there (.there .here))))))))))) | exact (.there (.there (.there (.there (.there (.there (.there (.there (.there (.there (.there (.there .here)))))))))))) | exact (.there (.there (.there (.there (.there (.there (.there (.there (.there (.there (.there (.there (.there .here))))))))))))) | exact (.there (.there (.there (.there (.there (.there (.there (.there (.there (.there (.there (.there (.there (.there .here)))))))))))))) | exact (.there (.there (.there (.there (.there (.there (.there (.there (.there (.there (.there (.there (.there (.there (.there .here)))))))))))))))) ?_ | refine Sub.drop ?_))⟩, ?_⟩
      clear h
      rintro d _ ii M ⟨i, he, hd, hi, h⟩
      simp only [List.cons.injEq, Value.int.injEq, and_true, true_and] at he
      subst he
      refine bsp_dec.2 ⟨fun hlt => ?_, fun hge => ?_⟩
      · obtain ⟨b, hb⟩ := idx_ex (l := bs) (i := i) (by omega)
        obtain ⟨c, hc⟩ := idx_ex (l := ws) (i := i) (by omega)
        obtain ⟨r, hrq⟩ := idx_ex (l := xs6) (i := i) (by rw [hx6.1]; omega)
        have hr := hx6.2 i r c hrq hc
        obtain ⟨A0, ca0, B0, cb0, D0, cd0, hre, p1, p2, p3⟩ := id hr.eq
        subst hre
        obtain ⟨b1, o1, rfl⟩ := sb.some (by omega) (by decide)
        obtain ⟨b2, o2, rfl⟩ := s7.some (by rw [hx6.1]; omega) (by decide)
        have hsc := (hs6 c (List.mem_of_getElem? hc)).mono (N' := 1000000000) (by omega)
        repeat (first | (refine s_nwc h ?_; clear h; intro kb M h) | (refine s_stc h ?_; clear h; intro M h) | refine t_exI h ?_ | refine t_exB h ?_ | refine t_exS h ?_ | refine t_exP h ?_ | refine t_exSl h ?_ | refine t_exV h ?_ | refine u_exI ?_ | refine u_exB ?_ | refine u_exS ?_ | refine u_exP ?_ | refine u_exSl ?_ | refine u_exV ?_ | refine u_nilc ?_ | (apply Exists.intro; (repeat apply Exists.intro); refine And.intro rfl ?_) | (refine And.intro ?_ ?_; first | exact trivial | exact rfl | exact t_ld h | (refine lds_s (t_ld h) ?_; (repeat (refine lds_s (t_ld h) ?_)); exact lds_nil) | omega) | refine u_bspT ?_ | refine u_bspF ?_)
        simp only [Int.toNat_natCast]
        refine v_exP (sb.src.at h (i := i) (j := 0) hb rfl (by simp [ptrE])) ?_
        refine v_exI (s7.src.at h (i := i) (j := 0) hrq rfl rfl) ?_
        refine v_exSl (s7.src.at h (i := i) (j := 1) hrq rfl rfl) ?_
        refine v_exSl (s7.src.at h (i := i) (j := 2) hrq rfl rfl) ?_
        refine v_exSl (s7.src.at h (i := i) (j := 3) hrq rfl rfl) ?_
        refine v_exB (s7.src.at h (i := i) (j := 4) hrq rfl rfl) ?_
        dsimp only
        replace h := h.objs_out chanR hb hc
        refine chans_State h hsc ?_
        clear h
        intro A3 ca3 B3 cb3 D3 cd3 M h
        repeat (first | (refine s_nwc h ?_; clear h; intro kb M h) | (refine s_stc h ?_; clear h; intro M h) | refine t_exI h ?_ | refine t_exB h ?_ | refine t_exS h ?_ | refine t_exP h ?_ | refine t_exSl h ?_ | refine t_exV h ?_ | refine u_exI ?_ | refine u_exB ?_ | refine u_exS ?_ | refine u_exP ?_ | refine u_exSl ?_ | refine u_exV ?_ | refine u_nilc ?_ | (apply Exists.intro; (repeat apply Exists.intro); refine And.intro rfl ?_) | (refine And.intro ?_ ?_; first | exact trivial | exact rfl | exact t_ld h | (refine lds_s (t_ld h) ?_; (repeat (refine lds_s (t_ld h) ?_)); exact lds_nil) | omega) | refine u_bspT ?_ | refine u_bspF ?_)
        refine ⟨s7.src.lds h hrq rfl, ?_⟩
        have hr0 : RChan R7 [.int .i64 (c.room : Int), .slice A0 c.buf.length ca0, .slice B0 c.snd.length cb0, .slice D0 c.rcv.length cd0, .bool c.closed] c := hr
        refine law13_Same h hr0 hsc Src.row Src.row Src.row ?_
        clear h
        intro M h
        repeat (first | (refine s_nwc h ?_; clear h; intro kb M h) | (refine s_stc h ?_; clear h; intro M h) | refine t_exI h ?_ | refine t_exB h ?_ | refine t_exS h ?_ | refine t_exP h ?_ | refine t_exSl h ?_ | refine t_exV h ?_ | refine u_exI ?_ | refine u_exB ?_ | refine u_exS ?_ | refine u_exP ?_ | refine u_exSl ?_ | refine u_exV ?_ | refine u_nilc ?_ | (apply Exists.intro; (repeat apply Exists.intro); refine And.intro rfl ?_) | (refine And.intro ?_ ?_; first | exact trivial | exact rfl | exact t_ld h | (refine lds_s (t_ld h) ?_; (repeat (refine lds_s (t_ld h) ?_)); exact lds_nil) | omega) | refine u_bspT ?_ | refine u_bspF ?_)
        refine ⟨s7.src.lds h hrq rfl, ?_⟩
        refine u_bspD (by simp) ?_
        replace h := h.objs_same chanR b hb hc
        rw [wrap_succ (by omega)]
        exact ⟨3 - (i + 1), by omega, i + 1, rfl, rfl, by omega, h.fin1⟩
      · have hs7 : ∀ c ∈ ws, c.Small 1000000000 := fun c hc => (hs6 c hc).mono (by omega)
        refine picks_Leave h sb.src hbl.symm (by omega) (by omega) hs7 ?_
        clear h
        intro M h
        repeat (first | (refine s_nwc h ?_; clear h; intro kb M h) | (refine s_stc h ?_; clear h; intro M h) | refine t_exI h ?_ | refine t_exB h ?_ | refine t_exS h ?_ | refine t_exP h ?_ | refine t_exSl h ?_ | refine t_exV h ?_ | refine u_exI ?_ | refine u_exB ?_ | refine u_exS ?_ | refine u_exP ?_ | refine u_exSl ?_ | refine u_exV ?_ | refine u_nilc ?_ | (apply Exists.intro; (repeat apply Exists.intro); refine And.intro rfl ?_) | (refine And.intro ?_ ?_; first | exact trivial | exact rfl | exact t_ld h | (refine lds_s (t_ld h) ?_; (repeat (refine lds_s (t_ld h) ?_)); exact lds_nil) | omega) | refine u_bspT ?_ | refine u_bspF ?_)
        refine ref15_Leave (g := g) h s7 hx6 (by omega) (by omega) hs7 ?_
        clear h
        intro R8 X8 c8 xs8 M g9 h hx8
        rw [hl6, hcl]
        repeat (first | (refine s_nwc h ?_; clear h; intro kb M h) | (refine s_stc h ?_; clear h; intro M h) | refine t_exI h ?_ | refine t_exB h ?_ | refine t_exS h ?_ | refine t_exP h ?_ | refine t_exSl h ?_ | refine t_exV h ?_ | refine u_exI ?_ | refine u_exB ?_ | refine u_exS ?_ | refine u_exP ?_ | refine u_exSl ?_ | refine u_exV ?_ | refine u_nilc ?_ | (apply Exists.intro; (repeat apply Exists.intro); refine And.intro rfl ?_) | (refine And.intro ?_ ?_; first | exact trivial | exact rfl | exact t_ld h | (refine lds_s (t_ld h) ?_; (repeat (refine lds_s (t_ld h) ?_)); exact lds_nil) | omega) | refine u_bspT ?_ | refine u_bspF ?_)
        have h' := h.sealRow X8
        clear h
        obtain ⟨R9, g10, s9, h⟩ := h'
        replace hx8 := hx8.le g10
        replace sb := sb.le (Mem.le_trans g9 g10)
        replace g6 := Mem.le_trans g6 (Mem.le_trans g9 g10)
        have hl8 : (ws.map (·.drop g)).length = 3 := by rw [List.length_map]; omega
        have hs8 : ∀ c ∈ ws.map (·.drop g), c.Small (100 + own.length) := fun c hc => by
          obtain ⟨c0, hc0, rfl⟩ := List.mem_map.1 hc
          exact (hs6 c0 hc0).drop g
        generalize ws.map (·.drop g) = ws2 at *
        refine ⟨fun d vs M => ∃ i : Nat, vs = [.int .i64 (i : Int)] ∧ d = 3 - i ∧ i ≤ 3 ∧ Hp R9 (objsP chanR bs ws2 :: []) M, ⟨_, 0, rfl, rfl, by omega, h.sub (by repeat (first | exact Sub.refl | refine Sub.cons (by first | exact Pick.here | exact (.there .here) | exact (.there (.there .here)) | exact (.there (.there (.there .here))) | exact (.there (.there (.there (.there .here)))) | exact (.there (.there (.there (.there (.there .here))))) | exact (.there (.there (.there (.there (.there (.there .here)))))) | exact (.there (.there (.there (.there (.there (.there (.there .here))))))) | exact (.there (.there (.there (.there (.there (.there (.there (.there .here)))))))) | exact (.there (.there (.there (.there (.there (.there (.there (.there (.there .here))))))))) | exact (.there (.there (.there (.there (.there (.there (.there (.there (.there (.there .here)))))))))) | exact (.there (.there (.there (.there (.there (.there (.there (.there (.there (.there (.there .here))))))))))) | exact (.there (.there (.there (.there (.there (.there (.there (.there (.there (.there (.there (.there .here)))))))))))) | exact (.there (.there (.there (.there (.there (.there (.there (.there (.there (.there (.there (.there (.there .here))))))))))))) | exact (.there (.there (.there (.there (.there (.there (.there (.there (.there (.there (.there (.there (.there (.there .here)))))))))))))) | exact (.there (.there (.there (.there (.there (.there (.there (.there (.there (.there (.there (.there (.there (.there (.there .here)))))))))))))))) ?_ | refine Sub.drop ?_))⟩, ?_⟩
        clear h
        rintro d _ ii M ⟨i, he, hd, hi, h⟩
        simp only [List.cons.injEq, Value.int.injEq, and_true, true_and] at he
        subst he
        refine bsp_dec.2 ⟨fun hlt => ?_, fun hge => ?_⟩
        · obtain ⟨b, hb⟩ := idx_ex (l := bs) (i := i) (by omega)
          obtain ⟨c, hc⟩ := idx_ex (l := ws2) (i := i) (by omega)
          obtain ⟨r, hrq⟩ := idx_ex (l := xs8) (i := i) (by rw [hx8.1]; omega)
          have hr := hx8.2 i r c hrq hc
          obtain ⟨A0, ca0, B0, cb0, D0, cd0, hre, p1, p2, p3⟩ := id hr.eq
          subst hre
          obtain ⟨b1, o1, rfl⟩ := sb.some (by omega) (by decide)
          obtain ⟨b2, o2, rfl⟩ := s9.some (by rw [hx8.1]; omega) (by decide)
          have hsc := (hs8 c (List.mem_of_getElem? hc)).mono (N' := 1000000000) (by omega)
          repeat (first | (refine s_nwc h ?_; clear h; intro kb M h) | (refine s_stc h ?_; clear h; intro M h) | refine t_exI h ?_ | refine t_exB h ?_ | refine t_exS h ?_ | refine t_exP h ?_ | refine t_exSl h ?_ | refine t_exV h ?_ | refine u_exI ?_ | refine u_exB ?_ | refine u_exS ?_ | refine u_exP ?_ | refine u_exSl ?_ | refine u_exV ?_ | refine u_nilc ?_ | (apply Exists.intro; (repeat apply Exists.intro); refine And.intro rfl ?_) | (refine And.intro ?_ ?_; first | exact trivial | exact rfl | exact t_ld h | (refine lds_s (t_ld h) ?_; (repeat (refine lds_s (t_ld h) ?_)); exact lds_nil) | omega) | refine u_bspT ?_ | refine u_bspF ?_)
          simp only [Int.toNat_natCast]
          refine v_exP (sb.src.at h (i := i) (j := 0) hb rfl (by simp [ptrE])) ?_
          refine v_exI (s9.src.at h (i := i) (j := 0) hrq rfl rfl) ?_
          refine v_exSl (s9.src.at h (i := i) (j := 1) hrq rfl rfl) ?_
          refine v_exSl (s9.src.at h (i := i) (j := 2) hrq rfl rfl) ?_
          refine v_exSl (s9.src.at h (i := i) (j := 3) hrq rfl rfl) ?_
          refine v_exB (s9.src.at h (i := i) (j := 4) hrq rfl rfl) ?_
          dsimp only
          replace h := h.objs_out chanR hb hc
          refine chans_State h hsc ?_
          clear h
          intro A3 ca3 B3 cb3 D3 cd3 M h
          repeat (first | (refine s_nwc h ?_; clear h; intro kb M h) | (refine s_stc h ?_; clear h; intro M h) | refine t_exI h ?_ | refine t_exB h ?_ | refine t_exS h ?_ | refine t_exP h ?_ | refine t_exSl h ?_ | refine t_exV h ?_ | refine u_exI ?_ | refine u_exB ?_ | refine u_exS ?_ | refine u_exP ?_ | refine u_exSl ?_ | refine u_exV ?_ | refine u_nilc ?_ | (apply Exists.intro; (repeat apply Exists.intro); refine And.intro rfl ?_) | (refine And.intro ?_ ?_; first | exact trivial | exact rfl | exact t_ld h | (refine lds_s (t_ld h) ?_; (repeat (refine lds_s (t_ld h) ?_)); exact lds_nil) | omega) | refine u_bspT ?_ | refine u_bspF ?_)
          refine ⟨s9.src.lds h hrq rfl, ?_⟩
          have hr0 : RChan R9 [.int .i64 (c.room : Int), .slice A0 c.buf.length ca0, .slice B0 c.snd.length cb0, .slice D0 c.rcv.length cd0, .bool c.closed] c := hr
          refine law13_Same h hr0 hsc Src.row Src.row Src.row ?_
          clear h
          intro M h
          repeat (first | (refine s_nwc h ?_; clear h; intro kb M h) | (refine s_stc h ?_; clear h; intro M h) | refine t_exI h ?_ | refine t_exB h ?_ | refine t_exS h ?_ | refine t_exP h ?_ | refine t_exSl h ?_ | refine t_exV h ?_ | refine u_exI ?_ | refine u_exB ?_ | refine u_exS ?_ | refine u_exP ?_ | refine u_exSl ?_ | refine u_exV ?_ | refine u_nilc ?_ | (apply Exists.intro; (repeat apply Exists.intro); refine And.intro rfl ?_) | (refine And.intro ?_ ?_; first | exact trivial | exact rfl | exact t_ld h | (refine lds_s (t_ld h) ?_; (repeat (refine lds_s (t_ld h) ?_)); exact lds_nil) | omega) | refine u_bspT ?_ | refine u_bspF ?_)
          refine ⟨s9.src.lds h hrq rfl, ?_⟩
          refine u_bspD (by simp) ?_
          replace h := h.objs_same chanR b hb hc
          rw [wrap_succ (by omega)]
          exact ⟨3 - (i + 1), by omega, i + 1, rfl, rfl, by omega, h.fin1⟩
        · exact k _ (h.done g6)
    · refine u_bspD (by simp) ?_
      refine u_bspC (by simp) ?_
      refine u_bspD (by simp) ?_
      refine u_bspD (by simp) ?_
      repeat (first | (refine s_nwc h ?_; clear h; intro kb M h) | (refine s_stc h ?_; clear h; intro M h) | refine t_exI h ?_ | refine t_exB h ?_ | refine t_exS h ?_ | refine t_exP h ?_ | refine t_exSl h ?_ | refine t_exV h ?_ | refine u_exI ?_ | refine u_exB ?_ | refine u_exS ?_ | refine u_exP ?_ | refine u_exSl ?_ | refine u_exV ?_ | refine u_nilc ?_ | (apply Exists.intro; (repeat apply Exists.intro); refine And.intro rfl ?_) | (refine And.intro ?_ ?_; first | exact trivial | exact rfl | exact t_ld h | (refine lds_s (t_ld h) ?_; (repeat (refine lds_s (t_ld h) ?_)); exact lds_nil) | omega) | refine u_bspT ?_ | refine u_bspF ?_)
      have esl : slA (some ⟨kr, 0, none⟩) 0 8 1 = some ⟨kr, 0, none⟩ := rfl
      rw [esl]
      refine picks_Wait (regs := [y0, y1, y2, y3, y4, y5, y6, y7]) h so.src sb.src (show Src R5 _ (some ⟨kr, 0, none⟩) (intE.cells [y0, y1, y2, y3, y4, y5, y6, y7]) from Src.pt (by first | exact Pick.here | exact (.there .here) | exact (.there (.there .here)) | exact (.there (.there (.there .here))) | exact (.there (.there (.there (.there .here)))) | exact (.there (.there (.there (.there (.there .here))))) | exact (.there (.there (.there (.there (.there (.there .here)))))) | exact (.there (.there (.there (.there (.there (.there (.there .here))))))) | exact (.there (.there (.there (.there (.there (.there (.there (.there .here)))))))) | exact (.there (.there (.there (.there (.there (.there (.there (.there (.there .here))))))))) | exact (.there (.there (.there (.there (.there (.there (.there (.there (.there (.there .here)))))))))) | exact (.there (.there (.there (.there (.there (.there (.there (.there (.there (.there (.there .here))))))))))) | exact (.there (.there (.there (.there (.there (.there (.there (.there (.there (.there (.there (.there .here)))))))))))) | exact (.there (.there (.there (.there (.there (.there (.there (.there (.there (.there (.there (.there (.there .here))))))))))))) | exact (.there (.there (.there (.there (.there (.there (.there (.there (.there (.there (.there (.there (.there (.there .here)))))))))))))) | exact (.there (.there (.there (.there (.there (.there (.there (.there (.there (.there (.there (.there (.there (.there (.there .here))))))))))))))))) rfl hbl.symm rfl rfl (by omega) (by omega) hok' hsm6 ?_
      clear h
      intro M h
      repeat (first | (refine s_nwc h ?_; clear h; intro kb M h) | (refine s_stc h ?_; clear h; intro M h) | refine t_exI h ?_ | refine t_exB h ?_ | refine t_exS h ?_ | refine t_exP h ?_ | refine t_exSl h ?_ | refine t_exV h ?_ | refine u_exI ?_ | refine u_exB ?_ | refine u_exS ?_ | refine u_exP ?_ | refine u_exSl ?_ | refine u_exV ?_ | refine u_nilc ?_ | (apply Exists.intro; (repeat apply Exists.intro); refine And.intro rfl ?_) | (refine And.intro ?_ ?_; first | exact trivial | exact rfl | exact t_ld h | (refine lds_s (t_ld h) ?_; (repeat (refine lds_s (t_ld h) ?_)); exact lds_nil) | omega) | refine u_bspT ?_ | refine u_bspF ?_)
      refine ref15_Wait h st sx hx rfl hcl.symm (by omega) (by omega) hok' hsm6 ?_
      clear h
      intro R6 X6 c6 xs6 M g7 h hx6
      have hl6 := waitTo_len g [y0, y1, y2, y3, y4, y5, y6, y7] own cs own.length
      have hs6 := waitTo_small (g := g) (regs := [y0, y1, y2, y3, y4, y5, y6, y7]) hsm hok' own.length
      generalize waitTo g [y0, y1, y2, y3, y4, y5, y6, y7] own cs own.length = ws at *
      rw [hcl]
      repeat (first | (refine s_nwc h ?_; clear h; intro kb M h) | (refine s_stc h ?_; clear h; intro M h) | refine t_exI h ?_ | refine t_exB h ?_ | refine t_exS h ?_ | refine t_exP h ?_ | refine t_exSl h ?_ | refine t_exV h ?_ | refine u_exI ?_ | refine u_exB ?_ | refine u_exS ?_ | refine u_exP ?_ | refine u_exSl ?_ | refine u_exV ?_ | refine u_nilc ?_ | (apply Exists.intro; (repeat apply Exists.intro); refine And.intro rfl ?_) | (refine And.intro ?_ ?_; first | exact trivial | exact rfl | exact t_ld h | (refine lds_s (t_ld h) ?_; (repeat (refine lds_s (t_ld h) ?_)); exact lds_nil) | omega) | refine u_bspT ?_ | refine u_bspF ?_)
      have h' := h.sealRow X6
      clear h
      obtain ⟨R7, g8, s7, h⟩ := h'
      replace hx6 := hx6.le g8
      replace sb := sb.le (Mem.le_trans g7 g8)
      replace g6 := Mem.le_trans g6 (Mem.le_trans g7 g8)
      refine ⟨fun d vs M => ∃ i : Nat, vs = [.int .i64 (i : Int)] ∧ d = 3 - i ∧ i ≤ 3 ∧ Hp R7 (objsP chanR bs ws :: []) M, ⟨_, 0, rfl, rfl, by omega, h.sub (by repeat (first | exact Sub.refl | refine Sub.cons (by first | exact Pick.here | exact (.there .here) | exact (.there (.there .here)) | exact (.there (.there (.there .here))) | exact (.there (.there (.there (.there .here)))) | exact (.there (.there (.there (.there (.there .here))))) | exact (.there (.there (.there (.there (.there (.there .here)))))) | exact (.there (.there (.there (.there (.there (.there (.there .here))))))) | exact (.there (.there (.there (.there (.there (.there (.there (.there .here)))))))) | exact (.there (.there (.there (.there (.there (.there (.there (.there (.there .here))))))))) | exact (.there (.there (.there (.there (.there (.there (.there (.there (.there (.there .here)))))))))) | exact (.there (.there (.there (.there (.there (.there (.there (.there (.there (.there (.there .here))))))))))) | exact (.there (.there (.there (.there (.there (.there (.there (.there (.there (.there (.there (.there .here)))))))))))) | exact (.there (.there (.there (.there (.there (.there (.there (.there (.there (.there (.there (.there (.there .here))))))))))))) | exact (.there (.there (.there (.there (.there (.there (.there (.there (.there (.there (.there (.there (.there (.there .here)))))))))))))) | exact (.there (.there (.there (.there (.there (.there (.there (.there (.there (.there (.there (.there (.there (.there (.there .here)))))))))))))))) ?_ | refine Sub.drop ?_))⟩, ?_⟩
      clear h
      rintro d _ ii M ⟨i, he, hd, hi, h⟩
      simp only [List.cons.injEq, Value.int.injEq, and_true, true_and] at he
      subst he
      refine bsp_dec.2 ⟨fun hlt => ?_, fun hge => ?_⟩
      · obtain ⟨b, hb⟩ := idx_ex (l := bs) (i := i) (by omega)
        obtain ⟨c, hc⟩ := idx_ex (l := ws) (i := i) (by omega)
        obtain ⟨r, hrq⟩ := idx_ex (l := xs6) (i := i) (by rw [hx6.1]; omega)
        have hr := hx6.2 i r c hrq hc
        obtain ⟨A0, ca0, B0, cb0, D0, cd0, hre, p1, p2, p3⟩ := id hr.eq
        subst hre
        obtain ⟨b1, o1, rfl⟩ := sb.some (by omega) (by decide)
        obtain ⟨b2, o2, rfl⟩ := s7.some (by rw [hx6.1]; omega) (by decide)
        have hsc := (hs6 c (List.mem_of_getElem? hc)).mono (N' := 1000000000) (by omega)
        repeat (first | (refine s_nwc h ?_; clear h; intro kb M h) | (refine s_stc h ?_; clear h; intro M h) | refine t_exI h ?_ | refine t_exB h ?_ | refine t_exS h ?_ | refine t_exP h ?_ | refine t_exSl h ?_ | refine t_exV h ?_ | refine u_exI ?_ | refine u_exB ?_ | refine u_exS ?_ | refine u_exP ?_ | refine u_exSl ?_ | refine u_exV ?_ | refine u_nilc ?_ | (apply Exists.intro; (repeat apply Exists.intro); refine And.intro rfl ?_) | (refine And.intro ?_ ?_; first | exact trivial | exact rfl | exact t_ld h | (refine lds_s (t_ld h) ?_; (repeat (refine lds_s (t_ld h) ?_)); exact lds_nil) | omega) | refine u_bspT ?_ | refine u_bspF ?_)
        simp only [Int.toNat_natCast]
        refine v_exP (sb.src.at h (i := i) (j := 0) hb rfl (by simp [ptrE])) ?_
        refine v_exI (s7.src.at h (i := i) (j := 0) hrq rfl rfl) ?_
        refine v_exSl (s7.src.at h (i := i) (j := 1) hrq rfl rfl) ?_
        refine v_exSl (s7.src.at h (i := i) (j := 2) hrq rfl rfl) ?_
        refine v_exSl (s7.src.at h (i := i) (j := 3) hrq rfl rfl) ?_
        refine v_exB (s7.src.at h (i := i) (j := 4) hrq rfl rfl) ?_
        dsimp only
        replace h := h.objs_out chanR hb hc
        refine chans_State h hsc ?_
        clear h
        intro A3 ca3 B3 cb3 D3 cd3 M h
        repeat (first | (refine s_nwc h ?_; clear h; intro kb M h) | (refine s_stc h ?_; clear h; intro M h) | refine t_exI h ?_ | refine t_exB h ?_ | refine t_exS h ?_ | refine t_exP h ?_ | refine t_exSl h ?_ | refine t_exV h ?_ | refine u_exI ?_ | refine u_exB ?_ | refine u_exS ?_ | refine u_exP ?_ | refine u_exSl ?_ | refine u_exV ?_ | refine u_nilc ?_ | (apply Exists.intro; (repeat apply Exists.intro); refine And.intro rfl ?_) | (refine And.intro ?_ ?_; first | exact trivial | exact rfl | exact t_ld h | (refine lds_s (t_ld h) ?_; (repeat (refine lds_s (t_ld h) ?_)); exact lds_nil) | omega) | refine u_bspT ?_ | refine u_bspF ?_)
        refine ⟨s7.src.lds h hrq rfl, ?_⟩
        have hr0 : RChan R7 [.int .i64 (c.room : Int), .slice A0 c.buf.length ca0, .slice B0 c.snd.length cb0, .slice D0 c.rcv.length cd0, .bool c.closed] c := hr
        refine law13_Same h hr0 hsc Src.row Src.row Src.row ?_
        clear h
        intro M h
        repeat (first | (refine s_nwc h ?_; clear h; intro kb M h) | (refine s_stc h ?_; clear h; intro M h) | refine t_exI h ?_ | refine t_exB h ?_ | refine t_exS h ?_ | refine t_exP h ?_ | refine t_exSl h ?_ | refine t_exV h ?_ | refine u_exI ?_ | refine u_exB ?_ | refine u_exS ?_ | refine u_exP ?_ | refine u_exSl ?_ | refine u_exV ?_ | refine u_nilc ?_ | (apply Exists.intro; (repeat apply Exists.intro); refine And.intro rfl ?_) | (refine And.intro ?_ ?_; first | exact trivial | exact rfl | exact t_ld h | (refine lds_s (t_ld h) ?_; (repeat (refine lds_s (t_ld h) ?_)); exact lds_nil) | omega) | refine u_bspT ?_ | refine u_bspF ?_)
        refine ⟨s7.src.lds h hrq rfl, ?_⟩
        refine u_bspD (by simp) ?_
        replace h := h.objs_same chanR b hb hc
        rw [wrap_succ (by omega)]
        exact ⟨3 - (i + 1), by omega, i + 1, rfl, rfl, by omega, h.fin1⟩
      · have hs7 : ∀ c ∈ ws, c.Small 1000000000 := fun c hc => (hs6 c hc).mono (by omega)
        refine picks_Leave h sb.src hbl.symm (by omega) (by omega) hs7 ?_
        clear h
        intro M h
        repeat (first | (refine s_nwc h ?_; clear h; intro kb M h) | (refine s_stc h ?_; clear h; intro M h) | refine t_exI h ?_ | refine t_exB h ?_ | refine t_exS h ?_ | refine t_exP h ?_ | refine t_exSl h ?_ | refine t_exV h ?_ | refine u_exI ?_ | refine u_exB ?_ | refine u_exS ?_ | refine u_exP ?_ | refine u_exSl ?_ | refine u_exV ?_ | refine u_nilc ?_ | (apply Exists.intro; (repeat apply Exists.intro); refine And.intro rfl ?_) | (refine And.intro ?_ ?_; first | exact trivial | exact rfl | exact t_ld h | (refine lds_s (t_ld h) ?_; (repeat (refine lds_s (t_ld h) ?_)); exact lds_nil) | omega) | refine u_bspT ?_ | refine u_bspF ?_)
        refine ref15_Leave (g := g) h s7 hx6 (by omega) (by omega) hs7 ?_
        clear h
        intro R8 X8 c8 xs8 M g9 h hx8
        rw [hl6, hcl]
        repeat (first | (refine s_nwc h ?_; clear h; intro kb M h) | (refine s_stc h ?_; clear h; intro M h) | refine t_exI h ?_ | refine t_exB h ?_ | refine t_exS h ?_ | refine t_exP h ?_ | refine t_exSl h ?_ | refine t_exV h ?_ | refine u_exI ?_ | refine u_exB ?_ | refine u_exS ?_ | refine u_exP ?_ | refine u_exSl ?_ | refine u_exV ?_ | refine u_nilc ?_ | (apply Exists.intro; (repeat apply Exists.intro); refine And.intro rfl ?_) | (refine And.intro ?_ ?_; first | exact trivial | exact rfl | exact t_ld h | (refine lds_s (t_ld h) ?_; (repeat (refine lds_s (t_ld h) ?_)); exact lds_nil) | omega) | refine u_bspT ?_ | refine u_bspF ?_)
        have h' := h.sealRow X8
        clear h
        obtain ⟨R9, g10, s9, h⟩ := h'
        replace hx8 := hx8.le g10
        replace sb := sb.le (Mem.le_trans g9 g10)
        replace g6 := Mem.le_trans g6 (Mem.le_trans g9 g10)
        have hl8 : (ws.map (·.drop g)).length = 3 := by rw [List.length_map]; omega
        have hs8 : ∀ c ∈ ws.map (·.drop g), c.Small (100 + own.length) := fun c hc => by
          obtain ⟨c0, hc0, rfl⟩ := List.mem_map.1 hc
          exact (hs6 c0 hc0).drop g
        generalize ws.map (·.drop g) = ws2 at *
        refine ⟨fun d vs M => ∃ i : Nat, vs = [.int .i64 (i : Int)] ∧ d = 3 - i ∧ i ≤ 3 ∧ Hp R9 (objsP chanR bs ws2 :: []) M, ⟨_, 0, rfl, rfl, by omega, h.sub (by repeat (first | exact Sub.refl | refine Sub.cons (by first | exact Pick.here | exact (.there .here) | exact (.there (.there .here)) | exact (.there (.there (.there .here))) | exact (.there (.there (.there (.there .here)))) | exact (.there (.there (.there (.there (.there .here))))) | exact (.there (.there (.there (.there (.there (.there .here)))))) | exact (.there (.there (.there (.there (.there (.there (.there .here))))))) | exact (.there (.there (.there (.there (.there (.there (.there (.there .here)))))))) | exact (.there (.there (.there (.there (.there (.there (.there (.there (.there .here))))))))) | exact (.there (.there (.there (.there (.there (.there (.there (.there (.there (.there .here)))))))))) | exact (.there (.there (.there (.there (.there (.there (.there (.there (.there (.there (.there .here))))))))))) | exact (.there (.there (.there (.there (.there (.there (.there (.there (.there (.there (.there (.there .here)))))))))))) | exact (.there (.there (.there (.there (.there (.there (.there (.there (.there (.there (.there (.there (.there .here))))))))))))) | exact (.there (.there (.there (.there (.there (.there (.there (.there (.there (.there (.there (.there (.there (.there .here)))))))))))))) | exact (.there (.there (.there (.there (.there (.there (.there (.there (.there (.there (.there (.there (.there (.there (.there .here)))))))))))))))) ?_ | refine Sub.drop ?_))⟩, ?_⟩
        clear h
        rintro d _ ii M ⟨i, he, hd, hi, h⟩
        simp only [List.cons.injEq, Value.int.injEq, and_true, true_and] at he
        subst he
        refine bsp_dec.2 ⟨fun hlt => ?_, fun hge => ?_⟩
        · obtain ⟨b, hb⟩ := idx_ex (l := bs) (i := i) (by omega)
          obtain ⟨c, hc⟩ := idx_ex (l := ws2) (i := i) (by omega)
          obtain ⟨r, hrq⟩ := idx_ex (l := xs8) (i := i) (by rw [hx8.1]; omega)
          have hr := hx8.2 i r c hrq hc
          obtain ⟨A0, ca0, B0, cb0, D0, cd0, hre, p1, p2, p3⟩ := id hr.eq
          subst hre
          obtain ⟨b1, o1, rfl⟩ := sb.some (by omega) (by decide)
          obtain ⟨b2, o2, rfl⟩ := s9.some (by rw [hx8.1]; omega) (by decide)
          have hsc := (hs8 c (List.mem_of_getElem? hc)).mono (N' := 1000000000) (by omega)
          repeat (first | (refine s_nwc h ?_; clear h; intro kb M h) | (refine s_stc h ?_; clear h; intro M h) | refine t_exI h ?_ | refine t_exB h ?_ | refine t_exS h ?_ | refine t_exP h ?_ | refine t_exSl h ?_ | refine t_exV h ?_ | refine u_exI ?_ | refine u_exB ?_ | refine u_exS ?_ | refine u_exP ?_ | refine u_exSl ?_ | refine u_exV ?_ | refine u_nilc ?_ | (apply Exists.intro; (repeat apply Exists.intro); refine And.intro rfl ?_) | (refine And.intro ?_ ?_; first | exact trivial | exact rfl | exact t_ld h | (refine lds_s (t_ld h) ?_; (repeat (refine lds_s (t_ld h) ?_)); exact lds_nil) | omega) | refine u_bspT ?_ | refine u_bspF ?_)
          simp only [Int.toNat_natCast]
          refine v_exP (sb.src.at h (i := i) (j := 0) hb rfl (by simp [ptrE])) ?_
          refine v_exI (s9.src.at h (i := i) (j := 0) hrq rfl rfl) ?_
          refine v_exSl (s9.src.at h (i := i) (j := 1) hrq rfl rfl) ?_
          refine v_exSl (s9.src.at h (i := i) (j := 2) hrq rfl rfl) ?_
          refine v_exSl (s9.src.at h (i := i) (j := 3) hrq rfl rfl) ?_
          refine v_exB (s9.src.at h (i := i) (j := 4) hrq rfl rfl) ?_
          dsimp only
          replace h := h.objs_out chanR hb hc
          refine chans_State h hsc ?_
          clear h
          intro A3 ca3 B3 cb3 D3 cd3 M h
          repeat (first | (refine s_nwc h ?_; clear h; intro kb M h) | (refine s_stc h ?_; clear h; intro M h) | refine t_exI h ?_ | refine t_exB h ?_ | refine t_exS h ?_ | refine t_exP h ?_ | refine t_exSl h ?_ | refine t_exV h ?_ | refine u_exI ?_ | refine u_exB ?_ | refine u_exS ?_ | refine u_exP ?_ | refine u_exSl ?_ | refine u_exV ?_ | refine u_nilc ?_ | (apply Exists.intro; (repeat apply Exists.intro); refine And.intro rfl ?_) | (refine And.intro ?_ ?_; first | exact trivial | exact rfl | exact t_ld h | (refine lds_s (t_ld h) ?_; (repeat (refine lds_s (t_ld h) ?_)); exact lds_nil) | omega) | refine u_bspT ?_ | refine u_bspF ?_)
          refine ⟨s9.src.lds h hrq rfl, ?_⟩
          have hr0 : RChan R9 [.int .i64 (c.room : Int), .slice A0 c.buf.length ca0, .slice B0 c.snd.length cb0, .slice D0 c.rcv.length cd0, .bool c.closed] c := hr
          refine law13_Same h hr0 hsc Src.row Src.row Src.row ?_
          clear h
          intro M h
          repeat (first | (refine s_nwc h ?_; clear h; intro kb M h) | (refine s_stc h ?_; clear h; intro M h) | refine t_exI h ?_ | refine t_exB h ?_ | refine t_exS h ?_ | refine t_exP h ?_ | refine t_exSl h ?_ | refine t_exV h ?_ | refine u_exI ?_ | refine u_exB ?_ | refine u_exS ?_ | refine u_exP ?_ | refine u_exSl ?_ | refine u_exV ?_ | refine u_nilc ?_ | (apply Exists.intro; (repeat apply Exists.intro); refine And.intro rfl ?_) | (refine And.intro ?_ ?_; first | exact trivial | exact rfl | exact t_ld h | (refine lds_s (t_ld h) ?_; (repeat (refine lds_s (t_ld h) ?_)); exact lds_nil) | omega) | refine u_bspT ?_ | refine u_bspF ?_)
          refine ⟨s9.src.lds h hrq rfl, ?_⟩
          refine u_bspD (by simp) ?_
          replace h := h.objs_same chanR b hb hc
          rw [wrap_succ (by omega)]
          exact ⟨3 - (i + 1), by omega, i + 1, rfl, rfl, by omega, h.fin1⟩
        · exact k _ (h.done g6)
  simp only [decide_eq_true_eq] at hlt h8
  obtain ⟨a, ha⟩ := idx_ex (l := raw) (i := i) (by omega)
  replace hC := (hC (by omega)).le g1
  obtain ⟨b1, o1, rfl⟩ := hC.some (by omega) (by decide)
  repeat (first | (refine s_nwc h ?_; clear h; intro kb M h) | (refine s_stc h ?_; clear h; intro M h) | refine t_exI h ?_ | refine t_exB h ?_ | refine t_exS h ?_ | refine t_exP h ?_ | refine t_exSl h ?_ | refine t_exV h ?_ | refine u_exI ?_ | refine u_exB ?_ | refine u_exS ?_ | refine u_exP ?_ | refine u_exSl ?_ | refine u_exV ?_ | refine u_nilc ?_ | (apply Exists.intro; (repeat apply Exists.intro); refine And.intro rfl ?_) | (refine And.intro ?_ ?_; first | exact trivial | exact rfl | exact t_ld h | (refine lds_s (t_ld h) ?_; (repeat (refine lds_s (t_ld h) ?_)); exact lds_nil) | omega) | refine u_bspT ?_ | refine u_bspF ?_)
  simp only [Int.toNat_natCast]
  refine v_exI (hC.src.at h (i := i) (j := 0) ha rfl rfl) ?_
  refine ⟨by omega, ?_⟩
  refine v_exI (hC.src.at h (i := i) (j := 1) ha rfl rfl) ?_
  refine ⟨by omega, ?_⟩
  refine v_exI (hC.src.at h (i := i) (j := 2) ha rfl rfl) ?_
  obtain ⟨q0, hq0, _⟩ := mask (x := a 0) (y := 255) (m := 255) rfl (by omega)
  obtain ⟨q1, hq1, _⟩ := mask (x := a 1) (y := 255) (m := 255) rfl (by omega)
  obtain ⟨q2, hq2, hq27⟩ := mask (x := a 2) (y := 7) (m := 7) rfl (by omega)
  have e0 : Int.tmod (q0 : Int) 3 = ((q0 % 3 : Nat) : Int) := rfl
  have e1 : Int.tmod (q1 : Int) 3 = ((q1 % 3 : Nat) : Int) := rfl
  simp only [hq0, hq1, hq2, e0, e1]
  have hq3 := Nat.mod_lt q0 (show 3 > 0 by omega)
  have hq4 := Nat.mod_lt q1 (show 3 > 0 by omega)
  generalize q0 % 3 = w at hq3
  generalize q1 % 3 = q at hq4
  repeat (first | (refine s_nwc h ?_; clear h; intro kb M h) | (refine s_stc h ?_; clear h; intro M h) | refine t_exI h ?_ | refine t_exB h ?_ | refine t_exS h ?_ | refine t_exP h ?_ | refine t_exSl h ?_ | refine t_exV h ?_ | refine u_exI ?_ | refine u_exB ?_ | refine u_exS ?_ | refine u_exP ?_ | refine u_exSl ?_ | refine u_exV ?_ | refine u_nilc ?_ | (apply Exists.intro; (repeat apply Exists.intro); refine And.intro rfl ?_) | (refine And.intro ?_ ?_; first | exact trivial | exact rfl | exact t_ld h | (refine lds_s (t_ld h) ?_; (repeat (refine lds_s (t_ld h) ?_)); exact lds_nil) | omega) | refine u_bspT ?_ | refine u_bspF ?_)
  refine h.rowAppend1 el_ccase [⟨w, q, q2⟩] rfl rfl (by simp; omega) ?_
  clear h
  intro Ao co M h
  repeat (first | (refine s_nwc h ?_; clear h; intro kb M h) | (refine s_stc h ?_; clear h; intro M h) | refine t_exI h ?_ | refine t_exB h ?_ | refine t_exS h ?_ | refine t_exP h ?_ | refine t_exSl h ?_ | refine t_exV h ?_ | refine u_exI ?_ | refine u_exB ?_ | refine u_exS ?_ | refine u_exP ?_ | refine u_exSl ?_ | refine u_exV ?_ | refine u_nilc ?_ | (apply Exists.intro; (repeat apply Exists.intro); refine And.intro rfl ?_) | (refine And.intro ?_ ?_; first | exact trivial | exact rfl | exact t_ld h | (refine lds_s (t_ld h) ?_; (repeat (refine lds_s (t_ld h) ?_)); exact lds_nil) | omega) | refine u_bspT ?_ | refine u_bspF ?_)
  refine h.rowAppend1 el_rcase [⟨w, q, q2⟩] rfl rfl (by simp; omega) ?_
  clear h
  intro At ct M h
  repeat (first | (refine s_nwc h ?_; clear h; intro kb M h) | (refine s_stc h ?_; clear h; intro M h) | refine t_exI h ?_ | refine t_exB h ?_ | refine t_exS h ?_ | refine t_exP h ?_ | refine t_exSl h ?_ | refine t_exV h ?_ | refine u_exI ?_ | refine u_exB ?_ | refine u_exS ?_ | refine u_exP ?_ | refine u_exSl ?_ | refine u_exV ?_ | refine u_nilc ?_ | (apply Exists.intro; (repeat apply Exists.intro); refine And.intro rfl ?_) | (refine And.intro ?_ ?_; first | exact trivial | exact rfl | exact t_ld h | (refine lds_s (t_ld h) ?_; (repeat (refine lds_s (t_ld h) ?_)); exact lds_nil) | omega) | refine u_bspT ?_ | refine u_bspF ?_)
  rw [wrap_succ (by omega)]
  refine ⟨8 - (i + 1), by omega, i + 1, Ao, co, At, ct, _, rfl, rfl, by omega, by simp; omega, ?_, h.sub (by repeat (first | exact Sub.refl | refine Sub.cons (by first | exact Pick.here | exact (.there .here) | exact (.there (.there .here)) | exact (.there (.there (.there .here))) | exact (.there (.there (.there (.there .here)))) | exact (.there (.there (.there (.there (.there .here))))) | exact (.there (.there (.there (.there (.there (.there .here)))))) | exact (.there (.there (.there (.there (.there (.there (.there .here))))))) | exact (.there (.there (.there (.there (.there (.there (.there (.there .here)))))))) | exact (.there (.there (.there (.there (.there (.there (.there (.there (.there .here))))))))) | exact (.there (.there (.there (.there (.there (.there (.there (.there (.there (.there .here)))))))))) | exact (.there (.there (.there (.there (.there (.there (.there (.there (.there (.there (.there .here))))))))))) | exact (.there (.there (.there (.there (.there (.there (.there (.there (.there (.there (.there (.there .here)))))))))))) | exact (.there (.there (.there (.there (.there (.there (.there (.there (.there (.there (.there (.there (.there .here))))))))))))) | exact (.there (.there (.there (.there (.there (.there (.there (.there (.there (.there (.there (.there (.there (.there .here)))))))))))))) | exact (.there (.there (.there (.there (.there (.there (.there (.there (.there (.there (.there (.there (.there (.there (.there .here)))))))))))))))) ?_ | refine Sub.drop ?_))⟩
  intro c hc
  rcases List.mem_append.1 hc with hc | hc
  · exact hok c hc
  · simp only [List.mem_singleton] at hc; subst hc; simp only [Cas.Ok]; omega
end Go.Proofs
