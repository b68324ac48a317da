/- A part of proofs about functions of one program: a condition over a partial memory that is enough for a call, and what calls answer by it. No condition of its own. -/
import Derived.Test.YtodeolmcinekoaaWinP
import Derived.Test.YtodeolmcinekoaaVWinL
import Derived.Test.YtodeolmcinekoaaAux
/- The windows of picks are the document's. -/
namespace Go.Proofs
open Go.AF
set_option linter.unusedVariables false
set_option maxRecDepth 100000
set_option maxHeartbeats 1000000
attribute [local irreducible] exI exB exS exP exSl exV nilc stc nwc semK semU bsp
def boundOf (s r w g : Nat) : Nat := (2 * s + 2) * w * (7 * (g + 2) + 4 * (r + 2)) + 8 * w
section
variable {R : Mem} {L L' : List HP} {M : Mem} {K : Value → Mem → Prop} {Kp : List PanicEntry → Mem → Prop}
theorem boundOf_le {s r w g : Nat} (hs : s ≤ 20) (hr : r ≤ 20) (hw : w ≤ 100000) (hg : g ≤ 100000) : (2 * s + 2) * w ≤ 4200000 ∧ (2 * s + 2) * w * (7 * (g + 2) + 4 * (r + 2)) ≤ 4200000 * 800000 := by
  have h1 : (2 * s + 2) * w ≤ 42 * 100000 := Nat.mul_le_mul (by omega) hw
  exact ⟨h1, Nat.mul_le_mul h1 (by omega)⟩
theorem fair_Bound {x0 x1 : Int} {s r w g : Nat} (h : Hp R L M) (hs : s ≤ 20) (hr : r ≤ 20) (hw : w ≤ 100000) (hg : g ≤ 100000) (k : ∀ M', Hp R L M' → K (.int .i64 (boundOf s r w g : Nat)) M') :
    ACalls Try.prog 24 #[.agg #[.int .i64 x0, .int .i64 x1, .int .i64 (r : Int), .int .i64 (s : Int)], .int .i64 (w : Int), .int .i64 (g : Int)] M K Kp := by
  refine vc_fair_Bound ?_
  obtain ⟨b1, b2⟩ := boundOf_le hs hr hw hg
  repeat (first | (refine s_nwc h ?_; clear h; intro kb M h) | (refine s_stc h ?_; clear h; intro M h) | refine t_exI h ?_ | refine t_exB h ?_ | refine t_exS h ?_ | refine t_exP h ?_ | refine t_exSl h ?_ | refine t_exV h ?_ | refine u_exI ?_ | refine u_exB ?_ | refine u_exS ?_ | refine u_exP ?_ | refine u_exSl ?_ | refine u_exV ?_ | refine u_nilc ?_ | (apply Exists.intro; (repeat apply Exists.intro); refine And.intro rfl ?_) | (refine And.intro ?_ ?_; first | exact trivial | exact rfl | exact t_ld h | (refine lds_s (t_ld h) ?_; (repeat (refine lds_s (t_ld h) ?_)); exact lds_nil) | omega) | refine u_bspT ?_ | refine u_bspF ?_)
  have a1 : IntKind.wrap .i64 (2 * (s : Int)) = ((2 * s : Nat) : Int) := wn (by simp) (by omega)
  have a2 : IntKind.wrap .i64 (((2 * s : Nat) : Int) + 2) = ((2 * s + 2 : Nat) : Int) := wn (by simp) (by omega)
  have a3 : IntKind.wrap .i64 (((2 * s + 2 : Nat) : Int) * (w : Int)) = (((2 * s + 2) * w : Nat) : Int) := wn (Int.natCast_mul _ _).symm (by omega)
  have a4 : IntKind.wrap .i64 ((g : Int) + 2) = ((g + 2 : Nat) : Int) := wn (by simp) (by omega)
  have a5 : IntKind.wrap .i64 (7 * ((g + 2 : Nat) : Int)) = ((7 * (g + 2) : Nat) : Int) := wn (by omega) (by omega)
  have a6 : IntKind.wrap .i64 ((r : Int) + 2) = ((r + 2 : Nat) : Int) := wn (by simp) (by omega)
  have a7 : IntKind.wrap .i64 (4 * ((r + 2 : Nat) : Int)) = ((4 * (r + 2) : Nat) : Int) := wn (by omega) (by omega)
  have a8 : IntKind.wrap .i64 (((7 * (g + 2) : Nat) : Int) + ((4 * (r + 2) : Nat) : Int)) = ((7 * (g + 2) + 4 * (r + 2) : Nat) : Int) := wn (by omega) (by omega)
  have a9 : IntKind.wrap .i64 ((((2 * s + 2) * w : Nat) : Int) * ((7 * (g + 2) + 4 * (r + 2) : Nat) : Int)) = (((2 * s + 2) * w * (7 * (g + 2) + 4 * (r + 2)) : Nat) : Int) := wn (Int.natCast_mul _ _).symm (by omega)
  have a10 : IntKind.wrap .i64 (8 * (w : Int)) = ((8 * w : Nat) : Int) := wn (by omega) (by omega)
  have a11 : IntKind.wrap .i64 ((((2 * s + 2) * w * (7 * (g + 2) + 4 * (r + 2)) : Nat) : Int) + ((8 * w : Nat) : Int)) = (boundOf s r w g : Nat) := wn (by rw [boundOf, Int.natCast_add]) (by unfold boundOf; omega)
  simp only [a1, a2, a3, a4, a5, a6, a7, a8, a9, a10, a11]
  exact k _ h.fin0
theorem ref24_Bound {x0 x1 : Int} {s r w g : Nat} (h : Hp R L M) (hs : s ≤ 20) (hr : r ≤ 20) (hw : w ≤ 100000) (hg : g ≤ 100000) (k : ∀ M', Hp R L M' → K (.int .i64 (boundOf s r w g : Nat)) M') :
    ACalls Try.prog 25 #[.agg #[.int .i64 x0, .int .i64 x1, .int .i64 (r : Int), .int .i64 (s : Int)], .int .i64 (w : Int), .int .i64 (g : Int)] M K Kp := by
  refine vc_shunterref24_Bound ?_
  obtain ⟨b1, b2⟩ := boundOf_le hs hr hw hg
  repeat (first | (refine s_nwc h ?_; clear h; intro kb M h) | (refine s_stc h ?_; clear h; intro M h) | refine t_exI h ?_ | refine t_exB h ?_ | refine t_exS h ?_ | refine t_exP h ?_ | refine t_exSl h ?_ | refine t_exV h ?_ | refine u_exI ?_ | refine u_exB ?_ | refine u_exS ?_ | refine u_exP ?_ | refine u_exSl ?_ | refine u_exV ?_ | refine u_nilc ?_ | (apply Exists.intro; (repeat apply Exists.intro); refine And.intro rfl ?_) | (refine And.intro ?_ ?_; first | exact trivial | exact rfl | exact t_ld h | (refine lds_s (t_ld h) ?_; (repeat (refine lds_s (t_ld h) ?_)); exact lds_nil) | omega) | refine u_bspT ?_ | refine u_bspF ?_)
  have a1 : IntKind.wrap .i64 ((s : Int) + 1) = ((s + 1 : Nat) : Int) := wn (by simp) (by omega)
  have a2 : IntKind.wrap .i64 (2 * ((s + 1 : Nat) : Int)) = ((2 * s + 2 : Nat) : Int) := wn (by omega) (by omega)
  have a3 : IntKind.wrap .i64 (((2 * s + 2 : Nat) : Int) * (w : Int)) = (((2 * s + 2) * w : Nat) : Int) := wn (Int.natCast_mul _ _).symm (by omega)
  have a4 : IntKind.wrap .i64 (7 * (g : Int)) = ((7 * g : Nat) : Int) := wn (by omega) (by omega)
  have a5 : IntKind.wrap .i64 (((7 * g : Nat) : Int) + 14) = ((7 * g + 14 : Nat) : Int) := wn (by omega) (by omega)
  have a6 : IntKind.wrap .i64 (4 * (r : Int)) = ((4 * r : Nat) : Int) := wn (by omega) (by omega)
  have a7 : IntKind.wrap .i64 (((7 * g + 14 : Nat) : Int) + ((4 * r : Nat) : Int)) = ((7 * g + 14 + 4 * r : Nat) : Int) := wn (by omega) (by omega)
  have a8 : IntKind.wrap .i64 (((7 * g + 14 + 4 * r : Nat) : Int) + 8) = ((7 * (g + 2) + 4 * (r + 2) : Nat) : Int) := wn (by omega) (by omega)
  have a9 : IntKind.wrap .i64 ((((2 * s + 2) * w : Nat) : Int) * ((7 * (g + 2) + 4 * (r + 2) : Nat) : Int)) = (((2 * s + 2) * w * (7 * (g + 2) + 4 * (r + 2)) : Nat) : Int) := wn (Int.natCast_mul _ _).symm (by omega)
  have a10 : IntKind.wrap .i64 (8 * (w : Int)) = ((8 * w : Nat) : Int) := wn (by omega) (by omega)
  have a11 : IntKind.wrap .i64 ((((2 * s + 2) * w * (7 * (g + 2) + 4 * (r + 2)) : Nat) : Int) + ((8 * w : Nat) : Int)) = (boundOf s r w g : Nat) := wn (by rw [boundOf, Int.natCast_add]) (by unfold boundOf; omega)
  simp only [a1, a2, a3, a4, a5, a6, a7, a8, a9, a10, a11]
  exact k _ h.fin0

theorem law18_small {x : Int} {m : Nat} (hm : 0 < m) (h : Hp R L M) (k : ∀ q : Nat, q < m → K (.int .i64 (q : Int)) M) : ACalls Try.prog 79 #[.int .i64 x, .int .i64 (m : Int)] M K Kp := by
  refine vc_shunterlaw18_Some_1 ⟨by omega, ?_⟩
  obtain ⟨q0, hq0, _⟩ := mask (x := x) (y := 255) (m := 255) rfl (by omega)
  rw [hq0]
  exact k (q0 % m) (Nat.mod_lt _ hm)
theorem law18_Some {x0 x1 x2 x3 : Int} (h : Hp R L M) (k : ∀ (p m r s : Nat) M', 1 ≤ p → p ≤ 5 → 1 ≤ m → m ≤ 5 → 2 ≤ r → r ≤ 6 → 1 ≤ s → s ≤ 12 → Hp R L M' → K (.agg #[.int .i64 (p : Int), .int .i64 (m : Int), .int .i64 (r : Int), .int .i64 (s : Int)]) M') :
    ACalls Try.prog 20 #[.agg #[.int .i64 x0, .int .i64 x1, .int .i64 x2, .int .i64 x3]] M K Kp := by
  refine vc_shunterlaw18_Some ?_
  repeat (first | (refine s_nwc h ?_; clear h; intro kb M h) | (refine s_stc h ?_; clear h; intro M h) | refine t_exI h ?_ | refine t_exB h ?_ | refine t_exS h ?_ | refine t_exP h ?_ | refine t_exSl h ?_ | refine t_exV h ?_ | refine u_exI ?_ | refine u_exB ?_ | refine u_exS ?_ | refine u_exP ?_ | refine u_exSl ?_ | refine u_exV ?_ | refine u_nilc ?_ | (apply Exists.intro; (repeat apply Exists.intro); refine And.intro rfl ?_) | (refine And.intro ?_ ?_; first | exact trivial | exact rfl | exact t_ld h | (refine lds_s (t_ld h) ?_; (repeat (refine lds_s (t_ld h) ?_)); exact lds_nil) | omega) | refine u_bspT ?_ | refine u_bspF ?_)
  refine law18_small (m := 5) (by omega) h fun p hp => ?_
  repeat (first | (refine s_nwc h ?_; clear h; intro kb M h) | (refine s_stc h ?_; clear h; intro M h) | refine t_exI h ?_ | refine t_exB h ?_ | refine t_exS h ?_ | refine t_exP h ?_ | refine t_exSl h ?_ | refine t_exV h ?_ | refine u_exI ?_ | refine u_exB ?_ | refine u_exS ?_ | refine u_exP ?_ | refine u_exSl ?_ | refine u_exV ?_ | refine u_nilc ?_ | (apply Exists.intro; (repeat apply Exists.intro); refine And.intro rfl ?_) | (refine And.intro ?_ ?_; first | exact trivial | exact rfl | exact t_ld h | (refine lds_s (t_ld h) ?_; (repeat (refine lds_s (t_ld h) ?_)); exact lds_nil) | omega) | refine u_bspT ?_ | refine u_bspF ?_)
  refine law18_small (m := 5) (by omega) h fun m hm => ?_
  repeat (first | (refine s_nwc h ?_; clear h; intro kb M h) | (refine s_stc h ?_; clear h; intro M h) | refine t_exI h ?_ | refine t_exB h ?_ | refine t_exS h ?_ | refine t_exP h ?_ | refine t_exSl h ?_ | refine t_exV h ?_ | refine u_exI ?_ | refine u_exB ?_ | refine u_exS ?_ | refine u_exP ?_ | refine u_exSl ?_ | refine u_exV ?_ | refine u_nilc ?_ | (apply Exists.intro; (repeat apply Exists.intro); refine And.intro rfl ?_) | (refine And.intro ?_ ?_; first | exact trivial | exact rfl | exact t_ld h | (refine lds_s (t_ld h) ?_; (repeat (refine lds_s (t_ld h) ?_)); exact lds_nil) | omega) | refine u_bspT ?_ | refine u_bspF ?_)
  refine law18_small (m := 5) (by omega) h fun r hr => ?_
  repeat (first | (refine s_nwc h ?_; clear h; intro kb M h) | (refine s_stc h ?_; clear h; intro M h) | refine t_exI h ?_ | refine t_exB h ?_ | refine t_exS h ?_ | refine t_exP h ?_ | refine t_exSl h ?_ | refine t_exV h ?_ | refine u_exI ?_ | refine u_exB ?_ | refine u_exS ?_ | refine u_exP ?_ | refine u_exSl ?_ | refine u_exV ?_ | refine u_nilc ?_ | (apply Exists.intro; (repeat apply Exists.intro); refine And.intro rfl ?_) | (refine And.intro ?_ ?_; first | exact trivial | exact rfl | exact t_ld h | (refine lds_s (t_ld h) ?_; (repeat (refine lds_s (t_ld h) ?_)); exact lds_nil) | omega) | refine u_bspT ?_ | refine u_bspF ?_)
  refine law18_small (m := 12) (by omega) h fun s hs => ?_
  have e1 : IntKind.wrap .i64 (1 + (p : Int)) = ((1 + p : Nat) : Int) := wn (by simp) (by omega)
  have e2 : IntKind.wrap .i64 (1 + (m : Int)) = ((1 + m : Nat) : Int) := wn (by simp) (by omega)
  have e3 : IntKind.wrap .i64 (2 + (r : Int)) = ((2 + r : Nat) : Int) := wn (by simp) (by omega)
  have e4 : IntKind.wrap .i64 (1 + (s : Int)) = ((1 + s : Nat) : Int) := wn (by simp) (by omega)
  refine u_exI ?_
  rw [e1, e2, e3, e4]
  repeat (first | (refine s_nwc h ?_; clear h; intro kb M h) | (refine s_stc h ?_; clear h; intro M h) | refine t_exI h ?_ | refine t_exB h ?_ | refine t_exS h ?_ | refine t_exP h ?_ | refine t_exSl h ?_ | refine t_exV h ?_ | refine u_exI ?_ | refine u_exB ?_ | refine u_exS ?_ | refine u_exP ?_ | refine u_exSl ?_ | refine u_exV ?_ | refine u_nilc ?_ | (apply Exists.intro; (repeat apply Exists.intro); refine And.intro rfl ?_) | (refine And.intro ?_ ?_; first | exact trivial | exact rfl | exact t_ld h | (refine lds_s (t_ld h) ?_; (repeat (refine lds_s (t_ld h) ?_)); exact lds_nil) | omega) | refine u_bspT ?_ | refine u_bspF ?_)
  exact k _ _ _ _ _ (by omega) (by omega) (by omega) (by omega) (by omega) (by omega) (by omega) (by omega) h.fin0

theorem law02_Some {B : Option Addr} {m cc : Nat} {raw : List (Nat → Int)} (h : Hp R L M) (hB : 0 < raw.length → RS (kE [.i64, .u64]) R B cc raw) (hm : m = raw.length) (hl : raw.length ≤ 9223372036854775807)
    (k : ∀ A c l M', (∀ r ∈ l, 1 ≤ r.1 ∧ r.1 ≤ 4 ∧ 0 ≤ r.2) → l.length ≤ 40 → Hp R (rowP recE 30 A c l :: L) M' → K (.slice A l.length c) M') :
    ACalls Try.prog 19 #[.slice B m cc] M K Kp := by
  subst hm
  refine vc_shunterlaw02_Some ?_
  repeat (first | (refine s_nwc h ?_; clear h; intro kb M h) | (refine s_stc h ?_; clear h; intro M h) | refine t_exI h ?_ | refine t_exB h ?_ | refine t_exS h ?_ | refine t_exP h ?_ | refine t_exSl h ?_ | refine t_exV h ?_ | refine u_exI ?_ | refine u_exB ?_ | refine u_exS ?_ | refine u_exP ?_ | refine u_exSl ?_ | refine u_exV ?_ | refine u_nilc ?_ | (apply Exists.intro; (repeat apply Exists.intro); refine And.intro rfl ?_) | (refine And.intro ?_ ?_; first | exact trivial | exact rfl | exact t_ld h | (refine lds_s (t_ld h) ?_; (repeat (refine lds_s (t_ld h) ?_)); exact lds_nil) | omega) | refine u_bspT ?_ | refine u_bspF ?_)
  replace h := (h.pt kb).row_pt (E := recE) (l := []) rfl
  refine ⟨fun d ws M => ∃ (i : Nat) (A : Option Addr) (c : Nat) (l : List (Int × Int)), ws = [.slice A l.length c, .int .i64 (i : Int)] ∧ d = 40 - i ∧ i ≤ 40 ∧ l.length = i ∧ (∀ r ∈ l, 1 ≤ r.1 ∧ r.1 ≤ 4 ∧ 0 ≤ r.2) ∧
      Hp R (rowP recE 30 A c l :: L) M, ⟨_, 0, _, _, [], rfl, rfl, by omega, rfl, by simp, h⟩, ?_⟩
  clear h
  rintro d _ A n c ii M ⟨i, _, _, l, he, hd, hi, hll, hok, h⟩
  simp only [List.cons.injEq, Value.int.injEq, Value.slice.injEq, and_true, true_and] at he
  obtain ⟨⟨rfl, rfl, rfl⟩, rfl⟩ := he
  refine bsp_two (k _ _ _ _ hok (by omega) h) fun hlt h8 => ?_

  obtain ⟨a, ha⟩ := idx_ex (l := raw) (i := i) (by omega)
  replace hB := hB (by omega)
  obtain ⟨b1, o1, rfl⟩ := hB.some (by omega) (by decide)
  repeat (first | (refine s_nwc h ?_; clear h; intro kb M h) | (refine s_stc h ?_; clear h; intro M h) | refine t_exI h ?_ | refine t_exB h ?_ | refine t_exS h ?_ | refine t_exP h ?_ | refine t_exSl h ?_ | refine t_exV h ?_ | refine u_exI ?_ | refine u_exB ?_ | refine u_exS ?_ | refine u_exP ?_ | refine u_exSl ?_ | refine u_exV ?_ | refine u_nilc ?_ | (apply Exists.intro; (repeat apply Exists.intro); refine And.intro rfl ?_) | (refine And.intro ?_ ?_; first | exact trivial | exact rfl | exact t_ld h | (refine lds_s (t_ld h) ?_; (repeat (refine lds_s (t_ld h) ?_)); exact lds_nil) | omega) | refine u_bspT ?_ | refine u_bspF ?_)
  simp only [Int.toNat_natCast]
  refine v_exI (hB.src.at h (i := i) (j := 0) ha rfl rfl) ?_
  refine ⟨by omega, ?_⟩
  refine v_exI (hB.src.at h (i := i) (j := 1) ha rfl rfl) ?_
  obtain ⟨q0, hq0, _⟩ := mask (x := a 0) (y := 255) (m := 255) rfl (by omega)
  have e0 : Int.tmod (q0 : Int) 4 = ((q0 % 4 : Nat) : Int) := rfl
  have e1 : IntKind.wrap .i64 (1 + ((q0 % 4 : Nat) : Int)) = ((1 + q0 % 4 : Nat) : Int) := wn (by simp) (by omega)
  rw [hq0, e0, e1]
  have hu : ∃ v : Nat, IntKind.wrap .u64 (((Nat.bitwise and (BitVec.ofInt IntKind.u64.bits (a 1)).toNat (BitVec.ofInt IntKind.u64.bits 4611686018427387903).toNat) : Nat) : Int) = (v : Int) := by
    rw [IntKind.wrap_u64]; exact ⟨_, rfl⟩
  obtain ⟨v, hv⟩ := hu
  rw [hv]
  have hw := Nat.mod_lt q0 (show 4 > 0 by omega)
  generalize q0 % 4 = w at hw
  repeat (first | (refine s_nwc h ?_; clear h; intro kb M h) | (refine s_stc h ?_; clear h; intro M h) | refine t_exI h ?_ | refine t_exB h ?_ | refine t_exS h ?_ | refine t_exP h ?_ | refine t_exSl h ?_ | refine t_exV h ?_ | refine u_exI ?_ | refine u_exB ?_ | refine u_exS ?_ | refine u_exP ?_ | refine u_exSl ?_ | refine u_exV ?_ | refine u_nilc ?_ | (apply Exists.intro; (repeat apply Exists.intro); refine And.intro rfl ?_) | (refine And.intro ?_ ?_; first | exact trivial | exact rfl | exact t_ld h | (refine lds_s (t_ld h) ?_; (repeat (refine lds_s (t_ld h) ?_)); exact lds_nil) | omega) | refine u_bspT ?_ | refine u_bspF ?_)
  refine h.rowAppend1 el_rec [(((1 + w : Nat) : Int), (v : Int))] rfl rfl (by simp; omega) ?_
  clear h
  intro A' c' M h
  repeat (first | (refine s_nwc h ?_; clear h; intro kb M h) | (refine s_stc h ?_; clear h; intro M h) | refine t_exI h ?_ | refine t_exB h ?_ | refine t_exS h ?_ | refine t_exP h ?_ | refine t_exSl h ?_ | refine t_exV h ?_ | refine u_exI ?_ | refine u_exB ?_ | refine u_exS ?_ | refine u_exP ?_ | refine u_exSl ?_ | refine u_exV ?_ | refine u_nilc ?_ | (apply Exists.intro; (repeat apply Exists.intro); refine And.intro rfl ?_) | (refine And.intro ?_ ?_; first | exact trivial | exact rfl | exact t_ld h | (refine lds_s (t_ld h) ?_; (repeat (refine lds_s (t_ld h) ?_)); exact lds_nil) | omega) | refine u_bspT ?_ | refine u_bspF ?_)
  rw [wrap_succ (by omega)]
  refine ⟨40 - (i + 1), by omega, i + 1, A', c', _, rfl, rfl, by omega, by simp; omega, ?_, h.fin1⟩
  intro r hr
  rcases List.mem_append.1 hr with hr | hr
  · exact hok r hr
  · simp only [List.mem_singleton] at hr; subst hr; simp only; omega

theorem law02_Told {B : Option Addr} {m cc : Nat} {l : List (Int × Int)} (h : Hp R L M) (hB : Src R L B (recE.cells l)) (hm : m = l.length) (hl : l.length ≤ 1000000)
    (k : ∀ A c M', Hp R (rowP recE 142 A c l :: L) M' → K (.slice A l.length c) M') :
    ACalls Try.prog 23 #[.slice B m cc] M K Kp := by
  subst hm
  refine vc_shunterlaw02_Told ?_
  repeat (first | (refine s_nwc h ?_; clear h; intro kb M h) | (refine s_stc h ?_; clear h; intro M h) | refine t_exI h ?_ | refine t_exB h ?_ | refine t_exS h ?_ | refine t_exP h ?_ | refine t_exSl h ?_ | refine t_exV h ?_ | refine u_exI ?_ | refine u_exB ?_ | refine u_exS ?_ | refine u_exP ?_ | refine u_exSl ?_ | refine u_exV ?_ | refine u_nilc ?_ | (apply Exists.intro; (repeat apply Exists.intro); refine And.intro rfl ?_) | (refine And.intro ?_ ?_; first | exact trivial | exact rfl | exact t_ld h | (refine lds_s (t_ld h) ?_; (repeat (refine lds_s (t_ld h) ?_)); exact lds_nil) | omega) | refine u_bspT ?_ | refine u_bspF ?_)
  replace h := (h.pt kb).row_pt (E := recE) (l := []) rfl
  refine ⟨fun d ws M => ∃ (i : Nat) (A : Option Addr) (c : Nat), ws = [.slice A (l.take i).length c, .int .i64 (i : Int)] ∧ d = l.length - i ∧ i ≤ l.length ∧
      Hp R (rowP recE 142 A c (l.take i) :: L) M, ⟨_, 0, _, _, rfl, rfl, by omega, h⟩, ?_⟩
  clear h
  rintro d _ A n c ii M ⟨i, _, _, he, hd, hi, h⟩
  simp only [List.cons.injEq, Value.int.injEq, Value.slice.injEq, and_true, true_and] at he
  obtain ⟨⟨rfl, rfl, rfl⟩, rfl⟩ := he
  refine bsp_dec.2 ⟨fun hlt => ?_, fun hge => ?_⟩
  · obtain ⟨r, hr⟩ := idx_ex (l := l) (i := i) (by omega)
    obtain ⟨b1, o1, rfl⟩ := hB.cons.someE h (by omega) (by decide)
    repeat (first | (refine s_nwc h ?_; clear h; intro kb M h) | (refine s_stc h ?_; clear h; intro M h) | refine t_exI h ?_ | refine t_exB h ?_ | refine t_exS h ?_ | refine t_exP h ?_ | refine t_exSl h ?_ | refine t_exV h ?_ | refine u_exI ?_ | refine u_exB ?_ | refine u_exS ?_ | refine u_exP ?_ | refine u_exSl ?_ | refine u_exV ?_ | refine u_nilc ?_ | (apply Exists.intro; (repeat apply Exists.intro); refine And.intro rfl ?_) | (refine And.intro ?_ ?_; first | exact trivial | exact rfl | exact t_ld h | (refine lds_s (t_ld h) ?_; (repeat (refine lds_s (t_ld h) ?_)); exact lds_nil) | omega) | refine u_bspT ?_ | refine u_bspF ?_)
    simp only [Int.toNat_natCast]
    refine v_exI (hB.cons.at h (i := i) (j := 0) hr rfl rfl) ?_
    refine v_exI (hB.cons.at h (i := i) (j := 1) hr rfl rfl) ?_
    repeat (first | (refine s_nwc h ?_; clear h; intro kb M h) | (refine s_stc h ?_; clear h; intro M h) | refine t_exI h ?_ | refine t_exB h ?_ | refine t_exS h ?_ | refine t_exP h ?_ | refine t_exSl h ?_ | refine t_exV h ?_ | refine u_exI ?_ | refine u_exB ?_ | refine u_exS ?_ | refine u_exP ?_ | refine u_exSl ?_ | refine u_exV ?_ | refine u_nilc ?_ | (apply Exists.intro; (repeat apply Exists.intro); refine And.intro rfl ?_) | (refine And.intro ?_ ?_; first | exact trivial | exact rfl | exact t_ld h | (refine lds_s (t_ld h) ?_; (repeat (refine lds_s (t_ld h) ?_)); exact lds_nil) | omega) | refine u_bspT ?_ | refine u_bspF ?_)
    refine h.rowAppend1 el_rrec [r] rfl rfl (by simp; omega) ?_
    clear h
    intro A' c' M h
    repeat (first | (refine s_nwc h ?_; clear h; intro kb M h) | (refine s_stc h ?_; clear h; intro M h) | refine t_exI h ?_ | refine t_exB h ?_ | refine t_exS h ?_ | refine t_exP h ?_ | refine t_exSl h ?_ | refine t_exV h ?_ | refine u_exI ?_ | refine u_exB ?_ | refine u_exS ?_ | refine u_exP ?_ | refine u_exSl ?_ | refine u_exV ?_ | refine u_nilc ?_ | (apply Exists.intro; (repeat apply Exists.intro); refine And.intro rfl ?_) | (refine And.intro ?_ ?_; first | exact trivial | exact rfl | exact t_ld h | (refine lds_s (t_ld h) ?_; (repeat (refine lds_s (t_ld h) ?_)); exact lds_nil) | omega) | refine u_bspT ?_ | refine u_bspF ?_)
    rw [wrap_succ (by omega)]
    rw [← take_snoc hr] at h ⊢
    exact ⟨l.length - (i + 1), by omega, i + 1, A', c', rfl, rfl, by omega, h.fin1⟩
  · obtain rfl : i = l.length := by omega
    rw [List.take_length] at h ⊢
    exact k _ _ _ h
end
end Go.Proofs
