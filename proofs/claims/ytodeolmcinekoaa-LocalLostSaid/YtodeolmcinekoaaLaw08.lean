/- A part of proofs about functions of one program: a condition over a partial memory that is enough for a call, and what calls answer by it. No condition of its own. -/
import Derived.Test.YtodeolmcinekoaaRLocal
import Derived.Test.YtodeolmcinekoaaLocal3
import Derived.Test.YtodeolmcinekoaaLaw08M
import Derived.Test.YtodeolmcinekoaaTwo
import Derived.Test.YtodeolmcinekoaaSame
/- Four queues, the program's and the document's: one call. -/
namespace Go.Proofs
open Go.AF
set_option linter.unusedVariables false
set_option maxRecDepth 100000
set_option maxHeartbeats 1000000
attribute [local irreducible] exI exB exS exP exSl exV nilc stc nwc semK semU bsp
attribute [local irreducible] objsP objsX
structure RL where
  next : Int
  A : Option Addr
  n : Nat
  c : Nat
  room : Int
def rlE : Enc RL := ⟨3, fun w => [.int .i64 w.next, .slice w.A w.n w.c, .int .i64 w.room], fun _ => rfl, fun w v hv => by
  simp only [List.mem_cons, List.not_mem_nil, or_false] at hv; obtain rfl | rfl | rfl := hv <;> rfl⟩
def RLo (R : Mem) (r : RL) (x : Loc) : Prop := ∃ A c, r = ⟨x.next, A, x.l.length, c, x.room⟩ ∧ RS intE R A c x.l
def RLs (R : Mem) (rs : List RL) (xs : List Loc) : Prop := rs.length = xs.length ∧ ∀ (i : Nat) (r : RL) (x : Loc), rs[i]? = some r → xs[i]? = some x → RLo R r x
theorem RLs.le {R R' : Mem} {rs : List RL} {xs : List Loc} (h : RLs R rs xs) (hle : R.le R') : RLs R' rs xs := ⟨h.1, fun i r x h1 h2 => by obtain ⟨A, c, e, s⟩ := h.2 i r x h1 h2; exact ⟨A, c, e, s.le hle⟩⟩
theorem RLs.set {R : Mem} {rs : List RL} {xs : List Loc} (h : RLs R rs xs) (i : Nat) {r : RL} {x : Loc} (hr : RLo R r x) : RLs R (rs.set i r) (xs.set i x) := by
  refine ⟨by simp [h.1], fun j r' x' h1 h2 => ?_⟩
  rw [List.getElem?_set] at h1 h2
  split at h1
  · rename_i e; rw [if_pos e] at h2
    split at h1
    · split at h2
      · cases h1; cases h2; exact hr
      · cases h2
    · cases h1
  · rename_i e; rw [if_neg e] at h2; exact h.2 j _ _ h1 h2
theorem RLs.snoc {R : Mem} {rs : List RL} {xs : List Loc} {r : RL} {x : Loc} (h : RLs R rs xs) (hr : RLo R r x) : RLs R (rs ++ [r]) (xs ++ [x]) := by
  refine ⟨by simp [h.1], fun i r' c' h1 h2 => ?_⟩
  rcases Nat.lt_or_ge i rs.length with hl | hl
  · rw [List.getElem?_append_left hl] at h1; rw [List.getElem?_append_left (by rw [← h.1]; exact hl)] at h2; exact h.2 i _ _ h1 h2
  · rw [List.getElem?_append_right hl] at h1; rw [List.getElem?_append_right (by rw [← h.1]; exact hl)] at h2
    have : i - rs.length = 0 := by
      obtain ⟨hh, _⟩ := List.getElem?_eq_some_iff.1 h1; simp at hh; omega
    rw [this] at h1; rw [← h.1, this] at h2
    cases h1; cases h2; exact hr
/-- The law's four queues, at a block. -/
def W8 (R : Mem) (L : List HP) (wb : Nat) (s : S8) (M : Mem) : Prop := ∃ (Al : Option Addr) (ca : Nat) (Ax : Option Addr) (cx : Nat) (Ay : Option Addr) (cy : Nat) (Ao : Option Addr) (co gb : Nat) (bs : List Nat) (rs : List RL),
  bs.length = 4 ∧ RLs R rs s.xs ∧ RS intE R Ay cy s.g ∧ Hp R (pt wb [.slice Al 4 ca, .pointer (some ⟨gb, 0, none⟩), .slice Ax 4 cx, .slice Ay s.g.length cy, .int .i64 s.next, .slice Ao s.out.length co] 140 ::
    rowP ptrE 101 Al ca bs :: objsP locR bs s.xs :: objP glR gb s.g :: rowP rlE 172 Ax cx rs :: rowP intE 3 Ao co s.out :: L) M
section
variable {R : Mem} {L L' L'' : List HP} {M : Mem} {K : Value → Mem → Prop} {Kp : List PanicEntry → Mem → Prop} {x f : Loc} {g : List Int}
theorem s_rl {b o T c q : Nat} {rs : List RL} {r r' : RL} {G : Mem → Prop} (h : Hp R L M) [hp : RowAt (some ⟨b, 0, none⟩) L RL rlE T c rs L'] (hi : rs[q]? = some r) (e : o = q * 3)
    (k : ∀ M', Hp R (rowP rlE T (some ⟨b, 0, none⟩) c (rs.set q r') :: L') M' → G M') :
    stc M ⟨b, o, none⟩ (.int .i64 r'.next) fun M => stc M ⟨b, o + 1, none⟩ (.slice r'.A r'.n r'.c) fun M => stc M ⟨b, o + 2, none⟩ (.int .i64 r'.room) fun M => G M := by
  subst e
  have hl := (List.getElem?_eq_some_iff.1 hi).1
  refine s_row q 0 h hi (by decide) (a' := { r with next := r'.next }) rfl rfl fun M1 h1 => ?_
  refine s_row q 1 h1 (a := { r with next := r'.next }) (by simp [hl]) (by decide) (a' := { r' with room := r.room }) rfl rfl fun M2 h2 => ?_
  refine s_row q 2 h2 (a := { r' with room := r.room }) (by simp [hl]) (by decide) (a' := r') rfl rfl fun M3 h3 => ?_
  simp only [List.set_set] at h3
  exact k _ h3
theorem got_eq (v : Int) (t : Bool) (h : t = decide (v ≥ 0)) : (t == decide (v ≥ 0)) = true := by subst h; simp
theorem law08_got {wb no : Nat} {v : Int} {t : Bool} {c0 c1 c2 c3 c4 : Value} {Ao : Option Addr} {co : Nat} {out : List Int} {L1 L2 : List HP} (h : Hp R L M) [p : PtAt wb L [c0, c1, c2, c3, c4, .slice Ao no co] 140 L1] [o : RowAt Ao L1 Int intE 3 co out L2] (hno : no = out.length) (ht : t = decide (v ≥ 0)) (hs : out.length ≤ 1000000)
    (k : ∀ Ao co M', Hp R (pt wb [c0, c1, c2, c3, c4, .slice Ao (out ++ got8 v).length co] 140 :: rowP intE 3 Ao co (out ++ got8 v) :: L2) M' → K (.bool true) M') :
    ACalls Try.prog 99 #[.pointer (some ⟨wb, 0, none⟩), .int .i64 v, .bool t, .int .i64 v] M K Kp := by
  subst hno
  replace h := h.sub (.cons p.pick (.cons o.pick .refl))
  refine vc_shunterlaw08_world_got ?_
  refine bsp_dec.2 ⟨fun hv => ?_, fun hv => ?_⟩
  · rw [got8, if_pos (by omega)] at k
    repeat (first | (refine s_nwc h ?_; clear h; intro kb M h) | (refine s_stc h ?_; clear h; intro M h) | refine t_exI h ?_ | refine t_exB h ?_ | refine t_exS h ?_ | refine t_exP h ?_ | refine t_exSl h ?_ | refine t_exV h ?_ | refine u_exI ?_ | refine u_exB ?_ | refine u_exS ?_ | refine u_exP ?_ | refine u_exSl ?_ | refine u_exV ?_ | refine u_nilc ?_ | (apply Exists.intro; (repeat apply Exists.intro); refine And.intro rfl ?_) | (refine And.intro ?_ ?_; first | exact trivial | exact rfl | exact t_ld h | (refine lds_s (t_ld h) ?_; (repeat (refine lds_s (t_ld h) ?_)); exact lds_nil) | omega) | refine u_bspT ?_ | refine u_bspF ?_)
    refine h.rowAppend1 el_intR [v] rfl rfl (by simp; omega) ?_
    clear h
    intro A' c' M h
    repeat (first | (refine s_nwc h ?_; clear h; intro kb M h) | (refine s_stc h ?_; clear h; intro M h) | refine t_exI h ?_ | refine t_exB h ?_ | refine t_exS h ?_ | refine t_exP h ?_ | refine t_exSl h ?_ | refine t_exV h ?_ | refine u_exI ?_ | refine u_exB ?_ | refine u_exS ?_ | refine u_exP ?_ | refine u_exSl ?_ | refine u_exV ?_ | refine u_nilc ?_ | (apply Exists.intro; (repeat apply Exists.intro); refine And.intro rfl ?_) | (refine And.intro ?_ ?_; first | exact trivial | exact rfl | exact t_ld h | (refine lds_s (t_ld h) ?_; (repeat (refine lds_s (t_ld h) ?_)); exact lds_nil) | omega) | refine u_bspT ?_ | refine u_bspF ?_)
    refine bsp_eq.2 ⟨fun _ => ?_, fun hn => absurd rfl hn⟩
    rw [got_eq v t ht]
    exact k _ _ _ (h.sub (by repeat (first | exact Sub.refl | refine Sub.cons (by first | exact Pick.here | exact (.there .here) | exact (.there (.there .here)) | exact (.there (.there (.there .here))) | exact (.there (.there (.there (.there .here)))) | exact (.there (.there (.there (.there (.there .here))))) | exact (.there (.there (.there (.there (.there (.there .here)))))) | exact (.there (.there (.there (.there (.there (.there (.there .here))))))) | exact (.there (.there (.there (.there (.there (.there (.there (.there .here)))))))) | exact (.there (.there (.there (.there (.there (.there (.there (.there (.there .here))))))))) | exact (.there (.there (.there (.there (.there (.there (.there (.there (.there (.there .here)))))))))) | exact (.there (.there (.there (.there (.there (.there (.there (.there (.there (.there (.there .here))))))))))) | exact (.there (.there (.there (.there (.there (.there (.there (.there (.there (.there (.there (.there .here)))))))))))) | exact (.there (.there (.there (.there (.there (.there (.there (.there (.there (.there (.there (.there (.there .here))))))))))))) | exact (.there (.there (.there (.there (.there (.there (.there (.there (.there (.there (.there (.there (.there (.there .here)))))))))))))) | exact (.there (.there (.there (.there (.there (.there (.there (.there (.there (.there (.there (.there (.there (.there (.there .here)))))))))))))))) ?_ | refine Sub.drop ?_)))
  · rw [got8, if_neg (by omega), List.append_nil] at k
    refine bsp_eq.2 ⟨fun _ => ?_, fun hn => absurd rfl hn⟩
    rw [got_eq v t ht]
    exact k _ _ _ h
theorem local_Steal_self {b : Nat} (h : Hp R L M) [o : ObjAt locR b L x L'] (k : K (.tuple #[.int .i64 (-1), .bool false]) M) :
    ACalls Try.prog 62 #[.pointer (some ⟨b, 0, none⟩), .pointer (some ⟨b, 0, none⟩)] M K Kp := by
  refine vc_local_Local_Steal ⟨fun _ => ?_, fun hn => absurd rfl hn⟩
  exact u_bspT k
set_option maxHeartbeats 4000000 in
theorem law08_does {wb : Nat} {x0 x1 x2 : Int} {s : S8} {n : Nat} (hw : W8 R L wb s M) (ok : s.Ok n) (hn : n ≤ 1000000) (hx2 : x2 < 9223372036854775808)
    (k : ∀ (kd i j : Nat) R' M', i < 4 → j < 4 → R.le R' → W8 R' L wb (does8 s kd i j x2) M' → K (.bool true) M') :
    ACalls Try.prog 75 #[.pointer (some ⟨wb, 0, none⟩), .agg #[.int .i64 x0, .int .i64 x1, .int .i64 x2]] M K Kp := by
  obtain ⟨Al, ca, Ax, cx, Ay, cy, Ao, co, gb, bs, rs, hbl, hx, hy, h⟩ := hw
  have ok0 := ok
  obtain ⟨ok1, ok2, ok3, _⟩ := ok0
  have okg := ok.gl
  have okp := ok.gp
  refine vc_shunterlaw08_world_does ?_
  repeat (first | (refine s_stc h ?_; clear h; intro M h) | refine t_exI h ?_ | refine t_exB h ?_ | refine t_exS h ?_ | refine t_exP h ?_ | refine t_exSl h ?_ | refine t_exV h ?_ | refine u_exI ?_ | refine u_exB ?_ | refine u_exS ?_ | refine u_exP ?_ | refine u_exSl ?_ | refine u_exV ?_ | refine u_nilc ?_ | (apply Exists.intro; (repeat apply Exists.intro); refine And.intro rfl ?_) | (refine And.intro ?_ ?_; first | exact trivial | exact rfl | exact t_ld h | (refine lds_s (t_ld h) ?_; (repeat (refine lds_s (t_ld h) ?_)); exact lds_nil) | omega) | refine u_bspT ?_ | refine u_bspF ?_)
  refine s_nwc h ?_
  clear h
  intro ka M h
  repeat (first | (refine s_nwc h ?_; clear h; intro kb M h) | (refine s_stc h ?_; clear h; intro M h) | refine t_exI h ?_ | refine t_exB h ?_ | refine t_exS h ?_ | refine t_exP h ?_ | refine t_exSl h ?_ | refine t_exV h ?_ | refine u_exI ?_ | refine u_exB ?_ | refine u_exS ?_ | refine u_exP ?_ | refine u_exSl ?_ | refine u_exV ?_ | refine u_nilc ?_ | (apply Exists.intro; (repeat apply Exists.intro); refine And.intro rfl ?_) | (refine And.intro ?_ ?_; first | exact trivial | exact rfl | exact t_ld h | (refine lds_s (t_ld h) ?_; (repeat (refine lds_s (t_ld h) ?_)); exact lds_nil) | omega) | refine u_bspT ?_ | refine u_bspF ?_)
  obtain ⟨q0, hq0, _⟩ := mask (x := x0) (y := 255) (m := 255) rfl (by omega)
  obtain ⟨i, hi, hi3⟩ := mask (x := x1) (y := 3) (m := 3) rfl (by omega)
  obtain ⟨j, hj, hj3⟩ := mask (x := x2) (y := 3) (m := 3) rfl (by omega)
  have e0 : Int.tmod (q0 : Int) 10 = ((q0 % 10 : Nat) : Int) := rfl
  simp only [hq0, hi, hj, e0]
  have hq := Nat.mod_lt q0 (show 10 > 0 by omega)
  generalize q0 % 10 = q at hq
  clear hq0 hi hj
  have hrl := hx.1
  have hxi := lc_at (xs := s.xs) (i := i) (by omega)
  have hmi := lc_mem (xs := s.xs) (i := i) (by omega)
  have hxj := lc_at (xs := s.xs) (i := j) (by omega)
  have hmj := lc_mem (xs := s.xs) (i := j) (by omega)
  obtain ⟨b, hb⟩ := idx_ex (l := bs) (i := i) (by omega)
  obtain ⟨b', hb'⟩ := idx_ex (l := bs) (i := j) (by omega)
  obtain ⟨r, hr⟩ := idx_ex (l := rs) (i := i) (by omega)
  obtain ⟨A0, c0, hre, hrs⟩ := hx.2 i r _ hr hxi
  subst hre
  have bi := ok3 _ hmi
  have pi := ok.pos hmi
  obtain ⟨b1, rfl⟩ := h.row_some (A := Al) (by omega) (by decide)
  obtain ⟨b2, rfl⟩ := h.row_some (A := Ax) (by omega) (by decide)
  have s1 := h.src (A := some ⟨b1, 0, none⟩)
  refine bsp_eq.2 ⟨fun hk => ?_, fun hk => ?_⟩
  · repeat (first | (refine s_nwc h ?_; clear h; intro kb M h) | (refine s_stc h ?_; clear h; intro M h) | refine t_exI h ?_ | refine t_exB h ?_ | refine t_exS h ?_ | refine t_exP h ?_ | refine t_exSl h ?_ | refine t_exV h ?_ | refine u_exI ?_ | refine u_exB ?_ | refine u_exS ?_ | refine u_exP ?_ | refine u_exSl ?_ | refine u_exV ?_ | refine u_nilc ?_ | (apply Exists.intro; (repeat apply Exists.intro); refine And.intro rfl ?_) | (refine And.intro ?_ ?_; first | exact trivial | exact rfl | exact t_ld h | (refine lds_s (t_ld h) ?_; (repeat (refine lds_s (t_ld h) ?_)); exact lds_nil) | omega) | refine u_bspT ?_ | refine u_bspF ?_)
    try simp only [Int.toNat_natCast]
    refine v_exP (s1.at h (i := i) (j := 0) hb rfl (by simp [ptrE])) ?_

    replace h := h.objs_out locR hb hxi
    repeat (first | (refine s_nwc h ?_; clear h; intro kb M h) | (refine s_stc h ?_; clear h; intro M h) | refine t_exI h ?_ | refine t_exB h ?_ | refine t_exS h ?_ | refine t_exP h ?_ | refine t_exSl h ?_ | refine t_exV h ?_ | refine u_exI ?_ | refine u_exB ?_ | refine u_exS ?_ | refine u_exP ?_ | refine u_exSl ?_ | refine u_exV ?_ | refine u_nilc ?_ | (apply Exists.intro; (repeat apply Exists.intro); refine And.intro rfl ?_) | (refine And.intro ?_ ?_; first | exact trivial | exact rfl | exact t_ld h | (refine lds_s (t_ld h) ?_; (repeat (refine lds_s (t_ld h) ?_)); exact lds_nil) | omega) | refine u_bspT ?_ | refine u_bspF ?_)
    refine local_Ready h (by omega) ?_
    clear h
    intro M h

    replace h := h.objs_in locR b hb (by omega)

    repeat (first | (refine s_nwc h ?_; clear h; intro kb M h) | (refine s_stc h ?_; clear h; intro M h) | refine t_exI h ?_ | refine t_exB h ?_ | refine t_exS h ?_ | refine t_exP h ?_ | refine t_exSl h ?_ | refine t_exV h ?_ | refine u_exI ?_ | refine u_exB ?_ | refine u_exS ?_ | refine u_exP ?_ | refine u_exSl ?_ | refine u_exV ?_ | refine u_nilc ?_ | (apply Exists.intro; (repeat apply Exists.intro); refine And.intro rfl ?_) | (refine And.intro ?_ ?_; first | exact trivial | exact rfl | exact t_ld h | (refine lds_s (t_ld h) ?_; (repeat (refine lds_s (t_ld h) ?_)); exact lds_nil) | omega) | refine u_bspT ?_ | refine u_bspF ?_)
    have s2 := h.src (A := some ⟨b2, 0, none⟩)
    try simp only [Int.toNat_natCast]
    refine v_exI (s2.at h (i := i) (j := 0) hr rfl rfl) ?_
    refine v_exSl (s2.at h (i := i) (j := 1) hr rfl rfl) ?_
    refine v_exI (s2.at h (i := i) (j := 2) hr rfl rfl) ?_
    dsimp only

    repeat (first | (refine s_nwc h ?_; clear h; intro kb M h) | (refine s_stc h ?_; clear h; intro M h) | refine t_exI h ?_ | refine t_exB h ?_ | refine t_exS h ?_ | refine t_exP h ?_ | refine t_exSl h ?_ | refine t_exV h ?_ | refine u_exI ?_ | refine u_exB ?_ | refine u_exS ?_ | refine u_exP ?_ | refine u_exSl ?_ | refine u_exV ?_ | refine u_nilc ?_ | (apply Exists.intro; (repeat apply Exists.intro); refine And.intro rfl ?_) | (refine And.intro ?_ ?_; first | exact trivial | exact rfl | exact t_ld h | (refine lds_s (t_ld h) ?_; (repeat (refine lds_s (t_ld h) ?_)); exact lds_nil) | omega) | refine u_bspT ?_ | refine u_bspF ?_)
    refine ref08_Ready (x := lc s.xs i) h bi pi.1 hrs hy (by omega) fun R1 A1 c1 B1 cb1 M g1 h' t1 t2 => ?_
    clear h
    have h := h'
    clear h'

    have e : does8 s 0 i j x2 = ⟨s.xs.set i ((lc s.xs i).ready s.next s.g).1, ((lc s.xs i).ready s.next s.g).2.1, s.next + 1, s.out⟩ := by unfold does8; simp
    have hbz := trivial
    generalize hZ : ((lc s.xs i).ready s.next s.g) = z at *
    repeat (first | (refine s_nwc h ?_; clear h; intro kb M h) | (refine s_stc h ?_; clear h; intro M h) | refine t_exI h ?_ | refine t_exB h ?_ | refine t_exS h ?_ | refine t_exP h ?_ | refine t_exSl h ?_ | refine t_exV h ?_ | refine u_exI ?_ | refine u_exB ?_ | refine u_exS ?_ | refine u_exP ?_ | refine u_exSl ?_ | refine u_exV ?_ | refine u_nilc ?_ | (apply Exists.intro; (repeat apply Exists.intro); refine And.intro rfl ?_) | (refine And.intro ?_ ?_; first | exact trivial | exact rfl | exact t_ld h | (refine lds_s (t_ld h) ?_; (repeat (refine lds_s (t_ld h) ?_)); exact lds_nil) | omega) | refine u_bspT ?_ | refine u_bspF ?_)
    try simp only [Int.toNat_natCast]
    refine s_rl (q := i) (r' := ⟨z.1.next, A1, z.1.l.length, c1, z.1.room⟩) h hr (by omega) ?_
    clear h; intro M h
    repeat (first | (refine s_nwc h ?_; clear h; intro kb M h) | (refine s_stc h ?_; clear h; intro M h) | refine t_exI h ?_ | refine t_exB h ?_ | refine t_exS h ?_ | refine t_exP h ?_ | refine t_exSl h ?_ | refine t_exV h ?_ | refine u_exI ?_ | refine u_exB ?_ | refine u_exS ?_ | refine u_exP ?_ | refine u_exSl ?_ | refine u_exV ?_ | refine u_nilc ?_ | (apply Exists.intro; (repeat apply Exists.intro); refine And.intro rfl ?_) | (refine And.intro ?_ ?_; first | exact trivial | exact rfl | exact t_ld h | (refine lds_s (t_ld h) ?_; (repeat (refine lds_s (t_ld h) ?_)); exact lds_nil) | omega) | refine u_bspT ?_ | refine u_bspF ?_)

    rw [wrap_in (n := s.next + 1) (by omega) (by omega)] at h
    simp only [beq_self_eq_true]
    refine k 0 i j R1 _ (by omega) (by omega) g1 ?_
    rw [e]
    exact ⟨_, ca, _, cx, _, _, _, co, gb, bs, _, hbl, (hx.le g1).set i ⟨_, _, rfl, t1⟩, t2, h.sub (by repeat (first | exact Sub.refl | refine Sub.cons (by first | exact Pick.here | exact (.there .here) | exact (.there (.there .here)) | exact (.there (.there (.there .here))) | exact (.there (.there (.there (.there .here)))) | exact (.there (.there (.there (.there (.there .here))))) | exact (.there (.there (.there (.there (.there (.there .here)))))) | exact (.there (.there (.there (.there (.there (.there (.there .here))))))) | exact (.there (.there (.there (.there (.there (.there (.there (.there .here)))))))) | exact (.there (.there (.there (.there (.there (.there (.there (.there (.there .here))))))))) | exact (.there (.there (.there (.there (.there (.there (.there (.there (.there (.there .here)))))))))) | exact (.there (.there (.there (.there (.there (.there (.there (.there (.there (.there (.there .here))))))))))) | exact (.there (.there (.there (.there (.there (.there (.there (.there (.there (.there (.there (.there .here)))))))))))) | exact (.there (.there (.there (.there (.there (.there (.there (.there (.there (.there (.there (.there (.there .here))))))))))))) | exact (.there (.there (.there (.there (.there (.there (.there (.there (.there (.there (.there (.there (.there (.there .here)))))))))))))) | exact (.there (.there (.there (.there (.there (.there (.there (.there (.there (.there (.there (.there (.there (.there (.there .here)))))))))))))))) ?_ | refine Sub.drop ?_))⟩
  refine bsp_eq.2 ⟨fun hk => ?_, fun hk => ?_⟩
  · repeat (first | (refine s_nwc h ?_; clear h; intro kb M h) | (refine s_stc h ?_; clear h; intro M h) | refine t_exI h ?_ | refine t_exB h ?_ | refine t_exS h ?_ | refine t_exP h ?_ | refine t_exSl h ?_ | refine t_exV h ?_ | refine u_exI ?_ | refine u_exB ?_ | refine u_exS ?_ | refine u_exP ?_ | refine u_exSl ?_ | refine u_exV ?_ | refine u_nilc ?_ | (apply Exists.intro; (repeat apply Exists.intro); refine And.intro rfl ?_) | (refine And.intro ?_ ?_; first | exact trivial | exact rfl | exact t_ld h | (refine lds_s (t_ld h) ?_; (repeat (refine lds_s (t_ld h) ?_)); exact lds_nil) | omega) | refine u_bspT ?_ | refine u_bspF ?_)
    try simp only [Int.toNat_natCast]
    refine v_exP (s1.at h (i := i) (j := 0) hb rfl (by simp [ptrE])) ?_

    replace h := h.objs_out locR hb hxi
    repeat (first | (refine s_nwc h ?_; clear h; intro kb M h) | (refine s_stc h ?_; clear h; intro M h) | refine t_exI h ?_ | refine t_exB h ?_ | refine t_exS h ?_ | refine t_exP h ?_ | refine t_exSl h ?_ | refine t_exV h ?_ | refine u_exI ?_ | refine u_exB ?_ | refine u_exS ?_ | refine u_exP ?_ | refine u_exSl ?_ | refine u_exV ?_ | refine u_nilc ?_ | (apply Exists.intro; (repeat apply Exists.intro); refine And.intro rfl ?_) | (refine And.intro ?_ ?_; first | exact trivial | exact rfl | exact t_ld h | (refine lds_s (t_ld h) ?_; (repeat (refine lds_s (t_ld h) ?_)); exact lds_nil) | omega) | refine u_bspT ?_ | refine u_bspF ?_)
    refine local_Ready h (by omega) ?_
    clear h
    intro M h

    replace h := h.objs_in locR b hb (by omega)

    repeat (first | (refine s_nwc h ?_; clear h; intro kb M h) | (refine s_stc h ?_; clear h; intro M h) | refine t_exI h ?_ | refine t_exB h ?_ | refine t_exS h ?_ | refine t_exP h ?_ | refine t_exSl h ?_ | refine t_exV h ?_ | refine u_exI ?_ | refine u_exB ?_ | refine u_exS ?_ | refine u_exP ?_ | refine u_exSl ?_ | refine u_exV ?_ | refine u_nilc ?_ | (apply Exists.intro; (repeat apply Exists.intro); refine And.intro rfl ?_) | (refine And.intro ?_ ?_; first | exact trivial | exact rfl | exact t_ld h | (refine lds_s (t_ld h) ?_; (repeat (refine lds_s (t_ld h) ?_)); exact lds_nil) | omega) | refine u_bspT ?_ | refine u_bspF ?_)
    have s2 := h.src (A := some ⟨b2, 0, none⟩)
    try simp only [Int.toNat_natCast]
    refine v_exI (s2.at h (i := i) (j := 0) hr rfl rfl) ?_
    refine v_exSl (s2.at h (i := i) (j := 1) hr rfl rfl) ?_
    refine v_exI (s2.at h (i := i) (j := 2) hr rfl rfl) ?_
    dsimp only

    repeat (first | (refine s_nwc h ?_; clear h; intro kb M h) | (refine s_stc h ?_; clear h; intro M h) | refine t_exI h ?_ | refine t_exB h ?_ | refine t_exS h ?_ | refine t_exP h ?_ | refine t_exSl h ?_ | refine t_exV h ?_ | refine u_exI ?_ | refine u_exB ?_ | refine u_exS ?_ | refine u_exP ?_ | refine u_exSl ?_ | refine u_exV ?_ | refine u_nilc ?_ | (apply Exists.intro; (repeat apply Exists.intro); refine And.intro rfl ?_) | (refine And.intro ?_ ?_; first | exact trivial | exact rfl | exact t_ld h | (refine lds_s (t_ld h) ?_; (repeat (refine lds_s (t_ld h) ?_)); exact lds_nil) | omega) | refine u_bspT ?_ | refine u_bspF ?_)
    refine ref08_Ready (x := lc s.xs i) h bi pi.1 hrs hy (by omega) fun R1 A1 c1 B1 cb1 M g1 h' t1 t2 => ?_
    clear h
    have h := h'
    clear h'

    have e : does8 s 1 i j x2 = ⟨s.xs.set i ((lc s.xs i).ready s.next s.g).1, ((lc s.xs i).ready s.next s.g).2.1, s.next + 1, s.out⟩ := by unfold does8; simp
    have hbz := trivial
    generalize hZ : ((lc s.xs i).ready s.next s.g) = z at *
    repeat (first | (refine s_nwc h ?_; clear h; intro kb M h) | (refine s_stc h ?_; clear h; intro M h) | refine t_exI h ?_ | refine t_exB h ?_ | refine t_exS h ?_ | refine t_exP h ?_ | refine t_exSl h ?_ | refine t_exV h ?_ | refine u_exI ?_ | refine u_exB ?_ | refine u_exS ?_ | refine u_exP ?_ | refine u_exSl ?_ | refine u_exV ?_ | refine u_nilc ?_ | (apply Exists.intro; (repeat apply Exists.intro); refine And.intro rfl ?_) | (refine And.intro ?_ ?_; first | exact trivial | exact rfl | exact t_ld h | (refine lds_s (t_ld h) ?_; (repeat (refine lds_s (t_ld h) ?_)); exact lds_nil) | omega) | refine u_bspT ?_ | refine u_bspF ?_)
    try simp only [Int.toNat_natCast]
    refine s_rl (q := i) (r' := ⟨z.1.next, A1, z.1.l.length, c1, z.1.room⟩) h hr (by omega) ?_
    clear h; intro M h
    repeat (first | (refine s_nwc h ?_; clear h; intro kb M h) | (refine s_stc h ?_; clear h; intro M h) | refine t_exI h ?_ | refine t_exB h ?_ | refine t_exS h ?_ | refine t_exP h ?_ | refine t_exSl h ?_ | refine t_exV h ?_ | refine u_exI ?_ | refine u_exB ?_ | refine u_exS ?_ | refine u_exP ?_ | refine u_exSl ?_ | refine u_exV ?_ | refine u_nilc ?_ | (apply Exists.intro; (repeat apply Exists.intro); refine And.intro rfl ?_) | (refine And.intro ?_ ?_; first | exact trivial | exact rfl | exact t_ld h | (refine lds_s (t_ld h) ?_; (repeat (refine lds_s (t_ld h) ?_)); exact lds_nil) | omega) | refine u_bspT ?_ | refine u_bspF ?_)

    rw [wrap_in (n := s.next + 1) (by omega) (by omega)] at h
    simp only [beq_self_eq_true]
    refine k 1 i j R1 _ (by omega) (by omega) g1 ?_
    rw [e]
    exact ⟨_, ca, _, cx, _, _, _, co, gb, bs, _, hbl, (hx.le g1).set i ⟨_, _, rfl, t1⟩, t2, h.sub (by repeat (first | exact Sub.refl | refine Sub.cons (by first | exact Pick.here | exact (.there .here) | exact (.there (.there .here)) | exact (.there (.there (.there .here))) | exact (.there (.there (.there (.there .here)))) | exact (.there (.there (.there (.there (.there .here))))) | exact (.there (.there (.there (.there (.there (.there .here)))))) | exact (.there (.there (.there (.there (.there (.there (.there .here))))))) | exact (.there (.there (.there (.there (.there (.there (.there (.there .here)))))))) | exact (.there (.there (.there (.there (.there (.there (.there (.there (.there .here))))))))) | exact (.there (.there (.there (.there (.there (.there (.there (.there (.there (.there .here)))))))))) | exact (.there (.there (.there (.there (.there (.there (.there (.there (.there (.there (.there .here))))))))))) | exact (.there (.there (.there (.there (.there (.there (.there (.there (.there (.there (.there (.there .here)))))))))))) | exact (.there (.there (.there (.there (.there (.there (.there (.there (.there (.there (.there (.there (.there .here))))))))))))) | exact (.there (.there (.there (.there (.there (.there (.there (.there (.there (.there (.there (.there (.there (.there .here)))))))))))))) | exact (.there (.there (.there (.there (.there (.there (.there (.there (.there (.there (.there (.there (.there (.there (.there .here)))))))))))))))) ?_ | refine Sub.drop ?_))⟩
  refine bsp_eq.2 ⟨fun hk => ?_, fun hk => ?_⟩
  · repeat (first | (refine s_nwc h ?_; clear h; intro kb M h) | (refine s_stc h ?_; clear h; intro M h) | refine t_exI h ?_ | refine t_exB h ?_ | refine t_exS h ?_ | refine t_exP h ?_ | refine t_exSl h ?_ | refine t_exV h ?_ | refine u_exI ?_ | refine u_exB ?_ | refine u_exS ?_ | refine u_exP ?_ | refine u_exSl ?_ | refine u_exV ?_ | refine u_nilc ?_ | (apply Exists.intro; (repeat apply Exists.intro); refine And.intro rfl ?_) | (refine And.intro ?_ ?_; first | exact trivial | exact rfl | exact t_ld h | (refine lds_s (t_ld h) ?_; (repeat (refine lds_s (t_ld h) ?_)); exact lds_nil) | omega) | refine u_bspT ?_ | refine u_bspF ?_)
    try simp only [Int.toNat_natCast]
    refine v_exP (s1.at h (i := i) (j := 0) hb rfl (by simp [ptrE])) ?_

    replace h := h.objs_out locR hb hxi
    repeat (first | (refine s_nwc h ?_; clear h; intro kb M h) | (refine s_stc h ?_; clear h; intro M h) | refine t_exI h ?_ | refine t_exB h ?_ | refine t_exS h ?_ | refine t_exP h ?_ | refine t_exSl h ?_ | refine t_exV h ?_ | refine u_exI ?_ | refine u_exB ?_ | refine u_exS ?_ | refine u_exP ?_ | refine u_exSl ?_ | refine u_exV ?_ | refine u_nilc ?_ | (apply Exists.intro; (repeat apply Exists.intro); refine And.intro rfl ?_) | (refine And.intro ?_ ?_; first | exact trivial | exact rfl | exact t_ld h | (refine lds_s (t_ld h) ?_; (repeat (refine lds_s (t_ld h) ?_)); exact lds_nil) | omega) | refine u_bspT ?_ | refine u_bspF ?_)
    refine local_Put h (by omega) ?_
    clear h
    intro M h

    replace h := h.objs_in locR b hb (by omega)

    repeat (first | (refine s_nwc h ?_; clear h; intro kb M h) | (refine s_stc h ?_; clear h; intro M h) | refine t_exI h ?_ | refine t_exB h ?_ | refine t_exS h ?_ | refine t_exP h ?_ | refine t_exSl h ?_ | refine t_exV h ?_ | refine u_exI ?_ | refine u_exB ?_ | refine u_exS ?_ | refine u_exP ?_ | refine u_exSl ?_ | refine u_exV ?_ | refine u_nilc ?_ | (apply Exists.intro; (repeat apply Exists.intro); refine And.intro rfl ?_) | (refine And.intro ?_ ?_; first | exact trivial | exact rfl | exact t_ld h | (refine lds_s (t_ld h) ?_; (repeat (refine lds_s (t_ld h) ?_)); exact lds_nil) | omega) | refine u_bspT ?_ | refine u_bspF ?_)
    have s2 := h.src (A := some ⟨b2, 0, none⟩)
    try simp only [Int.toNat_natCast]
    refine v_exI (s2.at h (i := i) (j := 0) hr rfl rfl) ?_
    refine v_exSl (s2.at h (i := i) (j := 1) hr rfl rfl) ?_
    refine v_exI (s2.at h (i := i) (j := 2) hr rfl rfl) ?_
    dsimp only

    repeat (first | (refine s_nwc h ?_; clear h; intro kb M h) | (refine s_stc h ?_; clear h; intro M h) | refine t_exI h ?_ | refine t_exB h ?_ | refine t_exS h ?_ | refine t_exP h ?_ | refine t_exSl h ?_ | refine t_exV h ?_ | refine u_exI ?_ | refine u_exB ?_ | refine u_exS ?_ | refine u_exP ?_ | refine u_exSl ?_ | refine u_exV ?_ | refine u_nilc ?_ | (apply Exists.intro; (repeat apply Exists.intro); refine And.intro rfl ?_) | (refine And.intro ?_ ?_; first | exact trivial | exact rfl | exact t_ld h | (refine lds_s (t_ld h) ?_; (repeat (refine lds_s (t_ld h) ?_)); exact lds_nil) | omega) | refine u_bspT ?_ | refine u_bspF ?_)
    refine ref08_Put (x := lc s.xs i) h bi hrs hy (by omega) fun R1 A1 c1 B1 cb1 M g1 h' t1 t2 => ?_
    clear h
    have h := h'
    clear h'

    have e : does8 s 2 i j x2 = ⟨s.xs.set i ((lc s.xs i).put s.next s.g).1, ((lc s.xs i).put s.next s.g).2.1, s.next + 1, s.out⟩ := by unfold does8; simp
    have hbz := trivial
    generalize hZ : ((lc s.xs i).put s.next s.g) = z at *
    repeat (first | (refine s_nwc h ?_; clear h; intro kb M h) | (refine s_stc h ?_; clear h; intro M h) | refine t_exI h ?_ | refine t_exB h ?_ | refine t_exS h ?_ | refine t_exP h ?_ | refine t_exSl h ?_ | refine t_exV h ?_ | refine u_exI ?_ | refine u_exB ?_ | refine u_exS ?_ | refine u_exP ?_ | refine u_exSl ?_ | refine u_exV ?_ | refine u_nilc ?_ | (apply Exists.intro; (repeat apply Exists.intro); refine And.intro rfl ?_) | (refine And.intro ?_ ?_; first | exact trivial | exact rfl | exact t_ld h | (refine lds_s (t_ld h) ?_; (repeat (refine lds_s (t_ld h) ?_)); exact lds_nil) | omega) | refine u_bspT ?_ | refine u_bspF ?_)
    try simp only [Int.toNat_natCast]
    refine s_rl (q := i) (r' := ⟨z.1.next, A1, z.1.l.length, c1, z.1.room⟩) h hr (by omega) ?_
    clear h; intro M h
    repeat (first | (refine s_nwc h ?_; clear h; intro kb M h) | (refine s_stc h ?_; clear h; intro M h) | refine t_exI h ?_ | refine t_exB h ?_ | refine t_exS h ?_ | refine t_exP h ?_ | refine t_exSl h ?_ | refine t_exV h ?_ | refine u_exI ?_ | refine u_exB ?_ | refine u_exS ?_ | refine u_exP ?_ | refine u_exSl ?_ | refine u_exV ?_ | refine u_nilc ?_ | (apply Exists.intro; (repeat apply Exists.intro); refine And.intro rfl ?_) | (refine And.intro ?_ ?_; first | exact trivial | exact rfl | exact t_ld h | (refine lds_s (t_ld h) ?_; (repeat (refine lds_s (t_ld h) ?_)); exact lds_nil) | omega) | refine u_bspT ?_ | refine u_bspF ?_)

    rw [wrap_in (n := s.next + 1) (by omega) (by omega)] at h
    simp only [beq_self_eq_true]
    refine k 2 i j R1 _ (by omega) (by omega) g1 ?_
    rw [e]
    exact ⟨_, ca, _, cx, _, _, _, co, gb, bs, _, hbl, (hx.le g1).set i ⟨_, _, rfl, t1⟩, t2, h.sub (by repeat (first | exact Sub.refl | refine Sub.cons (by first | exact Pick.here | exact (.there .here) | exact (.there (.there .here)) | exact (.there (.there (.there .here))) | exact (.there (.there (.there (.there .here)))) | exact (.there (.there (.there (.there (.there .here))))) | exact (.there (.there (.there (.there (.there (.there .here)))))) | exact (.there (.there (.there (.there (.there (.there (.there .here))))))) | exact (.there (.there (.there (.there (.there (.there (.there (.there .here)))))))) | exact (.there (.there (.there (.there (.there (.there (.there (.there (.there .here))))))))) | exact (.there (.there (.there (.there (.there (.there (.there (.there (.there (.there .here)))))))))) | exact (.there (.there (.there (.there (.there (.there (.there (.there (.there (.there (.there .here))))))))))) | exact (.there (.there (.there (.there (.there (.there (.there (.there (.there (.there (.there (.there .here)))))))))))) | exact (.there (.there (.there (.there (.there (.there (.there (.there (.there (.there (.there (.there (.there .here))))))))))))) | exact (.there (.there (.there (.there (.there (.there (.there (.there (.there (.there (.there (.there (.there (.there .here)))))))))))))) | exact (.there (.there (.there (.there (.there (.there (.there (.there (.there (.there (.there (.there (.there (.there (.there .here)))))))))))))))) ?_ | refine Sub.drop ?_))⟩
  refine bsp_eq.2 ⟨fun hk => ?_, fun hk => ?_⟩
  · repeat (first | (refine s_nwc h ?_; clear h; intro kb M h) | (refine s_stc h ?_; clear h; intro M h) | refine t_exI h ?_ | refine t_exB h ?_ | refine t_exS h ?_ | refine t_exP h ?_ | refine t_exSl h ?_ | refine t_exV h ?_ | refine u_exI ?_ | refine u_exB ?_ | refine u_exS ?_ | refine u_exP ?_ | refine u_exSl ?_ | refine u_exV ?_ | refine u_nilc ?_ | (apply Exists.intro; (repeat apply Exists.intro); refine And.intro rfl ?_) | (refine And.intro ?_ ?_; first | exact trivial | exact rfl | exact t_ld h | (refine lds_s (t_ld h) ?_; (repeat (refine lds_s (t_ld h) ?_)); exact lds_nil) | omega) | refine u_bspT ?_ | refine u_bspF ?_)
    try simp only [Int.toNat_natCast]
    refine v_exP (s1.at h (i := i) (j := 0) hb rfl (by simp [ptrE])) ?_

    replace h := h.objs_out locR hb hxi
    repeat (first | (refine s_nwc h ?_; clear h; intro kb M h) | (refine s_stc h ?_; clear h; intro M h) | refine t_exI h ?_ | refine t_exB h ?_ | refine t_exS h ?_ | refine t_exP h ?_ | refine t_exSl h ?_ | refine t_exV h ?_ | refine u_exI ?_ | refine u_exB ?_ | refine u_exS ?_ | refine u_exP ?_ | refine u_exSl ?_ | refine u_exV ?_ | refine u_nilc ?_ | (apply Exists.intro; (repeat apply Exists.intro); refine And.intro rfl ?_) | (refine And.intro ?_ ?_; first | exact trivial | exact rfl | exact t_ld h | (refine lds_s (t_ld h) ?_; (repeat (refine lds_s (t_ld h) ?_)); exact lds_nil) | omega) | refine u_bspT ?_ | refine u_bspF ?_)
    refine local_Put h (by omega) ?_
    clear h
    intro M h

    replace h := h.objs_in locR b hb (by omega)

    repeat (first | (refine s_nwc h ?_; clear h; intro kb M h) | (refine s_stc h ?_; clear h; intro M h) | refine t_exI h ?_ | refine t_exB h ?_ | refine t_exS h ?_ | refine t_exP h ?_ | refine t_exSl h ?_ | refine t_exV h ?_ | refine u_exI ?_ | refine u_exB ?_ | refine u_exS ?_ | refine u_exP ?_ | refine u_exSl ?_ | refine u_exV ?_ | refine u_nilc ?_ | (apply Exists.intro; (repeat apply Exists.intro); refine And.intro rfl ?_) | (refine And.intro ?_ ?_; first | exact trivial | exact rfl | exact t_ld h | (refine lds_s (t_ld h) ?_; (repeat (refine lds_s (t_ld h) ?_)); exact lds_nil) | omega) | refine u_bspT ?_ | refine u_bspF ?_)
    have s2 := h.src (A := some ⟨b2, 0, none⟩)
    try simp only [Int.toNat_natCast]
    refine v_exI (s2.at h (i := i) (j := 0) hr rfl rfl) ?_
    refine v_exSl (s2.at h (i := i) (j := 1) hr rfl rfl) ?_
    refine v_exI (s2.at h (i := i) (j := 2) hr rfl rfl) ?_
    dsimp only

    repeat (first | (refine s_nwc h ?_; clear h; intro kb M h) | (refine s_stc h ?_; clear h; intro M h) | refine t_exI h ?_ | refine t_exB h ?_ | refine t_exS h ?_ | refine t_exP h ?_ | refine t_exSl h ?_ | refine t_exV h ?_ | refine u_exI ?_ | refine u_exB ?_ | refine u_exS ?_ | refine u_exP ?_ | refine u_exSl ?_ | refine u_exV ?_ | refine u_nilc ?_ | (apply Exists.intro; (repeat apply Exists.intro); refine And.intro rfl ?_) | (refine And.intro ?_ ?_; first | exact trivial | exact rfl | exact t_ld h | (refine lds_s (t_ld h) ?_; (repeat (refine lds_s (t_ld h) ?_)); exact lds_nil) | omega) | refine u_bspT ?_ | refine u_bspF ?_)
    refine ref08_Put (x := lc s.xs i) h bi hrs hy (by omega) fun R1 A1 c1 B1 cb1 M g1 h' t1 t2 => ?_
    clear h
    have h := h'
    clear h'

    have e : does8 s 3 i j x2 = ⟨s.xs.set i ((lc s.xs i).put s.next s.g).1, ((lc s.xs i).put s.next s.g).2.1, s.next + 1, s.out⟩ := by unfold does8; simp
    have hbz := trivial
    generalize hZ : ((lc s.xs i).put s.next s.g) = z at *
    repeat (first | (refine s_nwc h ?_; clear h; intro kb M h) | (refine s_stc h ?_; clear h; intro M h) | refine t_exI h ?_ | refine t_exB h ?_ | refine t_exS h ?_ | refine t_exP h ?_ | refine t_exSl h ?_ | refine t_exV h ?_ | refine u_exI ?_ | refine u_exB ?_ | refine u_exS ?_ | refine u_exP ?_ | refine u_exSl ?_ | refine u_exV ?_ | refine u_nilc ?_ | (apply Exists.intro; (repeat apply Exists.intro); refine And.intro rfl ?_) | (refine And.intro ?_ ?_; first | exact trivial | exact rfl | exact t_ld h | (refine lds_s (t_ld h) ?_; (repeat (refine lds_s (t_ld h) ?_)); exact lds_nil) | omega) | refine u_bspT ?_ | refine u_bspF ?_)
    try simp only [Int.toNat_natCast]
    refine s_rl (q := i) (r' := ⟨z.1.next, A1, z.1.l.length, c1, z.1.room⟩) h hr (by omega) ?_
    clear h; intro M h
    repeat (first | (refine s_nwc h ?_; clear h; intro kb M h) | (refine s_stc h ?_; clear h; intro M h) | refine t_exI h ?_ | refine t_exB h ?_ | refine t_exS h ?_ | refine t_exP h ?_ | refine t_exSl h ?_ | refine t_exV h ?_ | refine u_exI ?_ | refine u_exB ?_ | refine u_exS ?_ | refine u_exP ?_ | refine u_exSl ?_ | refine u_exV ?_ | refine u_nilc ?_ | (apply Exists.intro; (repeat apply Exists.intro); refine And.intro rfl ?_) | (refine And.intro ?_ ?_; first | exact trivial | exact rfl | exact t_ld h | (refine lds_s (t_ld h) ?_; (repeat (refine lds_s (t_ld h) ?_)); exact lds_nil) | omega) | refine u_bspT ?_ | refine u_bspF ?_)

    rw [wrap_in (n := s.next + 1) (by omega) (by omega)] at h
    simp only [beq_self_eq_true]
    refine k 3 i j R1 _ (by omega) (by omega) g1 ?_
    rw [e]
    exact ⟨_, ca, _, cx, _, _, _, co, gb, bs, _, hbl, (hx.le g1).set i ⟨_, _, rfl, t1⟩, t2, h.sub (by repeat (first | exact Sub.refl | refine Sub.cons (by first | exact Pick.here | exact (.there .here) | exact (.there (.there .here)) | exact (.there (.there (.there .here))) | exact (.there (.there (.there (.there .here)))) | exact (.there (.there (.there (.there (.there .here))))) | exact (.there (.there (.there (.there (.there (.there .here)))))) | exact (.there (.there (.there (.there (.there (.there (.there .here))))))) | exact (.there (.there (.there (.there (.there (.there (.there (.there .here)))))))) | exact (.there (.there (.there (.there (.there (.there (.there (.there (.there .here))))))))) | exact (.there (.there (.there (.there (.there (.there (.there (.there (.there (.there .here)))))))))) | exact (.there (.there (.there (.there (.there (.there (.there (.there (.there (.there (.there .here))))))))))) | exact (.there (.there (.there (.there (.there (.there (.there (.there (.there (.there (.there (.there .here)))))))))))) | exact (.there (.there (.there (.there (.there (.there (.there (.there (.there (.there (.there (.there (.there .here))))))))))))) | exact (.there (.there (.there (.there (.there (.there (.there (.there (.there (.there (.there (.there (.there (.there .here)))))))))))))) | exact (.there (.there (.there (.there (.there (.there (.there (.there (.there (.there (.there (.there (.there (.there (.there .here)))))))))))))))) ?_ | refine Sub.drop ?_))⟩
  refine bsp_eq.2 ⟨fun hk => ?_, fun hk => ?_⟩
  · repeat (first | (refine s_nwc h ?_; clear h; intro kb M h) | (refine s_stc h ?_; clear h; intro M h) | refine t_exI h ?_ | refine t_exB h ?_ | refine t_exS h ?_ | refine t_exP h ?_ | refine t_exSl h ?_ | refine t_exV h ?_ | refine u_exI ?_ | refine u_exB ?_ | refine u_exS ?_ | refine u_exP ?_ | refine u_exSl ?_ | refine u_exV ?_ | refine u_nilc ?_ | (apply Exists.intro; (repeat apply Exists.intro); refine And.intro rfl ?_) | (refine And.intro ?_ ?_; first | exact trivial | exact rfl | exact t_ld h | (refine lds_s (t_ld h) ?_; (repeat (refine lds_s (t_ld h) ?_)); exact lds_nil) | omega) | refine u_bspT ?_ | refine u_bspF ?_)
    try simp only [Int.toNat_natCast]
    refine v_exP (s1.at h (i := i) (j := 0) hb rfl (by simp [ptrE])) ?_

    replace h := h.objs_out locR hb hxi
    repeat (first | (refine s_nwc h ?_; clear h; intro kb M h) | (refine s_stc h ?_; clear h; intro M h) | refine t_exI h ?_ | refine t_exB h ?_ | refine t_exS h ?_ | refine t_exP h ?_ | refine t_exSl h ?_ | refine t_exV h ?_ | refine u_exI ?_ | refine u_exB ?_ | refine u_exS ?_ | refine u_exP ?_ | refine u_exSl ?_ | refine u_exV ?_ | refine u_nilc ?_ | (apply Exists.intro; (repeat apply Exists.intro); refine And.intro rfl ?_) | (refine And.intro ?_ ?_; first | exact trivial | exact rfl | exact t_ld h | (refine lds_s (t_ld h) ?_; (repeat (refine lds_s (t_ld h) ?_)); exact lds_nil) | omega) | refine u_bspT ?_ | refine u_bspF ?_)

    refine local_Get h fun t M' ht1 ht2 h' => ?_
    clear h
    have h := h'
    clear h'
    have hgn : t = decide ((lc s.xs i).get.2 ≥ 0) := by
      rcases get_pos pi with ⟨a1, a2, a3⟩ | ⟨a1, a2⟩
      · rw [ht1 a3 a1 a2, a3]; rfl
      · rw [ht2 a1]; simp [a2]

    replace h := h.objs_in locR b hb (by omega)

    repeat (first | (refine s_nwc h ?_; clear h; intro kb M h) | (refine s_stc h ?_; clear h; intro M h) | refine t_exI h ?_ | refine t_exB h ?_ | refine t_exS h ?_ | refine t_exP h ?_ | refine t_exSl h ?_ | refine t_exV h ?_ | refine u_exI ?_ | refine u_exB ?_ | refine u_exS ?_ | refine u_exP ?_ | refine u_exSl ?_ | refine u_exV ?_ | refine u_nilc ?_ | (apply Exists.intro; (repeat apply Exists.intro); refine And.intro rfl ?_) | (refine And.intro ?_ ?_; first | exact trivial | exact rfl | exact t_ld h | (refine lds_s (t_ld h) ?_; (repeat (refine lds_s (t_ld h) ?_)); exact lds_nil) | omega) | refine u_bspT ?_ | refine u_bspF ?_)
    have s2 := h.src (A := some ⟨b2, 0, none⟩)
    try simp only [Int.toNat_natCast]
    refine v_exI (s2.at h (i := i) (j := 0) hr rfl rfl) ?_
    refine v_exSl (s2.at h (i := i) (j := 1) hr rfl rfl) ?_
    refine v_exI (s2.at h (i := i) (j := 2) hr rfl rfl) ?_
    dsimp only

    repeat (first | (refine s_nwc h ?_; clear h; intro kb M h) | (refine s_stc h ?_; clear h; intro M h) | refine t_exI h ?_ | refine t_exB h ?_ | refine t_exS h ?_ | refine t_exP h ?_ | refine t_exSl h ?_ | refine t_exV h ?_ | refine u_exI ?_ | refine u_exB ?_ | refine u_exS ?_ | refine u_exP ?_ | refine u_exSl ?_ | refine u_exV ?_ | refine u_nilc ?_ | (apply Exists.intro; (repeat apply Exists.intro); refine And.intro rfl ?_) | (refine And.intro ?_ ?_; first | exact trivial | exact rfl | exact t_ld h | (refine lds_s (t_ld h) ?_; (repeat (refine lds_s (t_ld h) ?_)); exact lds_nil) | omega) | refine u_bspT ?_ | refine u_bspF ?_)
    refine ref08_Get (x := lc s.xs i) h bi pi.1 hrs fun R1 A1 c1 M g1 h' t1 => ?_
    clear h
    have h := h'
    clear h'

    have e : does8 s 4 i j x2 = ⟨s.xs.set i ((lc s.xs i).get).1, s.g, s.next, s.out ++ got8 ((lc s.xs i).get).2⟩ := by unfold does8; simp
    have hbz := trivial
    generalize hZ : ((lc s.xs i).get) = z at *
    repeat (first | (refine s_nwc h ?_; clear h; intro kb M h) | (refine s_stc h ?_; clear h; intro M h) | refine t_exI h ?_ | refine t_exB h ?_ | refine t_exS h ?_ | refine t_exP h ?_ | refine t_exSl h ?_ | refine t_exV h ?_ | refine u_exI ?_ | refine u_exB ?_ | refine u_exS ?_ | refine u_exP ?_ | refine u_exSl ?_ | refine u_exV ?_ | refine u_nilc ?_ | (apply Exists.intro; (repeat apply Exists.intro); refine And.intro rfl ?_) | (refine And.intro ?_ ?_; first | exact trivial | exact rfl | exact t_ld h | (refine lds_s (t_ld h) ?_; (repeat (refine lds_s (t_ld h) ?_)); exact lds_nil) | omega) | refine u_bspT ?_ | refine u_bspF ?_)
    try simp only [Int.toNat_natCast]
    refine s_rl (q := i) (r' := ⟨z.1.next, A1, z.1.l.length, c1, z.1.room⟩) h hr (by omega) ?_
    clear h; intro M h
    repeat (first | (refine s_nwc h ?_; clear h; intro kb M h) | (refine s_stc h ?_; clear h; intro M h) | refine t_exI h ?_ | refine t_exB h ?_ | refine t_exS h ?_ | refine t_exP h ?_ | refine t_exSl h ?_ | refine t_exV h ?_ | refine u_exI ?_ | refine u_exB ?_ | refine u_exS ?_ | refine u_exP ?_ | refine u_exSl ?_ | refine u_exV ?_ | refine u_nilc ?_ | (apply Exists.intro; (repeat apply Exists.intro); refine And.intro rfl ?_) | (refine And.intro ?_ ?_; first | exact trivial | exact rfl | exact t_ld h | (refine lds_s (t_ld h) ?_; (repeat (refine lds_s (t_ld h) ?_)); exact lds_nil) | omega) | refine u_bspT ?_ | refine u_bspF ?_)

    refine law08_got h rfl hgn (by omega) fun Ao co M h' => ?_
    repeat (first | (refine s_nwc h ?_; clear h; intro kb M h) | (refine s_stc h ?_; clear h; intro M h) | refine t_exI h ?_ | refine t_exB h ?_ | refine t_exS h ?_ | refine t_exP h ?_ | refine t_exSl h ?_ | refine t_exV h ?_ | refine u_exI ?_ | refine u_exB ?_ | refine u_exS ?_ | refine u_exP ?_ | refine u_exSl ?_ | refine u_exV ?_ | refine u_nilc ?_ | (apply Exists.intro; (repeat apply Exists.intro); refine And.intro rfl ?_) | (refine And.intro ?_ ?_; first | exact trivial | exact rfl | exact t_ld h | (refine lds_s (t_ld h) ?_; (repeat (refine lds_s (t_ld h) ?_)); exact lds_nil) | omega) | refine u_bspT ?_ | refine u_bspF ?_)
    refine k 4 i j R1 _ (by omega) (by omega) g1 ?_
    rw [e]
    exact ⟨_, ca, _, cx, _, _, _, co, gb, bs, _, hbl, (hx.le g1).set i ⟨_, _, rfl, t1⟩, hy.le g1, h'.sub (by repeat (first | exact Sub.refl | refine Sub.cons (by first | exact Pick.here | exact (.there .here) | exact (.there (.there .here)) | exact (.there (.there (.there .here))) | exact (.there (.there (.there (.there .here)))) | exact (.there (.there (.there (.there (.there .here))))) | exact (.there (.there (.there (.there (.there (.there .here)))))) | exact (.there (.there (.there (.there (.there (.there (.there .here))))))) | exact (.there (.there (.there (.there (.there (.there (.there (.there .here)))))))) | exact (.there (.there (.there (.there (.there (.there (.there (.there (.there .here))))))))) | exact (.there (.there (.there (.there (.there (.there (.there (.there (.there (.there .here)))))))))) | exact (.there (.there (.there (.there (.there (.there (.there (.there (.there (.there (.there .here))))))))))) | exact (.there (.there (.there (.there (.there (.there (.there (.there (.there (.there (.there (.there .here)))))))))))) | exact (.there (.there (.there (.there (.there (.there (.there (.there (.there (.there (.there (.there (.there .here))))))))))))) | exact (.there (.there (.there (.there (.there (.there (.there (.there (.there (.there (.there (.there (.there (.there .here)))))))))))))) | exact (.there (.there (.there (.there (.there (.there (.there (.there (.there (.there (.there (.there (.there (.there (.there .here)))))))))))))))) ?_ | refine Sub.drop ?_))⟩
  refine bsp_eq.2 ⟨fun hk => ?_, fun hk => ?_⟩
  · repeat (first | (refine s_nwc h ?_; clear h; intro kb M h) | (refine s_stc h ?_; clear h; intro M h) | refine t_exI h ?_ | refine t_exB h ?_ | refine t_exS h ?_ | refine t_exP h ?_ | refine t_exSl h ?_ | refine t_exV h ?_ | refine u_exI ?_ | refine u_exB ?_ | refine u_exS ?_ | refine u_exP ?_ | refine u_exSl ?_ | refine u_exV ?_ | refine u_nilc ?_ | (apply Exists.intro; (repeat apply Exists.intro); refine And.intro rfl ?_) | (refine And.intro ?_ ?_; first | exact trivial | exact rfl | exact t_ld h | (refine lds_s (t_ld h) ?_; (repeat (refine lds_s (t_ld h) ?_)); exact lds_nil) | omega) | refine u_bspT ?_ | refine u_bspF ?_)
    try simp only [Int.toNat_natCast]
    refine v_exP (s1.at h (i := i) (j := 0) hb rfl (by simp [ptrE])) ?_

    replace h := h.objs_out locR hb hxi
    repeat (first | (refine s_nwc h ?_; clear h; intro kb M h) | (refine s_stc h ?_; clear h; intro M h) | refine t_exI h ?_ | refine t_exB h ?_ | refine t_exS h ?_ | refine t_exP h ?_ | refine t_exSl h ?_ | refine t_exV h ?_ | refine u_exI ?_ | refine u_exB ?_ | refine u_exS ?_ | refine u_exP ?_ | refine u_exSl ?_ | refine u_exV ?_ | refine u_nilc ?_ | (apply Exists.intro; (repeat apply Exists.intro); refine And.intro rfl ?_) | (refine And.intro ?_ ?_; first | exact trivial | exact rfl | exact t_ld h | (refine lds_s (t_ld h) ?_; (repeat (refine lds_s (t_ld h) ?_)); exact lds_nil) | omega) | refine u_bspT ?_ | refine u_bspF ?_)

    refine local_Fetch h (by omega) hx2 fun t M' ht1 ht2 h' => ?_
    clear h
    have h := h'
    clear h'
    have hgn : t = decide (((lc s.xs i).fetch s.g x2).2.2 ≥ 0) := by
      rcases fetch_pos (x := lc s.xs i) okp x2 with ⟨a1, a3⟩ | ⟨a1, a2⟩
      · rw [ht1 a3 a1, a3]; rfl
      · rw [ht2 a1]; simp [a2]

    replace h := h.objs_in locR b hb (by omega)

    repeat (first | (refine s_nwc h ?_; clear h; intro kb M h) | (refine s_stc h ?_; clear h; intro M h) | refine t_exI h ?_ | refine t_exB h ?_ | refine t_exS h ?_ | refine t_exP h ?_ | refine t_exSl h ?_ | refine t_exV h ?_ | refine u_exI ?_ | refine u_exB ?_ | refine u_exS ?_ | refine u_exP ?_ | refine u_exSl ?_ | refine u_exV ?_ | refine u_nilc ?_ | (apply Exists.intro; (repeat apply Exists.intro); refine And.intro rfl ?_) | (refine And.intro ?_ ?_; first | exact trivial | exact rfl | exact t_ld h | (refine lds_s (t_ld h) ?_; (repeat (refine lds_s (t_ld h) ?_)); exact lds_nil) | omega) | refine u_bspT ?_ | refine u_bspF ?_)
    have s2 := h.src (A := some ⟨b2, 0, none⟩)
    try simp only [Int.toNat_natCast]
    refine v_exI (s2.at h (i := i) (j := 0) hr rfl rfl) ?_
    refine v_exSl (s2.at h (i := i) (j := 1) hr rfl rfl) ?_
    refine v_exI (s2.at h (i := i) (j := 2) hr rfl rfl) ?_
    dsimp only

    repeat (first | (refine s_nwc h ?_; clear h; intro kb M h) | (refine s_stc h ?_; clear h; intro M h) | refine t_exI h ?_ | refine t_exB h ?_ | refine t_exS h ?_ | refine t_exP h ?_ | refine t_exSl h ?_ | refine t_exV h ?_ | refine u_exI ?_ | refine u_exB ?_ | refine u_exS ?_ | refine u_exP ?_ | refine u_exSl ?_ | refine u_exV ?_ | refine u_nilc ?_ | (apply Exists.intro; (repeat apply Exists.intro); refine And.intro rfl ?_) | (refine And.intro ?_ ?_; first | exact trivial | exact rfl | exact t_ld h | (refine lds_s (t_ld h) ?_; (repeat (refine lds_s (t_ld h) ?_)); exact lds_nil) | omega) | refine u_bspT ?_ | refine u_bspF ?_)
    refine ref08_Fetch (x := lc s.xs i) h bi hx2 hrs hy (by omega) fun R1 A1 c1 B1 cb1 M g1 h' t1 t2 => ?_
    clear h
    have h := h'
    clear h'

    have e : does8 s 5 i j x2 = ⟨s.xs.set i ((lc s.xs i).fetch s.g x2).1, ((lc s.xs i).fetch s.g x2).2.1, s.next, s.out ++ got8 ((lc s.xs i).fetch s.g x2).2.2⟩ := by unfold does8; simp
    have hbz := trivial
    generalize hZ : ((lc s.xs i).fetch s.g x2) = z at *
    repeat (first | (refine s_nwc h ?_; clear h; intro kb M h) | (refine s_stc h ?_; clear h; intro M h) | refine t_exI h ?_ | refine t_exB h ?_ | refine t_exS h ?_ | refine t_exP h ?_ | refine t_exSl h ?_ | refine t_exV h ?_ | refine u_exI ?_ | refine u_exB ?_ | refine u_exS ?_ | refine u_exP ?_ | refine u_exSl ?_ | refine u_exV ?_ | refine u_nilc ?_ | (apply Exists.intro; (repeat apply Exists.intro); refine And.intro rfl ?_) | (refine And.intro ?_ ?_; first | exact trivial | exact rfl | exact t_ld h | (refine lds_s (t_ld h) ?_; (repeat (refine lds_s (t_ld h) ?_)); exact lds_nil) | omega) | refine u_bspT ?_ | refine u_bspF ?_)
    try simp only [Int.toNat_natCast]
    refine s_rl (q := i) (r' := ⟨z.1.next, A1, z.1.l.length, c1, z.1.room⟩) h hr (by omega) ?_
    clear h; intro M h
    repeat (first | (refine s_nwc h ?_; clear h; intro kb M h) | (refine s_stc h ?_; clear h; intro M h) | refine t_exI h ?_ | refine t_exB h ?_ | refine t_exS h ?_ | refine t_exP h ?_ | refine t_exSl h ?_ | refine t_exV h ?_ | refine u_exI ?_ | refine u_exB ?_ | refine u_exS ?_ | refine u_exP ?_ | refine u_exSl ?_ | refine u_exV ?_ | refine u_nilc ?_ | (apply Exists.intro; (repeat apply Exists.intro); refine And.intro rfl ?_) | (refine And.intro ?_ ?_; first | exact trivial | exact rfl | exact t_ld h | (refine lds_s (t_ld h) ?_; (repeat (refine lds_s (t_ld h) ?_)); exact lds_nil) | omega) | refine u_bspT ?_ | refine u_bspF ?_)

    refine law08_got h rfl hgn (by omega) fun Ao co M h' => ?_
    repeat (first | (refine s_nwc h ?_; clear h; intro kb M h) | (refine s_stc h ?_; clear h; intro M h) | refine t_exI h ?_ | refine t_exB h ?_ | refine t_exS h ?_ | refine t_exP h ?_ | refine t_exSl h ?_ | refine t_exV h ?_ | refine u_exI ?_ | refine u_exB ?_ | refine u_exS ?_ | refine u_exP ?_ | refine u_exSl ?_ | refine u_exV ?_ | refine u_nilc ?_ | (apply Exists.intro; (repeat apply Exists.intro); refine And.intro rfl ?_) | (refine And.intro ?_ ?_; first | exact trivial | exact rfl | exact t_ld h | (refine lds_s (t_ld h) ?_; (repeat (refine lds_s (t_ld h) ?_)); exact lds_nil) | omega) | refine u_bspT ?_ | refine u_bspF ?_)
    refine k 5 i j R1 _ (by omega) (by omega) g1 ?_
    rw [e]
    exact ⟨_, ca, _, cx, _, _, _, co, gb, bs, _, hbl, (hx.le g1).set i ⟨_, _, rfl, t1⟩, t2, h'.sub (by repeat (first | exact Sub.refl | refine Sub.cons (by first | exact Pick.here | exact (.there .here) | exact (.there (.there .here)) | exact (.there (.there (.there .here))) | exact (.there (.there (.there (.there .here)))) | exact (.there (.there (.there (.there (.there .here))))) | exact (.there (.there (.there (.there (.there (.there .here)))))) | exact (.there (.there (.there (.there (.there (.there (.there .here))))))) | exact (.there (.there (.there (.there (.there (.there (.there (.there .here)))))))) | exact (.there (.there (.there (.there (.there (.there (.there (.there (.there .here))))))))) | exact (.there (.there (.there (.there (.there (.there (.there (.there (.there (.there .here)))))))))) | exact (.there (.there (.there (.there (.there (.there (.there (.there (.there (.there (.there .here))))))))))) | exact (.there (.there (.there (.there (.there (.there (.there (.there (.there (.there (.there (.there .here)))))))))))) | exact (.there (.there (.there (.there (.there (.there (.there (.there (.there (.there (.there (.there (.there .here))))))))))))) | exact (.there (.there (.there (.there (.there (.there (.there (.there (.there (.there (.there (.there (.there (.there .here)))))))))))))) | exact (.there (.there (.there (.there (.there (.there (.there (.there (.there (.there (.there (.there (.there (.there (.there .here)))))))))))))))) ?_ | refine Sub.drop ?_))⟩
  refine bsp_eq.2 ⟨fun hk => ?_, fun hk => ?_⟩
  · repeat (first | (refine s_nwc h ?_; clear h; intro kb M h) | (refine s_stc h ?_; clear h; intro M h) | refine t_exI h ?_ | refine t_exB h ?_ | refine t_exS h ?_ | refine t_exP h ?_ | refine t_exSl h ?_ | refine t_exV h ?_ | refine u_exI ?_ | refine u_exB ?_ | refine u_exS ?_ | refine u_exP ?_ | refine u_exSl ?_ | refine u_exV ?_ | refine u_nilc ?_ | (apply Exists.intro; (repeat apply Exists.intro); refine And.intro rfl ?_) | (refine And.intro ?_ ?_; first | exact trivial | exact rfl | exact t_ld h | (refine lds_s (t_ld h) ?_; (repeat (refine lds_s (t_ld h) ?_)); exact lds_nil) | omega) | refine u_bspT ?_ | refine u_bspF ?_)
    try simp only [Int.toNat_natCast]
    refine v_exP (s1.at h (i := i) (j := 0) hb rfl (by simp [ptrE])) ?_

    repeat (first | (refine s_nwc h ?_; clear h; intro kb M h) | (refine s_stc h ?_; clear h; intro M h) | refine t_exI h ?_ | refine t_exB h ?_ | refine t_exS h ?_ | refine t_exP h ?_ | refine t_exSl h ?_ | refine t_exV h ?_ | refine u_exI ?_ | refine u_exB ?_ | refine u_exS ?_ | refine u_exP ?_ | refine u_exSl ?_ | refine u_exV ?_ | refine u_nilc ?_ | (apply Exists.intro; (repeat apply Exists.intro); refine And.intro rfl ?_) | (refine And.intro ?_ ?_; first | exact trivial | exact rfl | exact t_ld h | (refine lds_s (t_ld h) ?_; (repeat (refine lds_s (t_ld h) ?_)); exact lds_nil) | omega) | refine u_bspT ?_ | refine u_bspF ?_)
    try simp only [Int.toNat_natCast]
    refine v_exP (s1.at h (i := j) (j := 0) hb' rfl (by simp [ptrE])) ?_

    have bj := ok3 _ hmj
    have pj := ok.pos hmj
    by_cases hij : i = j
    · subst hij
      rw [hb] at hb'
      cases hb'
      replace h := h.objs_out locR hb hxi
      refine local_Steal_self h ?_
      repeat (first | (refine s_nwc h ?_; clear h; intro kb M h) | (refine s_stc h ?_; clear h; intro M h) | refine t_exI h ?_ | refine t_exB h ?_ | refine t_exS h ?_ | refine t_exP h ?_ | refine t_exSl h ?_ | refine t_exV h ?_ | refine u_exI ?_ | refine u_exB ?_ | refine u_exS ?_ | refine u_exP ?_ | refine u_exSl ?_ | refine u_exV ?_ | refine u_nilc ?_ | (apply Exists.intro; (repeat apply Exists.intro); refine And.intro rfl ?_) | (refine And.intro ?_ ?_; first | exact trivial | exact rfl | exact t_ld h | (refine lds_s (t_ld h) ?_; (repeat (refine lds_s (t_ld h) ?_)); exact lds_nil) | omega) | refine u_bspT ?_ | refine u_bspF ?_)
      refine u_bspC (by simp) ?_
      repeat (first | (refine s_nwc h ?_; clear h; intro kb M h) | (refine s_stc h ?_; clear h; intro M h) | refine t_exI h ?_ | refine t_exB h ?_ | refine t_exS h ?_ | refine t_exP h ?_ | refine t_exSl h ?_ | refine t_exV h ?_ | refine u_exI ?_ | refine u_exB ?_ | refine u_exS ?_ | refine u_exP ?_ | refine u_exSl ?_ | refine u_exV ?_ | refine u_nilc ?_ | (apply Exists.intro; (repeat apply Exists.intro); refine And.intro rfl ?_) | (refine And.intro ?_ ?_; first | exact trivial | exact rfl | exact t_ld h | (refine lds_s (t_ld h) ?_; (repeat (refine lds_s (t_ld h) ?_)); exact lds_nil) | omega) | refine u_bspT ?_ | refine u_bspF ?_)
      have e : does8 s 6 i i x2 = s := by unfold does8; simp
      refine k 6 i i R _ (by omega) (by omega) (Mem.le_refl R) ?_
      rw [e]
      replace h := h.objs_same locR b hb hxi
      exact ⟨_, ca, _, cx, _, _, _, co, gb, bs, _, hbl, hx, hy, h.sub (by repeat (first | exact Sub.refl | refine Sub.cons (by first | exact Pick.here | exact (.there .here) | exact (.there (.there .here)) | exact (.there (.there (.there .here))) | exact (.there (.there (.there (.there .here)))) | exact (.there (.there (.there (.there (.there .here))))) | exact (.there (.there (.there (.there (.there (.there .here)))))) | exact (.there (.there (.there (.there (.there (.there (.there .here))))))) | exact (.there (.there (.there (.there (.there (.there (.there (.there .here)))))))) | exact (.there (.there (.there (.there (.there (.there (.there (.there (.there .here))))))))) | exact (.there (.there (.there (.there (.there (.there (.there (.there (.there (.there .here)))))))))) | exact (.there (.there (.there (.there (.there (.there (.there (.there (.there (.there (.there .here))))))))))) | exact (.there (.there (.there (.there (.there (.there (.there (.there (.there (.there (.there (.there .here)))))))))))) | exact (.there (.there (.there (.there (.there (.there (.there (.there (.there (.there (.there (.there (.there .here))))))))))))) | exact (.there (.there (.there (.there (.there (.there (.there (.there (.there (.there (.there (.there (.there (.there .here)))))))))))))) | exact (.there (.there (.there (.there (.there (.there (.there (.there (.there (.there (.there (.there (.there (.there (.there .here)))))))))))))))) ?_ | refine Sub.drop ?_))⟩
    · obtain ⟨X, h2, back⟩ := h.objs_two locR hij hb hxi hb' hxj
      clear h
      have h := h2
      clear h2
      refine local_Steal h fun t M' ht1 ht2 h' => ?_
      clear h
      have h := h'
      clear h'
      have hgn : t = decide (((lc s.xs i).steal (lc s.xs j)).2.2 ≥ 0) := by
        rcases steal_pos pj bi.1 with ⟨a1, a3⟩ | ⟨a1, a2⟩
        · rw [a3]
          by_cases hm : (lc s.xs j).next = -1
          · rw [ht1 (by rw [a3]; exact hm) a1, hm]; rfl
          · rw [ht2 (.inl (by rw [a3]; exact hm))]
            have := pj.1
            simp; omega
        · rw [ht2 (.inr a1)]; simp [a2]
      replace h := back h
      obtain ⟨r', hr'⟩ := idx_ex (l := rs) (i := j) (by omega)
      obtain ⟨A0', c0', hre', hrs'⟩ := hx.2 j r' _ hr' hxj
      subst hre'
      repeat (first | (refine s_nwc h ?_; clear h; intro kb M h) | (refine s_stc h ?_; clear h; intro M h) | refine t_exI h ?_ | refine t_exB h ?_ | refine t_exS h ?_ | refine t_exP h ?_ | refine t_exSl h ?_ | refine t_exV h ?_ | refine u_exI ?_ | refine u_exB ?_ | refine u_exS ?_ | refine u_exP ?_ | refine u_exSl ?_ | refine u_exV ?_ | refine u_nilc ?_ | (apply Exists.intro; (repeat apply Exists.intro); refine And.intro rfl ?_) | (refine And.intro ?_ ?_; first | exact trivial | exact rfl | exact t_ld h | (refine lds_s (t_ld h) ?_; (repeat (refine lds_s (t_ld h) ?_)); exact lds_nil) | omega) | refine u_bspT ?_ | refine u_bspF ?_)
      refine u_bspD (by simp; omega) ?_
      repeat (first | (refine s_nwc h ?_; clear h; intro kb M h) | (refine s_stc h ?_; clear h; intro M h) | refine t_exI h ?_ | refine t_exB h ?_ | refine t_exS h ?_ | refine t_exP h ?_ | refine t_exSl h ?_ | refine t_exV h ?_ | refine u_exI ?_ | refine u_exB ?_ | refine u_exS ?_ | refine u_exP ?_ | refine u_exSl ?_ | refine u_exV ?_ | refine u_nilc ?_ | (apply Exists.intro; (repeat apply Exists.intro); refine And.intro rfl ?_) | (refine And.intro ?_ ?_; first | exact trivial | exact rfl | exact t_ld h | (refine lds_s (t_ld h) ?_; (repeat (refine lds_s (t_ld h) ?_)); exact lds_nil) | omega) | refine u_bspT ?_ | refine u_bspF ?_)
      have s2 := h.src (A := some ⟨b2, 0, none⟩)
      try simp only [Int.toNat_natCast]
      refine v_exI (s2.at h (i := i) (j := 0) hr rfl rfl) ?_
      refine v_exSl (s2.at h (i := i) (j := 1) hr rfl rfl) ?_
      refine v_exI (s2.at h (i := i) (j := 2) hr rfl rfl) ?_
      repeat (first | (refine s_nwc h ?_; clear h; intro kb M h) | (refine s_stc h ?_; clear h; intro M h) | refine t_exI h ?_ | refine t_exB h ?_ | refine t_exS h ?_ | refine t_exP h ?_ | refine t_exSl h ?_ | refine t_exV h ?_ | refine u_exI ?_ | refine u_exB ?_ | refine u_exS ?_ | refine u_exP ?_ | refine u_exSl ?_ | refine u_exV ?_ | refine u_nilc ?_ | (apply Exists.intro; (repeat apply Exists.intro); refine And.intro rfl ?_) | (refine And.intro ?_ ?_; first | exact trivial | exact rfl | exact t_ld h | (refine lds_s (t_ld h) ?_; (repeat (refine lds_s (t_ld h) ?_)); exact lds_nil) | omega) | refine u_bspT ?_ | refine u_bspF ?_)
      try simp only [Int.toNat_natCast]
      refine v_exI (s2.at h (i := j) (j := 0) hr' rfl rfl) ?_
      refine v_exSl (s2.at h (i := j) (j := 1) hr' rfl rfl) ?_
      refine v_exI (s2.at h (i := j) (j := 2) hr' rfl rfl) ?_
      dsimp only
      repeat (first | (refine s_nwc h ?_; clear h; intro kb M h) | (refine s_stc h ?_; clear h; intro M h) | refine t_exI h ?_ | refine t_exB h ?_ | refine t_exS h ?_ | refine t_exP h ?_ | refine t_exSl h ?_ | refine t_exV h ?_ | refine u_exI ?_ | refine u_exB ?_ | refine u_exS ?_ | refine u_exP ?_ | refine u_exSl ?_ | refine u_exV ?_ | refine u_nilc ?_ | (apply Exists.intro; (repeat apply Exists.intro); refine And.intro rfl ?_) | (refine And.intro ?_ ?_; first | exact trivial | exact rfl | exact t_ld h | (refine lds_s (t_ld h) ?_; (repeat (refine lds_s (t_ld h) ?_)); exact lds_nil) | omega) | refine u_bspT ?_ | refine u_bspF ?_)
      refine ref08_Steal (x := lc s.xs i) (f := lc s.xs j) h bi bj hrs hrs' fun R1 A1 c1 B1 cb1 M g1 h' t1 t2 => ?_
      clear h
      have h := h'
      clear h'
      have e : does8 s 6 i j x2 = ⟨(s.xs.set i ((lc s.xs i).steal (lc s.xs j)).1).set j ((lc s.xs i).steal (lc s.xs j)).2.1, s.g, s.next, s.out ++ got8 ((lc s.xs i).steal (lc s.xs j)).2.2⟩ := by unfold does8; simp [hij]
      generalize hZ : (lc s.xs i).steal (lc s.xs j) = z at *
      repeat (first | (refine s_nwc h ?_; clear h; intro kb M h) | (refine s_stc h ?_; clear h; intro M h) | refine t_exI h ?_ | refine t_exB h ?_ | refine t_exS h ?_ | refine t_exP h ?_ | refine t_exSl h ?_ | refine t_exV h ?_ | refine u_exI ?_ | refine u_exB ?_ | refine u_exS ?_ | refine u_exP ?_ | refine u_exSl ?_ | refine u_exV ?_ | refine u_nilc ?_ | (apply Exists.intro; (repeat apply Exists.intro); refine And.intro rfl ?_) | (refine And.intro ?_ ?_; first | exact trivial | exact rfl | exact t_ld h | (refine lds_s (t_ld h) ?_; (repeat (refine lds_s (t_ld h) ?_)); exact lds_nil) | omega) | refine u_bspT ?_ | refine u_bspF ?_)
      try simp only [Int.toNat_natCast]
      refine s_rl (q := i) (r' := ⟨z.1.next, A1, z.1.l.length, c1, z.1.room⟩) h hr (by omega) ?_
      clear h; intro M h
      repeat (first | (refine s_nwc h ?_; clear h; intro kb M h) | (refine s_stc h ?_; clear h; intro M h) | refine t_exI h ?_ | refine t_exB h ?_ | refine t_exS h ?_ | refine t_exP h ?_ | refine t_exSl h ?_ | refine t_exV h ?_ | refine u_exI ?_ | refine u_exB ?_ | refine u_exS ?_ | refine u_exP ?_ | refine u_exSl ?_ | refine u_exV ?_ | refine u_nilc ?_ | (apply Exists.intro; (repeat apply Exists.intro); refine And.intro rfl ?_) | (refine And.intro ?_ ?_; first | exact trivial | exact rfl | exact t_ld h | (refine lds_s (t_ld h) ?_; (repeat (refine lds_s (t_ld h) ?_)); exact lds_nil) | omega) | refine u_bspT ?_ | refine u_bspF ?_)
      try simp only [Int.toNat_natCast]
      refine s_rl (q := j) (r := ⟨(lc s.xs j).next, A0', (lc s.xs j).l.length, c0', (lc s.xs j).room⟩) (r' := ⟨z.2.1.next, B1, z.2.1.l.length, cb1, z.2.1.room⟩) h (by rw [List.getElem?_set_ne hij]; exact hr') (by omega) ?_
      clear h; intro M h
      repeat (first | (refine s_nwc h ?_; clear h; intro kb M h) | (refine s_stc h ?_; clear h; intro M h) | refine t_exI h ?_ | refine t_exB h ?_ | refine t_exS h ?_ | refine t_exP h ?_ | refine t_exSl h ?_ | refine t_exV h ?_ | refine u_exI ?_ | refine u_exB ?_ | refine u_exS ?_ | refine u_exP ?_ | refine u_exSl ?_ | refine u_exV ?_ | refine u_nilc ?_ | (apply Exists.intro; (repeat apply Exists.intro); refine And.intro rfl ?_) | (refine And.intro ?_ ?_; first | exact trivial | exact rfl | exact t_ld h | (refine lds_s (t_ld h) ?_; (repeat (refine lds_s (t_ld h) ?_)); exact lds_nil) | omega) | refine u_bspT ?_ | refine u_bspF ?_)
      refine law08_got h rfl hgn (by omega) fun Ao co M h' => ?_
      repeat (first | (refine s_nwc h ?_; clear h; intro kb M h) | (refine s_stc h ?_; clear h; intro M h) | refine t_exI h ?_ | refine t_exB h ?_ | refine t_exS h ?_ | refine t_exP h ?_ | refine t_exSl h ?_ | refine t_exV h ?_ | refine u_exI ?_ | refine u_exB ?_ | refine u_exS ?_ | refine u_exP ?_ | refine u_exSl ?_ | refine u_exV ?_ | refine u_nilc ?_ | (apply Exists.intro; (repeat apply Exists.intro); refine And.intro rfl ?_) | (refine And.intro ?_ ?_; first | exact trivial | exact rfl | exact t_ld h | (refine lds_s (t_ld h) ?_; (repeat (refine lds_s (t_ld h) ?_)); exact lds_nil) | omega) | refine u_bspT ?_ | refine u_bspF ?_)
      refine k 6 i j R1 _ (by omega) (by omega) g1 ?_
      rw [e]
      exact ⟨_, ca, _, cx, _, _, _, co, gb, bs, _, hbl, ((hx.le g1).set i ⟨_, _, rfl, t1⟩).set j ⟨_, _, rfl, t2⟩, hy.le g1, h'.sub (by repeat (first | exact Sub.refl | refine Sub.cons (by first | exact Pick.here | exact (.there .here) | exact (.there (.there .here)) | exact (.there (.there (.there .here))) | exact (.there (.there (.there (.there .here)))) | exact (.there (.there (.there (.there (.there .here))))) | exact (.there (.there (.there (.there (.there (.there .here)))))) | exact (.there (.there (.there (.there (.there (.there (.there .here))))))) | exact (.there (.there (.there (.there (.there (.there (.there (.there .here)))))))) | exact (.there (.there (.there (.there (.there (.there (.there (.there (.there .here))))))))) | exact (.there (.there (.there (.there (.there (.there (.there (.there (.there (.there .here)))))))))) | exact (.there (.there (.there (.there (.there (.there (.there (.there (.there (.there (.there .here))))))))))) | exact (.there (.there (.there (.there (.there (.there (.there (.there (.there (.there (.there (.there .here)))))))))))) | exact (.there (.there (.there (.there (.there (.there (.there (.there (.there (.there (.there (.there (.there .here))))))))))))) | exact (.there (.there (.there (.there (.there (.there (.there (.there (.there (.there (.there (.there (.there (.there .here)))))))))))))) | exact (.there (.there (.there (.there (.there (.there (.there (.there (.there (.there (.there (.there (.there (.there (.there .here)))))))))))))))) ?_ | refine Sub.drop ?_))⟩
  refine bsp_eq.2 ⟨fun hk => ?_, fun hk => ?_⟩
  · repeat (first | (refine s_nwc h ?_; clear h; intro kb M h) | (refine s_stc h ?_; clear h; intro M h) | refine t_exI h ?_ | refine t_exB h ?_ | refine t_exS h ?_ | refine t_exP h ?_ | refine t_exSl h ?_ | refine t_exV h ?_ | refine u_exI ?_ | refine u_exB ?_ | refine u_exS ?_ | refine u_exP ?_ | refine u_exSl ?_ | refine u_exV ?_ | refine u_nilc ?_ | (apply Exists.intro; (repeat apply Exists.intro); refine And.intro rfl ?_) | (refine And.intro ?_ ?_; first | exact trivial | exact rfl | exact t_ld h | (refine lds_s (t_ld h) ?_; (repeat (refine lds_s (t_ld h) ?_)); exact lds_nil) | omega) | refine u_bspT ?_ | refine u_bspF ?_)
    try simp only [Int.toNat_natCast]
    refine v_exP (s1.at h (i := i) (j := 0) hb rfl (by simp [ptrE])) ?_

    replace h := h.objs_out locR hb hxi
    repeat (first | (refine s_nwc h ?_; clear h; intro kb M h) | (refine s_stc h ?_; clear h; intro M h) | refine t_exI h ?_ | refine t_exB h ?_ | refine t_exS h ?_ | refine t_exP h ?_ | refine t_exSl h ?_ | refine t_exV h ?_ | refine u_exI ?_ | refine u_exB ?_ | refine u_exS ?_ | refine u_exP ?_ | refine u_exSl ?_ | refine u_exV ?_ | refine u_nilc ?_ | (apply Exists.intro; (repeat apply Exists.intro); refine And.intro rfl ?_) | (refine And.intro ?_ ?_; first | exact trivial | exact rfl | exact t_ld h | (refine lds_s (t_ld h) ?_; (repeat (refine lds_s (t_ld h) ?_)); exact lds_nil) | omega) | refine u_bspT ?_ | refine u_bspF ?_)
    refine local_Turn h (by omega) ?_
    clear h
    intro M h

    replace h := h.objs_in locR b hb (by omega)

    repeat (first | (refine s_nwc h ?_; clear h; intro kb M h) | (refine s_stc h ?_; clear h; intro M h) | refine t_exI h ?_ | refine t_exB h ?_ | refine t_exS h ?_ | refine t_exP h ?_ | refine t_exSl h ?_ | refine t_exV h ?_ | refine u_exI ?_ | refine u_exB ?_ | refine u_exS ?_ | refine u_exP ?_ | refine u_exSl ?_ | refine u_exV ?_ | refine u_nilc ?_ | (apply Exists.intro; (repeat apply Exists.intro); refine And.intro rfl ?_) | (refine And.intro ?_ ?_; first | exact trivial | exact rfl | exact t_ld h | (refine lds_s (t_ld h) ?_; (repeat (refine lds_s (t_ld h) ?_)); exact lds_nil) | omega) | refine u_bspT ?_ | refine u_bspF ?_)
    have s2 := h.src (A := some ⟨b2, 0, none⟩)
    try simp only [Int.toNat_natCast]
    refine v_exI (s2.at h (i := i) (j := 0) hr rfl rfl) ?_
    refine v_exSl (s2.at h (i := i) (j := 1) hr rfl rfl) ?_
    refine v_exI (s2.at h (i := i) (j := 2) hr rfl rfl) ?_
    dsimp only

    repeat (first | (refine s_nwc h ?_; clear h; intro kb M h) | (refine s_stc h ?_; clear h; intro M h) | refine t_exI h ?_ | refine t_exB h ?_ | refine t_exS h ?_ | refine t_exP h ?_ | refine t_exSl h ?_ | refine t_exV h ?_ | refine u_exI ?_ | refine u_exB ?_ | refine u_exS ?_ | refine u_exP ?_ | refine u_exSl ?_ | refine u_exV ?_ | refine u_nilc ?_ | (apply Exists.intro; (repeat apply Exists.intro); refine And.intro rfl ?_) | (refine And.intro ?_ ?_; first | exact trivial | exact rfl | exact t_ld h | (refine lds_s (t_ld h) ?_; (repeat (refine lds_s (t_ld h) ?_)); exact lds_nil) | omega) | refine u_bspT ?_ | refine u_bspF ?_)
    refine ref08_Turn (x := lc s.xs i) h bi pi.1 hrs hy (by omega) fun R1 A1 c1 B1 cb1 M g1 h' t1 t2 => ?_
    clear h
    have h := h'
    clear h'

    have e : does8 s 9 i j x2 = ⟨s.xs.set i ((lc s.xs i).turn s.g).1, ((lc s.xs i).turn s.g).2.1, s.next, s.out⟩ := by unfold does8; simp
    have hbz := trivial
    generalize hZ : ((lc s.xs i).turn s.g) = z at *
    repeat (first | (refine s_nwc h ?_; clear h; intro kb M h) | (refine s_stc h ?_; clear h; intro M h) | refine t_exI h ?_ | refine t_exB h ?_ | refine t_exS h ?_ | refine t_exP h ?_ | refine t_exSl h ?_ | refine t_exV h ?_ | refine u_exI ?_ | refine u_exB ?_ | refine u_exS ?_ | refine u_exP ?_ | refine u_exSl ?_ | refine u_exV ?_ | refine u_nilc ?_ | (apply Exists.intro; (repeat apply Exists.intro); refine And.intro rfl ?_) | (refine And.intro ?_ ?_; first | exact trivial | exact rfl | exact t_ld h | (refine lds_s (t_ld h) ?_; (repeat (refine lds_s (t_ld h) ?_)); exact lds_nil) | omega) | refine u_bspT ?_ | refine u_bspF ?_)
    try simp only [Int.toNat_natCast]
    refine s_rl (q := i) (r' := ⟨z.1.next, A1, z.1.l.length, c1, z.1.room⟩) h hr (by omega) ?_
    clear h; intro M h
    repeat (first | (refine s_nwc h ?_; clear h; intro kb M h) | (refine s_stc h ?_; clear h; intro M h) | refine t_exI h ?_ | refine t_exB h ?_ | refine t_exS h ?_ | refine t_exP h ?_ | refine t_exSl h ?_ | refine t_exV h ?_ | refine u_exI ?_ | refine u_exB ?_ | refine u_exS ?_ | refine u_exP ?_ | refine u_exSl ?_ | refine u_exV ?_ | refine u_nilc ?_ | (apply Exists.intro; (repeat apply Exists.intro); refine And.intro rfl ?_) | (refine And.intro ?_ ?_; first | exact trivial | exact rfl | exact t_ld h | (refine lds_s (t_ld h) ?_; (repeat (refine lds_s (t_ld h) ?_)); exact lds_nil) | omega) | refine u_bspT ?_ | refine u_bspF ?_)


    simp only [beq_self_eq_true]
    refine k 9 i j R1 _ (by omega) (by omega) g1 ?_
    rw [e]
    exact ⟨_, ca, _, cx, _, _, _, co, gb, bs, _, hbl, (hx.le g1).set i ⟨_, _, rfl, t1⟩, t2, h.sub (by repeat (first | exact Sub.refl | refine Sub.cons (by first | exact Pick.here | exact (.there .here) | exact (.there (.there .here)) | exact (.there (.there (.there .here))) | exact (.there (.there (.there (.there .here)))) | exact (.there (.there (.there (.there (.there .here))))) | exact (.there (.there (.there (.there (.there (.there .here)))))) | exact (.there (.there (.there (.there (.there (.there (.there .here))))))) | exact (.there (.there (.there (.there (.there (.there (.there (.there .here)))))))) | exact (.there (.there (.there (.there (.there (.there (.there (.there (.there .here))))))))) | exact (.there (.there (.there (.there (.there (.there (.there (.there (.there (.there .here)))))))))) | exact (.there (.there (.there (.there (.there (.there (.there (.there (.there (.there (.there .here))))))))))) | exact (.there (.there (.there (.there (.there (.there (.there (.there (.there (.there (.there (.there .here)))))))))))) | exact (.there (.there (.there (.there (.there (.there (.there (.there (.there (.there (.there (.there (.there .here))))))))))))) | exact (.there (.there (.there (.there (.there (.there (.there (.there (.there (.there (.there (.there (.there (.there .here)))))))))))))) | exact (.there (.there (.there (.there (.there (.there (.there (.there (.there (.there (.there (.there (.there (.there (.there .here)))))))))))))))) ?_ | refine Sub.drop ?_))⟩
  refine bsp_eq.2 ⟨fun hk => ?_, fun hk => ?_⟩
  · repeat (first | (refine s_nwc h ?_; clear h; intro kb M h) | (refine s_stc h ?_; clear h; intro M h) | refine t_exI h ?_ | refine t_exB h ?_ | refine t_exS h ?_ | refine t_exP h ?_ | refine t_exSl h ?_ | refine t_exV h ?_ | refine u_exI ?_ | refine u_exB ?_ | refine u_exS ?_ | refine u_exP ?_ | refine u_exSl ?_ | refine u_exV ?_ | refine u_nilc ?_ | (apply Exists.intro; (repeat apply Exists.intro); refine And.intro rfl ?_) | (refine And.intro ?_ ?_; first | exact trivial | exact rfl | exact t_ld h | (refine lds_s (t_ld h) ?_; (repeat (refine lds_s (t_ld h) ?_)); exact lds_nil) | omega) | refine u_bspT ?_ | refine u_bspF ?_)
    refine local_gPut (l := [s.next]) h (Src.pt (by first | exact Pick.here | exact (.there .here) | exact (.there (.there .here)) | exact (.there (.there (.there .here))) | exact (.there (.there (.there (.there .here)))) | exact (.there (.there (.there (.there (.there .here))))) | exact (.there (.there (.there (.there (.there (.there .here)))))) | exact (.there (.there (.there (.there (.there (.there (.there .here))))))) | exact (.there (.there (.there (.there (.there (.there (.there (.there .here)))))))) | exact (.there (.there (.there (.there (.there (.there (.there (.there (.there .here))))))))) | exact (.there (.there (.there (.there (.there (.there (.there (.there (.there (.there .here)))))))))) | exact (.there (.there (.there (.there (.there (.there (.there (.there (.there (.there (.there .here))))))))))) | exact (.there (.there (.there (.there (.there (.there (.there (.there (.there (.there (.there (.there .here)))))))))))) | exact (.there (.there (.there (.there (.there (.there (.there (.there (.there (.there (.there (.there (.there .here))))))))))))) | exact (.there (.there (.there (.there (.there (.there (.there (.there (.there (.there (.there (.there (.there (.there .here)))))))))))))) | exact (.there (.there (.there (.there (.there (.there (.there (.there (.there (.there (.there (.there (.there (.there (.there .here))))))))))))))))) rfl (by simp; omega) ?_
    clear h
    intro M h
    repeat (first | (refine s_nwc h ?_; clear h; intro kb M h) | (refine s_stc h ?_; clear h; intro M h) | refine t_exI h ?_ | refine t_exB h ?_ | refine t_exS h ?_ | refine t_exP h ?_ | refine t_exSl h ?_ | refine t_exV h ?_ | refine u_exI ?_ | refine u_exB ?_ | refine u_exS ?_ | refine u_exP ?_ | refine u_exSl ?_ | refine u_exV ?_ | refine u_nilc ?_ | (apply Exists.intro; (repeat apply Exists.intro); refine And.intro rfl ?_) | (refine And.intro ?_ ?_; first | exact trivial | exact rfl | exact t_ld h | (refine lds_s (t_ld h) ?_; (repeat (refine lds_s (t_ld h) ?_)); exact lds_nil) | omega) | refine u_bspT ?_ | refine u_bspF ?_)
    refine h.rowCopy intE el_intR s.g hy.src rfl (by omega) ?_
    clear h
    intro A5 c5 M h
    repeat (first | (refine s_nwc h ?_; clear h; intro kb M h) | (refine s_stc h ?_; clear h; intro M h) | refine t_exI h ?_ | refine t_exB h ?_ | refine t_exS h ?_ | refine t_exP h ?_ | refine t_exSl h ?_ | refine t_exV h ?_ | refine u_exI ?_ | refine u_exB ?_ | refine u_exS ?_ | refine u_exP ?_ | refine u_exSl ?_ | refine u_exV ?_ | refine u_nilc ?_ | (apply Exists.intro; (repeat apply Exists.intro); refine And.intro rfl ?_) | (refine And.intro ?_ ?_; first | exact trivial | exact rfl | exact t_ld h | (refine lds_s (t_ld h) ?_; (repeat (refine lds_s (t_ld h) ?_)); exact lds_nil) | omega) | refine u_bspT ?_ | refine u_bspF ?_)
    refine h.rowAppend1 el_intR [s.next] rfl rfl (by simp; omega) ?_
    clear h
    intro A6 c6 M h
    repeat (first | (refine s_nwc h ?_; clear h; intro kb M h) | (refine s_stc h ?_; clear h; intro M h) | refine t_exI h ?_ | refine t_exB h ?_ | refine t_exS h ?_ | refine t_exP h ?_ | refine t_exSl h ?_ | refine t_exV h ?_ | refine u_exI ?_ | refine u_exB ?_ | refine u_exS ?_ | refine u_exP ?_ | refine u_exSl ?_ | refine u_exV ?_ | refine u_nilc ?_ | (apply Exists.intro; (repeat apply Exists.intro); refine And.intro rfl ?_) | (refine And.intro ?_ ?_; first | exact trivial | exact rfl | exact t_ld h | (refine lds_s (t_ld h) ?_; (repeat (refine lds_s (t_ld h) ?_)); exact lds_nil) | omega) | refine u_bspT ?_ | refine u_bspF ?_)
    rw [wrap_in (n := s.next + 1) (by omega) (by omega)] at h
    obtain ⟨R1, g1, s5, h'⟩ := h.sealRow A6
    clear h
    have h := h'
    clear h'
    have e : does8 s 7 i j x2 = ⟨s.xs, s.g ++ [s.next], s.next + 1, s.out⟩ := by unfold does8; simp
    refine k 7 i j R1 _ (by omega) (by omega) g1 ?_
    rw [e]
    exact ⟨_, ca, _, cx, _, _, _, co, gb, bs, _, hbl, hx.le g1, s5, h.sub (by repeat (first | exact Sub.refl | refine Sub.cons (by first | exact Pick.here | exact (.there .here) | exact (.there (.there .here)) | exact (.there (.there (.there .here))) | exact (.there (.there (.there (.there .here)))) | exact (.there (.there (.there (.there (.there .here))))) | exact (.there (.there (.there (.there (.there (.there .here)))))) | exact (.there (.there (.there (.there (.there (.there (.there .here))))))) | exact (.there (.there (.there (.there (.there (.there (.there (.there .here)))))))) | exact (.there (.there (.there (.there (.there (.there (.there (.there (.there .here))))))))) | exact (.there (.there (.there (.there (.there (.there (.there (.there (.there (.there .here)))))))))) | exact (.there (.there (.there (.there (.there (.there (.there (.there (.there (.there (.there .here))))))))))) | exact (.there (.there (.there (.there (.there (.there (.there (.there (.there (.there (.there (.there .here)))))))))))) | exact (.there (.there (.there (.there (.there (.there (.there (.there (.there (.there (.there (.there (.there .here))))))))))))) | exact (.there (.there (.there (.there (.there (.there (.there (.there (.there (.there (.there (.there (.there (.there .here)))))))))))))) | exact (.there (.there (.there (.there (.there (.there (.there (.there (.there (.there (.there (.there (.there (.there (.there .here)))))))))))))))) ?_ | refine Sub.drop ?_))⟩
  · repeat (first | (refine s_nwc h ?_; clear h; intro kb M h) | (refine s_stc h ?_; clear h; intro M h) | refine t_exI h ?_ | refine t_exB h ?_ | refine t_exS h ?_ | refine t_exP h ?_ | refine t_exSl h ?_ | refine t_exV h ?_ | refine u_exI ?_ | refine u_exB ?_ | refine u_exS ?_ | refine u_exP ?_ | refine u_exSl ?_ | refine u_exV ?_ | refine u_nilc ?_ | (apply Exists.intro; (repeat apply Exists.intro); refine And.intro rfl ?_) | (refine And.intro ?_ ?_; first | exact trivial | exact rfl | exact t_ld h | (refine lds_s (t_ld h) ?_; (repeat (refine lds_s (t_ld h) ?_)); exact lds_nil) | omega) | refine u_bspT ?_ | refine u_bspF ?_)
    refine local_gTake h (by omega) ?_
    clear h
    intro A5 c5 M h
    repeat (first | (refine s_nwc h ?_; clear h; intro kb M h) | (refine s_stc h ?_; clear h; intro M h) | refine t_exI h ?_ | refine t_exB h ?_ | refine t_exS h ?_ | refine t_exP h ?_ | refine t_exSl h ?_ | refine t_exV h ?_ | refine u_exI ?_ | refine u_exB ?_ | refine u_exS ?_ | refine u_exP ?_ | refine u_exSl ?_ | refine u_exV ?_ | refine u_nilc ?_ | (apply Exists.intro; (repeat apply Exists.intro); refine And.intro rfl ?_) | (refine And.intro ?_ ?_; first | exact trivial | exact rfl | exact t_ld h | (refine lds_s (t_ld h) ?_; (repeat (refine lds_s (t_ld h) ?_)); exact lds_nil) | omega) | refine u_bspT ?_ | refine u_bspF ?_)
    have e : (if ((s.g.length : Nat) : Int) < (if (0 : Int) > x2 then 0 else x2) then ((s.g.length : Nat) : Int) else (if (0 : Int) > x2 then 0 else x2)) = ((min x2.toNat s.g.length : Nat) : Int) := by
      have h0 : (if (0 : Int) > x2 then 0 else x2) = ((x2.toNat : Nat) : Int) := by split <;> omega
      rw [h0]; split <;> omega
    have hqq : s.g.take x2.toNat = s.g.take (min x2.toNat s.g.length) ∧ s.g.drop x2.toNat = s.g.drop (min x2.toNat s.g.length) := by
      rcases Nat.le_total x2.toNat s.g.length with hl | hl
      · rw [Nat.min_eq_left hl]; exact ⟨rfl, rfl⟩
      · rw [Nat.min_eq_right hl, List.take_of_length_le hl, List.drop_of_length_le hl]; simp
    have e8 : does8 s 8 i j x2 = ⟨s.xs, s.g.drop x2.toNat, s.next, s.out ++ s.g.take x2.toNat⟩ := by unfold does8; simp
    rw [hqq.1, hqq.2] at e8 h
    rw [hqq.1]
    have hql : min x2.toNat s.g.length ≤ s.g.length := Nat.min_le_right ..
    have hcap := hy.2
    simp only [e, Int.toNat_natCast]
    generalize min x2.toNat s.g.length = z at *
    have el : (s.g.take z).length = z := by rw [List.length_take]; omega
    repeat (first | (refine s_nwc h ?_; clear h; intro kb M h) | (refine s_stc h ?_; clear h; intro M h) | refine t_exI h ?_ | refine t_exB h ?_ | refine t_exS h ?_ | refine t_exP h ?_ | refine t_exSl h ?_ | refine t_exV h ?_ | refine u_exI ?_ | refine u_exB ?_ | refine u_exS ?_ | refine u_exP ?_ | refine u_exSl ?_ | refine u_exV ?_ | refine u_nilc ?_ | (apply Exists.intro; (repeat apply Exists.intro); refine And.intro rfl ?_) | (refine And.intro ?_ ?_; first | exact trivial | exact rfl | exact t_ld h | (refine lds_s (t_ld h) ?_; (repeat (refine lds_s (t_ld h) ?_)); exact lds_nil) | omega) | refine u_bspT ?_ | refine u_bspF ?_)
    refine h.rowAppend (A := Ao) (r := s.g.take z) el_intR (Src.pre1 hy.src hcap z) (by rw [el]; omega) (by rw [el]; omega) ?_
    clear h
    intro A6 c6 M h
    repeat (first | (refine s_nwc h ?_; clear h; intro kb M h) | (refine s_stc h ?_; clear h; intro M h) | refine t_exI h ?_ | refine t_exB h ?_ | refine t_exS h ?_ | refine t_exP h ?_ | refine t_exSl h ?_ | refine t_exV h ?_ | refine u_exI ?_ | refine u_exB ?_ | refine u_exS ?_ | refine u_exP ?_ | refine u_exSl ?_ | refine u_exV ?_ | refine u_nilc ?_ | (apply Exists.intro; (repeat apply Exists.intro); refine And.intro rfl ?_) | (refine And.intro ?_ ?_; first | exact trivial | exact rfl | exact t_ld h | (refine lds_s (t_ld h) ?_; (repeat (refine lds_s (t_ld h) ?_)); exact lds_nil) | omega) | refine u_bspT ?_ | refine u_bspF ?_)
    try simp only [e, Int.toNat_natCast]
    repeat (first | (refine s_nwc h ?_; clear h; intro kb M h) | (refine s_stc h ?_; clear h; intro M h) | refine t_exI h ?_ | refine t_exB h ?_ | refine t_exS h ?_ | refine t_exP h ?_ | refine t_exSl h ?_ | refine t_exV h ?_ | refine u_exI ?_ | refine u_exB ?_ | refine u_exS ?_ | refine u_exP ?_ | refine u_exSl ?_ | refine u_exV ?_ | refine u_nilc ?_ | (apply Exists.intro; (repeat apply Exists.intro); refine And.intro rfl ?_) | (refine And.intro ?_ ?_; first | exact trivial | exact rfl | exact t_ld h | (refine lds_s (t_ld h) ?_; (repeat (refine lds_s (t_ld h) ?_)); exact lds_nil) | omega) | refine u_bspT ?_ | refine u_bspF ?_)
    refine law07_Same h (Src.row (A := A5)) (Src.pre1 hy.src hcap z) rfl (by rw [el]; omega) (by rw [el]; omega) ?_
    clear h
    intro M h
    repeat (first | (refine s_nwc h ?_; clear h; intro kb M h) | (refine s_stc h ?_; clear h; intro M h) | refine t_exI h ?_ | refine t_exB h ?_ | refine t_exS h ?_ | refine t_exP h ?_ | refine t_exSl h ?_ | refine t_exV h ?_ | refine u_exI ?_ | refine u_exB ?_ | refine u_exS ?_ | refine u_exP ?_ | refine u_exSl ?_ | refine u_exV ?_ | refine u_nilc ?_ | (apply Exists.intro; (repeat apply Exists.intro); refine And.intro rfl ?_) | (refine And.intro ?_ ?_; first | exact trivial | exact rfl | exact t_ld h | (refine lds_s (t_ld h) ?_; (repeat (refine lds_s (t_ld h) ?_)); exact lds_nil) | omega) | refine u_bspT ?_ | refine u_bspF ?_)
    try simp only [e, Int.toNat_natCast]
    repeat (first | (refine s_nwc h ?_; clear h; intro kb M h) | (refine s_stc h ?_; clear h; intro M h) | refine t_exI h ?_ | refine t_exB h ?_ | refine t_exS h ?_ | refine t_exP h ?_ | refine t_exSl h ?_ | refine t_exV h ?_ | refine u_exI ?_ | refine u_exB ?_ | refine u_exS ?_ | refine u_exP ?_ | refine u_exSl ?_ | refine u_exV ?_ | refine u_nilc ?_ | (apply Exists.intro; (repeat apply Exists.intro); refine And.intro rfl ?_) | (refine And.intro ?_ ?_; first | exact trivial | exact rfl | exact t_ld h | (refine lds_s (t_ld h) ?_; (repeat (refine lds_s (t_ld h) ?_)); exact lds_nil) | omega) | refine u_bspT ?_ | refine u_bspF ?_)
    refine k 8 i j R _ (by omega) (by omega) (Mem.le_refl R) ?_
    rw [e8]
    have hdr : s.g.length - z = (s.g.drop z).length := by rw [List.length_drop]
    rw [hdr] at h
    exact ⟨_, ca, _, cx, _, _, _, _, gb, bs, _, hbl, hx, hy.drop z (by omega), h.sub (by repeat (first | exact Sub.refl | refine Sub.cons (by first | exact Pick.here | exact (.there .here) | exact (.there (.there .here)) | exact (.there (.there (.there .here))) | exact (.there (.there (.there (.there .here)))) | exact (.there (.there (.there (.there (.there .here))))) | exact (.there (.there (.there (.there (.there (.there .here)))))) | exact (.there (.there (.there (.there (.there (.there (.there .here))))))) | exact (.there (.there (.there (.there (.there (.there (.there (.there .here)))))))) | exact (.there (.there (.there (.there (.there (.there (.there (.there (.there .here))))))))) | exact (.there (.there (.there (.there (.there (.there (.there (.there (.there (.there .here)))))))))) | exact (.there (.there (.there (.there (.there (.there (.there (.there (.there (.there (.there .here))))))))))) | exact (.there (.there (.there (.there (.there (.there (.there (.there (.there (.there (.there (.there .here)))))))))))) | exact (.there (.there (.there (.there (.there (.there (.there (.there (.there (.there (.there (.there (.there .here))))))))))))) | exact (.there (.there (.there (.there (.there (.there (.there (.there (.there (.there (.there (.there (.there (.there .here)))))))))))))) | exact (.there (.there (.there (.there (.there (.there (.there (.there (.there (.there (.there (.there (.there (.there (.there .here)))))))))))))))) ?_ | refine Sub.drop ?_))⟩

end
end Go.Proofs
