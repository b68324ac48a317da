/- A part of proofs about one program. -/
import Derived.Test.YtfjgcljdnhkmaaaGreatZWorldEnds0
set_option linter.unusedVariables false
namespace Go.Proofs
open Go.AF
set_option maxRecDepth 100000
set_option maxHeartbeats 1000000
attribute [local irreducible] bF dG fa dP aF eY aE b7 aO bj bJ aM
theorem g8 : bE Tryz.prog 188 289 3 24 [.int .i64 0, .int .i64 0, .int .i64 0] := bE.mk' (zv := .agg #[.int .i64 0, .int .i64 0, .int .i64 0]) (by kernel_rfl) (by kernel_rfl) rfl (by omega)
def kP (R : Mem) (vs : List Value) (c : aQ) : Prop := ∃ A ca B cb D cd, vs = [.int .i64 (c.room : Int), .slice A c.buf.length ca, .slice B c.snd.length cb, .slice D c.cH.length cd, .bool c.closed] ∧
 RS bR R A ca c.buf ∧ RS cC R B cb c.snd ∧ RS cC R D cd c.cH
theorem kP.le {R R' : Mem} {vs : List Value} {c : aQ} (h : kP R vs c) (hle : R.le R') : kP R' vs c := by
 obtain ⟨A, ca, B, cb, D, cd, e, h1, h2, h3⟩ := h
 exact ⟨A, ca, B, cb, D, cd, e, h1.le hle, h2.le hle, h3.le hle⟩
section
variable {R : Mem} {L L' : List HP} {M : Mem} {K : Value → Mem → Prop} {Kp : List PanicEntry → Mem → Prop} {c : aQ} {vs : List Value}
theorem D9 {room : Int} (h : Hp R L M) (k : ∀ vs M', Hp R L M' → kP R vs (.new room) → K (.agg vs.toArray) M') : ae Tryz.prog 75 #[.int .i64 room] M K Kp := by
 refine uO ?_
 repeat (first|(refine ai h ?_;clear h;intro kb M h)|(refine ak h ?_;clear h;intro M h)|refine St.to h ?_|(apply Exists.intro;(repeat apply Exists.intro);refine And.intro rfl ?_)|refine ay ?_|refine aq ?_|refine au ?_)
 have e : (if (if (16 : Int) < room then 16 else room) > 0 then (if (16 : Int) < room then 16 else room) else 0) = ((Bp room : Nat) : Int) := by unfold Bp; omega
 rw [e] at h ⊢
 exact k _ _ h.jb ⟨none, 0, none, 0, none, 0, rfl, RS.nil _ _, RS.nil _ _, RS.nil _ _⟩
theorem BY {B : Option Addr} {n cc : Nat} {w : Wt} {r : List Wt} (h : Hp R L M) (hB : RS cC R B cc (w :: r)) (hn : n = r.length + 1) (hs : r.length ≤ 1000000000)
  (k : ∀ R' A' c' M', R.le R' → Hp R' L M' → RS cC R' A' c' r → K (.slice A' r.length c') M') : ae Tryz.prog 218 #[.slice B n cc] M K Kp := by
 subst hn
 have hc := hB.2
 simp only [List.length_cons] at hc
 refine rX ?_
 repeat (first|(refine ai h ?_;clear h;intro kb M h)|(refine ak h ?_;clear h;intro M h)|refine St.to h ?_|(apply Exists.intro;(repeat apply Exists.intro);refine And.intro rfl ?_)|refine ay ?_|refine aq ?_|refine au ?_)
 simp only [Int.toNat_natCast]
 refine h.b6 cC g8 r (hB.src.drop (m := 1) (c := cc) hB.2) (by omega) (by omega) ?_
 clear h
 intro A' c' M h
 repeat (first|(refine ai h ?_;clear h;intro kb M h)|(refine ak h ?_;clear h;intro M h)|refine St.to h ?_|(apply Exists.intro;(repeat apply Exists.intro);refine And.intro rfl ?_)|refine ay ?_|refine aq ?_|refine au ?_)
 obtain ⟨R', h1, h2, h3⟩ := h.bz A'
 exact k R' _ _ _ h1 h3 h2
theorem LV {v : Int} (h : Hp R L M) (hc : kP R vs c) (hs : c.Small 1000000000) (k : ∀ R' vs' M', R.le R' → Hp R' L M' → kP R' vs' (c.send v).1 →
   K (.tuple #[.agg vs'.toArray, .agg #[.int .i64 (c.send v).2.1.g, .int .i64 (c.send v).2.1.cs, .int .i64 (c.send v).2.1.v], .bool (c.send v).2.2.1, .int .i64 (c.send v).2.2.2]) M') :
  ae Tryz.prog 187 #[.agg vs.toArray, .int .i64 v] M K Kp := by
 obtain ⟨room, buf, snd, cH, closed⟩ := c
 obtain ⟨h1, h2, h3⟩ := hs
 obtain ⟨A, ca, B, cb, D, cd, rfl, q1, q2, q3⟩ := hc
 dsimp only at h1 h2 h3 q1 q2 q3
 refine rQ ?_
 repeat (first|(refine ai h ?_;clear h;intro kb M h)|(refine ak h ?_;clear h;intro M h)|refine St.to h ?_|(apply Exists.intro;(repeat apply Exists.intro);refine And.intro rfl ?_)|refine ay ?_|refine aq ?_|refine au ?_)
 refine fH.2 ⟨fun hb => ?_, fun hb => ?_⟩
 ·subst hb
  repeat (first|(refine ai h ?_;clear h;intro kb M h)|(refine ak h ?_;clear h;intro M h)|refine St.to h ?_|(apply Exists.intro;(repeat apply Exists.intro);refine And.intro rfl ?_)|refine ay ?_|refine aq ?_|refine au ?_)
  exact k R _ _ (Mem.le_refl R) h.jb ⟨_, _, _, _, _, _, rfl, q1, q2, q3⟩
 subst hb
 repeat (first|(refine ai h ?_;clear h;intro kb M h)|(refine ak h ?_;clear h;intro M h)|refine St.to h ?_|(apply Exists.intro;(repeat apply Exists.intro);refine And.intro rfl ?_)|refine ay ?_|refine aq ?_|refine au ?_)
 refine aH.2 ⟨fun hr => ?_, fun hr => ?_⟩
 ·cases cH with
  | nil => simp at hr
  | cons w r =>
   obtain ⟨x, o, rfl⟩ := q3.some (by simp) (by decide)
   repeat (first|(refine ai h ?_;clear h;intro kb M h)|(refine ak h ?_;clear h;intro M h)|refine St.to h ?_|(apply Exists.intro;(repeat apply Exists.intro);refine And.intro rfl ?_)|refine ay ?_|refine aq ?_|refine au ?_)
   refine aj (q3.src.at h (i := 0) (j := 0) rfl rfl (by omega)) ?_
   refine aj (q3.src.at h (i := 0) (j := 1) rfl rfl (by omega)) ?_
   refine aj (q3.src.at h (i := 0) (j := 2) rfl rfl (by omega)) ?_
   repeat (first|(refine ai h ?_;clear h;intro kb M h)|(refine ak h ?_;clear h;intro M h)|refine St.to h ?_|(apply Exists.intro;(repeat apply Exists.intro);refine And.intro rfl ?_)|refine ay ?_|refine aq ?_|refine au ?_)
   refine BY h q3 (by simp) (by simp at h3; omega) ?_
   clear h
   intro R' A' c' M g h q4
   repeat (first|(refine ai h ?_;clear h;intro kb M h)|(refine ak h ?_;clear h;intro M h)|refine St.to h ?_|(apply Exists.intro;(repeat apply Exists.intro);refine And.intro rfl ?_)|refine ay ?_|refine aq ?_|refine au ?_)
   exact k R' _ _ g h.jb ⟨_, _, _, _, _, _, rfl, q1.le g, q2.le g, q4⟩
 cases cH with
 | cons w r => simp at hr
 | nil =>
 simp only [aQ.send, Bool.false_eq_true, if_false] at k
 repeat (first|(refine ai h ?_;clear h;intro kb M h)|(refine ak h ?_;clear h;intro M h)|refine St.to h ?_|(apply Exists.intro;(repeat apply Exists.intro);refine And.intro rfl ?_)|refine ay ?_|refine aq ?_|refine au ?_)
 refine aH.2 ⟨fun hl => ?_, fun hl => ?_⟩
 ·dsimp only at hl
  rw [if_neg (by omega)] at k
  repeat (first|(refine ai h ?_;clear h;intro kb M h)|(refine ak h ?_;clear h;intro M h)|refine St.to h ?_|(apply Exists.intro;(repeat apply Exists.intro);refine And.intro rfl ?_)|refine ay ?_|refine aq ?_|refine au ?_)
  exact k R _ _ (Mem.le_refl R) h.jb ⟨_, _, _, _, _, _, rfl, q1, q2, q3⟩
 ·dsimp only at hl
  rw [if_pos (by omega)] at k
  repeat (first|(refine ai h ?_;clear h;intro kb M h)|(refine ak h ?_;clear h;intro M h)|refine St.to h ?_|(apply Exists.intro;(repeat apply Exists.intro);refine And.intro rfl ?_)|refine ay ?_|refine aq ?_|refine au ?_)
  refine h.b6 bR lp buf q1.src rfl (by omega) ?_
  clear h
  intro A' c' M h
  repeat (first|(refine ai h ?_;clear h;intro kb M h)|(refine ak h ?_;clear h;intro M h)|refine St.to h ?_|(apply Exists.intro;(repeat apply Exists.intro);refine And.intro rfl ?_)|refine ay ?_|refine aq ?_|refine au ?_)
  refine h.aZ lp [v] rfl rfl (by simp; omega) ?_
  clear h
  intro A' c' M h
  repeat (first|(refine ai h ?_;clear h;intro kb M h)|(refine ak h ?_;clear h;intro M h)|refine St.to h ?_|(apply Exists.intro;(repeat apply Exists.intro);refine And.intro rfl ?_)|refine ay ?_|refine aq ?_|refine au ?_)
  obtain ⟨R', g, q4, h⟩ := h.bz A'
  exact k R' _ _ g h.jb ⟨_, _, _, _, _, _, rfl, q4, q2.le g, q3.le g⟩
theorem LW (h : Hp R L M) (hc : kP R vs c) (hs : c.Small 1000000000) (k : ∀ R' vs' M', R.le R' → Hp R' L M' → kP R' vs' c.recv.1 →
   K (.tuple #[.agg vs'.toArray, .int .i64 c.recv.2.1, .bool c.recv.2.2.1, .agg #[.int .i64 c.recv.2.2.2.1.g, .int .i64 c.recv.2.2.2.1.cs, .int .i64 c.recv.2.2.2.1.v], .bool c.recv.2.2.2.2.1, .int .i64 c.recv.2.2.2.2.2]) M') :
  ae Tryz.prog 189 #[.agg vs.toArray] M K Kp := by
 obtain ⟨room, buf, snd, cH, closed⟩ := c
 obtain ⟨h1, h2, h3⟩ := hs
 obtain ⟨A, ca, B, cb, D, cd, rfl, q1, q2, q3⟩ := hc
 dsimp only at h1 h2 h3 q1 q2 q3
 refine rT ?_
 repeat (first|(refine ai h ?_;clear h;intro kb M h)|(refine ak h ?_;clear h;intro M h)|refine St.to h ?_|(apply Exists.intro;(repeat apply Exists.intro);refine And.intro rfl ?_)|refine ay ?_|refine aq ?_|refine au ?_)
 refine h.b6 bR lp buf q1.src rfl (by omega) ?_
 clear h
 intro A' c' M h
 repeat (first|(refine ai h ?_;clear h;intro kb M h)|(refine ak h ?_;clear h;intro M h)|refine St.to h ?_|(apply Exists.intro;(repeat apply Exists.intro);refine And.intro rfl ?_)|refine ay ?_|refine aq ?_|refine au ?_)
 refine aH.2 ⟨fun hr => ?_, fun hr => ?_⟩
 ·cases snd with
  | nil => simp at hr
  | cons w r =>
   obtain ⟨x, o, rfl⟩ := q2.some (by simp) (by decide)
   repeat (first|(refine ai h ?_;clear h;intro kb M h)|(refine ak h ?_;clear h;intro M h)|refine St.to h ?_|(apply Exists.intro;(repeat apply Exists.intro);refine And.intro rfl ?_)|refine ay ?_|refine aq ?_|refine au ?_)
   refine aj (q2.src.at h (i := 0) (j := 0) rfl rfl (by omega)) ?_
   refine aj (q2.src.at h (i := 0) (j := 1) rfl rfl (by omega)) ?_
   refine aj (q2.src.at h (i := 0) (j := 2) rfl rfl (by omega)) ?_
   repeat (first|(refine ai h ?_;clear h;intro kb M h)|(refine ak h ?_;clear h;intro M h)|refine St.to h ?_|(apply Exists.intro;(repeat apply Exists.intro);refine And.intro rfl ?_)|refine ay ?_|refine aq ?_|refine au ?_)
   refine h.aZ lp [w.v] rfl rfl (by simp; omega) ?_
   clear h
   intro A' c' M h
   repeat (first|(refine ai h ?_;clear h;intro kb M h)|(refine ak h ?_;clear h;intro M h)|refine St.to h ?_|(apply Exists.intro;(repeat apply Exists.intro);refine And.intro rfl ?_)|refine ay ?_|refine aq ?_|refine au ?_)
   refine BY h q2 (by simp) (by simp at h2; omega) ?_
   clear h
   intro R' B' d' M g h q4
   repeat (first|(refine ai h ?_;clear h;intro kb M h)|(refine ak h ?_;clear h;intro M h)|refine St.to h ?_|(apply Exists.intro;(repeat apply Exists.intro);refine And.intro rfl ?_)|refine ay ?_|refine aq ?_|refine au ?_)
   refine aH.2 ⟨fun hl => ?_, fun hl => absurd hl (by simp)⟩
   obtain ⟨v, l, hv⟩ : ∃ v l, buf ++ [w.v] = v :: l := by cases buf <;> simp
   have dU : l.length ≤ buf.length := by have := congrArg List.length hv; simp at this; omega
   simp only [aQ.recv, aQ.all, hv] at k
   have hcap := h.nw A'
   rw [hv] at h hcap hl ⊢
   obtain ⟨y, rfl⟩ := h.bU (A := A') (by simp) (by decide)
   repeat (first|(refine ai h ?_;clear h;intro kb M h)|(refine ak h ?_;clear h;intro M h)|refine St.to h ?_|(apply Exists.intro;(repeat apply Exists.intro);refine And.intro rfl ?_)|refine ay ?_|refine aq ?_|refine au ?_)
   have s0 := h.src (A := some ⟨y, 0, none⟩)
   refine aj (s0.at h (i := 0) (j := 0) rfl rfl (by omega)) ?_
   repeat (first|(refine ai h ?_;clear h;intro kb M h)|(refine ak h ?_;clear h;intro M h)|refine St.to h ?_|(apply Exists.intro;(repeat apply Exists.intro);refine And.intro rfl ?_)|refine ay ?_|refine aq ?_|refine au ?_)
   have s0 := h.src (A := some ⟨y, 0, none⟩)
   refine And.intro (s0.at h (i := 0) (j := 0) rfl rfl (by omega)) ?_
   repeat (first|(refine ai h ?_;clear h;intro kb M h)|(refine ak h ?_;clear h;intro M h)|refine St.to h ?_|(apply Exists.intro;(repeat apply Exists.intro);refine And.intro rfl ?_)|refine ay ?_|refine aq ?_|refine au ?_)
   have s0 := h.src (A := some ⟨y, 0, none⟩)
   refine And.intro (s0.at h (i := 0) (j := 0) rfl rfl (by omega)) ?_
   repeat (first|(refine ai h ?_;clear h;intro kb M h)|(refine ak h ?_;clear h;intro M h)|refine St.to h ?_|(apply Exists.intro;(repeat apply Exists.intro);refine And.intro rfl ?_)|refine ay ?_|refine aq ?_|refine au ?_)
   obtain ⟨R2, g2, q5, h⟩ := h.bz (some ⟨y, 0, none⟩)
   exact k R2 _ _ (Mem.le_trans g g2) h.jb ⟨_, _, _, _, _, _, rfl, q5.drop 1 (by omega), q4.le g2, (q3.le g).le g2⟩
 ·cases snd with
  | cons w r => simp at hr
  | nil =>
  have hcap := h.nw A'
  repeat (first|(refine ai h ?_;clear h;intro kb M h)|(refine ak h ?_;clear h;intro M h)|refine St.to h ?_|(apply Exists.intro;(repeat apply Exists.intro);refine And.intro rfl ?_)|refine ay ?_|refine aq ?_|refine au ?_)
  refine aH.2 ⟨fun hl => ?_, fun hl => ?_⟩
  ·cases buf with
   | nil => simp at hl
   | cons v l =>
    obtain ⟨y, rfl⟩ := h.bU (A := A') (by simp) (by decide)
    repeat (first|(refine ai h ?_;clear h;intro kb M h)|(refine ak h ?_;clear h;intro M h)|refine St.to h ?_|(apply Exists.intro;(repeat apply Exists.intro);refine And.intro rfl ?_)|refine ay ?_|refine aq ?_|refine au ?_)
    have s0 := h.src (A := some ⟨y, 0, none⟩)
    refine aj (s0.at h (i := 0) (j := 0) rfl rfl (by omega)) ?_
    repeat (first|(refine ai h ?_;clear h;intro kb M h)|(refine ak h ?_;clear h;intro M h)|refine St.to h ?_|(apply Exists.intro;(repeat apply Exists.intro);refine And.intro rfl ?_)|refine ay ?_|refine aq ?_|refine au ?_)
    have s0 := h.src (A := some ⟨y, 0, none⟩)
    refine And.intro (s0.at h (i := 0) (j := 0) rfl rfl (by omega)) ?_
    repeat (first|(refine ai h ?_;clear h;intro kb M h)|(refine ak h ?_;clear h;intro M h)|refine St.to h ?_|(apply Exists.intro;(repeat apply Exists.intro);refine And.intro rfl ?_)|refine ay ?_|refine aq ?_|refine au ?_)
    have s0 := h.src (A := some ⟨y, 0, none⟩)
    refine And.intro (s0.at h (i := 0) (j := 0) rfl rfl (by omega)) ?_
    repeat (first|(refine ai h ?_;clear h;intro kb M h)|(refine ak h ?_;clear h;intro M h)|refine St.to h ?_|(apply Exists.intro;(repeat apply Exists.intro);refine And.intro rfl ?_)|refine ay ?_|refine aq ?_|refine au ?_)
    obtain ⟨R2, g2, q5, h⟩ := h.bz (some ⟨y, 0, none⟩)
    exact k R2 _ _ g2 h.jb ⟨_, _, _, _, _, _, rfl, q5.drop 1 (by simp at hcap; omega), q2.le g2, q3.le g2⟩
  ·cases buf with
   | cons v l => simp at hl
   | nil =>
   repeat (first|(refine ai h ?_;clear h;intro kb M h)|(refine ak h ?_;clear h;intro M h)|refine St.to h ?_|(apply Exists.intro;(repeat apply Exists.intro);refine And.intro rfl ?_)|refine ay ?_|refine aq ?_|refine au ?_)
   refine fH.2 ⟨fun hb => ?_, fun hb => ?_⟩
   ·subst hb
    repeat (first|(refine ai h ?_;clear h;intro kb M h)|(refine ak h ?_;clear h;intro M h)|refine St.to h ?_|(apply Exists.intro;(repeat apply Exists.intro);refine And.intro rfl ?_)|refine ay ?_|refine aq ?_|refine au ?_)
    exact k R _ _ (Mem.le_refl R) h.jb ⟨_, _, _, _, _, _, rfl, q1, q2, q3⟩
   ·subst hb
    repeat (first|(refine ai h ?_;clear h;intro kb M h)|(refine ak h ?_;clear h;intro M h)|refine St.to h ?_|(apply Exists.intro;(repeat apply Exists.intro);refine And.intro rfl ?_)|refine ay ?_|refine aq ?_|refine au ?_)
    exact k R _ _ (Mem.le_refl R) h.jb ⟨_, _, _, _, _, _, rfl, q1, q2, q3⟩
theorem II (h : Hp R L M) (hc : kP R vs c) (k : ∀ vs' A ca B cb M', Hp R L M' → kP R vs' c.close.1 → RS cC R A ca c.close.2.1 → RS cC R B cb c.close.2.2.1 →
   K (.tuple #[.agg vs'.toArray, .slice A c.close.2.1.length ca, .slice B c.close.2.2.1.length cb, .int .i64 c.close.2.2.2]) M') :
  ae Tryz.prog 191 #[.agg vs.toArray] M K Kp := by
 obtain ⟨room, buf, snd, cH, closed⟩ := c
 obtain ⟨A, ca, B, cb, D, cd, rfl, q1, q2, q3⟩ := hc
 dsimp only at q1 q2 q3
 refine qA ?_
 repeat (first|(refine ai h ?_;clear h;intro kb M h)|(refine ak h ?_;clear h;intro M h)|refine St.to h ?_|(apply Exists.intro;(repeat apply Exists.intro);refine And.intro rfl ?_)|refine ay ?_|refine aq ?_|refine au ?_)
 refine fH.2 ⟨fun hb => ?_, fun hb => ?_⟩
 ·subst hb
  repeat (first|(refine ai h ?_;clear h;intro kb M h)|(refine ak h ?_;clear h;intro M h)|refine St.to h ?_|(apply Exists.intro;(repeat apply Exists.intro);refine And.intro rfl ?_)|refine ay ?_|refine aq ?_|refine au ?_)
  exact k _ none 0 none 0 _ h.jb ⟨_, _, _, _, _, _, rfl, q1, q2, q3⟩ (RS.nil _ _) (RS.nil _ _)
 ·subst hb
  repeat (first|(refine ai h ?_;clear h;intro kb M h)|(refine ak h ?_;clear h;intro M h)|refine St.to h ?_|(apply Exists.intro;(repeat apply Exists.intro);refine And.intro rfl ?_)|refine ay ?_|refine aq ?_|refine au ?_)
  exact k _ _ _ _ _ _ h.jb ⟨_, _, none, 0, none, 0, rfl, q1, RS.nil _ _, RS.nil _ _⟩ q3 q2
theorem LX {g : Int} (h : Hp R L M) (hc : kP R vs c) (hs : c.Small 1000000000) (k : ∀ R' vs' M', R.le R' → Hp R' L M' → kP R' vs' (c.drop g) → K (.agg vs'.toArray) M') :
  ae Tryz.prog 224 #[.agg vs.toArray, .int .i64 g] M K Kp := by
 obtain ⟨room, buf, snd, cH, closed⟩ := c
 obtain ⟨h1, h2, h3⟩ := hs
 obtain ⟨A0, ca, B0, cb, D0, cd, rfl, q1, q2, q3⟩ := hc
 dsimp only at h1 h2 h3 q1 q2 q3 ⊢
 refine rV ?_
 refine ai h ?_
 clear h
 intro kc M h
 refine ai h ?_
 clear h
 intro ko M h
 refine ai h ?_
 clear h
 intro ka M h
 refine ai h ?_
 clear h
 intro kb M h
 repeat (first|(refine ai h ?_;clear h;intro kb M h)|(refine ak h ?_;clear h;intro M h)|refine St.to h ?_|(apply Exists.intro;(repeat apply Exists.intro);refine And.intro rfl ?_)|refine ay ?_|refine aq ?_|refine au ?_)
 have h := ((h.pt ka).gY (E := cC) (l := []) rfl)
 refine ⟨fun d vs M => ∃ i A c, vs = [.slice A (wo g (snd.take i)).length c, .int .i64 (i : Int)] ∧ d = snd.length - i ∧ i ≤ snd.length ∧ Hp R (cu cC 289 A c (wo g (snd.take i)) :: pt kb [] 289 ::
   pt ko [.int .i64 0, .slice none 0 0, .slice none 0 0, .slice none 0 0, .bool false] 190 :: pt kc [.int .i64 (room : Int), .slice A0 buf.length ca, .slice B0 snd.length cb, .slice D0 cH.length cd, .bool closed] 190 :: L) M,
  ⟨_, 0, _, _, rfl, rfl, by omega, h⟩, ?_⟩
 clear h
 rintro d _ A n c' ii M ⟨i, _, _, he, hd, hi, h⟩
 simp only [List.cons.injEq, Value.slice.injEq, Value.int.injEq, and_true, true_and] at he
 obtain ⟨⟨rfl, rfl, rfl⟩, rfl⟩ := he
 refine aH.2 ⟨fun hlt => ?_, fun hge => ?_⟩
 ·obtain ⟨w, hw⟩ := aL (l := snd) (i := i) (by omega)
  obtain ⟨b, o, rfl⟩ := q2.some (by omega) (by decide)
  have hl := Bq g (snd.take i)
  have dU := List.length_take_le i snd
  rw [aS (by omega)]
  repeat (first|(refine ai h ?_;clear h;intro kb M h)|(refine ak h ?_;clear h;intro M h)|refine St.to h ?_|(apply Exists.intro;(repeat apply Exists.intro);refine And.intro rfl ?_)|refine ay ?_|refine aq ?_|refine au ?_)
  refine aj (q2.src.at h (j := 0) hw rfl (by simp [cC])) ?_
  refine aj (q2.src.at h (j := 1) hw rfl (by simp [cC]; omega)) ?_
  refine aj (q2.src.at h (j := 2) hw rfl (by simp [cC]; omega)) ?_
  repeat (first|(refine ai h ?_;clear h;intro kb M h)|(refine ak h ?_;clear h;intro M h)|refine St.to h ?_|(apply Exists.intro;(repeat apply Exists.intro);refine And.intro rfl ?_)|refine ay ?_|refine aq ?_|refine au ?_)
  refine dJ.2 ⟨fun hne => ?_, fun heq => ?_⟩
  ·have e2 : wo g (snd.take (i + 1)) = wo g (snd.take i) ++ [w] := by rw [dw hw, yj]; simp [wo, hne]
   repeat (first|(refine ai h ?_;clear h;intro kb M h)|(refine ak h ?_;clear h;intro M h)|refine St.to h ?_|(apply Exists.intro;(repeat apply Exists.intro);refine And.intro rfl ?_)|refine ay ?_|refine aq ?_|refine au ?_)
   refine h.aZ g8 [w] rfl rfl (by simp; omega) ?_
   clear h
   intro A' c' M h
   repeat (first|(refine ai h ?_;clear h;intro kb M h)|(refine ak h ?_;clear h;intro M h)|refine St.to h ?_|(apply Exists.intro;(repeat apply Exists.intro);refine And.intro rfl ?_)|refine ay ?_|refine aq ?_|refine au ?_)
   exact ⟨snd.length - (i + 1), by omega, i + 1, A', c', by rw [e2], rfl, by omega, by rw [e2]; exact h.cG⟩
  ·have e2 : wo g (snd.take (i + 1)) = wo g (snd.take i) := by rw [dw hw, yj]; simp [wo, heq]
   exact ⟨snd.length - (i + 1), by omega, i + 1, A, c', by rw [e2], rfl, by omega, by rw [e2]; exact h.jb⟩
 have : i = snd.length := by omega
 subst this
 rw [List.take_length] at h ⊢
 repeat (first|(refine ai h ?_;clear h;intro kb M h)|(refine ak h ?_;clear h;intro M h)|refine St.to h ?_|(apply Exists.intro;(repeat apply Exists.intro);refine And.intro rfl ?_)|refine ay ?_|refine aq ?_|refine au ?_)
 have h := ((h.pt kb).gY (E := cC) (l := []) rfl)
 refine ⟨fun d vs M => ∃ i B e, vs = [.slice B (wo g (cH.take i)).length e, .int .i64 (i : Int)] ∧ d = cH.length - i ∧ i ≤ cH.length ∧ Hp R (cu cC 289 B e (wo g (cH.take i)) :: cu cC 289 A c' (wo g snd) ::
   pt ko [.int .i64 0, .slice none 0 0, .slice none 0 0, .slice none 0 0, .bool false] 190 :: pt kc [.int .i64 (room : Int), .slice A0 buf.length ca, .slice B0 snd.length cb, .slice D0 cH.length cd, .bool closed] 190 :: L) M,
  ⟨_, 0, _, _, rfl, rfl, by omega, h⟩, ?_⟩
 clear h
 rintro d _ B n e ii M ⟨i, _, _, he, hd, hi, h⟩
 simp only [List.cons.injEq, Value.slice.injEq, Value.int.injEq, and_true, true_and] at he
 obtain ⟨⟨rfl, rfl, rfl⟩, rfl⟩ := he
 refine aH.2 ⟨fun hlt => ?_, fun hge => ?_⟩
 ·obtain ⟨w, hw⟩ := aL (l := cH) (i := i) (by omega)
  obtain ⟨b, o, rfl⟩ := q3.some (by omega) (by decide)
  have hl := Bq g (cH.take i)
  have dU := List.length_take_le i cH
  rw [aS (by omega)]
  repeat (first|(refine ai h ?_;clear h;intro kb M h)|(refine ak h ?_;clear h;intro M h)|refine St.to h ?_|(apply Exists.intro;(repeat apply Exists.intro);refine And.intro rfl ?_)|refine ay ?_|refine aq ?_|refine au ?_)
  refine aj (q3.src.at h (j := 0) hw rfl (by simp [cC])) ?_
  refine aj (q3.src.at h (j := 1) hw rfl (by simp [cC]; omega)) ?_
  refine aj (q3.src.at h (j := 2) hw rfl (by simp [cC]; omega)) ?_
  repeat (first|(refine ai h ?_;clear h;intro kb M h)|(refine ak h ?_;clear h;intro M h)|refine St.to h ?_|(apply Exists.intro;(repeat apply Exists.intro);refine And.intro rfl ?_)|refine ay ?_|refine aq ?_|refine au ?_)
  refine dJ.2 ⟨fun hne => ?_, fun heq => ?_⟩
  ·have e2 : wo g (cH.take (i + 1)) = wo g (cH.take i) ++ [w] := by rw [dw hw, yj]; simp [wo, hne]
   repeat (first|(refine ai h ?_;clear h;intro kb M h)|(refine ak h ?_;clear h;intro M h)|refine St.to h ?_|(apply Exists.intro;(repeat apply Exists.intro);refine And.intro rfl ?_)|refine ay ?_|refine aq ?_|refine au ?_)
   refine h.aZ g8 [w] rfl rfl (by simp; omega) ?_
   clear h
   intro B' e' M h
   repeat (first|(refine ai h ?_;clear h;intro kb M h)|(refine ak h ?_;clear h;intro M h)|refine St.to h ?_|(apply Exists.intro;(repeat apply Exists.intro);refine And.intro rfl ?_)|refine ay ?_|refine aq ?_|refine au ?_)
   exact ⟨cH.length - (i + 1), by omega, i + 1, B', e', by rw [e2], rfl, by omega, by rw [e2]; exact h.cG⟩
  ·have e2 : wo g (cH.take (i + 1)) = wo g (cH.take i) := by rw [dw hw, yj]; simp [wo, heq]
   exact ⟨cH.length - (i + 1), by omega, i + 1, B, e, by rw [e2], rfl, by omega, by rw [e2]; exact h.jb⟩
 have : i = cH.length := by omega
 subst this
 rw [List.take_length] at h ⊢
 repeat (first|(refine ai h ?_;clear h;intro kb M h)|(refine ak h ?_;clear h;intro M h)|refine St.to h ?_|(apply Exists.intro;(repeat apply Exists.intro);refine And.intro rfl ?_)|refine ay ?_|refine aq ?_|refine au ?_)
 obtain ⟨R1, g1, p1, h⟩ := h.bz B
 obtain ⟨R2, g2, p2, h⟩ := h.bz A
 exact k R2 _ _ (Mem.le_trans g1 g2) h.jb ⟨_, _, _, _, _, _, rfl, (q1.le g1).le g2, p2, p1.le g2⟩
theorem zB {A B : Option Addr} {ca cb : Nat} {l : List Wt} (h : Hp R L M) (hA : Src R L A (cC.cells l)) (hB : Src R L B (cC.cells l)) (hs : l.length ≤ 1000000000) (k : ∀ M', Hp R L M' → K (.int .i64 0) M') :
  ae Tryz.prog 116 #[.slice A l.length ca, .slice B l.length cb] M K Kp := by
 refine qB ?_
 refine dJ.2 ⟨fun hn => absurd rfl hn, fun _ => ?_⟩
 refine ⟨fun d vs M => ∃ i : Nat, vs = [.int .i64 (i : Int)] ∧ d = l.length - i ∧ i ≤ l.length ∧ Hp R L M, ⟨_, 0, rfl, rfl, by omega, h⟩, ?_⟩
 clear h
 rintro d _ ii M ⟨i, he, hd, hi, h⟩
 simp only [List.cons.injEq, Value.int.injEq, and_true, true_and] at he
 subst he
 refine aH.2 ⟨fun hlt => ?_, fun hge => k _ h⟩
 obtain ⟨w, hw⟩ := aL (l := l) (i := i) (by omega)
 obtain ⟨b, o, rfl⟩ := hA.iK h (by omega) (by decide)
 obtain ⟨b', o', rfl⟩ := hB.iK h (by omega) (by decide)
 repeat (first|(refine ai h ?_;clear h;intro kb M h)|(refine ak h ?_;clear h;intro M h)|refine St.to h ?_|(apply Exists.intro;(repeat apply Exists.intro);refine And.intro rfl ?_)|refine ay ?_|refine aq ?_|refine au ?_)
 refine aj (hA.at h (j := 0) hw rfl (by simp [cC])) ?_
 refine aj (hA.at h (j := 1) hw rfl (by simp [cC]; omega)) ?_
 refine aj (hA.at h (j := 2) hw rfl (by simp [cC]; omega)) ?_
 refine aj (hB.at h (j := 0) hw rfl (by simp [cC])) ?_
 refine aj (hB.at h (j := 1) hw rfl (by simp [cC]; omega)) ?_
 refine aj (hB.at h (j := 2) hw rfl (by simp [cC]; omega)) ?_
 simp only [beq_self_eq_true, Bool.and_self, Bool.not_true]
 refine au ?_
 rw [aS (by omega)]
 exact ⟨l.length - (i + 1), by omega, i + 1, rfl, rfl, by omega, h⟩
theorem LY {A B D : Option Addr} {ca cb cd : Nat} (h : Hp R L M) (hc : kP R vs c) (hs : c.Small 1000000000) (hA : Src R L A (bR.cells c.buf)) (hB : Src R L B (cC.cells c.snd)) (hD : Src R L D (cC.cells c.cH)) (k : ∀ M', Hp R L M' → K (.int .i64 0) M') :
  ae Tryz.prog 85 #[.agg #[.slice A c.buf.length ca, .slice B c.snd.length cb, .slice D c.cH.length cd, .bool c.closed], .agg vs.toArray] M K Kp := by
 obtain ⟨room, buf, snd, cH, closed⟩ := c
 obtain ⟨h1, h2, h3⟩ := hs
 obtain ⟨A', ca', B', cb', D', cd', rfl, q1, q2, q3⟩ := hc
 dsimp only at h1 h2 h3 q1 q2 q3 hA hB hD ⊢
 refine rY ?_
 refine ai h ?_
 clear h
 intro ka M h
 refine ai h ?_
 clear h
 intro kb M h
 repeat (first|(refine ai h ?_;clear h;intro kb M h)|(refine ak h ?_;clear h;intro M h)|refine St.to h ?_|(apply Exists.intro;(repeat apply Exists.intro);refine And.intro rfl ?_)|refine ay ?_|refine aq ?_|refine au ?_)
 refine dJ.2 ⟨fun hn => absurd rfl hn, fun _ => ?_⟩
 repeat (first|(refine ai h ?_;clear h;intro kb M h)|(refine ak h ?_;clear h;intro M h)|refine St.to h ?_|(apply Exists.intro;(repeat apply Exists.intro);refine And.intro rfl ?_)|refine ay ?_|refine aq ?_|refine au ?_)
 simp only [beq_self_eq_true, Bool.not_true]
 repeat (first|(refine ai h ?_;clear h;intro kb M h)|(refine ak h ?_;clear h;intro M h)|refine St.to h ?_|(apply Exists.intro;(repeat apply Exists.intro);refine And.intro rfl ?_)|refine ay ?_|refine aq ?_|refine au ?_)
 refine zB h hB.cons.cons q2.src h2 ?_
 clear h
 intro M h
 repeat (first|(refine ai h ?_;clear h;intro kb M h)|(refine ak h ?_;clear h;intro M h)|refine St.to h ?_|(apply Exists.intro;(repeat apply Exists.intro);refine And.intro rfl ?_)|refine ay ?_|refine aq ?_|refine au ?_)
 refine zB h hD.cons.cons q3.src h3 ?_
 clear h
 intro M h
 repeat (first|(refine ai h ?_;clear h;intro kb M h)|(refine ak h ?_;clear h;intro M h)|refine St.to h ?_|(apply Exists.intro;(repeat apply Exists.intro);refine And.intro rfl ?_)|refine ay ?_|refine aq ?_|refine au ?_)
 refine ⟨fun d vs M => ∃ i : Nat, vs = [.int .i64 (i : Int)] ∧ d = buf.length - i ∧ i ≤ buf.length ∧ Hp R (pt kb [.int .i64 (room : Int), .slice A' buf.length ca', .slice B' snd.length cb', .slice D' cH.length cd', .bool closed] 190 ::
  pt ka [.slice A buf.length ca, .slice B snd.length cb, .slice D cH.length cd, .bool closed] 201 :: L) M, ⟨_, 0, rfl, rfl, by omega, h⟩, ?_⟩
 clear h
 rintro d _ ii M ⟨i, he, hd, hi, h⟩
 simp only [List.cons.injEq, Value.int.injEq, and_true, true_and] at he
 subst he
 refine aH.2 ⟨fun hlt => ?_, fun hge => k _ h.jb⟩
 obtain ⟨w, hw⟩ := aL (l := buf) (i := i) (by omega)
 obtain ⟨b, o, rfl⟩ := hA.cons.cons.iK h (by omega) (by decide)
 obtain ⟨b', o', rfl⟩ := q1.some (by omega) (by decide)
 repeat (first|(refine ai h ?_;clear h;intro kb M h)|(refine ak h ?_;clear h;intro M h)|refine St.to h ?_|(apply Exists.intro;(repeat apply Exists.intro);refine And.intro rfl ?_)|refine ay ?_|refine aq ?_|refine au ?_)
 refine aj (q1.src.at h (j := 0) hw rfl (by simp [bR])) ?_
 repeat (first|(refine ai h ?_;clear h;intro kb M h)|(refine ak h ?_;clear h;intro M h)|refine St.to h ?_|(apply Exists.intro;(repeat apply Exists.intro);refine And.intro rfl ?_)|refine ay ?_|refine aq ?_|refine au ?_)
 refine aj (hA.cons.cons.at h (j := 0) hw rfl (by simp [bR])) ?_
 refine dJ.2 ⟨fun hn => absurd rfl hn, fun _ => ?_⟩
 rw [aS (by omega)]
 exact ⟨buf.length - (i + 1), by omega, i + 1, rfl, rfl, by omega, h⟩
end
structure RC where
 room : Int
 A : Option Addr
 na : Nat
 ca : Nat
 B : Option Addr
 nb : Nat
 cb : Nat
 D : Option Addr
 nd : Nat
 cd : Nat
 closed : Bool
def xQ : jM RC := ⟨5, fun w => [.int .i64 w.room, .slice w.A w.na w.ca, .slice w.B w.nb w.cb, .slice w.D w.nd w.cd, .bool w.closed], fun _ => rfl, fun w v hv => by
 simp only [List.mem_cons, List.not_mem_nil, or_false] at hv; obtain rfl | rfl | rfl | rfl | rfl := hv <;> rfl⟩
def Ty (R : Mem) (r : RC) (c : aQ) : Prop := kP R (xQ.f r) c
theorem Ty.le {R R' : Mem} {r : RC} {c : aQ} (h : Ty R r c) (hle : R.le R') : Ty R' r c := kP.le h hle
theorem kP.rc {R : Mem} {vs : List Value} {c : aQ} (h : kP R vs c) : ∃ r, vs = xQ.f r ∧ Ty R r c := by
 obtain ⟨A, ca, B, cb, D, cd, rfl, q1, q2, q3⟩ := id h
 exact ⟨⟨c.room, A, c.buf.length, ca, B, c.snd.length, cb, D, c.cH.length, cd, c.closed⟩, rfl, h⟩
theorem Ty.eq {R : Mem} {r : RC} {c : aQ} (h : Ty R r c) : ∃ A ca B cb D cd, r = ⟨c.room, A, c.buf.length, ca, B, c.snd.length, cb, D, c.cH.length, cd, c.closed⟩ ∧ RS bR R A ca c.buf ∧ RS cC R B cb c.snd ∧ RS cC R D cd c.cH := by
 obtain ⟨A, ca, B, cb, D, cd, e, q1, q2, q3⟩ := h
 obtain ⟨e0, e1, e2, e3, e4, e5, e6, e7, e8, e9, PK⟩ := r
 simp only [xQ, List.cons.injEq, Value.int.injEq, Value.slice.injEq, Value.bool.injEq, and_true, true_and] at e
 obtain ⟨rfl, ⟨rfl, rfl, rfl⟩, ⟨rfl, rfl, rfl⟩, ⟨rfl, rfl, rfl⟩, rfl⟩ := e
 exact ⟨_, _, _, _, _, _, rfl, q1, q2, q3⟩
def yN (R : Mem) (xs : List RC) (cs : List aQ) : Prop := xs.length = cs.length ∧ ∀ (i : Nat) (r : RC) (c : aQ), xs[i]? = some r → cs[i]? = some c → Ty R r c
theorem yN.le {R R' : Mem} {xs : List RC} {cs : List aQ} (h : yN R xs cs) (hle : R.le R') : yN R' xs cs := ⟨h.1, fun i r c h1 h2 => (h.2 i r c h1 h2).le hle⟩
theorem yN.nil (R : Mem) : yN R [] [] := ⟨rfl, fun i r c h => by simp at h⟩
theorem yN.snoc {R : Mem} {xs : List RC} {cs : List aQ} {r : RC} {c : aQ} (h : yN R xs cs) (hr : Ty R r c) : yN R (xs ++ [r]) (cs ++ [c]) := by
 refine ⟨by simp [h.1], fun i r' c' h1 h2 => ?_⟩
 rcases Nat.lt_or_ge i xs.length with hl | hl
 ·rw [List.getElem?_append_left hl] at h1; rw [List.getElem?_append_left (by rw [← h.1]; exact hl)] at h2; exact h.2 i _ _ h1 h2
 ·rw [List.getElem?_append_right hl] at h1; rw [List.getElem?_append_right (by rw [← h.1]; exact hl)] at h2
  have : i - xs.length = 0 := by
   obtain ⟨hh, _⟩ := List.getElem?_eq_some_iff.1 h1; simp at hh; omega
  rw [this] at h1; rw [← h.1, this] at h2
  cases h1; cases h2; exact hr
theorem yN.set {R : Mem} {xs : List RC} {cs : List aQ} {r : RC} {c : aQ} (h : yN R xs cs) (i : Nat) (hr : Ty R r c) : yN R (xs.set i r) (cs.set i c) := by
 refine ⟨by simp [h.1], fun j r' c' h1 h2 => ?_⟩
 rw [List.getElem?_set] at h1 h2
 split at h1
 ·rename_i e; rw [if_pos e] at h2
  split at h1
  ·split at h2
   ·cases h1; cases h2; exact hr
   ·cases h2
  ·cases h1
 ·rename_i e; rw [if_neg e] at h2; exact h.2 j _ _ h1 h2
theorem Xg {cs : List aQ} {x : aQ} {way bH : Int} {q : Nat} (hx : cs[q]? = some x) (h0 : 0 ≤ way) (h1 : way < 2) :
  can cs ⟨way, q, bH⟩ = true ↔ x.closed = true ∨ (way = 0 ∧ (0 < x.snd.length + x.buf.length)) ∨ (way = 1 ∧ (0 < x.cH.length ∨ x.buf.length < x.room)) := by
 have hxx : aX cs (q : Int) = x := by simp [aX, hx]
 have hw : way = 0 ∨ way = 1 := by omega
 simp only [can, hxx]
 obtain ⟨room, buf, snd, cH, closed⟩ := x
 rcases hw with rfl | rfl
 ·simp only [if_true, aQ.tq, Bool.or_eq_true]
  cases closed <;> cases snd <;> cases buf <;> simp <;> omega
 ·simp only [aQ.tp, Bool.or_eq_true]
  cases closed <;> cases cH <;> simp
section
variable {R : Mem} {L L' : List HP} {M : Mem} {K : Value → Mem → Prop} {Kp : List PanicEntry → Mem → Prop} {xs : List RC} {cs : List aQ}
theorem LZ {B : Option Addr} {m cc : Nat} {cases : List m5} (h : Hp R L M) (hB : Src R L B (gP.cells cases)) (hm : m = cases.length) (hb : cases.length ≤ 1000000000)
  (k : ∀ M', Hp R L M' → K (.int .i64 (match els cases with | some i => (i : Int) | none => -1)) M') :
  ae Tryz.prog 193 #[.slice B m cc] M K Kp := by
 subst hm
 refine rj ⟨fun d ws M => ∃ i : Nat, ws = [.int .i64 (i : Int)] ∧ d = cases.length - i ∧ i ≤ cases.length ∧ (∀ j c, j < i → cases[j]? = some c → c.way ≠ 2) ∧ Hp R L M, ⟨_, 0, rfl, rfl, by omega, fun j c hj => by omega, h⟩, ?_⟩
 clear h
 rintro d _ ii M ⟨i, he, hd, hi, hp, h⟩
 simp only [List.cons.injEq, Value.int.injEq, and_true, true_and] at he
 subst he
 refine aH.2 ⟨fun hlt => ?_, fun hge => ?_⟩
 ·obtain ⟨c, hc⟩ := aL (l := cases) (i := i) (by omega)
  obtain ⟨b, o, rfl⟩ := hB.iK h (by omega) (by decide)
  repeat (first|(refine ai h ?_;clear h;intro kb M h)|(refine ak h ?_;clear h;intro M h)|refine St.to h ?_|(apply Exists.intro;(repeat apply Exists.intro);refine And.intro rfl ?_)|refine ay ?_|refine aq ?_|refine au ?_)
  simp only [Int.toNat_natCast]
  refine aj (hB.at h (i := i) (j := 0) hc rfl rfl) ?_
  refine aj (hB.at h (i := i) (j := 1) hc rfl rfl) ?_
  refine aj (hB.at h (i := i) (j := 2) hc rfl rfl) ?_
  repeat (first|(refine ai h ?_;clear h;intro kb M h)|(refine ak h ?_;clear h;intro M h)|refine St.to h ?_|(apply Exists.intro;(repeat apply Exists.intro);refine And.intro rfl ?_)|refine ay ?_|refine aq ?_|refine au ?_)
  refine bh.2 ⟨fun e => ?_, fun e => ?_⟩
  ·have := Ie hc e hp
   rw [this] at k
   exact k _ h.jb
  ·rw [aS (by omega)]
   refine ⟨cases.length - (i + 1), by omega, i + 1, rfl, rfl, by omega, fun j c' hj wY => ?_, h.jb⟩
   rcases Nat.lt_or_ge j i with kq | kq
   ·exact hp j c' kq wY
   ·obtain rfl : j = i := by omega
    rw [hc] at wY; cases wY; exact e
 ·obtain rfl : i = cases.length := by omega
  rw [Ig hp] at k
  exact k _ h
theorem Dr {B A : Option Addr} {m cc n ca : Nat} {cases : List m5} (h : Hp R L M) (hB : Src R L B (gP.cells cases)) (hA : Src R L A (xQ.cells xs)) (hx : yN R xs cs) (hm : m = cases.length) (hn : n = cs.length)
  (hb : cases.length ≤ 1000000000) (hok : ∀ c ∈ cases, c.Ok cs.length) (hs : ∀ c ∈ cs, c.Small 1000000000)
  (k : ∀ A' c' M', Hp R (cu bR 3 A' c' (enabled cases cs) :: L) M' → K (.slice A' (enabled cases cs).length c') M') :
  ae Tryz.prog 192 #[.slice B m cc, .slice A n ca] M K Kp := by
 subst hm
 subst hn
 refine og ?_
 repeat (first|(refine ai h ?_;clear h;intro kb M h)|(refine ak h ?_;clear h;intro M h)|refine St.to h ?_|(apply Exists.intro;(repeat apply Exists.intro);refine And.intro rfl ?_)|refine ay ?_|refine aq ?_|refine au ?_)
 replace h := (h.pt kb).gY (E := bR) (l := []) rfl
 refine ⟨fun d ws M => ∃ (i : Nat) (X : Option Addr) (cx : Nat), ws = [.slice X (z4 cases cs i).length cx, .int .i64 (i : Int)] ∧ d = cases.length - i ∧ i ≤ cases.length ∧ Hp R (cu bR 3 X cx (z4 cases cs i) :: L) M, ⟨_, 0, _, _, rfl, rfl, by omega, h⟩, ?_⟩
 clear h
 rintro d _ X n1 cx ii M ⟨i, _, _, he, hd, hi, h⟩
 simp only [List.cons.injEq, Value.int.injEq, Value.slice.injEq, and_true, true_and] at he
 obtain ⟨⟨rfl, rfl, rfl⟩, rfl⟩ := he
 refine aH.2 ⟨fun hlt => ?_, fun hge => ?_⟩
 ·obtain ⟨c, hc⟩ := aL (l := cases) (i := i) (by omega)
  obtain ⟨b, o, rfl⟩ := hB.cons.iK h (by omega) (by decide)
  obtain ⟨k0, k0', kk⟩ := hok c (List.mem_of_getElem? hc)
  have e := yy (cs := cs) hc
  have hlen := BD cases cs i
  obtain ⟨way, ch, bH⟩ := c
  dsimp only at k0 k0' kk
  repeat (first|(refine ai h ?_;clear h;intro kb M h)|(refine ak h ?_;clear h;intro M h)|refine St.to h ?_|(apply Exists.intro;(repeat apply Exists.intro);refine And.intro rfl ?_)|refine ay ?_|refine aq ?_|refine au ?_)
  simp only [Int.toNat_natCast]
  refine aj (hB.cons.at h (i := i) (j := 0) hc rfl rfl) ?_
  refine aj (hB.cons.at h (i := i) (j := 1) hc rfl rfl) ?_
  refine aj (hB.cons.at h (i := i) (j := 2) hc rfl rfl) ?_
  dsimp only
  repeat (first|(refine ai h ?_;clear h;intro kb M h)|(refine ak h ?_;clear h;intro M h)|refine St.to h ?_|(apply Exists.intro;(repeat apply Exists.intro);refine And.intro rfl ?_)|refine ay ?_|refine aq ?_|refine au ?_)
  refine bh.2 ⟨fun hw => ?_, fun hw => ?_⟩
  ·have hcan : can cs ⟨way, ch, bH⟩ = false := by simp [can, hw]
   rw [hcan] at e
   simp only [Bool.false_eq_true, if_false, List.append_nil] at e
   rw [aS (by omega)]
   refine ⟨cases.length - (i + 1), by omega, i + 1, X, cx, by rw [e], rfl, by omega, ?_⟩
   rw [e]; exact h.jb
  obtain ⟨k1, k2, k3, k4⟩ := kk hw
  obtain ⟨q, rfl⟩ := Int.eq_ofNat_of_zero_le k1
  obtain ⟨x, Tz⟩ := aL (l := cs) (i := q) (by omega)
  obtain ⟨r, CO⟩ := aL (l := xs) (i := q) (by rw [hx.1]; omega)
  obtain ⟨A0, ca0, B0, cb0, D0, cd0, rfl, q1, q2, q3⟩ := (hx.2 q r x CO Tz).eq
  obtain ⟨s1, s2, s3⟩ := hs x (List.mem_of_getElem? Tz)
  obtain ⟨b2, o2, rfl⟩ := hA.cons.cons.iK h (by rw [hx.1]; omega) (by decide)
  have hcan := Xg (bH := bH) Tz k0 (by omega)
  repeat (first|(refine ai h ?_;clear h;intro kb M h)|(refine ak h ?_;clear h;intro M h)|refine St.to h ?_|(apply Exists.intro;(repeat apply Exists.intro);refine And.intro rfl ?_)|refine ay ?_|refine aq ?_|refine au ?_)
  simp only [Int.toNat_natCast]
  refine aj (hA.cons.cons.at h (i := q) (j := 0) CO rfl rfl) ?_
  refine br (hA.cons.cons.at h (i := q) (j := 1) CO rfl rfl) ?_
  refine br (hA.cons.cons.at h (i := q) (j := 2) CO rfl rfl) ?_
  refine br (hA.cons.cons.at h (i := q) (j := 3) CO rfl rfl) ?_
  refine uZ (hA.cons.cons.at h (i := q) (j := 4) CO rfl rfl) ?_
  dsimp only
  repeat (first|(refine ai h ?_;clear h;intro kb M h)|(refine ak h ?_;clear h;intro M h)|refine St.to h ?_|(apply Exists.intro;(repeat apply Exists.intro);refine And.intro rfl ?_)|refine ay ?_|refine aq ?_|refine au ?_)
  have hwr : IntKind.wrap .i64 (((x.snd.length : Nat) : Int) + ((x.buf.length : Nat) : Int)) = ((x.snd.length : Nat) : Int) + ((x.buf.length : Nat) : Int) := NI (by omega) (by omega)
  repeat' (first | (refine fH.2 ⟨fun _ => ?_, fun _ => ?_⟩) | (refine ai h ?_; clear h; intro kb M h) | (refine ak h ?_; clear h; intro M h) | refine St.to h ?_ | (apply Exists.intro; (repeat apply Exists.intro); refine And.intro rfl ?_) | refine ay ?_ | refine aq ?_ | refine au ?_)
  all_goals simp only [hwr, beq_iff_eq, beq_eq_false_iff_ne, decide_eq_true_eq, decide_eq_false_iff_not] at *
  all_goals first
   | (
     have hc1 : can cs ⟨way, (q : Int), bH⟩ = true := hcan.2 (by first | exact .inl ‹_› | exact .inr (.inl ⟨‹_›, by omega⟩) | exact .inr (.inr ⟨‹_›, by omega⟩))
     rw [if_pos hc1] at e
     refine h.aZ jP [(i : Int)] rfl rfl (by simp; omega) ?_
     clear h; intro A' c' M h
     refine aU ?_
     rw [aS (by omega)]
     rw [← e] at h
     refine ⟨cases.length - (i + 1), by omega, i + 1, A', c', ?_, rfl, by omega, h.cG⟩
     rw [e])
   | (
     have hc1 : ¬ can cs ⟨way, (q : Int), bH⟩ = true := fun hh => by
      rcases hcan.1 hh with h1 | h1 | h1
      ·simp_all
      ·omega
      ·omega
     rw [if_neg hc1, List.append_nil] at e
     rw [aS (by omega)]
     refine ⟨cases.length - (i + 1), by omega, i + 1, X, cx, by rw [e], rfl, by omega, ?_⟩
     rw [e]; exact h.jb)
 ·obtain rfl : i = cases.length := by omega
  exact k _ _ _ h
theorem Ma : bE Tryz.prog 75 190 5 88 [.int .i64 0, .slice none 0 0, .slice none 0 0, .slice none 0 0, .bool false] := bE.mk' (zv := .agg #[.int .i64 0, .slice none 0 0, .slice none 0 0, .slice none 0 0, .bool false]) (by kernel_rfl) (by kernel_rfl) rfl (by omega)
theorem s_rc {b o T c q : Nat} {r r' : RC} {G : Mem → Prop} (h : Hp R L M) [hp : dF (some ⟨b, 0, none⟩) L RC xQ T c xs L'] (hi : xs[q]? = some r) (e : o = q * 5)
  (k : ∀ M', Hp R (cu xQ T (some ⟨b, 0, none⟩) c (xs.set q r') :: L') M' → G M') :
  b7 M ⟨b, o, none⟩ (.int .i64 r'.room) fun M => b7 M ⟨b, o + 1, none⟩ (.slice r'.A r'.na r'.ca) fun M => b7 M ⟨b, o + 2, none⟩ (.slice r'.B r'.nb r'.cb) fun M =>
  b7 M ⟨b, o + 3, none⟩ (.slice r'.D r'.nd r'.cd) fun M => b7 M ⟨b, o + 4, none⟩ (.bool r'.closed) fun M => G M := by
 subst e
 have hl := (List.getElem?_eq_some_iff.1 hi).1
 refine gK q 0 h hi (by decide) (a' := { r with room := r'.room }) rfl rfl fun M1 h1 => ?_
 refine gK q 1 h1 (a := { r with room := r'.room }) (by simp [hl]) (by decide) (a' := { r with room := r'.room, A := r'.A, na := r'.na, ca := r'.ca }) rfl rfl fun M2 h2 => ?_
 refine gK q 2 h2 (a := { r with room := r'.room, A := r'.A, na := r'.na, ca := r'.ca }) (by simp [hl]) (by decide) (a' := { r with room := r'.room, A := r'.A, na := r'.na, ca := r'.ca, B := r'.B, nb := r'.nb, cb := r'.cb }) rfl rfl fun M3 h3 => ?_
 refine gK q 3 h3 (a := { r with room := r'.room, A := r'.A, na := r'.na, ca := r'.ca, B := r'.B, nb := r'.nb, cb := r'.cb }) (by simp [hl]) (by decide) (a' := { r' with closed := r.closed }) rfl rfl fun M4 h4 => ?_
 refine gK q 4 h4 (a := { r' with closed := r.closed }) (by simp [hl]) (by decide) (a' := r') rfl rfl fun M5 h5 => ?_
 simp only [List.set_set] at h5
 exact k _ h5
theorem IJ {g : Int} {A : Option Addr} {n ca : Nat} (h : Hp R L M) (hA : RS xQ R A ca xs) (hx : yN R xs cs) (hn : n = cs.length) (hb : cs.length ≤ 1000000) (hs : ∀ c ∈ cs, c.Small 1000000000)
  (k : ∀ R' X cx xs' M', R.le R' → Hp R' (cu xQ 190 X cx xs' :: L) M' → yN R' xs' (cs.map (·.drop g)) → K (.slice X cs.length cx) M') :
  ae Tryz.prog 219 #[.int .i64 g, .slice A n ca] M K Kp := by
 subst hn
 refine qt ?_
 repeat (first|(refine ai h ?_;clear h;intro kb M h)|(refine ak h ?_;clear h;intro M h)|refine St.to h ?_|(apply Exists.intro;(repeat apply Exists.intro);refine And.intro rfl ?_)|refine ay ?_|refine aq ?_|refine au ?_)
 replace h := (h.pt kb).gY (E := xQ) (l := []) rfl
 refine ⟨fun d ws M => ∃ (R' : Mem) (i : Nat) (X : Option Addr) (cx : Nat) (ys : List RC), ws = [.slice X ys.length cx, .int .i64 (i : Int)] ∧ d = cs.length - i ∧ i ≤ cs.length ∧ R.le R' ∧ yN R' ys ((cs.take i).map (·.drop g)) ∧ Hp R' (cu xQ 190 X cx ys :: L) M,
  ⟨_, R, 0, _, _, [], rfl, rfl, by omega, Mem.le_refl R, yN.nil R, h⟩, ?_⟩
 clear h
 rintro d _ X n1 cx ii M ⟨R1, i, _, _, ys, he, hd, hi, g1, hy, h⟩
 simp only [List.cons.injEq, Value.int.injEq, Value.slice.injEq, and_true, true_and] at he
 obtain ⟨⟨rfl, rfl, rfl⟩, rfl⟩ := he
 have hyl : ys.length = i := by rw [hy.1]; simp; omega
 refine aH.2 ⟨fun hlt => ?_, fun hge => ?_⟩
 ·obtain ⟨x, Tz⟩ := aL (l := cs) (i := i) (by omega)
  obtain ⟨r, CO⟩ := aL (l := xs) (i := i) (by rw [hx.1]; omega)
  have Ag := (hx.2 i r x CO Tz).le g1
  obtain ⟨b2, o2, rfl⟩ := hA.some (by rw [hx.1]; omega) (by decide)
  have sr : ∀ L, Src R1 L (some ⟨b2, o2, none⟩) (xQ.cells xs) := fun L => (hA.le g1).src
  repeat (first|(refine ai h ?_;clear h;intro kb M h)|(refine ak h ?_;clear h;intro M h)|refine St.to h ?_|(apply Exists.intro;(repeat apply Exists.intro);refine And.intro rfl ?_)|refine ay ?_|refine aq ?_|refine au ?_)
  simp only [Int.toNat_natCast]
  refine aj ((sr _).at h (i := i) (j := 0) CO rfl rfl) ?_
  refine br ((sr _).at h (i := i) (j := 1) CO rfl rfl) ?_
  refine br ((sr _).at h (i := i) (j := 2) CO rfl rfl) ?_
  refine br ((sr _).at h (i := i) (j := 3) CO rfl rfl) ?_
  refine uZ ((sr _).at h (i := i) (j := 4) CO rfl rfl) ?_
  repeat (first|(refine ai h ?_;clear h;intro kb M h)|(refine ak h ?_;clear h;intro M h)|refine St.to h ?_|(apply Exists.intro;(repeat apply Exists.intro);refine And.intro rfl ?_)|refine ay ?_|refine aq ?_|refine au ?_)
  refine LX (g := g) h Ag (hs x (List.mem_of_getElem? Tz)) ?_
  clear h
  intro R2 vs' M g2 h QU
  obtain ⟨r2, rfl, hr3⟩ := QU.rc
  repeat (first|(refine ai h ?_;clear h;intro kb M h)|(refine ak h ?_;clear h;intro M h)|refine St.to h ?_|(apply Exists.intro;(repeat apply Exists.intro);refine And.intro rfl ?_)|refine ay ?_|refine aq ?_|refine au ?_)
  refine h.aZ Ma [r2] rfl rfl (by simp; omega) ?_
  clear h
  intro A' c' M h
  repeat (first|(refine ai h ?_;clear h;intro kb M h)|(refine ak h ?_;clear h;intro M h)|refine St.to h ?_|(apply Exists.intro;(repeat apply Exists.intro);refine And.intro rfl ?_)|refine ay ?_|refine aq ?_|refine au ?_)
  rw [aS (by omega)]
  refine ⟨cs.length - (i + 1), by omega, R2, i + 1, A', c', ys ++ [r2], ?_, rfl, by omega, Mem.le_trans g1 g2, ?_, h.cG⟩
  ·simp
  ·rw [dw Tz, List.map_append]
   exact (hy.le g2).snoc hr3
 ·obtain rfl : i = cs.length := by omega
  rw [hyl]
  rw [List.take_length] at hy
  exact k _ _ _ _ _ g1 h hy
theorem Mb {g x0 x1 x2 x3 x4 x5 x6 x7 : Int} {B A : Option Addr} {m cc n ca : Nat} {cases : List m5} (h : Hp R L M) (hB : RS gP R B cc cases) (hA : RS xQ R A ca xs) (hx : yN R xs cs) (hm : m = cases.length) (hn : n = cs.length)
  (hb : cases.length ≤ 1000000) (Rn : cs.length ≤ 1000000) (hok : ∀ c ∈ cases, c.Ok cs.length) (hs : ∀ c ∈ cs, c.Small 1000000)
  (k : ∀ R' X cx xs' M', R.le R' → Hp R' (cu xQ 190 X cx xs' :: L) M' → yN R' xs' (dm g [x0, x1, x2, x3, x4, x5, x6, x7] cases cs cases.length) → K (.slice X cs.length cx) M') :
  ae Tryz.prog 194 #[.int .i64 g, .slice B m cc, .agg #[.int .i64 x0, .int .i64 x1, .int .i64 x2, .int .i64 x3, .int .i64 x4, .int .i64 x5, .int .i64 x6, .int .i64 x7], .slice A n ca] M K Kp := by
 subst hm
 subst hn
 generalize IK : [x0, x1, x2, x3, x4, x5, x6, x7] = ej at k
 refine rm ?_
 have hlx := hx.1
 repeat (first|(refine ai h ?_;clear h;intro kb M h)|(refine ak h ?_;clear h;intro M h)|refine St.to h ?_|(apply Exists.intro;(repeat apply Exists.intro);refine And.intro rfl ?_)|refine ay ?_|refine aq ?_|refine au ?_)
 rename_i kr _
 refine h.b6 xQ Ma xs (hA.src) hlx.symm (by omega) ?_
 clear h
 intro A1 c1 M h
 rw [hlx]
 repeat (first|(refine ai h ?_;clear h;intro kb M h)|(refine ak h ?_;clear h;intro M h)|refine St.to h ?_|(apply Exists.intro;(repeat apply Exists.intro);refine And.intro rfl ?_)|refine ay ?_|refine aq ?_|refine au ?_)
 refine ⟨fun d ws M => ∃ (R' : Mem) (i : Nat) (ys : List RC), ws = [.int .i64 (i : Int)] ∧ d = cases.length - i ∧ i ≤ cases.length ∧ R.le R' ∧ yN R' ys (dm g ej cases cs i) ∧ Hp R' (cu xQ 190 A1 c1 ys :: pt kr [.int .i64 x0, .int .i64 x1, .int .i64 x2, .int .i64 x3, .int .i64 x4, .int .i64 x5, .int .i64 x6, .int .i64 x7] 112 :: L) M,
  ⟨_, R, 0, xs, rfl, rfl, by omega, Mem.le_refl R, hx, h⟩, ?_⟩
 clear h
 rintro d _ ii M ⟨R1, i, ys, he, hd, hi, g1, hy, h⟩
 simp only [List.cons.injEq, Value.int.injEq, and_true, true_and] at he
 subst he
 have hlen := jd g ej cases cs i
 refine aH.2 ⟨fun hlt => ?_, fun hge => ?_⟩
 ·obtain ⟨c, hc⟩ := aL (l := cases) (i := i) (by omega)
  obtain ⟨k0, k0', kk⟩ := hok c (List.mem_of_getElem? hc)
  have ry := lI (g := g) (ej := ej) hs hok i
  have e : dm g ej cases cs (i + 1) = iW g ej i c (dm g ej cases cs i) := by rw [dm, hc]
  generalize hw : dm g ej cases cs i = ws at hy hlen ry e
  obtain ⟨way, ch, bH⟩ := c
  dsimp only at k0 k0' kk
  obtain ⟨b2, o2, rfl⟩ := hB.some (by omega) (by decide)
  have sr : ∀ L, Src R1 L (some ⟨b2, o2, none⟩) (gP.cells cases) := fun L => (hB.le g1).src
  repeat (first|(refine ai h ?_;clear h;intro kb M h)|(refine ak h ?_;clear h;intro M h)|refine St.to h ?_|(apply Exists.intro;(repeat apply Exists.intro);refine And.intro rfl ?_)|refine ay ?_|refine aq ?_|refine au ?_)
  simp only [Int.toNat_natCast]
  refine aj ((sr _).at h (i := i) (j := 0) hc rfl rfl) ?_
  refine aj ((sr _).at h (i := i) (j := 1) hc rfl rfl) ?_
  refine aj ((sr _).at h (i := i) (j := 2) hc rfl rfl) ?_
  dsimp only
  repeat (first|(refine ai h ?_;clear h;intro kb M h)|(refine ak h ?_;clear h;intro M h)|refine St.to h ?_|(apply Exists.intro;(repeat apply Exists.intro);refine And.intro rfl ?_)|refine ay ?_|refine aq ?_|refine au ?_)
  refine bh.2 ⟨fun cv => ?_, fun cv => ?_⟩
  ·unfold iW at e
   dsimp only at e
   rw [if_neg (by omega), if_neg (by omega)] at e
   rw [aS (by omega)]
   refine ⟨cases.length - (i + 1), by omega, R1, i + 1, ys, rfl, rfl, by omega, g1, by rw [e]; exact hy, h.jb⟩
  obtain ⟨k1, k2, k3, k4⟩ := kk cv
  obtain ⟨q, rfl⟩ := Int.eq_ofNat_of_zero_le k1
  obtain ⟨q2, rfl⟩ := Int.eq_ofNat_of_zero_le k3
  obtain ⟨x, Tz⟩ := aL (l := ws) (i := q) (by omega)
  obtain ⟨r, CO⟩ := aL (l := ys) (i := q) (by rw [hy.1]; omega)
  obtain ⟨v, hv⟩ := aL (l := ej) (i := q2) (by rw [← IK]; simp; omega)
  have hxx : aX ws (q : Int) = x := by simp [aX, Tz]
  have hvv : ej.getD q2 0 = v := by simp [hv]
  obtain ⟨s1, s2, s3⟩ := ry x (List.mem_of_getElem? Tz)
  simp only [iW, hxx, Int.toNat_natCast, hvv] at e
  obtain ⟨A0, ca0, B0, cb0, D0, cd0, hre, p1, p2, p3⟩ := (hy.2 q r x CO Tz).eq
  obtain ⟨b3, rfl⟩ := h.bU (A := A1) (by rw [hy.1]; omega) (by decide)
  have hyl := hy.1
  have s0 := h.src (A := some ⟨b3, 0, none⟩)
  subst hre
  repeat (first|(refine ai h ?_;clear h;intro kb M h)|(refine ak h ?_;clear h;intro M h)|refine St.to h ?_|(apply Exists.intro;(repeat apply Exists.intro);refine And.intro rfl ?_)|refine ay ?_|refine aq ?_|refine au ?_)
  simp only [Int.toNat_natCast]
  refine aj (s0.at h (i := q) (j := 0) CO rfl rfl) ?_
  refine br (s0.at h (i := q) (j := 1) CO rfl rfl) ?_
  refine br (s0.at h (i := q) (j := 2) CO rfl rfl) ?_
  refine br (s0.at h (i := q) (j := 3) CO rfl rfl) ?_
  refine uZ (s0.at h (i := q) (j := 4) CO rfl rfl) ?_
  dsimp only
  repeat (first|(refine ai h ?_;clear h;intro kb M h)|(refine ak h ?_;clear h;intro M h)|refine St.to h ?_|(apply Exists.intro;(repeat apply Exists.intro);refine And.intro rfl ?_)|refine ay ?_|refine aq ?_|refine au ?_)
  refine bh.2 ⟨fun IL => ?_, fun IL => ?_⟩
  ·rw [if_pos IL] at e
   repeat (first|(refine ai h ?_;clear h;intro kb M h)|(refine ak h ?_;clear h;intro M h)|refine St.to h ?_|(apply Exists.intro;(repeat apply Exists.intro);refine And.intro rfl ?_)|refine ay ?_|refine aq ?_|refine au ?_)
   refine h.b6 cC g8 x.cH p3.src rfl (by omega) ?_
   clear h
   intro A2 c2 M h
   repeat (first|(refine ai h ?_;clear h;intro kb M h)|(refine ak h ?_;clear h;intro M h)|refine St.to h ?_|(apply Exists.intro;(repeat apply Exists.intro);refine And.intro rfl ?_)|refine ay ?_|refine aq ?_|refine au ?_)
   refine h.aZ g8 [⟨g, i, 0⟩] rfl rfl (by simp; omega) ?_
   clear h
   intro A2 c2 M h
   repeat (first|(refine ai h ?_;clear h;intro kb M h)|(refine ak h ?_;clear h;intro M h)|refine St.to h ?_|(apply Exists.intro;(repeat apply Exists.intro);refine And.intro rfl ?_)|refine ay ?_|refine aq ?_|refine au ?_)
   simp only [Int.toNat_natCast]
   obtain ⟨R2, g2, p4, h⟩ := h.bz A2
   refine s_rc (q := q) (r' := ⟨x.room, A0, x.buf.length, ca0, B0, x.snd.length, cb0, A2, (x.cH ++ ([⟨g, (i : Int), 0⟩] : List Wt)).length, c2, x.closed⟩) h CO (by omega) ?_
   clear h; intro M h
   rw [aS (by omega)]
   refine ⟨cases.length - (i + 1), by omega, R2, i + 1, _, rfl, rfl, by omega, Mem.le_trans g1 g2, ?_, h.cG⟩
   rw [e]
   exact (hy.le g2).set q ⟨_, _, _, _, _, _, rfl, p1.le g2, p2.le g2, p4⟩
  ·rw [if_neg IL, if_pos (by omega)] at e
   repeat (first|(refine ai h ?_;clear h;intro kb M h)|(refine ak h ?_;clear h;intro M h)|refine St.to h ?_|(apply Exists.intro;(repeat apply Exists.intro);refine And.intro rfl ?_)|refine ay ?_|refine aq ?_|refine au ?_)
   refine aj ((show Src R1 _ (some ⟨kr, 0, none⟩) (bR.cells ej) from by rw [← IK]; exact Src.pt (by repeat (first | exact .here | apply eB.there))).at h (i := q2) (j := 0) hv rfl (by simp [bR])) ?_
   repeat (first|(refine ai h ?_;clear h;intro kb M h)|(refine ak h ?_;clear h;intro M h)|refine St.to h ?_|(apply Exists.intro;(repeat apply Exists.intro);refine And.intro rfl ?_)|refine ay ?_|refine aq ?_|refine au ?_)
   refine h.b6 cC g8 x.snd p2.src rfl (by omega) ?_
   clear h
   intro A2 c2 M h
   repeat (first|(refine ai h ?_;clear h;intro kb M h)|(refine ak h ?_;clear h;intro M h)|refine St.to h ?_|(apply Exists.intro;(repeat apply Exists.intro);refine And.intro rfl ?_)|refine ay ?_|refine aq ?_|refine au ?_)
   refine And.intro ((show Src R1 _ (some ⟨kr, 0, none⟩) (bR.cells ej) from by rw [← IK]; exact Src.pt (by repeat (first | exact .here | apply eB.there))).at h (i := q2) (j := 0) hv rfl (by simp [bR])) ?_
   repeat (first|(refine ai h ?_;clear h;intro kb M h)|(refine ak h ?_;clear h;intro M h)|refine St.to h ?_|(apply Exists.intro;(repeat apply Exists.intro);refine And.intro rfl ?_)|refine ay ?_|refine aq ?_|refine au ?_)
   refine h.aZ g8 [⟨g, i, v⟩] rfl rfl (by simp; omega) ?_
   clear h
   intro A2 c2 M h
   repeat (first|(refine ai h ?_;clear h;intro kb M h)|(refine ak h ?_;clear h;intro M h)|refine St.to h ?_|(apply Exists.intro;(repeat apply Exists.intro);refine And.intro rfl ?_)|refine ay ?_|refine aq ?_|refine au ?_)
   refine And.intro ((show Src R1 _ (some ⟨kr, 0, none⟩) (bR.cells ej) from by rw [← IK]; exact Src.pt (by repeat (first | exact .here | apply eB.there))).at h (i := q2) (j := 0) hv rfl (by simp [bR])) ?_
   repeat (first|(refine ai h ?_;clear h;intro kb M h)|(refine ak h ?_;clear h;intro M h)|refine St.to h ?_|(apply Exists.intro;(repeat apply Exists.intro);refine And.intro rfl ?_)|refine ay ?_|refine aq ?_|refine au ?_)
   refine And.intro ((show Src R1 _ (some ⟨kr, 0, none⟩) (bR.cells ej) from by rw [← IK]; exact Src.pt (by repeat (first | exact .here | apply eB.there))).at h (i := q2) (j := 0) hv rfl (by simp [bR])) ?_
   repeat (first|(refine ai h ?_;clear h;intro kb M h)|(refine ak h ?_;clear h;intro M h)|refine St.to h ?_|(apply Exists.intro;(repeat apply Exists.intro);refine And.intro rfl ?_)|refine ay ?_|refine aq ?_|refine au ?_)
   simp only [Int.toNat_natCast]
   obtain ⟨R2, g2, p4, h⟩ := h.bz A2
   refine s_rc (q := q) (r' := ⟨x.room, A0, x.buf.length, ca0, A2, (x.snd ++ ([⟨g, (i : Int), v⟩] : List Wt)).length, c2, D0, x.cH.length, cd0, x.closed⟩) h CO (by omega) ?_
   clear h; intro M h
   rw [aS (by omega)]
   refine ⟨cases.length - (i + 1), by omega, R2, i + 1, _, rfl, rfl, by omega, Mem.le_trans g1 g2, ?_, h.cG⟩
   rw [e]
   exact (hy.le g2).set q ⟨_, _, _, _, _, _, rfl, p1.le g2, p4, p3.le g2⟩
 ·obtain rfl : i = cases.length := by omega
  exact k _ _ _ _ _ g1 h.cG hy
end
end Go.Proofs
namespace Go.Proofs
open Go.AF
set_option maxRecDepth 100000
variable {M : Mem} {K : Value → Mem → Prop} {Kp : List PanicEntry → Mem → Prop}
theorem rZ {y0 : List Value} (h :
aO M (.cells (y0.toArray) 81 (0, 0)) fun k1 M2 =>
aO M2 aK fun k3 M4 =>
sT M4 k1 13 (.slice none 0 0) fun M5 =>
rI M5 k1 11 fun n6 =>
aM (n6 != 0)
 (rW M5 k1 fun l7 =>
 dO M5 k3 0 l7 14 fun M8 =>
 rW M8 k3 fun l9 =>
 K (.agg (l9.toArray)) M8)
 (rU M5 k1 5 fun dI =>
 sT M5 k1 5 (.int .u64 (IntKind.wrap .u64 (dI + 1))) fun iL =>
 rS iL k1 8 fun mX eA fz =>
 rU iL k1 (8 + 1) fun kX =>
 rU iL k1 5 fun nZ =>
 ae Tryz.prog 108 #[(.agg #[(.slice mX eA fz), (.int .u64 kX)]), (.int .u64 nZ)] iL (fun Sx mq =>
 ∃ G1 : Option Addr, ∃ fQ lz : Nat, ∃ wP : Int, ∃ O3 : Option Addr, ∃ nM jE : Nat, (Sx = (.tuple #[(.agg #[(.slice G1 fQ lz), (.int .u64 wP)]), (.slice O3 nM jE)])) ∧
 aO mq E7 fun gH mZ =>
 RN mZ gH (.slice G1 fQ lz) (.int .u64 wP) fun pz =>
 rSU pz gH 0 fun yp iH ie kK =>
 sT pz k1 8 (.slice yp iH ie) fun qI =>
 sT qI k1 (8 + 1) (.int .u64 kK) fun u7 =>
 ∃ I36 : IT, (∃ pC, I36 pC [(iV 0)] u7) ∧
 ∀ (fB : Nat) (_ : Nat → Value) (nQ : Int) (BF : Mem), (I36 fB [(iV nQ)] BF) → aM (decide (nQ < nM))
 ((0 ≤ nQ) ∧
 (nQ < nM) ∧
 aE O3 fun jO jF =>
 OZ BF jO (jF + ((Int.toNat nQ) * 3)) fun yA ue Ij =>
 aO BF tj fun j9 D1 =>
 pb D1 j9 (.int .u64 yA) (.int .u64 ue) (iV Ij) fun AA =>
 rW AA k1 fun l52 =>
 rI AA j9 2 fun K3 =>
 ae Tryz.prog 109 #[(.agg (l52.toArray)), (iV K3)] AA (fun WS J0 =>
 xW WS fun Xh TA Fq K5 PL LK Fp BA TB Po Xi TC Mc Ph =>
 dO J0 k1 0 [Xh, TA, Fq, K5, PL, LK, Fp, BA, TB, Po, Xi, TC, Mc, Ph] 14 fun NY =>
 ∃ Fj : Nat, (Fj < fB) ∧
 I36 Fj [(iV (IntKind.wrap .i64 (nQ + 1)))] NY) Kp)
 (rW BF k1 fun Xj =>
 dO BF k3 0 Xj 14 fun Iv =>
 rW Iv k3 fun l74 =>
 K (.agg (l74.toArray)) Iv)) Kp)) :
 ae Tryz.prog 76 #[.agg y0.toArray] M K Kp := vw [(2000000, .loop [(28, .c (.int .i64))])] Tryz.func76 h
theorem fM {y0 : List Value} {x1 : Int} {x2 : Int} (h :
aO M (.cells (y0.toArray) 81 (0, 0)) fun k1 M2 =>
aO M2 aK fun k3 M4 =>
sT M4 k1 13 (.slice none 0 0) fun M5 =>
aM (decide ((x1 : Int) < 0))
 (rW M5 k1 fun l6 =>
 dO M5 k3 0 l6 14 fun M7 =>
 rW M7 k3 fun l8 =>
 K (.tuple #[(.agg (l8.toArray)), (.bool false)]) M7)
 (rS M5 k1 4 fun A9 eD eu =>
 aM (decide ((x1 : Int) ≥ eD))
 (rW M5 k1 fun l12 =>
 dO M5 k3 0 l12 14 fun lu =>
 rW lu k3 fun l14 =>
 K (.tuple #[(.agg (l14.toArray)), (.bool false)]) lu)
 (rI M5 k1 11 fun kX =>
 aM (kX != 0)
 (rW M5 k1 fun l16 =>
 dO M5 k3 0 l16 14 fun nA =>
 rW nA k3 fun l18 =>
 K (.tuple #[(.agg (l18.toArray)), (.bool false)]) nA)
 (rS M5 k1 4 fun G1 fQ lz =>
 ((0 : Int) ≤ x1) ∧
 ((x1 : Int) < fQ) ∧
 aE G1 fun gf gI =>
 rI M5 gf (gI + ((Int.toNat x1) * 6)) fun pY =>
 aM (pY != 1)
 (rW M5 k1 fun l25 =>
 dO M5 k3 0 l25 14 fun xO =>
 rW xO k3 fun l27 =>
 K (.tuple #[(.agg (l27.toArray)), (.bool false)]) xO)
 (rS M5 k1 4 fun zW gi jc =>
 ((0 : Int) ≤ x1) ∧
 ((x1 : Int) < gi) ∧
 aE zW fun iH ie =>
 rS M5 iH ((ie + ((Int.toNat x1) * 6)) + 1) fun JW mK ku =>
 ((0 : Int) ≤ (IntKind.wrap .i64 ((mK : Int) - 1))) ∧
 (((IntKind.wrap .i64 ((mK : Int) - 1)) : Int) < (mK : Int)) ∧
 aE JW fun nP pC =>
 aY M5 nP (pC + ((Int.toNat (IntKind.wrap .i64 ((mK : Int) - 1))) * 11)) fun mo yl nQ zA BH xL yA ue Ij CX Fw =>
 aO M5 c7 fun nC GX =>
 pg GX nC (iV mo) (iV yl) (iV nQ) (iV zA) (iV BH) (iV xL) (iV yA) (iV ue) (iV Ij) (iV CX) (iV Fw) fun zV =>
 rI zV nC 1 fun n62 =>
 rS zV k1 0 fun A63 k64 So =>
 rI zV nC 0 fun O5 =>
 (0 ≤ O5) ∧
 (O5 < k64) ∧
 aE A63 fun G2 NT =>
 rS zV G2 (NT + (Int.toNat O5)) fun A69 D8 Fj =>
 aM (decide (n62 ≥ D8))
 (rW zV k1 fun Xj =>
 ae Tryz.prog 110 #[(.agg (Xj.toArray)), (iV (-7))] zV (fun v73 G4 =>
 xW v73 fun Wv WL Xk Xl Pk TD Xm TE Xn Sy TF TG Sg Px =>
 dO G4 k3 0 [Wv, WL, Xk, Xl, Pk, TD, Xm, TE, Xn, Sy, TF, TG, Sg, Px] 14 fun J1 =>
 rW J1 k3 fun l90 =>
 K (.tuple #[(.agg (l90.toArray)), (.bool false)]) J1) Kp)
 (rS zV k1 0 fun A91 Pa Wx =>
 rI zV nC 0 fun RZ =>
 (0 ≤ RZ) ∧
 (RZ < Pa) ∧
 aE A91 fun K6 WK =>
 rS zV K6 (WK + (Int.toNat RZ)) fun A97 Si QM =>
 rI zV nC 1 fun Bv =>
 (0 ≤ Bv) ∧
 (Bv < Si) ∧
 aE A97 fun C7 z7 =>
 bO zV C7 (z7 + ((Int.toNat Bv) * 4)) fun n103 n104 BM yB =>
 aO zV fP fun Ah TH =>
 mh TH Ah (iV n103) (iV n104) (iV BM) (iV yB) fun nB =>
 aY nB nC 0 fun Sb Fh Lt LN TI n118 yO La SG FC Fy =>
 bO nB Ah 0 fun BT BU Th Tn =>
 ae Tryz.prog 111 #[(.agg #[(iV Sb), (iV Fh), (iV Lt), (iV LN), (iV TI), (iV n118), (iV yO), (iV La), (iV SG), (iV FC), (iV Fy)]), (.agg #[(iV BT), (iV BU), (iV Th), (iV Tn)])] nB (fun v128 Xo =>
 ∃ xn xo PM W3 Aa xg W4 xe Ad IC PN : Int, ∃ t141 : Bool, (v128 = (.tuple #[(.agg #[(iV xn), (iV xo), (iV PM), (iV W3), (iV Aa), (iV xg), (iV W4), (iV xe), (iV Ad), (iV IC), (iV PN)]), (.bool t141)])) ∧
 aO Xo c7 fun TJ IM =>
 pg IM TJ (iV xn) (iV xo) (iV PM) (iV W3) (iV Aa) (iV xg) (iV W4) (iV xe) (iV Ad) (iV IC) (iV PN) fun F5 =>
 aM t141
 (rS F5 k1 4 fun A155 LL WX =>
 ((0 : Int) ≤ x1) ∧
 ((x1 : Int) < LL) ∧
 aE A155 fun yF xp =>
 gL F5 yF (xp + ((Int.toNat x1) * 6)) fun yG A161 Lb SK ID To n166 n167 =>
 aO F5 gu fun z8 Pt =>
 RO Pt z8 (iV yG) (.slice A161 Lb SK) (iV ID) (iV To) (iV n166) (iV n167) fun SX =>
 ((0 : Int) ≤ ku) ∧
 ((ku : Int) ≤ ku) ∧
 ((0 : Int) ≤ (IntKind.wrap .i64 ((mK : Int) - 1))) ∧
 (((IntKind.wrap .i64 ((mK : Int) - 1)) : Int) ≤ (ku : Int)) ∧
 ((0 : Int) ≤ 0) ∧
 ((0 : Int) ≤ (IntKind.wrap .i64 ((mK : Int) - 1))) ∧
 aY SX TJ 0 fun FZ Dp PO Xp IF IG Af uN yH Iw PR =>
 aO SX (cl [] 114) fun Iu Tq =>
 (True) ∧
 bj Tryz.prog (Go.Builtin.append_ #[107, 107] 107 #[(.slice (some ⟨Iu, 0, none⟩) 0 0), (.slice (iZ JW 0 (Int.toNat (ku : Int)) 11) ((Int.toNat (IntKind.wrap .i64 ((mK : Int) - 1))) - 0) ((Int.toNat (ku : Int)) - 0))]) Tq (fun TK Xq =>
 aF (some TK) fun A191 WZ k193 =>
 ((Mem.fT Xq ⟨TJ, 0, none⟩ 0 11) = some [(iV FZ), (iV Dp), (iV PO), (iV Xp), (iV IF), (iV IG), (iV Af), (iV uN), (iV yH), (iV Iw), (iV PR)]) ∧
 aO Xq (cl [(iV FZ), (iV Dp), (iV PO), (iV Xp), (iV IF), (iV IG), (iV Af), (iV uN), (iV yH), (iV Iw), (iV PR)] 114) fun LR M195 =>
 aA 107 A191 WZ k193 (some ⟨LR, 0, none⟩) 1 1 M195 (fun TL Pu =>
 aF (some TL) fun Lj Ll FH =>
 ((Mem.fT Pu ⟨TJ, 0, none⟩ 0 11) = some [(iV FZ), (iV Dp), (iV PO), (iV Xp), (iV IF), (iV IG), (iV Af), (iV uN), (iV yH), (iV Iw), (iV PR)]) ∧
 sT Pu z8 1 (.slice Lj Ll FH) fun IN =>
 ((Mem.fT IN ⟨TJ, 0, none⟩ 0 11) = some [(iV FZ), (iV Dp), (iV PO), (iV Xp), (iV IF), (iV IG), (iV Af), (iV uN), (iV yH), (iV Iw), (iV PR)]) ∧
 rW IN k1 fun l202 =>
 gL IN z8 0 fun Tu A204 k205 k206 LA Lm Ln Lo =>
 ae Tryz.prog 112 #[(.agg (l202.toArray)), (iV x1), (.agg #[(iV Tu), (.slice A204 k205 k206), (iV LA), (iV Lm), (iV Ln), (iV Lo)])] IN (fun v211 W7 =>
 xW v211 fun v213 v214 v215 v216 v217 TM v219 v220 v221 v222 v223 v224 v225 v226 =>
 dO W7 k3 0 [v213, v214, v215, v216, v217, TM, v219, v220, v221, v222, v223, v224, v225, v226] 14 fun M227 =>
 rW M227 k3 fun l228 =>
 K (.tuple #[(.agg (l228.toArray)), (.bool true)]) M227) Kp) Kp) Kp)
 (rW F5 k1 fun l229 =>
 bO F5 Ah 0 fun PS PT PU Di =>
 ae Tryz.prog 114 #[(.agg (l229.toArray)), (iV x1)] F5 (fun v234 F6 =>
 xW v234 fun v236 v237 v238 v239 v240 v241 v242 v243 v244 v245 v246 S5 v248 v249 =>
 ((Mem.fT F6 ⟨Ah, 0, none⟩ 0 4) = some [(iV PS), (iV PT), (iV PU), (iV Di)]) ∧
 ae Tryz.prog 113 #[(.agg #[v236, v237, v238, v239, v240, v241, v242, v243, v244, v245, v246, S5, v248, v249]), (iV x1), (.agg #[(iV PS), (iV PT), (iV PU), (iV Di)]), (iV x2)] F6 (fun v250 Xb =>
 xW v250 fun v252 v253 v254 v255 v256 v257 v258 v259 v260 v261 v262 v263 v264 TN =>
 ((Mem.fT Xb ⟨Ah, 0, none⟩ 0 4) = some [(iV PS), (iV PT), (iV PU), (iV Di)]) ∧
 dO Xb k1 0 [v252, v253, v254, v255, v256, v257, v258, v259, v260, v261, v262, v263, v264, TN] 14 fun uP =>
 ((Mem.fT uP ⟨Ah, 0, none⟩ 0 4) = some [(iV PS), (iV PT), (iV PU), (iV Di)]) ∧
 rW uP k1 fun Xr =>
 rI uP k1 11 fun Ix =>
 aM (Ix == 0)
 (rS uP k1 4 fun A269 k270 k271 =>
 ((0 : Int) ≤ x1) ∧
 ((x1 : Int) < k270) ∧
 aE A269 fun k272 k273 =>
 rI uP k272 (k273 + ((Int.toNat x1) * 6)) fun F2 =>
 aM (F2 == 1)
 (rI uP Ah 0 fun LF =>
 aM (LF != 12)
 (rI uP Ah 0 fun PJ =>
 dO uP k3 0 Xr 14 fun TO =>
 eI TO Ah 0 PJ ∧
 rW TO k3 fun TP =>
 K (.tuple #[(.agg (TP.toArray)), (.bool (PJ != 17))]) TO)
 (dO uP k3 0 Xr 14 fun S7 =>
 rW S7 k3 fun l280 =>
 K (.tuple #[(.agg (l280.toArray)), (.bool false)]) S7))
 (dO uP k3 0 Xr 14 fun Xs =>
 rW Xs k3 fun l282 =>
 K (.tuple #[(.agg (l282.toArray)), (.bool false)]) Xs))
 (dO uP k3 0 Xr 14 fun M283 =>
 rW M283 k3 fun l284 =>
 K (.tuple #[(.agg (l284.toArray)), (.bool false)]) M283)) Kp) Kp)) Kp)))))) :
 ae Tryz.prog 78 #[.agg y0.toArray, .int .i64 x1, .int .i64 x2] M K Kp := vw [(6, .bH [0, 1, 0, 4, 12, 0, 32, 124, 252, 508, 1023] (sy [0, 2, 3, 5, 1, 4, 6, 7, 8, 9, 10] .done)), (8, .bH [0, 1, 3, 0, 8, 31, 63, 0, 128, 511, 1023, 0, 4095] (sy [0, 1, 3, 7, 2, 4, 5, 6, 8, 9, 10, 11, 12] .done)), (12, .bH [0, 0, 0, 4, 12, 30, 63, 0, 128, 511, 1023, 2047] (sy [1, 2, 3, 4, 5] (.cQ 7 (sy [0] (.late 6 (sy [8, 9, 10, 11] .done)))))), (14, .bH [0, 0, 3, 0, 0, 0, 63, 127] (sy [1, 3, 5, 0] (.cQ 4 (sy [2, 6, 7] .done)))), (15, .bH [0, 0, 2, 6, 14, 30, 62, 30, 254, 510, 1022, 2046, 4094, 8190, 16382, 32766, 65534, 131070, 262142, 524286, 1048574, 2097150, 4194302, 524287, 16777215] (sy [1, 0, 2, 3, 4, 5, 7, 6, 8, 9, 10, 11, 12, 13, 14, 15, 16, 17, 18, 19] (.cQ 20 (sy [21, 22, 23, 24] .done))))] Tryz.func78 h
theorem qC {y0 : List Value} (h :
aO M (.cells (y0.toArray) 81 (0, 0)) fun k1 M2 =>
rS M2 k1 4 fun A3 k4 k5 =>
∃ I6 : IT, (∃ k7, I6 k7 [(iV 0)] M2) ∧
∀ (k8 : Nat) (_ : Nat → Value) (dI : Int) (iL : Mem), (I6 k8 [(iV dI)] iL) → aM (decide (dI < k4))
 ((0 ≤ dI) ∧
 (dI < k4) ∧
 aE A3 fun gF eA =>
 gL iL gF (eA + ((Int.toNat dI) * 6)) fun jA oQ fq fO kM nN gC u0 =>
 aO iL gu fun gf mm =>
 RO mm gf (iV jA) (.slice oQ fq fO) (iV kM) (iV nN) (iV gC) (iV u0) fun pz =>
 rI pz gf 0 fun w6 =>
 aM (w6 == 1)
 (K (.bool false) pz)
 (rI pz gf 0 fun q9 =>
 aM (q9 == 3)
 (K (.bool false) pz)
 (∃ ie : Nat, (ie < k8) ∧
 I6 ie [(iV (IntKind.wrap .i64 (dI + 1)))] pz)))
 (rI iL k1 11 fun kK =>
 K (.bool (kK == 0)) iL)) :
 ae Tryz.prog 82 #[.agg y0.toArray] M K Kp := vw [(2000000, .loop [(8, .c (.int .i64))])] Tryz.func82 h
theorem r7 {y0 : List Value} {x1 : Int} (h :
aO M (.cells (y0.toArray) 81 (0, 0)) fun k1 M2 =>
aO M2 aK fun k3 M4 =>
rW M4 k1 fun l5 =>
ae Tryz.prog 139 #[(.agg (l5.toArray)), (iV x1), (iV 1), (.agg #[(iV 0), (iV 0), (iV 0), (iV 0)])] M4 (fun v6 M7 =>
xW v6 fun v8 v9 v10 v11 GV JT WD Bu Ii Sx Fc Pj v20 Io =>
dO M7 k1 0 [v8, v9, v10, v11, GV, JT, WD, Bu, Ii, Sx, Fc, Pj, v20, Io] 14 fun c9 =>
aO c9 (cl [] 3) fun gI ny =>
rS ny k1 13 fun CL gH kF =>
aA 38 (some ⟨gI, 0, none⟩) 0 0 CL gH kF ny (fun O8 pz =>
aF (some O8) fun yp iH ie =>
aO pz (cl [(iV x1)] 3) fun lg qI =>
aA 38 yp iH ie (some ⟨lg, 0, none⟩) 1 1 qI (fun v35 pA =>
aF (some v35) fun z6 fB lH =>
sT pA k1 13 (.slice z6 fB lH) fun Fv =>
rW Fv k1 fun l41 =>
dO Fv k3 0 l41 14 fun NZ =>
rW NZ k3 fun l43 =>
K (.agg (l43.toArray)) NZ) Kp) Kp) Kp) :
 ae Tryz.prog 109 #[.agg y0.toArray, .int .i64 x1] M K Kp := vw [] Tryz.func109 h
theorem sg {y0 : List Value} {x1 : Int} (h :
aO M (.cells (y0.toArray) 81 (0, 0)) fun k1 M2 =>
aO M2 aK fun k3 M4 =>
sT M4 k1 11 (iV 2) fun M5 =>
sT M5 k1 12 (iV x1) fun M6 =>
rW M6 k1 fun l7 =>
dO M6 k3 0 l7 14 fun M8 =>
rW M8 k3 fun l9 =>
K (.agg (l9.toArray)) M8) :
 ae Tryz.prog 110 #[.agg y0.toArray, .int .i64 x1] M K Kp := vw [] Tryz.func110 h
theorem si {y0 : List Value} {x1 : Int} {oh : Int} {TQ : Option Addr} {TR TS : Nat} {om : Int} {ru : Int} {Sk : Int} {Sn : Int} (h :
aO M (.cells (y0.toArray) 81 (0, 0)) fun k1 M2 =>
aO M2 (cl [(iV oh), (.slice TQ TR TS), (iV om), (iV ru), (iV Sk), (iV Sn)] 111) fun k3 M4 =>
aO M4 aK fun k5 M6 =>
aO M6 (cl [] 111) fun k7 M8 =>
rS M8 k1 4 fun A9 eD eu =>
aA 74 (some ⟨k7, 0, none⟩) 0 0 A9 eD eu M8 (fun GV lu =>
aF (some GV) fun ua ju fq =>
sT lu k1 4 (.slice ua ju fq) fun nA =>
rS nA k1 4 fun KX jC fQ =>
gL nA k3 0 fun u0 K2 gI nM yq H9 KN JV =>
((0 : Int) ≤ x1) ∧
((x1 : Int) < jC) ∧
aE KX fun gi jc =>
sT nA gi (jc + ((Int.toNat x1) * 6)) (iV u0) fun ud =>
sT ud gi ((jc + ((Int.toNat x1) * 6)) + 1) (.slice K2 gI nM) fun mJ =>
sT mJ gi ((jc + ((Int.toNat x1) * 6)) + 2) (iV yq) fun pX =>
sT pX gi ((jc + ((Int.toNat x1) * 6)) + 3) (iV H9) fun qI =>
sT qI gi ((jc + ((Int.toNat x1) * 6)) + 4) (iV KN) fun u7 =>
sT u7 gi ((jc + ((Int.toNat x1) * 6)) + 5) (iV JV) fun pA =>
rW pA k1 fun l37 =>
dO pA k5 0 l37 14 fun lj =>
rW lj k5 fun l39 =>
K (.agg (l39.toArray)) lj) Kp) :
 ae Tryz.prog 112 #[.agg y0.toArray, .int .i64 x1, .agg #[.int .i64 oh, .slice TQ TR TS, .int .i64 om, .int .i64 ru, .int .i64 Sk, .int .i64 Sn]] M K Kp := vw [] Tryz.func112 h
theorem bn {y0 : List Value} {x1 : Int} {oh : Int} {rq : Int} {om : Int} {ru : Int} {x3 : Int} (h :
aO M (.cells (y0.toArray) 81 (0, 0)) fun k1 M2 =>
aO M2 (cl [(iV oh), (iV rq), (iV om), (iV ru)] 109) fun k3 M4 =>
aO M4 aK fun k5 M6 =>
rS M6 k1 4 fun A7 k8 k9 =>
((0 : Int) ≤ x1) ∧
((x1 : Int) < k8) ∧
aE A7 fun eD eu =>
gL M6 eD (eu + ((Int.toNat x1) * 6)) fun gZ zu fz ju nZ kN kM nN =>
aO M6 gu fun fQ jD =>
RO jD fQ (iV gZ) (.slice zu fz ju) (iV nZ) (iV kN) (iV kM) (iV nN) fun mZ =>
rS mZ fQ 1 fun zW gi jc =>
rS mZ fQ 1 fun HT ie lg =>
((0 : Int) ≤ (IntKind.wrap .i64 ((ie : Int) - 1))) ∧
(((IntKind.wrap .i64 ((ie : Int) - 1)) : Int) < (gi : Int)) ∧
aE zW fun mK ku =>
aY mZ mK (ku + ((Int.toNat (IntKind.wrap .i64 ((ie : Int) - 1))) * 11)) fun tC xK mo yl nQ zA BH xL yA ue Ij =>
aO mZ c7 fun j9 D1 =>
pg D1 j9 (iV tC) (iV xK) (iV mo) (iV yl) (iV nQ) (iV zA) (iV BH) (iV xL) (iV yA) (iV ue) (iV Ij) fun eM =>
rI eM k3 0 fun vp =>
aM (vp == 9)
 (rS eM fQ 1 fun WJ BC JZ =>
 rI eM k3 1 fun n64 =>
 rI eM k3 2 fun GZ =>
 (0 ≤ GZ) ∧
 (GZ < 8) ∧
 rI eM j9 (2 + (Int.toNat GZ)) fun O5 =>
 rI eM k3 3 fun Ik =>
 ae Tryz.prog 140 #[(.slice WJ BC JZ), (iV n64), (iV O5), (iV Ik)] eM (fun Mc N1 =>
 ∃ A70 : Option Addr, ∃ Fj G3 : Nat, ∃ t73 : Bool, (Mc = (.tuple #[(.slice A70 Fj G3), (.bool t73)])) ∧
 aM (!t73)
 (rW N1 k1 fun l74 =>
 ae Tryz.prog 110 #[(.agg (l74.toArray)), (iV (-4))] N1 (fun Wv Ww =>
 xW Wv fun Xk Xl Pk TD Xm TE Xn Sy TF TG Sg Px v89 Pm =>
 dO Ww k5 0 [Xk, Xl, Pk, TD, Xm, TE, Xn, Sy, TF, TG, Sg, Px, v89, Pm] 14 fun oa =>
 rW oa k5 fun l92 =>
 K (.agg (l92.toArray)) oa) Kp)
 (sT N1 fQ 1 (.slice A70 Fj G3) fun M93 =>
 rW M93 k1 fun l94 =>
 gL M93 fQ 0 fun R0 A96 KQ Si VV Bv vu Bw =>
 ae Tryz.prog 112 #[(.agg (l94.toArray)), (iV x1), (.agg #[(iV R0), (.slice A96 KQ Si), (iV VV), (iV Bv), (iV vu), (iV Bw)])] M93 (fun yP yE =>
 xW yP fun F7 BZ F8 B5 B6 yD yQ F9 yw Ga yR B7 Gb B8 =>
 dO yE k5 0 [F7, BZ, F8, B5, B6, yD, yQ, F9, yw, Ga, yR, B7, Gb, B8] 14 fun FW =>
 rW FW k5 fun l120 =>
 K (.agg (l120.toArray)) FW) Kp)) Kp)
 (aM (vp == 10)
 (rS eM fQ 1 fun A121 ox Ps =>
 rI eM k3 1 fun BT =>
 (0 ≤ BT) ∧
 (BT < 8) ∧
 rI eM j9 (2 + (Int.toNat BT)) fun BU =>
 ae Tryz.prog 141 #[(.slice A121 ox Ps), (iV BU)] eM (fun Lu yI =>
 ∃ A128 : Option Addr, ∃ BO Ds : Nat, ∃ t131 : Bool, (Lu = (.tuple #[(.slice A128 BO Ds), (.bool t131)])) ∧
 aM t131
 (sT yI fQ 1 (.slice A128 BO Ds) fun oz =>
 rW oz k1 fun TT =>
 gL oz fQ 0 fun Aa A135 xd Gc Ad IC PN LO =>
 ae Tryz.prog 112 #[(.agg (TT.toArray)), (iV x1), (.agg #[(iV Aa), (.slice A135 xd Gc), (iV Ad), (iV IC), (iV PN), (iV LO)])] oz (fun TU IM =>
 xW TU fun TV F3 Md Me Mf Mg FF Mh Ti TW Mi TX TY TZ =>
 dO IM k5 0 [TV, F3, Md, Me, Mf, Mg, FF, Mh, Ti, TW, Mi, TX, TY, TZ] 14 fun M158 =>
 rW M158 k5 fun l159 =>
 K (.agg (l159.toArray)) M158) Kp)
 (rW yI k1 fun l160 =>
 ae Tryz.prog 139 #[(.agg (l160.toArray)), (iV x1), (iV 4), (.agg #[(iV 0), (iV 0), (iV 0), (iV 0)])] yI (fun T0 PV =>
 xW T0 fun v163 T3 v165 v166 v167 v168 v169 v170 v171 v172 v173 v174 v175 v176 =>
 dO PV k1 0 [v163, T3, v165, v166, v167, v168, v169, v170, v171, v172, v173, v174, v175, v176] 14 fun Mj =>
 aM (x1 == 0)
 (sT Mj k1 11 (iV 1) fun W6 =>
 rW W6 k1 fun l179 =>
 dO W6 k5 0 l179 14 fun M180 =>
 rW M180 k5 fun l181 =>
 K (.agg (l181.toArray)) M180)
 (rW Mj k1 fun l182 =>
 dO Mj k5 0 l182 14 fun M183 =>
 rW M183 k5 fun l184 =>
 K (.agg (l184.toArray)) M183)) Kp)) Kp)
 (aM (vp == 11)
 (rS eM k1 4 fun A185 SO Iu =>
 aM (decide ((SO : Int) > 99))
 (rW eM k1 fun l188 =>
 ae Tryz.prog 110 #[(.agg (l188.toArray)), (iV (-5))] eM (fun TK Xq =>
 xW TK fun v191 v192 v193 v194 v195 TL v197 v198 v199 v200 v201 v202 v203 v204 =>
 dO Xq k5 0 [v191, v192, v193, v194, v195, TL, v197, v198, v199, v200, v201, v202, v203, v204] 14 fun M205 =>
 rW M205 k5 fun l206 =>
 K (.agg (l206.toArray)) M205) Kp)
 (rS eM k1 4 fun A207 k208 k209 =>
 rS eM k1 4 fun Xt Xu PI =>
 rI eM k3 1 fun LB =>
 rI eM k3 2 fun uJ =>
 (0 ≤ uJ) ∧
 (uJ < 8) ∧
 rI eM j9 (2 + (Int.toNat uJ)) fun Dh =>
 aO eM (cl [] 111) fun k216 M217 =>
 aA 74 (some ⟨k216, 0, none⟩) 0 0 Xt Xu PI M217 (fun TM FI =>
 aF (some TM) fun A220 k221 k222 =>
 ((Mem.ld FI ⟨j9, (2 + (Int.toNat uJ)), none⟩) = (some (iV Dh))) ∧
 eI FI k3 2 uJ ∧
 eI FI k3 1 LB ∧
 ae Tryz.prog 74 #[(iV LB), (iV Dh)] FI (fun v223 PW =>
 aF (some v223) fun A225 k226 k227 =>
 ((Mem.ld PW ⟨j9, (2 + (Int.toNat uJ)), none⟩) = (some (iV Dh))) ∧
 eI PW k3 2 uJ ∧
 eI PW k3 1 LB ∧
 aO PW (cl [(iV 0), (.slice A225 k226 k227), (iV 0), (iV 0), (iV 0), (iV 0)] 111) fun W2 M229 =>
 aA 74 A220 k221 k222 (some ⟨W2, 0, none⟩) 1 1 M229 (fun v230 Pv =>
 aF (some v230) fun A232 k233 BS =>
 ((Mem.ld Pv ⟨j9, (2 + (Int.toNat uJ)), none⟩) = (some (iV Dh))) ∧
 eI Pv k3 2 uJ ∧
 eI Pv k3 1 LB ∧
 sT Pv k1 4 (.slice A232 k233 BS) fun F6 =>
 ((Mem.ld F6 ⟨j9, (2 + (Int.toNat uJ)), none⟩) = (some (iV Dh))) ∧
 eI F6 k3 2 uJ ∧
 eI F6 k3 1 LB ∧
 rW F6 k1 fun l236 =>
 rI F6 k3 3 fun IP =>
 ae Tryz.prog 109 #[(.agg (l236.toArray)), (iV (k208 : Int))] F6 (fun v238 Xa =>
 xW v238 fun v240 v241 v242 v243 v244 v245 v246 S5 v248 v249 v250 v251 v252 v253 =>
 eI Xa k3 3 IP ∧
 ae Tryz.prog 142 #[(.agg #[v240, v241, v242, v243, v244, v245, v246, S5, v248, v249, v250, v251, v252, v253]), (iV x1), (iV IP), (iV (k208 : Int))] Xa (fun v254 yK =>
 xW v254 fun v256 v257 v258 v259 v260 v261 v262 v263 v264 TN v266 v267 v268 v269 =>
 eI yK k3 3 IP ∧
 dO yK k5 0 [v256, v257, v258, v259, v260, v261, v262, v263, v264, TN, v266, v267, v268, v269] 14 fun M270 =>
 eI M270 k3 3 IP ∧
 rW M270 k5 fun l271 =>
 K (.agg (l271.toArray)) M270) Kp) Kp) Kp) Kp) Kp))
 (aM (vp == 13)
 (rW eM k1 fun l272 =>
 rI eM k3 1 fun n273 =>
 rI eM k3 2 fun F2 =>
 (0 ≤ F2) ∧
 (F2 < 8) ∧
 rI eM j9 (2 + (Int.toNat F2)) fun LF =>
 (True) ∧
 ae Tryz.prog 143 #[(.agg (l272.toArray)), (iV n273), (iV LF)] eM (fun v276 TO =>
 ∃ TP : List Value, ((TP.length) = 14) ∧
 ∃ t279 : Bool, (v276 = (.tuple #[(.agg (TP.toArray)), (.bool t279)])) ∧
 aO TO aK fun k280 Xs =>
 dO Xs k280 0 TP 14 fun PX =>
 aM t279
 (rW PX k280 fun l283 =>
 dO PX k5 0 l283 14 fun M284 =>
 rW M284 k5 fun l285 =>
 K (.agg (l285.toArray)) M284)
 (rS PX k1 6 fun A286 k287 Xv =>
 rI PX k3 1 fun S9 =>
 (0 ≤ S9) ∧
 (S9 < k287) ∧
 aE A286 fun k290 T4 =>
 cI PX k290 (T4 + ((Int.toNat S9) * 5)) fun n292 T5 T6 T7 A296 k297 T8 A299 k300 k301 t302 =>
 aO PX cZ fun IQ M304 =>
 Bn M304 IQ (iV n292) (.slice T5 T6 T7) (.slice A296 k297 T8) (.slice A299 k300 k301) (.bool t302) fun Xw =>
 rS Xw IQ 2 fun A310 k311 k312 =>
 rI Xw k3 2 fun B9 =>
 (0 ≤ B9) ∧
 (B9 < 8) ∧
 rI Xw j9 (2 + (Int.toNat B9)) fun Iy =>
 aO Xw (cl [] 289) fun k315 M316 =>
 (True) ∧
 aA 188 (some ⟨k315, 0, none⟩) 0 0 A310 k311 k312 M316 (fun v317 M318 =>
 aF (some v317) fun A319 k320 k321 =>
 ((Mem.ld M318 ⟨j9, (2 + (Int.toNat B9)), none⟩) = (some (iV Iy))) ∧
 eI M318 k3 2 B9 ∧
 aO M318 (cl [(iV x1), (iV 0), (iV Iy)] 289) fun k322 M323 =>
 aA 188 A319 k320 k321 (some ⟨k322, 0, none⟩) 1 1 M323 (fun v324 M325 =>
 aF (some v324) fun A326 k327 k328 =>
 ((Mem.ld M325 ⟨j9, (2 + (Int.toNat B9)), none⟩) = (some (iV Iy))) ∧
 eI M325 k3 2 B9 ∧
 sT M325 IQ 2 (.slice A326 k327 k328) fun Mk =>
 ((Mem.ld Mk ⟨j9, (2 + (Int.toNat B9)), none⟩) = (some (iV Iy))) ∧
 eI Mk k3 2 B9 ∧
 rW Mk k1 fun l330 =>
 rI Mk k3 1 fun Tb =>
 cI Mk IQ 0 fun n332 A333 k334 k335 A336 k337 k338 A339 k340 k341 t342 =>
 bO Mk k3 0 fun Iz IA PB IB =>
 ae Tryz.prog 144 #[(.agg (l330.toArray)), (iV Tb), (.agg #[(iV n332), (.slice A333 k334 k335), (.slice A336 k337 k338), (.slice A339 k340 k341), (.bool t342)])] Mk (fun v347 M348 =>
 xW v347 fun v349 v350 v351 v352 v353 v354 v355 v356 v357 v358 v359 v360 v361 v362 =>
 ((Mem.fT M348 ⟨k3, 0, none⟩ 0 4) = some [(iV Iz), (iV IA), (iV PB), (iV IB)]) ∧
 ae Tryz.prog 139 #[(.agg #[v349, v350, v351, v352, v353, v354, v355, v356, v357, v358, v359, v360, v361, v362]), (iV x1), (iV 2), (.agg #[(iV Iz), (iV IA), (iV PB), (iV IB)])] M348 (fun v363 M364 =>
 xW v363 fun v365 v366 v367 v368 v369 v370 v371 v372 v373 v374 v375 v376 v377 v378 =>
 ((Mem.fT M364 ⟨k3, 0, none⟩ 0 4) = some [(iV Iz), (iV IA), (iV PB), (iV IB)]) ∧
 dO M364 k5 0 [v365, v366, v367, v368, v369, v370, v371, v372, v373, v374, v375, v376, v377, v378] 14 fun M379 =>
 ((Mem.fT M379 ⟨k3, 0, none⟩ 0 4) = some [(iV Iz), (iV IA), (iV PB), (iV IB)]) ∧
 rW M379 k5 fun l380 =>
 K (.agg (l380.toArray)) M379) Kp) Kp) Kp) Kp)) Kp)
 (aM (vp == 14)
 (rW eM k1 fun l381 =>
 rI eM k3 1 fun Td =>
 ae Tryz.prog 145 #[(.agg (l381.toArray)), (iV Td)] eM (fun v383 M384 =>
 ∃ l385 : List Value, ((l385.length) = 14) ∧
 ∃ Xx PC : Int, ∃ t388 : Bool, (v383 = (.tuple #[(.agg (l385.toArray)), (iV Xx), (iV PC), (.bool t388)])) ∧
 aO M384 aK fun k389 M390 =>
 dO M390 k389 0 l385 14 fun IS =>
 aM t388
 (rW IS k389 fun l392 =>
 rI IS k3 2 fun n393 =>
 rI IS k3 3 fun LJ =>
 ae Tryz.prog 142 #[(.agg (l392.toArray)), (iV x1), (iV n393), (iV Xx)] IS (fun v395 M396 =>
 xW v395 fun v397 v398 v399 v400 v401 v402 v403 v404 v405 v406 v407 v408 v409 v410 =>
 eI M396 k3 3 LJ ∧
 ae Tryz.prog 142 #[(.agg #[v397, v398, v399, v400, v401, v402, v403, v404, v405, v406, v407, v408, v409, v410]), (iV x1), (iV LJ), (iV PC)] M396 (fun v411 M412 =>
 xW v411 fun v413 v414 v415 v416 v417 v418 v419 v420 v421 v422 v423 v424 v425 v426 =>
 eI M412 k3 3 LJ ∧
 dO M412 k5 0 [v413, v414, v415, v416, v417, v418, v419, v420, v421, v422, v423, v424, v425, v426] 14 fun M427 =>
 eI M427 k3 3 LJ ∧
 rW M427 k5 fun l428 =>
 K (.agg (l428.toArray)) M427) Kp) Kp)
 (rS IS k1 6 fun A429 k430 k431 =>
 rI IS k3 1 fun n432 =>
 (0 ≤ n432) ∧
 (n432 < k430) ∧
 aE A429 fun k433 k434 =>
 cI IS k433 (k434 + ((Int.toNat n432) * 5)) fun n435 A436 k437 k438 A439 k440 k441 A442 k443 k444 t445 =>
 aO IS cZ fun Xy M447 =>
 Bn M447 Xy (iV n435) (.slice A436 k437 k438) (.slice A439 k440 k441) (.slice A442 k443 k444) (.bool t445) fun M452 =>
 aO M452 (cl [] 289) fun k453 M454 =>
 rS M454 Xy 3 fun A455 k456 k457 =>
 aA 188 (some ⟨k453, 0, none⟩) 0 0 A455 k456 k457 M454 (fun v458 M459 =>
 aF (some v458) fun A460 k461 k462 =>
 aO M459 (cl [(iV x1), (iV 0), (iV 0)] 289) fun k463 M464 =>
 aA 188 A460 k461 k462 (some ⟨k463, 0, none⟩) 1 1 M464 (fun v465 M466 =>
 aF (some v465) fun A467 k468 k469 =>
 sT M466 Xy 3 (.slice A467 k468 k469) fun T9 =>
 rW T9 k1 fun l471 =>
 rI T9 k3 1 fun n472 =>
 cI T9 Xy 0 fun n473 A474 k475 k476 A477 k478 k479 A480 k481 k482 t483 =>
 bO T9 k3 0 fun PD PE Xz XA =>
 ae Tryz.prog 144 #[(.agg (l471.toArray)), (iV n472), (.agg #[(iV n473), (.slice A474 k475 k476), (.slice A477 k478 k479), (.slice A480 k481 k482), (.bool t483)])] T9 (fun v488 M489 =>
 xW v488 fun v490 v491 v492 v493 v494 v495 v496 v497 v498 v499 v500 v501 v502 v503 =>
 ((Mem.fT M489 ⟨k3, 0, none⟩ 0 4) = some [(iV PD), (iV PE), (iV Xz), (iV XA)]) ∧
 ae Tryz.prog 139 #[(.agg #[v490, v491, v492, v493, v494, v495, v496, v497, v498, v499, v500, v501, v502, v503]), (iV x1), (iV 2), (.agg #[(iV PD), (iV PE), (iV Xz), (iV XA)])] M489 (fun v504 M505 =>
 xW v504 fun v506 v507 v508 v509 v510 v511 v512 v513 v514 v515 v516 v517 v518 v519 =>
 ((Mem.fT M505 ⟨k3, 0, none⟩ 0 4) = some [(iV PD), (iV PE), (iV Xz), (iV XA)]) ∧
 dO M505 k5 0 [v506, v507, v508, v509, v510, v511, v512, v513, v514, v515, v516, v517, v518, v519] 14 fun M520 =>
 ((Mem.fT M520 ⟨k3, 0, none⟩ 0 4) = some [(iV PD), (iV PE), (iV Xz), (iV XA)]) ∧
 rW M520 k5 fun l521 =>
 K (.agg (l521.toArray)) M520) Kp) Kp) Kp) Kp)) Kp)
 (aM (vp == 15)
 (rW eM k1 fun l522 =>
 rI eM k3 1 fun n523 =>
 ae Tryz.prog 146 #[(.agg (l522.toArray)), (iV n523)] eM (fun v524 M525 =>
 xW v524 fun v526 v527 v528 v529 v530 v531 v532 v533 v534 v535 v536 v537 v538 v539 =>
 dO M525 k5 0 [v526, v527, v528, v529, v530, v531, v532, v533, v534, v535, v536, v537, v538, v539] 14 fun M540 =>
 rW M540 k5 fun l541 =>
 K (.agg (l541.toArray)) M540) Kp)
 (aM (vp == 16)
 (rW eM k1 fun l542 =>
 bO eM k3 0 fun n543 n544 n545 n546 =>
 ae Tryz.prog 147 #[(.agg (l542.toArray)), (iV x1), (.agg #[(iV n543), (iV n544), (iV n545), (iV n546)]), (iV x3)] eM (fun v547 M548 =>
 xW v547 fun v549 v550 v551 v552 v553 v554 v555 v556 v557 v558 v559 v560 v561 v562 =>
 dO M548 k5 0 [v549, v550, v551, v552, v553, v554, v555, v556, v557, v558, v559, v560, v561, v562] 14 fun M563 =>
 rW M563 k5 fun l564 =>
 K (.agg (l564.toArray)) M563) Kp)
 (aM (vp == 17)
 (rI eM k3 1 fun n565 =>
 (0 ≤ n565) ∧
 (n565 < 8) ∧
 rI eM j9 (2 + (Int.toNat n565)) fun XB =>
 aM (decide (((if (1048576 : Int) < XB then 1048576 else XB) : Int) > 0))
 (rS eM k1 8 fun A567 k568 k569 =>
 rU eM k1 (8 + 1) fun n570 =>
 rU eM k1 5 fun n571 =>
 ae Tryz.prog 148 #[(.agg #[(.slice A567 k568 k569), (.int .u64 n570)]), (.int .u64 (IntKind.wrap .u64 (n571 + (IntKind.wrap .u64 (if (1048576 : Int) < XB then 1048576 else XB))))), (iV x1)] eM (fun v572 M573 =>
 ∃ A574 : Option Addr, ∃ k575 k576 : Nat, ∃ n577 : Int, (v572 = (.agg #[(.slice A574 k575 k576), (.int .u64 n577)])) ∧
 sT M573 k1 8 (.slice A574 k575 k576) fun M578 =>
 sT M578 k1 (8 + 1) (.int .u64 n577) fun M579 =>
 rW M579 k1 fun l580 =>
 ae Tryz.prog 139 #[(.agg (l580.toArray)), (iV x1), (iV 3), (.agg #[(iV 0), (iV 0), (iV 0), (iV 0)])] M579 (fun v581 M582 =>
 xW v581 fun v583 v584 v585 v586 v587 v588 v589 v590 v591 v592 v593 v594 v595 v596 =>
 dO M582 k5 0 [v583, v584, v585, v586, v587, v588, v589, v590, v591, v592, v593, v594, v595, v596] 14 fun M597 =>
 rW M597 k5 fun l598 =>
 K (.agg (l598.toArray)) M597) Kp) Kp)
 (rW eM k1 fun l599 =>
 dO eM k5 0 l599 14 fun M600 =>
 rW M600 k5 fun l601 =>
 K (.agg (l601.toArray)) M600))
 (aM (vp == 18)
 (rS eM k1 7 fun A602 k603 k604 =>
 rI eM k3 1 fun n605 =>
 (0 ≤ n605) ∧
 (n605 < k603) ∧
 aE A602 fun k606 k607 =>
 rS eM k606 (k607 + (Int.toNat n605)) fun A608 k609 k610 =>
 ae Tryz.prog 149 #[(.agg #[(.slice A608 k609 k610)]), (iV x1)] eM (fun v611 M612 =>
 ∃ A613 : Option Addr, ∃ k614 k615 : Nat, ∃ t616 : Bool, (v611 = (.tuple #[(.agg #[(.slice A613 k614 k615)]), (.bool t616)])) ∧
 aO M612 wN fun k617 M618 =>
 sT M618 k617 0 (.slice A613 k614 k615) fun M619 =>
 aO M619 (cl [] 251) fun k620 M621 =>
 rS M621 k1 7 fun A622 k623 k624 =>
 aA 76 (some ⟨k620, 0, none⟩) 0 0 A622 k623 k624 M621 (fun v625 M626 =>
 aF (some v625) fun A627 k628 k629 =>
 sT M626 k1 7 (.slice A627 k628 k629) fun XC =>
 rS XC k1 7 fun A631 k632 k633 =>
 rI XC k3 1 fun n634 =>
 rS XC k617 0 fun A635 k636 k637 =>
 (0 ≤ n634) ∧
 (n634 < k632) ∧
 aE A631 fun k638 k639 =>
 sT XC k638 (k639 + (Int.toNat n634)) (.slice A635 k636 k637) fun Ua =>
 aM (!t616)
 (rW Ua k1 fun l641 =>
 bO Ua k3 0 fun n642 n643 n644 n645 =>
 ae Tryz.prog 139 #[(.agg (l641.toArray)), (iV x1), (iV 2), (.agg #[(iV n642), (iV n643), (iV n644), (iV n645)])] Ua (fun v646 M647 =>
 xW v646 fun v648 v649 v650 v651 v652 v653 v654 v655 v656 v657 v658 v659 v660 v661 =>
 dO M647 k5 0 [v648, v649, v650, v651, v652, v653, v654, v655, v656, v657, v658, v659, v660, v661] 14 fun M662 =>
 rW M662 k5 fun l663 =>
 K (.agg (l663.toArray)) M662) Kp)
 (rW Ua k1 fun l664 =>
 dO Ua k5 0 l664 14 fun M665 =>
 rW M665 k5 fun l666 =>
 K (.agg (l666.toArray)) M665)) Kp) Kp)
 (aM (vp == 19)
 (rS eM k1 7 fun A667 k668 k669 =>
 rI eM k3 1 fun n670 =>
 (0 ≤ n670) ∧
 (n670 < k668) ∧
 aE A667 fun k671 k672 =>
 rS eM k671 (k672 + (Int.toNat n670)) fun A673 k674 k675 =>
 ae Tryz.prog 150 #[(.agg #[(.slice A673 k674 k675)]), (iV x1)] eM (fun v676 M677 =>
 ∃ A678 : Option Addr, ∃ k679 k680 : Nat, ∃ n681 n682 : Int, (v676 = (.tuple #[(.agg #[(.slice A678 k679 k680)]), (iV n681), (iV n682)])) ∧
 aO M677 wN fun k683 M684 =>
 sT M684 k683 0 (.slice A678 k679 k680) fun M685 =>
 aM (n682 != 0)
 (rW M685 k1 fun l686 =>
 ae Tryz.prog 110 #[(.agg (l686.toArray)), (iV (-3))] M685 (fun v687 M688 =>
 xW v687 fun v689 v690 v691 v692 v693 v694 v695 v696 v697 v698 v699 v700 v701 v702 =>
 dO M688 k5 0 [v689, v690, v691, v692, v693, v694, v695, v696, v697, v698, v699, v700, v701, v702] 14 fun M703 =>
 rW M703 k5 fun l704 =>
 K (.agg (l704.toArray)) M703) Kp)
 (aO M685 (cl [] 251) fun k705 M706 =>
 rS M706 k1 7 fun A707 k708 k709 =>
 aA 76 (some ⟨k705, 0, none⟩) 0 0 A707 k708 k709 M706 (fun v710 M711 =>
 aF (some v710) fun A712 k713 k714 =>
 sT M711 k1 7 (.slice A712 k713 k714) fun XD =>
 rS XD k1 7 fun A716 k717 k718 =>
 rI XD k3 1 fun n719 =>
 rS XD k683 0 fun A720 k721 k722 =>
 (0 ≤ n719) ∧
 (n719 < k717) ∧
 aE A716 fun k723 k724 =>
 sT XD k723 (k724 + (Int.toNat n719)) (.slice A720 k721 k722) fun XE =>
 aM (decide (n681 ≥ 0))
 (rW XE k1 fun l726 =>
 ae Tryz.prog 109 #[(.agg (l726.toArray)), (iV n681)] XE (fun v727 M728 =>
 xW v727 fun v729 v730 v731 v732 v733 v734 v735 v736 v737 v738 v739 v740 v741 v742 =>
 dO M728 k5 0 [v729, v730, v731, v732, v733, v734, v735, v736, v737, v738, v739, v740, v741, v742] 14 fun M743 =>
 rW M743 k5 fun l744 =>
 K (.agg (l744.toArray)) M743) Kp)
 (rW XE k1 fun l745 =>
 dO XE k5 0 l745 14 fun M746 =>
 rW M746 k5 fun l747 =>
 K (.agg (l747.toArray)) M746)) Kp)) Kp)
 (aM (vp == 20)
 (rS eM k1 10 fun A748 k749 k750 =>
 aM (decide ((k749 : Int) > 999))
 (rW eM k1 fun l751 =>
 ae Tryz.prog 110 #[(.agg (l751.toArray)), (iV (-6))] eM (fun v752 M753 =>
 xW v752 fun v754 v755 v756 v757 v758 v759 v760 v761 v762 v763 v764 v765 v766 v767 =>
 dO M753 k5 0 [v754, v755, v756, v757, v758, v759, v760, v761, v762, v763, v764, v765, v766, v767] 14 fun M768 =>
 rW M768 k5 fun l769 =>
 K (.agg (l769.toArray)) M768) Kp)
 (rS eM k1 10 fun A770 k771 k772 =>
 rI eM k3 1 fun Gd =>
 (0 ≤ Gd) ∧
 (Gd < 8) ∧
 rI eM j9 (2 + (Int.toNat Gd)) fun XF =>
 aO eM (cl [] 2) fun k775 M776 =>
 (True) ∧
 aA 59 (some ⟨k775, 0, none⟩) 0 0 A770 k771 k772 M776 (fun v777 M778 =>
 aF (some v777) fun A779 k780 k781 =>
 ((Mem.ld M778 ⟨j9, (2 + (Int.toNat Gd)), none⟩) = (some (iV XF))) ∧
 eI M778 k3 1 Gd ∧
 aO M778 (cl [(iV XF)] 2) fun k782 M783 =>
 aA 59 A779 k780 k781 (some ⟨k782, 0, none⟩) 1 1 M783 (fun v784 M785 =>
 aF (some v784) fun A786 k787 k788 =>
 ((Mem.ld M785 ⟨j9, (2 + (Int.toNat Gd)), none⟩) = (some (iV XF))) ∧
 eI M785 k3 1 Gd ∧
 sT M785 k1 10 (.slice A786 k787 k788) fun XG =>
 ((Mem.ld XG ⟨j9, (2 + (Int.toNat Gd)), none⟩) = (some (iV XF))) ∧
 eI XG k3 1 Gd ∧
 rW XG k1 fun l790 =>
 dO XG k5 0 l790 14 fun M791 =>
 rW M791 k5 fun l792 =>
 K (.agg (l792.toArray)) M791) Kp) Kp))
 (aM (vp == 21)
 (rW eM k1 fun l793 =>
 rI eM k3 1 fun n794 =>
 rI eM k3 2 fun n795 =>
 ((n795 : Int) ≠ 0) ∧
 ae Tryz.prog 142 #[(.agg (l793.toArray)), (iV x1), (iV n794), (iV (Int.tmod x3 n795))] eM (fun v796 M797 =>
 xW v796 fun v798 v799 v800 v801 v802 v803 v804 v805 v806 v807 v808 v809 v810 v811 =>
 dO M797 k5 0 [v798, v799, v800, v801, v802, v803, v804, v805, v806, v807, v808, v809, v810, v811] 14 fun M812 =>
 rW M812 k5 fun l813 =>
 K (.agg (l813.toArray)) M812) Kp)
 (aM (vp == 22)
 (rW eM k1 fun l814 =>
 rI eM k3 1 fun n815 =>
 ae Tryz.prog 110 #[(.agg (l814.toArray)), (iV n815)] eM (fun v816 M817 =>
 xW v816 fun v818 v819 v820 v821 v822 v823 v824 v825 v826 v827 v828 v829 v830 v831 =>
 dO M817 k5 0 [v818, v819, v820, v821, v822, v823, v824, v825, v826, v827, v828, v829, v830, v831] 14 fun M832 =>
 rW M832 k5 fun l833 =>
 K (.agg (l833.toArray)) M832) Kp)
 (rW eM k1 fun l834 =>
 dO eM k5 0 l834 14 fun M835 =>
 rW M835 k5 fun l836 =>
 K (.agg (l836.toArray)) M835)))))))))))))) :
 ae Tryz.prog 113 #[.agg y0.toArray, .int .i64 x1, .agg #[.int .i64 oh, .int .i64 rq, .int .i64 om, .int .i64 ru], .int .i64 x3] M K Kp := vw [(5, .bH [0, 1, 0, 4, 0, 16, 0, 112, 240, 0, 512, 2047, 4095, 8191, 8191, 16383, 65535] (sy [0, 2, 4, 6, 9, 1, 3, 5, 7, 8, 10, 11, 12, 13, 14, 15, 16] .done)), (11, .bH [0, 1, 0, 4, 0, 28, 60, 127, 255, 511, 511, 1023, 4095] (sy [0, 2, 4, 1, 3, 5, 6, 7, 8, 9, 10, 11, 12] .done)), (23, .bH [0, 0, 2, 7, 0, 16, 0, 64, 0, 448, 960, 2047, 4095, 8191, 16383, 32767, 65535] (sy [1, 4, 6, 8, 2] (.cQ 5 (.cQ 7 (sy [9] (.cQ 10 (sy [0, 3, 11, 12, 13, 14, 15, 16] .done))))))), (24, .bH [0, 0, 3, 0, 0, 16, 0, 127, 255] (sy [1, 3, 4, 6, 0] (.cQ 5 (sy [2, 7, 8] .done)))), (26, .bH [0, 0, 2, 0, 8, 0, 56, 120, 255, 511, 1023, 1023, 0, 6143, 16383] (sy [1, 3, 5, 0, 2, 4, 6, 7] (.late 8 (sy [9, 10, 11, 12, 13, 14] .done)))), (30, .bH [0, 0, 2, 7, 0, 0, 32, 0, 224, 480, 1008, 2032, 4095, 8191, 16383] (sy [1, 4, 5, 7, 2] (.cQ 6 (sy [8] (.cQ 9 (sy [10, 0] (.late 3 (sy [11, 12, 13, 14] .done)))))))), (31, .bH [0, 0, 2, 0, 15, 0, 0, 127, 255] (sy [1, 5, 0, 2, 3] (.cQ 6 (sy [4, 7, 8] .done)))), (35, .bH [0, 0, 0, 4, 0, 31, 0, 0, 128, 0, 1023, 2047] (sy [1, 2, 4, 6, 7, 9, 0, 3] (.cQ 8 (sy [5, 10, 11] .done)))), (38, .bH [0, 0, 2, 0, 15, 0, 0, 127, 255] (sy [1, 5, 0, 2, 3] (.cQ 6 (sy [4, 7, 8] .done)))), (65, .bH [0, 0, 2, 7, 0, 16, 0, 112, 240, 496, 1023, 2047, 4095] (sy [1, 4, 6, 2] (.cQ 5 (sy [7] (.cQ 8 (sy [0] (.late 3 (sy [9, 10, 11, 12] .done)))))))), (67, .bH [0, 0, 0, 4, 0, 0, 32, 112, 255, 511] (sy [1, 2, 4, 5, 0, 3, 6, 7, 8, 9] .done))] Tryz.func113 h
theorem sj {y0 : List Value} {x1 : Int} (h :
aO M (.cells (y0.toArray) 81 (0, 0)) fun k1 M2 =>
aO M2 aK fun k3 M4 =>
rS M4 k1 4 fun A5 k6 k7 =>
((0 : Int) ≤ x1) ∧
((x1 : Int) < k6) ∧
aE A5 fun k8 k9 =>
gL M4 k8 (k9 + ((Int.toNat x1) * 6)) fun dI Fu gF eA jA kX nZ kN =>
aO M4 gu fun fm mW =>
RO mW fm (iV dI) (.slice Fu gF eA) (iV jA) (iV kX) (iV nZ) (iV kN) fun qk =>
aO qk (cl [] 114) fun gH mZ =>
rS mZ fm 1 fun zW gi jc =>
aA 107 (some ⟨gH, 0, none⟩) 0 0 zW gi jc mZ (fun RW mJ =>
aF (some RW) fun JW mK ku =>
sT mJ fm 1 (.slice JW mK ku) fun pA =>
rS pA fm 1 fun z6 fB lH =>
rS pA fm 1 fun A40 mP jO =>
((0 : Int) ≤ (IntKind.wrap .i64 ((mP : Int) - 1))) ∧
(((IntKind.wrap .i64 ((mP : Int) - 1)) : Int) < (fB : Int)) ∧
aE z6 fun jF ym =>
rI pA jF ((ym + ((Int.toNat (IntKind.wrap .i64 ((mP : Int) - 1))) * 11)) + 1) fun ue =>
((0 : Int) ≤ (IntKind.wrap .i64 ((mP : Int) - 1))) ∧
(((IntKind.wrap .i64 ((mP : Int) - 1)) : Int) < (fB : Int)) ∧
aE z6 fun mV j9 =>
sT pA mV ((j9 + ((Int.toNat (IntKind.wrap .i64 ((mP : Int) - 1))) * 11)) + 1) (iV (IntKind.wrap .i64 (ue + 1))) fun D1 =>
rW D1 k1 fun l49 =>
gL D1 fm 0 fun Ft JU tv kL vz J5 J4 WG =>
ae Tryz.prog 112 #[(.agg (l49.toArray)), (iV x1), (.agg #[(iV Ft), (.slice JU tv kL), (iV vz), (iV J5), (iV J4), (iV WG)])] D1 (fun Fq eM =>
xW Fq fun PL LK Fp BA TB Po Xi TC Mc Ph XH v71 v72 v73 =>
dO eM k3 0 [PL, LK, Fp, BA, TB, Po, Xi, TC, Mc, Ph, XH, v71, v72, v73] 14 fun G4 =>
rW G4 k3 fun l75 =>
K (.agg (l75.toArray)) G4) Kp) Kp) :
 ae Tryz.prog 114 #[.agg y0.toArray, .int .i64 x1] M K Kp := vw [] Tryz.func114 h
theorem pD {y0 : List Value} {x1 : Int} {x2 : Int} {fI : Int} {fJ : Int} {fK : Int} {fL : Int} (h :
aO M (.cells (y0.toArray) 81 (0, 0)) fun k1 M2 =>
aO M2 (cl [(iV fI), (iV fJ), (iV fK), (iV fL)] 109) fun k3 M4 =>
aO M4 aK fun k5 M6 =>
rS M6 k1 4 fun A7 k8 k9 =>
((0 : Int) ≤ x1) ∧
((x1 : Int) < k8) ∧
aE A7 fun eD eu =>
gL M6 eD (eu + ((Int.toNat x1) * 6)) fun gZ zu fz ju nZ kN kM nN =>
aO M6 gu fun fQ jD =>
RO jD fQ (iV gZ) (.slice zu fz ju) (iV nZ) (iV kN) (iV kM) (iV nN) fun mZ =>
sT mZ fQ 0 (iV x2) fun CV =>
bO CV k3 0 fun yu w6 q9 n32 =>
sT CV fQ 2 (iV yu) fun pX =>
sT pX fQ (2 + 1) (iV w6) fun qI =>
sT qI fQ (2 + 2) (iV q9) fun u7 =>
sT u7 fQ (2 + 3) (iV n32) fun pA =>
rW pA k1 fun l37 =>
gL pA fQ 0 fun mo VM tY mP BH xL yA ue =>
ae Tryz.prog 112 #[(.agg (l37.toArray)), (iV x1), (.agg #[(iV mo), (.slice VM tY mP), (iV BH), (iV xL), (iV yA), (iV ue)])] pA (fun WR wT =>
xW WR fun v48 Ws v50 v51 WE v53 WS KI Xh TA Fq K5 PL LK =>
dO wT k5 0 [v48, Ws, v50, v51, WE, v53, WS, KI, Xh, TA, Fq, K5, PL, LK] 14 fun NQ =>
rW NQ k5 fun l63 =>
K (.agg (l63.toArray)) NQ) Kp) :
 ae Tryz.prog 139 #[.agg y0.toArray, .int .i64 x1, .int .i64 x2, .agg #[.int .i64 fI, .int .i64 fJ, .int .i64 fK, .int .i64 fL]] M K Kp := vw [] Tryz.func139 h
theorem uQ {y0 : List Value} {x1 : Int} {x2 : Int} {x3 : Int} (h :
aO M (.cells (y0.toArray) 81 (0, 0)) fun k1 M2 =>
aO M2 aK fun k3 M4 =>
rS M4 k1 4 fun A5 k6 k7 =>
((0 : Int) ≤ x1) ∧
((x1 : Int) < k6) ∧
aE A5 fun k8 k9 =>
gL M4 k8 (k9 + ((Int.toNat x1) * 6)) fun dI Fu gF eA jA kX nZ kN =>
aO M4 gu fun fm mW =>
RO mW fm (iV dI) (.slice Fu gF eA) (iV jA) (iV kX) (iV nZ) (iV kN) fun qk =>
aO qk (cl [] 114) fun gH mZ =>
rS mZ fm 1 fun zW gi jc =>
aA 107 (some ⟨gH, 0, none⟩) 0 0 zW gi jc mZ (fun RW mJ =>
aF (some RW) fun JW mK ku =>
sT mJ fm 1 (.slice JW mK ku) fun pA =>
rS pA fm 1 fun z6 fB lH =>
rS pA fm 1 fun A40 mP jO =>
((0 : Int) ≤ (IntKind.wrap .i64 ((mP : Int) - 1))) ∧
(((IntKind.wrap .i64 ((mP : Int) - 1)) : Int) < (fB : Int)) ∧
aE z6 fun jF ym =>
((0 : Int) ≤ x2) ∧
((x2 : Int) < 8) ∧
sT pA jF (((ym + ((Int.toNat (IntKind.wrap .i64 ((mP : Int) - 1))) * 11)) + 2) + (Int.toNat x2)) (iV x3) fun Im =>
rW Im k1 fun l46 =>
gL Im fm 0 fun CX NW nC vt CN Sw K3 vz =>
ae Tryz.prog 112 #[(.agg (l46.toArray)), (iV x1), (.agg #[(iV CX), (.slice NW nC vt), (iV CN), (iV Sw), (iV K3), (iV vz)])] Im (fun KI JX =>
xW KI fun TA Fq K5 PL LK Fp BA TB Po Xi TC Mc Ph XH =>
dO JX k3 0 [TA, Fq, K5, PL, LK, Fp, BA, TB, Po, Xi, TC, Mc, Ph, XH] 14 fun Da =>
rW Da k3 fun Xj =>
K (.agg (Xj.toArray)) Da) Kp) Kp) :
 ae Tryz.prog 142 #[.agg y0.toArray, .int .i64 x1, .int .i64 x2, .int .i64 x3] M K Kp := vw [] Tryz.func142 h
theorem uR {y0 : List Value} {x1 : Int} {x2 : Int} (h :
aO M (.cells (y0.toArray) 81 (0, 0)) fun k1 M2 =>
aO M2 aK fun k3 M4 =>
rS M4 k1 6 fun A5 k6 k7 =>
((0 : Int) ≤ x1) ∧
((x1 : Int) < k6) ∧
aE A5 fun k8 k9 =>
cI M4 k8 (k9 + ((Int.toNat x1) * 5)) fun dI Fu gF eA ua ju fq Ay fm jC t20 =>
ae Tryz.prog 187 #[(.agg #[(iV dI), (.slice Fu gF eA), (.slice ua ju fq), (.slice Ay fm jC), (.bool t20)]), (iV x2)] M4 (fun Io c9 =>
∃ nO : Int, ∃ CK : Option Addr, ∃ jE gH : Nat, ∃ BE : Option Addr, ∃ gS gi : Nat, ∃ yp : Option Addr, ∃ iH ie : Nat, ∃ t33 : Bool, ∃ u6 yz tC : Int, ∃ t37 : Bool, ∃ mo : Int, (Io = (.tuple #[(.agg #[(iV nO), (.slice CK jE gH), (.slice BE gS gi), (.slice yp iH ie), (.bool t33)]), (.agg #[(iV u6), (iV yz), (iV tC)]), (.bool t37), (iV mo)])) ∧
aO c9 cZ fun lH Fv =>
aO Fv ik fun mP NZ =>
Bn NZ lH (iV nO) (.slice CK jE gH) (.slice BE gS gi) (.slice yp iH ie) (.bool t33) fun wT =>
pb wT mP (iV u6) (iV yz) (iV tC) fun GX =>
aM (mo == 10)
 (rW GX k1 fun l51 =>
 ae Tryz.prog 110 #[(.agg (l51.toArray)), (iV (-1))] GX (fun WE K4 =>
 xW WE fun WS KI Xh TA Fq K5 PL LK Fp BA TB Po Xi TC =>
 dO K4 k3 0 [WS, KI, Xh, TA, Fq, K5, PL, LK, Fp, BA, TB, Po, Xi, TC] 14 fun M68 =>
 rW M68 k3 fun l69 =>
 K (.tuple #[(.agg (l69.toArray)), (.bool true)]) M68) Kp)
 (rW GX k1 fun l70 =>
 cI GX lH 0 fun VR A72 JY G5 A75 K9 zZ A78 NU Fk t81 =>
 ae Tryz.prog 144 #[(.agg (l70.toArray)), (iV x1), (.agg #[(iV VR), (.slice A72 JY G5), (.slice A75 K9 zZ), (.slice A78 NU Fk), (.bool t81)])] GX (fun TE M83 =>
 xW TE fun Sy TF TG Sg Px v89 Pm v91 v92 v93 v94 v95 v96 WT =>
 dO M83 k1 0 [Sy, TF, TG, Sg, Px, v89, Pm, v91, v92, v93, v94, v95, v96, WT] 14 fun J2 =>
 aM t37
 (rW J2 k1 fun l99 =>
 eR J2 mP 0 fun Bv vu Bw =>
 ae Tryz.prog 188 #[(.agg (l99.toArray)), (.agg #[(iV Bv), (iV vu), (iV Bw)]), (iV 1)] J2 (fun yP yE =>
 xW yP fun F7 BZ F8 B5 B6 yD yQ F9 yw Ga yR B7 Gb B8 =>
 dO yE k1 0 [F7, BZ, F8, B5, B6, yD, yQ, F9, yw, Ga, yR, B7, Gb, B8] 14 fun FW =>
 rW FW k1 fun l120 =>
 dO FW k3 0 l120 14 fun iS =>
 rW iS k3 fun l122 =>
 K (.tuple #[(.agg (l122.toArray)), (.bool (mo == 0))]) iS) Kp)
 (rW J2 k1 fun XI =>
 dO J2 k3 0 XI 14 fun z3 =>
 rW z3 k3 fun l125 =>
 K (.tuple #[(.agg (l125.toArray)), (.bool (mo == 0))]) z3)) Kp)) Kp) :
 ae Tryz.prog 143 #[.agg y0.toArray, .int .i64 x1, .int .i64 x2] M K Kp := vw [] Tryz.func143 h
theorem oD {y0 : List Value} {x1 : Int} {oh : Int} {TQ : Option Addr} {TR TS : Nat} {B2_2 : Option Addr} {m2_2 c2_2 : Nat} {B2_3 : Option Addr} {m2_3 c2_3 : Nat} {q2_4 : Bool} (h :
aO M (.cells (y0.toArray) 81 (0, 0)) fun k1 M2 =>
aO M2 (cl [(iV oh), (.slice TQ TR TS), (.slice B2_2 m2_2 c2_2), (.slice B2_3 m2_3 c2_3), (.bool q2_4)] 190) fun k3 M4 =>
aO M4 aK fun k5 M6 =>
aO M6 (cl [] 190) fun k7 M8 =>
rS M8 k1 6 fun A9 eD eu =>
aA 75 (some ⟨k7, 0, none⟩) 0 0 A9 eD eu M8 (fun GV lu =>
aF (some GV) fun ua ju fq =>
sT lu k1 6 (.slice ua ju fq) fun nA =>
rS nA k1 6 fun KX jC fQ =>
cI nA k3 0 fun u0 K2 gI nM CL gH kF zW gi jc t31 =>
((0 : Int) ≤ x1) ∧
((x1 : Int) < jC) ∧
aE KX fun ie lg =>
sT nA ie (lg + ((Int.toNat x1) * 5)) (iV u0) fun qI =>
sT qI ie ((lg + ((Int.toNat x1) * 5)) + 1) (.slice K2 gI nM) fun u7 =>
sT u7 ie ((lg + ((Int.toNat x1) * 5)) + 2) (.slice CL gH kF) fun pA =>
sT pA ie ((lg + ((Int.toNat x1) * 5)) + 3) (.slice zW gi jc) fun QG =>
sT QG ie ((lg + ((Int.toNat x1) * 5)) + 4) (.bool t31) fun lj =>
rW lj k1 fun l39 =>
dO lj k5 0 l39 14 fun Fv =>
rW Fv k5 fun l41 =>
K (.agg (l41.toArray)) Fv) Kp) :
 ae Tryz.prog 144 #[.agg y0.toArray, .int .i64 x1, .agg #[.int .i64 oh, .slice TQ TR TS, .slice B2_2 m2_2 c2_2, .slice B2_3 m2_3 c2_3, .bool q2_4]] M K Kp := vw [] Tryz.func144 h
theorem uS {y0 : List Value} {x1 : Int} (h :
aO M (.cells (y0.toArray) 81 (0, 0)) fun k1 M2 =>
aO M2 aK fun k3 M4 =>
rS M4 k1 6 fun A5 k6 k7 =>
((0 : Int) ≤ x1) ∧
((x1 : Int) < k6) ∧
aE A5 fun k8 k9 =>
cI M4 k8 (k9 + ((Int.toNat x1) * 5)) fun dI Fu gF eA ua ju fq Ay fm jC t20 =>
ae Tryz.prog 189 #[(.agg #[(iV dI), (.slice Fu gF eA), (.slice ua ju fq), (.slice Ay fm jC), (.bool t20)])] M4 (fun Io c9 =>
∃ nO : Int, ∃ CK : Option Addr, ∃ jE gH : Nat, ∃ BE : Option Addr, ∃ gS gi : Nat, ∃ yp : Option Addr, ∃ iH ie : Nat, ∃ t33 : Bool, ∃ u6 : Int, ∃ t35 : Bool, ∃ tC xK mo : Int, ∃ t39 : Bool, ∃ nQ : Int, (Io = (.tuple #[(.agg #[(iV nO), (.slice CK jE gH), (.slice BE gS gi), (.slice yp iH ie), (.bool t33)]), (iV u6), (.bool t35), (.agg #[(iV tC), (iV xK), (iV mo)]), (.bool t39), (iV nQ)])) ∧
aO c9 cZ fun mP NZ =>
aO NZ ik fun jF qm =>
Bn qm mP (iV nO) (.slice CK jE gH) (.slice BE gS gi) (.slice yp iH ie) (.bool t33) fun wQ =>
pb wQ jF (iV tC) (iV xK) (iV mo) fun xP =>
rW xP k1 fun l53 =>
cI xP mP 0 fun vz Se xM wU VP AB KO WJ BC JZ t64 =>
ae Tryz.prog 144 #[(.agg (l53.toArray)), (iV x1), (.agg #[(iV vz), (.slice Se xM wU), (.slice VP AB KO), (.slice WJ BC JZ), (.bool t64)])] xP (fun Po NX =>
xW Po fun TC Mc Ph XH v71 v72 v73 v74 Wv WL Xk Xl Pk TD =>
dO NX k1 0 [TC, Mc, Ph, XH, v71, v72, v73, v74, Wv, WL, Xk, Xl, Pk, TD] 14 fun Ip =>
aM t39
 (rS Ip k1 4 fun A82 xN WM =>
 rI Ip jF 0 fun QT =>
 (0 ≤ QT) ∧
 (QT < xN) ∧
 aE A82 fun N0 KT =>
 rI Ip N0 ((KT + ((Int.toNat QT) * 6)) + 2) fun J3 =>
 aM (J3 == 16)
 (rW Ip k1 fun l89 =>
 rII Ip jF 0 fun zz Ia =>
 ae Tryz.prog 190 #[(.agg (l89.toArray)), (iV zz), (iV Ia)] Ip (fun v92 M93 =>
 xW v92 fun v94 v95 v96 WT v98 v99 FB KR KU yP Ub F7 BZ F8 =>
 dO M93 k1 0 [v94, v95, v96, WT, v98, v99, FB, KR, KU, yP, Ub, F7, BZ, F8] 14 fun TH =>
 rW TH k1 fun l109 =>
 rI TH jF 0 fun Fg =>
 ae Tryz.prog 109 #[(.agg (l109.toArray)), (iV Fg)] TH (fun yQ nB =>
 xW yQ fun yw Ga yR B7 Gb B8 Ml Ge Mm Uc Ud v124 SH Lu =>
 dO nB k1 0 [yw, Ga, yR, B7, Gb, B8, Ml, Ge, Mm, Uc, Ud, v124, SH, Lu] 14 fun yI =>
 aM t35
 (rW yI k1 fun l128 =>
 dO yI k3 0 l128 14 fun Xo =>
 rW Xo k3 fun l130 =>
 K (.tuple #[(.agg (l130.toArray)), (iV u6), (iV 1), (.bool true)]) Xo)
 (rW yI k1 fun l131 =>
 dO yI k3 0 l131 14 fun oz =>
 rW oz k3 fun TT =>
 K (.tuple #[(.agg (TT.toArray)), (iV 0), (iV 0), (.bool (nQ == 0))]) oz)) Kp) Kp)
 (rW Ip k1 fun l134 =>
 rI Ip jF 0 fun xg =>
 ae Tryz.prog 109 #[(.agg (l134.toArray)), (iV xg)] Ip (fun v136 M137 =>
 xW v136 fun v138 Ue Uf v141 TU Ug TV F3 Md Me Mf Mg FF Mh =>
 dO M137 k1 0 [v138, Ue, Uf, v141, TU, Ug, TV, F3, Md, Me, Mf, Mg, FF, Mh] 14 fun Gf =>
 aM t35
 (rW Gf k1 fun l153 =>
 dO Gf k3 0 l153 14 fun F5 =>
 rW F5 k3 fun l155 =>
 K (.tuple #[(.agg (l155.toArray)), (iV u6), (iV 1), (.bool true)]) F5)
 (rW Gf k1 fun l156 =>
 dO Gf k3 0 l156 14 fun Tk =>
 rW Tk k3 fun l158 =>
 K (.tuple #[(.agg (l158.toArray)), (iV 0), (iV 0), (.bool (nQ == 0))]) Tk)) Kp))
 (aM t35
 (rW Ip k1 fun l159 =>
 dO Ip k3 0 l159 14 fun Uh =>
 rW Uh k3 fun l161 =>
 K (.tuple #[(.agg (l161.toArray)), (iV u6), (iV 1), (.bool true)]) Uh)
 (rW Ip k1 fun l162 =>
 dO Ip k3 0 l162 14 fun Ca =>
 rW Ca k3 fun l164 =>
 K (.tuple #[(.agg (l164.toArray)), (iV 0), (iV 0), (.bool (nQ == 0))]) Ca))) Kp) Kp) :
 ae Tryz.prog 145 #[.agg y0.toArray, .int .i64 x1] M K Kp := vw [] Tryz.func145 h
theorem sk {y0 : List Value} {x1 : Int} (h :
aO M (.cells (y0.toArray) 81 (0, 0)) fun k1 M2 =>
aO M2 aK fun k3 M4 =>
rS M4 k1 6 fun A5 k6 k7 =>
((0 : Int) ≤ x1) ∧
((x1 : Int) < k6) ∧
aE A5 fun k8 k9 =>
cI M4 k8 (k9 + ((Int.toNat x1) * 5)) fun dI Fu gF eA ua ju fq Ay fm jC t20 =>
ae Tryz.prog 191 #[(.agg #[(iV dI), (.slice Fu gF eA), (.slice ua ju fq), (.slice Ay fm jC), (.bool t20)])] M4 (fun Io c9 =>
∃ nO : Int, ∃ CK : Option Addr, ∃ jE gH : Nat, ∃ BE : Option Addr, ∃ gS gi : Nat, ∃ yp : Option Addr, ∃ iH ie : Nat, ∃ t33 : Bool, ∃ D6 : Option Addr, ∃ ku nP : Nat, ∃ z6 : Option Addr, ∃ fB lH : Nat, ∃ nQ : Int, (Io = (.tuple #[(.agg #[(iV nO), (.slice CK jE gH), (.slice BE gS gi), (.slice yp iH ie), (.bool t33)]), (.slice D6 ku nP), (.slice z6 fB lH), (iV nQ)])) ∧
aO c9 cZ fun mP NZ =>
Bn NZ mP (iV nO) (.slice CK jE gH) (.slice BE gS gi) (.slice yp iH ie) (.bool t33) fun wT =>
aM (nQ != 0)
 (rW wT k1 fun l48 =>
 ae Tryz.prog 110 #[(.agg (l48.toArray)), (iV (-2))] wT (fun Ws GX =>
 xW Ws fun v51 WE v53 WS KI Xh TA Fq K5 PL LK Fp BA TB =>
 dO GX k3 0 [v51, WE, v53, WS, KI, Xh, TA, Fq, K5, PL, LK, Fp, BA, TB] 14 fun Xe =>
 rW Xe k3 fun l66 =>
 K (.agg (l66.toArray)) Xe) Kp)
 (rW wT k1 fun l67 =>
 cI wT mP 0 fun wW A69 D8 Fj A72 JY G5 A75 K9 zZ t78 =>
 ae Tryz.prog 144 #[(.agg (l67.toArray)), (iV x1), (.agg #[(iV wW), (.slice A69 D8 Fj), (.slice A72 JY G5), (.slice A75 K9 zZ), (.bool t78)])] wT (fun Pk VT =>
 xW Pk fun Xm TE Xn Sy TF TG Sg Px v89 Pm v91 v92 v93 v94 =>
 dO VT k1 0 [Xm, TE, Xn, Sy, TF, TG, Sg, Px, v89, Pm, v91, v92, v93, v94] 14 fun Pr =>
 aM (decide ((fB : Int) > 0))
 (rW Pr k1 fun l96 =>
 ae Tryz.prog 110 #[(.agg (l96.toArray)), (iV (-1))] Pr (fun WT J2 =>
 xW WT fun v99 FB KR KU yP Ub F7 BZ F8 B5 B6 yD yQ F9 =>
 dO J2 k3 0 [v99, FB, KR, KU, yP, Ub, F7, BZ, F8, B5, B6, yD, yQ, F9] 14 fun WU =>
 rW WU k3 fun l114 =>
 K (.agg (l114.toArray)) WU) Kp)
 (∃ XJ : IT, (∃ H7, XJ H7 [(iV 0)] Pr) ∧
 ∀ (KS : Nat) (_ : Nat → Value) (yO : Int) (Mn : Mem), (XJ KS [(iV yO)] Mn) → aM (decide (yO < ku))
 ((0 ≤ yO) ∧
 (yO < ku) ∧
 aE D6 fun BB ox =>
 eR Mn BB (ox + ((Int.toNat yO) * 3)) fun Fy BT BU =>
 aO Mn ik fun Fz yI =>
 pb yI Fz (iV Fy) (iV BT) (iV BU) fun C8 =>
 rS C8 k1 4 fun SD FA uI =>
 rI C8 Fz 0 fun Aa =>
 (0 ≤ Aa) ∧
 (Aa < FA) ∧
 aE SD fun C9 xd =>
 rI C8 C9 (xd + ((Int.toNat Aa) * 6)) fun xe =>
 aM (xe == 2)
 (sT C8 Fz 2 (iV 0) fun M138 =>
 rW M138 k1 fun l139 =>
 eR M138 Fz 0 fun PN LO yJ =>
 ae Tryz.prog 188 #[(.agg (l139.toArray)), (.agg #[(iV PN), (iV LO), (iV yJ)]), (iV 0)] M138 (fun Ug De =>
 xW Ug fun F3 Md Me Mf Mg FF Mh Ti TW Mi TX TY TZ v158 =>
 dO De k1 0 [F3, Md, Me, Mf, Mg, FF, Mh, Ti, TW, Mi, TX, TY, TZ, v158] 14 fun W5 =>
 ∃ rR : Nat, (rR < KS) ∧
 XJ rR [(iV (IntKind.wrap .i64 (yO + 1)))] W5) Kp)
 (∃ Dm : Nat, (Dm < KS) ∧
 XJ Dm [(iV (IntKind.wrap .i64 (yO + 1)))] C8))
 (rW Mn k1 fun l162 =>
 dO Mn k3 0 l162 14 fun Ca =>
 rW Ca k3 fun l164 =>
 K (.agg (l164.toArray)) Ca))) Kp)) Kp) :
 ae Tryz.prog 146 #[.agg y0.toArray, .int .i64 x1] M K Kp := vw [(2000000, .loop [(37, .c (.int .i64))])] Tryz.func146 h
theorem pE {y0 : List Value} {x1 : Int} {oh : Int} {rq : Int} {om : Int} {ru : Int} {x3 : Int} (h :
aO M (.cells (y0.toArray) 81 (0, 0)) fun k1 M2 =>
aO M2 (cl [(iV oh), (iV rq), (iV om), (iV ru)] 109) fun k3 M4 =>
aO M4 aK fun k5 M6 =>
rS M6 k1 3 fun A7 k8 k9 =>
rI M6 k3 1 fun dI =>
rI M6 k3 1 fun kY =>
rI M6 k3 2 fun gZ =>
((0 : Int) ≤ k9) ∧
((k9 : Int) ≤ k9) ∧
((0 : Int) ≤ (IntKind.wrap .i64 (kY + gZ))) ∧
(((IntKind.wrap .i64 (kY + gZ)) : Int) ≤ (k9 : Int)) ∧
(0 ≤ dI) ∧
((dI : Int) ≤ (IntKind.wrap .i64 (kY + gZ))) ∧
rS M6 k1 4 fun zu fz ju =>
((0 : Int) ≤ x1) ∧
((x1 : Int) < fz) ∧
aE zu fun fq fO =>
rS M6 fq ((fO + ((Int.toNat x1) * 6)) + 1) fun KX jC fQ =>
rS M6 k1 4 fun CM gf gI =>
((0 : Int) ≤ x1) ∧
((x1 : Int) < gf) ∧
aE CM fun nM jE =>
rS M6 nM ((jE + ((Int.toNat x1) * 6)) + 1) fun WQ kF gS =>
((0 : Int) ≤ (IntKind.wrap .i64 ((kF : Int) - 1))) ∧
(((IntKind.wrap .i64 ((kF : Int) - 1)) : Int) < (jC : Int)) ∧
aE KX fun gi jc =>
aY M6 gi (jc + ((Int.toNat (IntKind.wrap .i64 ((kF : Int) - 1))) * 11)) fun q9 n32 kK u6 yz tC xK mo yl nQ zA =>
aO M6 c7 fun jO wV =>
pg wV jO (iV q9) (iV n32) (iV kK) (iV u6) (iV yz) (iV tC) (iV xK) (iV mo) (iV yl) (iV nQ) (iV zA) fun O4 =>
rS O4 k1 6 fun Se xM wU =>
ae Tryz.prog 192 #[(.slice (iZ A7 (Int.toNat dI) (Int.toNat (k9 : Int)) 3) ((Int.toNat (IntKind.wrap .i64 (kY + gZ))) - (Int.toNat dI)) ((Int.toNat (k9 : Int)) - (Int.toNat dI))), (.slice Se xM wU)] O4 (fun Fq eM =>
aF (some Fq) fun VQ tB BC =>
aM ((tB : Int) == 0)
 (ae Tryz.prog 193 #[(.slice (iZ A7 (Int.toNat dI) (Int.toNat (k9 : Int)) 3) ((Int.toNat (IntKind.wrap .i64 (kY + gZ))) - (Int.toNat dI)) ((Int.toNat (k9 : Int)) - (Int.toNat dI)))] eM (fun BA qJ =>
 bF (some BA) .i64 fun GZ =>
 aM (decide (GZ ≥ 0))
 (rW qJ k1 fun l66 =>
 rI qJ k3 3 fun Ik =>
 ae Tryz.prog 142 #[(.agg (l66.toArray)), (iV x1), (iV Ik), (iV GZ)] qJ (fun Mc N1 =>
 xW Mc fun XH v71 v72 v73 v74 Wv WL Xk Xl Pk TD Xm TE Xn =>
 dO N1 k5 0 [XH, v71, v72, v73, v74, Wv, WL, Xk, Xl, Pk, TD, Xm, TE, Xn] 14 fun Zb =>
 rW Zb k5 fun l85 =>
 K (.agg (l85.toArray)) Zb) Kp)
 (rI qJ jO 2 fun n86 =>
 rI qJ jO (2 + 1) fun SQ =>
 rI qJ jO (2 + 2) fun J3 =>
 rI qJ jO (2 + 3) fun G6 =>
 rI qJ jO (2 + 4) fun zz =>
 rI qJ jO (2 + 5) fun Ia =>
 rI qJ jO (2 + 6) fun CY =>
 rI qJ jO (2 + 7) fun Pq =>
 rS qJ k1 6 fun A94 K6 WK =>
 ae Tryz.prog 194 #[(iV x1), (.slice (iZ A7 (Int.toNat dI) (Int.toNat (k9 : Int)) 3) ((Int.toNat (IntKind.wrap .i64 (kY + gZ))) - (Int.toNat dI)) ((Int.toNat (k9 : Int)) - (Int.toNat dI))), (.agg #[(iV n86), (iV SQ), (iV J3), (iV G6), (iV zz), (iV Ia), (iV CY), (iV Pq)]), (.slice A94 K6 WK)] qJ (fun WT J2 =>
 aF (some WT) fun A99 qo C7 =>
 sT J2 k1 6 (.slice A99 qo C7) fun H6 =>
 rW H6 k1 fun l103 =>
 bO H6 k3 0 fun n104 BM yB yC =>
 ae Tryz.prog 139 #[(.agg (l103.toArray)), (iV x1), (iV 2), (.agg #[(iV n104), (iV BM), (iV yB), (iV yC)])] H6 (fun B5 O7 =>
 xW B5 fun yD yQ F9 yw Ga yR B7 Gb B8 Ml Ge Mm Uc Ud =>
 dO O7 k5 0 [yD, yQ, F9, yw, Ga, yR, B7, Gb, B8, Ml, Ge, Mm, Uc, Ud] 14 fun z3 =>
 rW z3 k5 fun l125 =>
 K (.agg (l125.toArray)) z3) Kp) Kp)) Kp)
 (((tB : Int) ≠ 0) ∧
 ((0 : Int) ≤ (Int.tmod x3 (tB : Int))) ∧
 (((Int.tmod x3 (tB : Int)) : Int) < (tB : Int)) ∧
 aE VQ fun Fz Ib =>
 rI eM Fz (Ib + (Int.toNat (Int.tmod x3 (tB : Int)))) fun my =>
 (0 ≤ my) ∧
 ((my : Int) < ((((Int.toNat (IntKind.wrap .i64 (kY + gZ))) - (Int.toNat dI)) : Nat) : Int)) ∧
 aE (iZ A7 (Int.toNat dI) (Int.toNat (k9 : Int)) 3) fun BO Ds =>
 rI eM BO (Ds + ((Int.toNat my) * 3)) fun xo =>
 aM (xo == 1)
 ((0 ≤ my) ∧
 ((my : Int) < ((((Int.toNat (IntKind.wrap .i64 (kY + gZ))) - (Int.toNat dI)) : Nat) : Int)) ∧
 aE (iZ A7 (Int.toNat dI) (Int.toNat (k9 : Int)) 3) fun FA uI =>
 (0 ≤ my) ∧
 ((my : Int) < ((((Int.toNat (IntKind.wrap .i64 (kY + gZ))) - (Int.toNat dI)) : Nat) : Int)) ∧
 aE (iZ A7 (Int.toNat dI) (Int.toNat (k9 : Int)) 3) fun yL C9 =>
 rW eM k1 fun l136 =>
 rI eM FA ((uI + ((Int.toNat my) * 3)) + 1) fun xe =>
 rI eM yL ((C9 + ((Int.toNat my) * 3)) + 2) fun Ad =>
 (0 ≤ Ad) ∧
 (Ad < 8) ∧
 rI eM jO (2 + (Int.toNat Ad)) fun IC =>
 ae Tryz.prog 143 #[(.agg (l136.toArray)), (iV xe), (iV IC)] eM (fun Uf Lv =>
 ∃ l142 : List Value, ((l142.length) = 14) ∧
 ∃ t143 : Bool, (Uf = (.tuple #[(.agg (l142.toArray)), (.bool t143)])) ∧
 dO Lv k1 0 l142 14 fun De =>
 rI De k1 11 fun SU =>
 aM (SU != 0)
 (rW De k1 fun l146 =>
 dO De k5 0 l146 14 fun XK =>
 rW XK k5 fun l148 =>
 K (.agg (l148.toArray)) XK)
 (rW De k1 fun l149 =>
 rI De k3 3 fun n150 =>
 ae Tryz.prog 142 #[(.agg (l149.toArray)), (iV x1), (iV n150), (iV my)] De (fun Mh Gf =>
 xW Mh fun TW Mi TX TY TZ v158 v159 v160 T0 v162 v163 T3 v165 v166 =>
 dO Gf k5 0 [TW, Mi, TX, TY, TZ, v158, v159, v160, T0, v162, v163, T3, v165, v166] 14 fun FY =>
 rW FY k5 fun l168 =>
 K (.agg (l168.toArray)) FY) Kp)) Kp)
 ((0 ≤ my) ∧
 ((my : Int) < ((((Int.toNat (IntKind.wrap .i64 (kY + gZ))) - (Int.toNat dI)) : Nat) : Int)) ∧
 aE (iZ A7 (Int.toNat dI) (Int.toNat (k9 : Int)) 3) fun k169 IU =>
 rW eM k1 fun l171 =>
 rI eM k169 ((IU + ((Int.toNat my) * 3)) + 1) fun n172 =>
 ae Tryz.prog 145 #[(.agg (l171.toArray)), (iV n172)] eM (fun v173 WY =>
 ∃ l175 : List Value, ((l175.length) = 14) ∧
 ∃ FZ Dp : Int, ∃ t178 : Bool, (v173 = (.tuple #[(.agg (l175.toArray)), (iV FZ), (iV Dp), (.bool t178)])) ∧
 dO WY k1 0 l175 14 fun Ui =>
 (0 ≤ my) ∧
 ((my : Int) < ((((Int.toNat (IntKind.wrap .i64 (kY + gZ))) - (Int.toNat dI)) : Nat) : Int)) ∧
 aE (iZ A7 (Int.toNat dI) (Int.toNat (k9 : Int)) 3) fun LM Uj =>
 rW Ui k1 fun l182 =>
 rI Ui LM ((Uj + ((Int.toNat my) * 3)) + 2) fun uN =>
 ae Tryz.prog 142 #[(.agg (l182.toArray)), (iV x1), (iV uN), (iV FZ)] Ui (fun v184 Lf =>
 xW v184 fun v186 v187 v188 TK v190 v191 v192 v193 v194 v195 TL v197 v198 v199 =>
 dO Lf k1 0 [v186, v187, v188, TK, v190, v191, v192, v193, v194, v195, TL, v197, v198, v199] 14 fun M200 =>
 rW M200 k1 fun l201 =>
 rI M200 k3 3 fun SZ =>
 ae Tryz.prog 142 #[(.agg (l201.toArray)), (iV x1), (iV SZ), (iV my)] M200 (fun v203 M204 =>
 xW v203 fun v205 v206 v207 v208 v209 v210 v211 v212 v213 v214 v215 v216 v217 TM =>
 dO M204 k5 0 [v205, v206, v207, v208, v209, v210, v211, v212, v213, v214, v215, v216, v217, TM] 14 fun FI =>
 rW FI k5 fun l220 =>
 K (.agg (l220.toArray)) FI) Kp) Kp) Kp))) Kp) :
 ae Tryz.prog 147 #[.agg y0.toArray, .int .i64 x1, .agg #[.int .i64 oh, .int .i64 rq, .int .i64 om, .int .i64 ru], .int .i64 x3] M K Kp := vw [(2, .bH [0, 1, 0, 7, 15, 31, 0, 64, 0, 448, 960, 1984, 4032, 8128, 16383, 32767, 0, 131071] (sy [0, 2, 6, 8, 1, 3, 4, 5, 7, 9, 10, 11, 12, 13, 14, 15, 16, 17] .done)), (12, .bH [0, 0, 0, 6, 14, 30, 0, 0, 192, 448, 960, 0, 4032, 8128, 16383, 32767, 65535, 65535, 131071] (sy [1, 2, 3, 4, 6, 7, 8, 9, 11, 0, 5, 10, 12, 13, 14, 15, 16, 17, 18] .done)), (16, .bH [0, 0, 0, 6, 14, 30, 63, 127, 255, 255, 255, 255, 511, 5119] (sy [1, 2, 3, 4, 0, 5, 6, 7, 8, 9, 10, 11, 12, 13] .done)), (17, .bH [0, 0, 0, 0, 12, 28, 60, 0, 255, 511] (sy [1, 2, 3, 4, 5, 7, 0, 6, 8, 9] .done))] Tryz.func147 h
theorem nD {y0 : List Value} {dS : Int} {eE : Int} {eF : Int} {x2 : Int} (h :
aO M (.cells (y0.toArray) 81 (0, 0)) fun k1 M2 =>
aO M2 (cl [(iV dS), (iV eE), (iV eF)] 289) fun k3 M4 =>
aO M4 aK fun k5 M6 =>
rS M6 k1 4 fun A7 k8 k9 =>
rI M6 k3 0 fun dI =>
(0 ≤ dI) ∧
(dI < k8) ∧
aE A7 fun eu gF =>
bO M6 eu ((gF + ((Int.toNat dI) * 6)) + 2) fun mY jA kX nZ =>
aO M6 fP fun fO mq =>
mh mq fO (iV mY) (iV jA) (iV kX) (iV nZ) fun c9 =>
rI c9 fO 0 fun nO =>
aM (nO == 16)
 (rW c9 k1 fun l24 =>
 rI c9 k3 0 fun yq =>
 rS c9 k1 3 fun WQ kF gS =>
 rI c9 fO 1 fun yu =>
 rI c9 k3 1 fun w6 =>
 ((0 : Int) ≤ (IntKind.wrap .i64 (yu + w6))) ∧
 (((IntKind.wrap .i64 (yu + w6)) : Int) < (kF : Int)) ∧
 aE WQ fun iH ie =>
 rI c9 iH ((ie + ((Int.toNat (IntKind.wrap .i64 (yu + w6))) * 3)) + 2) fun kK =>
 rI c9 k3 2 fun u6 =>
 ae Tryz.prog 142 #[(.agg (l24.toArray)), (iV yq), (iV kK), (iV u6)] c9 (fun v35 pA =>
 xW v35 fun v37 v38 v39 Sv v41 v42 v43 v44 v45 WR v47 v48 Ws v50 =>
 dO pA k1 0 [v37, v38, v39, Sv, v41, v42, v43, v44, v45, WR, v47, v48, Ws, v50] 14 fun AA =>
 rW AA k1 fun l52 =>
 rII AA k3 0 fun K3 vz =>
 ae Tryz.prog 190 #[(.agg (l52.toArray)), (iV K3), (iV vz)] AA (fun KI JX =>
 xW KI fun TA Fq K5 PL LK Fp BA TB Po Xi TC Mc Ph XH =>
 dO JX k1 0 [TA, Fq, K5, PL, LK, Fp, BA, TB, Po, Xi, TC, Mc, Ph, XH] 14 fun Da =>
 rW Da k1 fun Xj =>
 rI Da k3 0 fun O6 =>
 ae Tryz.prog 109 #[(.agg (Xj.toArray)), (iV O6)] Da (fun v74 SB =>
 xW v74 fun WL Xk Xl Pk TD Xm TE Xn Sy TF TG Sg Px v89 =>
 dO SB k5 0 [WL, Xk, Xl, Pk, TD, Xm, TE, Xn, Sy, TF, TG, Sg, Px, v89] 14 fun M90 =>
 rW M90 k5 fun l91 =>
 K (.agg (l91.toArray)) M90) Kp) Kp) Kp)
 (rW c9 k1 fun l92 =>
 rI c9 k3 0 fun Pq =>
 rI c9 fO 2 fun RZ =>
 rI c9 k3 2 fun R0 =>
 ae Tryz.prog 142 #[(.agg (l92.toArray)), (iV Pq), (iV RZ), (iV R0)] c9 (fun v96 Zg =>
 xW v96 fun v98 v99 FB KR KU yP Ub F7 BZ F8 B5 B6 yD yQ =>
 dO Zg k1 0 [v98, v99, FB, KR, KU, yP, Ub, F7, BZ, F8, B5, B6, yD, yQ] 14 fun nB =>
 rW nB k1 fun l113 =>
 rI nB k3 0 fun Fh =>
 rI nB fO 3 fun Lt =>
 ae Tryz.prog 142 #[(.agg (l113.toArray)), (iV Fh), (iV Lt), (iV x2)] nB (fun B7 M117 =>
 xW B7 fun B8 Ml Ge Mm Uc Ud v124 SH Lu v127 v128 v129 v130 v131 =>
 dO M117 k1 0 [B8, Ml, Ge, Mm, Uc, Ud, v124, SH, Lu, v127, v128, v129, v130, v131] 14 fun oz =>
 rW oz k1 fun TT =>
 rI oz k3 0 fun Aa =>
 ae Tryz.prog 109 #[(.agg (TT.toArray)), (iV Aa)] oz (fun v135 M136 =>
 xW v135 fun v137 v138 Ue Uf v141 TU Ug TV F3 Md Me Mf Mg FF =>
 dO M136 k5 0 [v137, v138, Ue, Uf, v141, TU, Ug, TV, F3, Md, Me, Mf, Mg, FF] 14 fun BQ =>
 rW BQ k5 fun l152 =>
 K (.agg (l152.toArray)) BQ) Kp) Kp) Kp)) :
 ae Tryz.prog 188 #[.agg y0.toArray, .agg #[.int .i64 dS, .int .i64 eE, .int .i64 eF], .int .i64 x2] M K Kp := vw [(3, .bH [0, 0, 2, 0, 8, 24, 0, 64, 0, 256, 960, 2040, 4088, 8184, 0, 16384, 65535, 131071] (sy [1, 3, 4, 6, 8, 14, 0, 2, 5, 7, 9, 10, 11, 12, 13, 15, 16, 17] .done))] Tryz.func188 h
theorem pF {y0 : List Value} {x1 : Int} {x2 : Int} (h :
aO M (.cells (y0.toArray) 81 (0, 0)) fun k1 M2 =>
aO M2 aK fun k3 M4 =>
rW M4 k1 fun l5 =>
rS M4 k1 4 fun A6 k7 k8 =>
((0 : Int) ≤ x1) ∧
((x1 : Int) < k7) ∧
aE A6 fun k9 eD =>
rI M4 k9 (((eD + ((Int.toNat x1) * 6)) + 2) + 3) fun kY =>
ae Tryz.prog 142 #[(.agg (l5.toArray)), (iV x1), (iV kY), (iV x2)] M4 (fun GV lu =>
xW GV fun WD Bu Ii Sx Fc Pj v20 Io KG v23 v24 v25 v26 v27 =>
dO lu k1 0 [WD, Bu, Ii, Sx, Fc, Pj, v20, Io, KG, v23, v24, v25, v26, v27] 14 fun CV =>
rS CV k1 6 fun A29 jc iH =>
ae Tryz.prog 219 #[(iV x1), (.slice A29 jc iH)] CV (fun v32 pX =>
aF (some v32) fun D6 ku nP =>
sT pX k1 6 (.slice D6 ku nP) fun QG =>
rW QG k1 fun l38 =>
dO QG k3 0 l38 14 fun Fi =>
rW Fi k3 fun l40 =>
K (.agg (l40.toArray)) Fi) Kp) Kp) :
 ae Tryz.prog 190 #[.agg y0.toArray, .int .i64 x1, .int .i64 x2] M K Kp := vw [(1, .bH [0, 0, 0, 4, 0, 28, 60, 124, 252, 0, 1023, 2047] (sy [1, 2, 4, 9, 0, 3, 5, 6, 7, 8, 10, 11] .done))] Tryz.func190 h
end Go.Proofs
namespace Go.Proofs
open Go.AF
set_option maxRecDepth 100000
theorem qD {x0 : Int} {x1 : Int} {M : Mem} {K : Value → Mem → Prop} {Kp : List PanicEntry → Mem → Prop} (h :
aO M c7 fun k1 M2 =>
pg M2 k1 (iV x0) (iV 0) (iV 0) (iV 0) (iV 0) (iV 0) (iV 0) (iV 0) (iV 0) (iV 0) (iV 0) fun lu =>
((0 : Int) ≤ 0) ∧
((0 : Int) < 8) ∧
sT lu k1 (2 + 0) (iV x1) fun qh =>
aY qh k1 0 fun kX nZ kN kM nN gC u0 wP nO pY yq =>
aO qh (cl [(iV kX), (iV nZ), (iV kN), (iV kM), (iV nN), (iV gC), (iV u0), (iV wP), (iV nO), (iV pY), (iV yq)] 114) fun gH mZ =>
K (.slice (some ⟨gH, 0, none⟩) 1 1) mZ) :
 ae Tryz.prog 74 #[.int .i64 x0, .int .i64 x1] M K Kp := vw [] Tryz.func74 h
theorem uT {iM : Option Addr} {iN iO : Nat} {iP : Option Addr} {iQ iR : Nat} {kO : Int} {jQ : Option Addr} {jR jS : Nat} {M : Mem} {K : Value → Mem → Prop} {Kp : List PanicEntry → Mem → Prop} (h :
aO M (cl [(.slice iM iN iO), (.slice iP iQ iR), (iV kO), (.slice jQ jR jS)] 73) fun k1 M2 =>
aO M2 aK fun k3 M4 =>
Bo M4 k1 0 fun A5 k6 k7 A8 k9 eD kY mX eA fz =>
(True) ∧
ae Tryz.prog 74 #[(iV 0), (iV 0)] M4 (fun Bu gh =>
aF (some Bu) fun Ay fm jC =>
((Mem.fT gh ⟨k1, 0, none⟩ 0 4) = some [(.slice A5 k6 k7), (.slice A8 k9 eD), (iV kY), (.slice mX eA fz)]) ∧
aO gh (cl [(iV 1), (.slice Ay fm jC), (iV 0), (iV 0), (iV 0), (iV 0)] 111) fun fQ jD =>
aO jD aK fun gf mm =>
dO mm gf 0 [(.slice A5 k6 k7), (.slice A8 k9 eD), (iV kY), (.slice mX eA fz), (.slice (some ⟨fQ, 0, none⟩) 1 1), (.int .u64 0), (.slice none 0 0), (.slice none 0 0), (.slice none 0 0), (.int .u64 0), (.slice none 0 0), (iV 0), (iV 0), (.slice none 0 0)] 14 fun ny =>
((Mem.fT ny ⟨k1, 0, none⟩ 0 4) = some [(.slice A5 k6 k7), (.slice A8 k9 eD), (iV kY), (.slice mX eA fz)]) ∧
rS ny k1 1 fun CL gH kF =>
∃ I28 : IT, (∃ gi, I28 gi [(iV 0)] ny) ∧
∀ (jc : Nat) (_ : Nat → Value) (n32 : Int) (pX : Mem), (I28 jc [(iV n32)] pX) → aM (decide (n32 < gH))
 ((0 ≤ n32) ∧
 (n32 < gH) ∧
 aE CL fun mK ku =>
 rI pX mK (ku + (Int.toNat n32)) fun tC =>
 ∃ J37 : List Value → Mem → Prop, ((rS pX gf 6 fun NP lH tY =>
 ae Tryz.prog 75 #[(iV tC)] pX (fun v41 NZ =>
 ∃ xL : Int, ∃ GW : Option Addr, ∃ zq mV : Nat, ∃ WH : Option Addr, ∃ yx nC : Nat, ∃ A50 : Option Addr, ∃ D7 tv : Nat, ∃ t53 : Bool, (v41 = (.agg #[(iV xL), (.slice GW zq mV), (.slice WH yx nC), (.slice A50 D7 tv), (.bool t53)])) ∧
 aO NZ (cl [(iV xL), (.slice GW zq mV), (.slice WH yx nC), (.slice A50 D7 tv), (.bool t53)] 190) fun wq J0 =>
 aA 75 NP lH tY (some ⟨wq, 0, none⟩) 1 1 J0 (fun Xh GY =>
 aF (some Xh) fun VP AB KO =>
 sT GY gf 6 (.slice VP AB KO) fun zV =>
 J37 [] zV) Kp) Kp) ∧
 (ae Tryz.prog 75 #[(iV tC)] pX (fun Fp Fe =>
 ∃ n64 : Int, ∃ QK : Option Addr, ∃ HY G2 : Nat, ∃ A68 : Option Addr, ∃ VU D8 : Nat, ∃ Zh : Option Addr, ∃ G3 JY : Nat, ∃ t74 : Bool, (Fp = (.agg #[(iV n64), (.slice QK HY G2), (.slice A68 VU D8), (.slice Zh G3 JY), (.bool t74)])) ∧
 rS Fe gf 6 fun A75 K9 zZ =>
 aO Fe (cl [(iV n64), (.slice QK HY G2), (.slice A68 VU D8), (.slice Zh G3 JY), (.bool t74)] 190) fun C4 Xf =>
 aA 75 A75 K9 zZ (some ⟨C4, 0, none⟩) 1 1 Xf (fun TD Ip =>
 aF (some TD) fun A82 xN WM =>
 sT Ip gf 6 (.slice A82 xN WM) fun Zc =>
 J37 [] Zc) Kp) Kp) ∧
 True) ∧
 ∀ junk86 : Nat → Value, ∀ SF : Mem, (J37 [] SF) → ∃ Sz : Nat, (Sz < jc) ∧
 I28 Sz [(iV (IntKind.wrap .i64 (n32 + 1)))] SF)
 (rI pX k1 2 fun G6 =>
 bj Tryz.prog (Go.Instr.makeSlice 76 (iV G6) (iV G6)) pX (fun Pm oa =>
 aF (some Pm) fun A92 Wx HZ =>
 sT oa gf 7 (.slice A92 Wx HZ) fun Pr =>
 rW Pr gf fun l96 =>
 dO Pr k3 0 l96 14 fun Zg =>
 rW Zg k3 fun l98 =>
 K (.agg (l98.toArray)) Zg) Kp)) Kp) :
 ae Tryz.prog 37 #[.agg #[.slice iM iN iO, .slice iP iQ iR, .int .i64 kO, .slice jQ jR jS]] M K Kp := vw [(1, .bH [0, 0, 2, 6, 15, 0, 63] (.cQ 0 (.late 1 (sy [2, 3, 4, 5, 6] .done)))), (2000000, .loop [(14, .c (.int .i64))]), (5, .OS [0, 1, 0, 4, 12, 31, 63, 127] (sy [0, 2] (.fork 1 (sy [3, 4, 5, 6, 7] .done) (.fork 3 (sy [1, 4, 5, 6, 7] .done) .dead))) [])] Tryz.func37 h
variable {M : Mem} {K : Value → Mem → Prop} {Kp : List PanicEntry → Mem → Prop}
theorem so {oe : Int} {wS : Int} {kO : Int} {x0_3 : Int} {x0_4 : Int} {x0_5 : Int} {x0_6 : Int} {x0_7 : Int} {x0_8 : Int} {x0_9 : Int} {Zi : Int} {dS : Int} {eE : Int} {eF : Int} {g7 : Int} (h :
aO M (cl [(iV oe), (iV wS), (iV kO), (iV x0_3), (iV x0_4), (iV x0_5), (iV x0_6), (iV x0_7), (iV x0_8), (iV x0_9), (iV Zi)] 114) fun k1 M2 =>
aO M2 (cl [(iV dS), (iV eE), (iV eF), (iV g7)] 109) fun k3 M4 =>
aO M4 c7 fun k5 M6 =>
rI M6 k1 1 fun n7 =>
sT M6 k1 1 (iV (IntKind.wrap .i64 (n7 + 1))) fun M8 =>
rI M8 k3 0 fun n9 =>
aM (n9 == 0)
 (rI M8 k1 0 fun dI =>
 rI M8 k1 1 fun kY =>
 rI M8 k1 2 fun gZ =>
 rI M8 k1 3 fun mY =>
 rI M8 k1 4 fun jA =>
 rI M8 k1 5 fun kX =>
 rI M8 k1 6 fun nZ =>
 rI M8 k1 7 fun kN =>
 rI M8 k1 8 fun kM =>
 rI M8 k1 9 fun nN =>
 rI M8 k1 10 fun gC =>
 pg M8 k5 (iV dI) (iV kY) (iV gZ) (iV mY) (iV jA) (iV kX) (iV nZ) (iV kN) (iV kM) (iV nN) (iV gC) fun ud =>
 aY ud k5 0 fun n32 kK u6 yz tC xK mo yl nQ zA BH =>
 K (.tuple #[(.agg #[(iV n32), (iV kK), (iV u6), (iV yz), (iV tC), (iV xK), (iV mo), (iV yl), (iV nQ), (iV zA), (iV BH)]), (.bool true)]) ud)
 (aM (n9 == 1)
 (rI M8 k3 1 fun xL =>
 rI M8 k3 2 fun yA =>
 (0 ≤ xL) ∧
 (xL < 8) ∧
 sT M8 k1 (2 + (Int.toNat xL)) (iV yA) fun Im =>
 aY Im k1 0 fun Ij CX Fw Pe Ft CN Sw K3 vz J5 J4 =>
 pg Im k5 (iV Ij) (iV CX) (iV Fw) (iV Pe) (iV Ft) (iV CN) (iV Sw) (iV K3) (iV vz) (iV J5) (iV J4) fun Za =>
 aY Za k5 0 fun wW KP Ir VR Il O6 n74 RX Wu RY n78 =>
 K (.tuple #[(.agg #[(iV wW), (iV KP), (iV Ir), (iV VR), (iV Il), (iV O6), (iV n74), (iV RX), (iV Wu), (iV RY), (iV n78)]), (.bool true)]) Za)
 (aM (n9 == 2)
 (rI M8 k3 1 fun Tg =>
 rI M8 k3 2 fun G0 =>
 (0 ≤ G0) ∧
 (G0 < 8) ∧
 rI M8 k1 (2 + (Int.toNat G0)) fun QS =>
 (0 ≤ Tg) ∧
 (Tg < 8) ∧
 sT M8 k1 (2 + (Int.toNat Tg)) (iV QS) fun M82 =>
 aY M82 k1 0 fun VO QJ QT n86 SQ J3 G6 zz Ia CY Pq =>
 pg M82 k5 (iV VO) (iV QJ) (iV QT) (iV n86) (iV SQ) (iV J3) (iV G6) (iV zz) (iV Ia) (iV CY) (iV Pq) fun yE =>
 aY yE k5 0 fun BM yB yC qs Sq Fg SR KJ Sb Fh Lt =>
 K (.tuple #[(.agg #[(iV BM), (iV yB), (iV yC), (iV qs), (iV Sq), (iV Fg), (iV SR), (iV KJ), (iV Sb), (iV Fh), (iV Lt)]), (.bool true)]) yE)
 (aM (n9 == 3)
 (rI M8 k3 1 fun LN =>
 rI M8 k3 2 fun TI =>
 (0 ≤ TI) ∧
 (TI < 8) ∧
 rI M8 k1 (2 + (Int.toNat TI)) fun n118 =>
 rI M8 k3 3 fun yO =>
 (0 ≤ yO) ∧
 (yO < 8) ∧
 rI M8 k1 (2 + (Int.toNat yO)) fun La =>
 (0 ≤ LN) ∧
 (LN < 8) ∧
 sT M8 k1 (2 + (Int.toNat LN)) (iV (IntKind.wrap .i64 (n118 + La))) fun iS =>
 aY iS k1 0 fun FC Fy BT BU Th Tn my n129 xn xo PM =>
 pg iS k5 (iV FC) (iV Fy) (iV BT) (iV BU) (iV Th) (iV Tn) (iV my) (iV n129) (iV xn) (iV xo) (iV PM) fun IM =>
 aY IM k5 0 fun n144 SU n146 n147 n148 n149 n150 n151 uM Lw n154 =>
 K (.tuple #[(.agg #[(iV n144), (iV SU), (iV n146), (iV n147), (iV n148), (iV n149), (iV n150), (iV n151), (iV uM), (iV Lw), (iV n154)]), (.bool true)]) IM)
 (aM (n9 == 4)
 (rI M8 k3 1 fun SV =>
 rI M8 k3 2 fun Gg =>
 (0 ≤ Gg) ∧
 (Gg < 8) ∧
 rI M8 k1 (2 + (Int.toNat Gg)) fun Mo =>
 rI M8 k3 3 fun Tl =>
 (0 ≤ Tl) ∧
 (Tl < 8) ∧
 rI M8 k1 (2 + (Int.toNat Tl)) fun n159 =>
 (0 ≤ SV) ∧
 (SV < 8) ∧
 sT M8 k1 (2 + (Int.toNat SV)) (iV (IntKind.wrap .i64 (Mo - n159))) fun Uh =>
 aY Uh k1 0 fun n161 n162 Lx ID To n166 n167 n168 SW n170 n171 =>
 pg Uh k5 (iV n161) (iV n162) (iV Lx) (iV ID) (iV To) (iV n166) (iV n167) (iV n168) (iV SW) (iV n170) (iV n171) fun vN =>
 aY vN k5 0 fun uN yH Iw PR n187 Lg Lh Li n191 LQ n193 =>
 K (.tuple #[(.agg #[(iV uN), (iV yH), (iV Iw), (iV PR), (iV n187), (iV Lg), (iV Lh), (iV Li), (iV n191), (iV LQ), (iV n193)]), (.bool true)]) vN)
 (aM (n9 == 5)
 (rI M8 k3 1 fun n194 =>
 rI M8 k3 2 fun SY =>
 (0 ≤ SY) ∧
 (SY < 8) ∧
 rI M8 k1 (2 + (Int.toNat SY)) fun Lz =>
 rI M8 k3 3 fun F0 =>
 (0 ≤ F0) ∧
 (F0 < 8) ∧
 rI M8 k1 (2 + (Int.toNat F0)) fun n198 =>
 (0 ≤ n194) ∧
 (n194 < 8) ∧
 sT M8 k1 (2 + (Int.toNat n194)) (iV (IntKind.wrap .i64 (Lz * n198))) fun M199 =>
 aY M199 k1 0 fun n200 n201 SZ Tu SP LS n206 LA Lm Ln Lo =>
 pg M199 k5 (iV n200) (iV n201) (iV SZ) (iV Tu) (iV SP) (iV LS) (iV n206) (iV LA) (iV Lm) (iV Ln) (iV Lo) fun W1 =>
 aY W1 k5 0 fun n222 n223 n224 n225 n226 n227 n228 n229 PS PT PU =>
 K (.tuple #[(.agg #[(iV n222), (iV n223), (iV n224), (iV n225), (iV n226), (iV n227), (iV n228), (iV n229), (iV PS), (iV PT), (iV PU)]), (.bool true)]) W1)
 (aM (n9 == 6)
 (rI M8 k3 2 fun Di =>
 (0 ≤ Di) ∧
 (Di < 8) ∧
 rI M8 k1 (2 + (Int.toNat Di)) fun n234 =>
 rI M8 k3 3 fun S1 =>
 (0 ≤ S1) ∧
 (S1 < 8) ∧
 rI M8 k1 (2 + (Int.toNat S1)) fun n236 =>
 aM (decide (n234 < n236))
 (rI M8 k3 1 fun IP =>
 (0 ≤ IP) ∧
 (IP < 8) ∧
 sT M8 k1 (2 + (Int.toNat IP)) (iV 1) fun W9 =>
 aY W9 k1 0 fun FO n240 S2 S3 S4 n244 n245 BV n247 n248 n249 =>
 pg W9 k5 (iV FO) (iV n240) (iV S2) (iV S3) (iV S4) (iV n244) (iV n245) (iV BV) (iV n247) (iV n248) (iV n249) fun M260 =>
 aY M260 k5 0 fun F1 n262 n263 n264 n265 n266 n267 Ix n269 n270 n271 =>
 K (.tuple #[(.agg #[(iV F1), (iV n262), (iV n263), (iV n264), (iV n265), (iV n266), (iV n267), (iV Ix), (iV n269), (iV n270), (iV n271)]), (.bool true)]) M260)
 (rI M8 k3 1 fun S6 =>
 (0 ≤ S6) ∧
 (S6 < 8) ∧
 sT M8 k1 (2 + (Int.toNat S6)) (iV 0) fun M273 =>
 aY M273 k1 0 fun F2 LF PJ n277 n278 Uk n280 n281 n282 n283 n284 =>
 pg M273 k5 (iV F2) (iV LF) (iV PJ) (iV n277) (iV n278) (iV Uk) (iV n280) (iV n281) (iV n282) (iV n283) (iV n284) fun M295 =>
 aY M295 k5 0 fun LG n297 n298 n299 LH LI n302 n303 n304 n305 n306 =>
 K (.tuple #[(.agg #[(iV LG), (iV n297), (iV n298), (iV n299), (iV LH), (iV LI), (iV n302), (iV n303), (iV n304), (iV n305), (iV n306)]), (.bool true)]) M295))
 (aM (n9 == 7)
 (rI M8 k3 1 fun n307 =>
 sT M8 k1 1 (iV n307) fun M308 =>
 aY M308 k1 0 fun n309 n310 n311 n312 B9 Iy n315 n316 n317 n318 Ta =>
 pg M308 k5 (iV n309) (iV n310) (iV n311) (iV n312) (iV B9) (iV Iy) (iV n315) (iV n316) (iV n317) (iV n318) (iV Ta) fun Dk =>
 aY Dk k5 0 fun Tb n332 n333 n334 n335 n336 n337 n338 n339 n340 n341 =>
 K (.tuple #[(.agg #[(iV Tb), (iV n332), (iV n333), (iV n334), (iV n335), (iV n336), (iV n337), (iV n338), (iV n339), (iV n340), (iV n341)]), (.bool true)]) Dk)
 (aM (n9 == 8)
 (rI M8 k3 1 fun Tc =>
 (0 ≤ Tc) ∧
 (Tc < 8) ∧
 rI M8 k1 (2 + (Int.toNat Tc)) fun Iz =>
 aM (Iz != 0)
 (rI M8 k3 2 fun IA =>
 sT M8 k1 1 (iV IA) fun M345 =>
 aY M345 k1 0 fun IB n347 n348 n349 n350 n351 n352 n353 n354 n355 n356 =>
 pg M345 k5 (iV IB) (iV n347) (iV n348) (iV n349) (iV n350) (iV n351) (iV n352) (iV n353) (iV n354) (iV n355) (iV n356) fun M367 =>
 aY M367 k5 0 fun n368 n369 n370 n371 n372 n373 n374 n375 n376 n377 n378 =>
 K (.tuple #[(.agg #[(iV n368), (iV n369), (iV n370), (iV n371), (iV n372), (iV n373), (iV n374), (iV n375), (iV n376), (iV n377), (iV n378)]), (.bool true)]) M367)
 (rI M8 k1 0 fun n379 =>
 rI M8 k1 1 fun n380 =>
 rI M8 k1 2 fun n381 =>
 rI M8 k1 3 fun Td =>
 rI M8 k1 4 fun n383 =>
 rI M8 k1 5 fun n384 =>
 rI M8 k1 6 fun n385 =>
 rI M8 k1 7 fun Xx =>
 rI M8 k1 8 fun PC =>
 rI M8 k1 9 fun n388 =>
 rI M8 k1 10 fun n389 =>
 pg M8 k5 (iV n379) (iV n380) (iV n381) (iV Td) (iV n383) (iV n384) (iV n385) (iV Xx) (iV PC) (iV n388) (iV n389) fun M400 =>
 aY M400 k5 0 fun n401 n402 n403 n404 n405 n406 n407 n408 n409 n410 n411 =>
 K (.tuple #[(.agg #[(iV n401), (iV n402), (iV n403), (iV n404), (iV n405), (iV n406), (iV n407), (iV n408), (iV n409), (iV n410), (iV n411)]), (.bool true)]) M400))
 (rI M8 k1 1 fun n412 =>
 sT M8 k1 1 (iV (IntKind.wrap .i64 (n412 - 1))) fun M413 =>
 aY M413 k1 0 fun n414 n415 n416 n417 Te n419 n420 n421 n422 n423 n424 =>
 pg M413 k5 (iV n414) (iV n415) (iV n416) (iV n417) (iV Te) (iV n419) (iV n420) (iV n421) (iV n422) (iV n423) (iV n424) fun M435 =>
 aY M435 k5 0 fun n436 n437 n438 n439 n440 Tf n442 n443 n444 n445 n446 =>
 K (.tuple #[(.agg #[(iV n436), (iV n437), (iV n438), (iV n439), (iV n440), (iV Tf), (iV n442), (iV n443), (iV n444), (iV n445), (iV n446)]), (.bool false)]) M435)))))))))) :
 ae Tryz.prog 111 #[.agg #[.int .i64 oe, .int .i64 wS, .int .i64 kO, .int .i64 x0_3, .int .i64 x0_4, .int .i64 x0_5, .int .i64 x0_6, .int .i64 x0_7, .int .i64 x0_8, .int .i64 x0_9, .int .i64 Zi], .agg #[.int .i64 dS, .int .i64 eE, .int .i64 eF, .int .i64 g7]] M K Kp := vw [(9, .bH [0, 1, 0, 4, 0, 28, 60, 0, 255, 511] (sy [0, 2, 4, 7, 1, 3, 5, 6, 8, 9] .done)), (11, .bH [0, 1, 0, 4, 0, 28, 60, 0, 128, 0, 896, 1920, 4092, 0, 16383, 32767] (sy [0, 2, 4, 7, 9, 13, 1, 3, 5, 6, 8, 10, 11, 12, 14, 15] .done)), (13, .bH [0, 1, 0, 4, 0, 28, 60, 0, 128, 0, 896, 1920, 4092, 0, 16383, 32767] (sy [0, 2, 4, 7, 9, 13, 1, 3, 5, 6, 8, 10, 11, 12, 14, 15] .done)), (15, .bH [0, 1, 0, 4, 0, 28, 60, 0, 128, 0, 896, 1920, 4092, 0, 16383, 32767] (sy [0, 2, 4, 7, 9, 13, 1, 3, 5, 6, 8, 10, 11, 12, 14, 15] .done)), (18, .bH [0, 1, 0, 7, 15, 0, 32, 0, 224, 480, 1023] (sy [0, 2, 5, 7, 1, 3, 4, 6, 8, 9, 10] .done))] Tryz.func111 h
theorem su {B0 : Option Addr} {m0 c0 : Nat} {x1 : Int} {x2 : Int} {x3 : Int} (h :
aM (decide ((m0 : Int) > 15))
 (K (.tuple #[(.slice B0 m0 c0), (.bool false)]) M)
 (ae Tryz.prog 74 #[(iV x1), (iV x2)] M (fun v1 M2 =>
 aF (some v1) fun A3 k4 k5 =>
 ((0 : Int) ≤ 0) ∧
 ((0 : Int) < k4) ∧
 aE A3 fun k6 k7 =>
 aY M2 k6 (k7 + 0) fun n8 n9 dI kY gZ mY jA kX nZ kN kM =>
 aO M2 c7 fun jC vr =>
 pg vr jC (iV n8) (iV n9) (iV dI) (iV kY) (iV gZ) (iV mY) (iV jA) (iV kX) (iV nZ) (iV kN) (iV kM) fun ud =>
 sT ud jC 10 (iV x3) fun mJ =>
 aY mJ jC 0 fun kK u6 yz tC xK mo yl nQ zA BH xL =>
 aO mJ (cl [] 114) fun ym Im =>
 (True) ∧
 aA 107 (some ⟨ym, 0, none⟩) 0 0 B0 m0 c0 Im (fun WR wT =>
 aF (some WR) fun NW nC vt =>
 ((Mem.fT wT ⟨jC, 0, none⟩ 0 11) = some [(iV kK), (iV u6), (iV yz), (iV tC), (iV xK), (iV mo), (iV yl), (iV nQ), (iV zA), (iV BH), (iV xL)]) ∧
 aO wT (cl [(iV kK), (iV u6), (iV yz), (iV tC), (iV xK), (iV mo), (iV yl), (iV nQ), (iV zA), (iV BH), (iV xL)] 114) fun D7 xP =>
 aA 107 NW nC vt (some ⟨D7, 0, none⟩) 1 1 xP (fun v53 O4 =>
 aF (some v53) fun Se xM wU =>
 ((Mem.fT O4 ⟨jC, 0, none⟩ 0 11) = some [(iV kK), (iV u6), (iV yz), (iV tC), (iV xK), (iV mo), (iV yl), (iV nQ), (iV zA), (iV BH), (iV xL)]) ∧
 K (.tuple #[(.slice Se xM wU), (.bool true)]) O4) Kp) Kp) Kp)) :
 ae Tryz.prog 140 #[.slice B0 m0 c0, .int .i64 x1, .int .i64 x2, .int .i64 x3] M K Kp := vw [(5, .bH [0, 0, 3, 0, 8, 31, 63, 127] (sy [1] (.cQ 3 (sy [0] (.late 2 (sy [4, 5, 6, 7] .done))))))] Tryz.func140 h
theorem pG {B0 : Option Addr} {m0 c0 : Nat} {x1 : Int} (h :
aM (decide (((IntKind.wrap .i64 ((m0 : Int) - 1)) : Int) < 1))
 (K (.tuple #[(.slice none 0 0), (.bool false)]) M)
 (aO M (cl [] 114) fun k1 M2 =>
 ((0 : Int) ≤ c0) ∧
 ((c0 : Int) ≤ c0) ∧
 ((0 : Int) ≤ (IntKind.wrap .i64 ((m0 : Int) - 1))) ∧
 (((IntKind.wrap .i64 ((m0 : Int) - 1)) : Int) ≤ (c0 : Int)) ∧
 ((0 : Int) ≤ 0) ∧
 ((0 : Int) ≤ (IntKind.wrap .i64 ((m0 : Int) - 1))) ∧
 bj Tryz.prog (Go.Builtin.append_ #[107, 107] 107 #[(.slice (some ⟨k1, 0, none⟩) 0 0), (.slice (iZ B0 0 (Int.toNat (c0 : Int)) 11) ((Int.toNat (IntKind.wrap .i64 ((m0 : Int) - 1))) - 0) ((Int.toNat (c0 : Int)) - 0))]) M2 (fun v3 M4 =>
 aF (some v3) fun A5 k6 k7 =>
 ((0 : Int) ≤ (IntKind.wrap .i64 ((m0 : Int) - 1))) ∧
 (((IntKind.wrap .i64 ((m0 : Int) - 1)) : Int) < (m0 : Int)) ∧
 aE B0 fun k8 k9 =>
 ((0 : Int) ≤ (IntKind.wrap .i64 ((IntKind.wrap .i64 ((m0 : Int) - 1)) - 1))) ∧
 (((IntKind.wrap .i64 ((IntKind.wrap .i64 ((m0 : Int) - 1)) - 1)) : Int) < (k6 : Int)) ∧
 aE A5 fun eD eu =>
 rI M4 k8 ((k9 + ((Int.toNat (IntKind.wrap .i64 ((m0 : Int) - 1))) * 11)) + 10) fun gZ =>
 (0 ≤ gZ) ∧
 (gZ < 8) ∧
 sT M4 eD (((eu + ((Int.toNat (IntKind.wrap .i64 ((IntKind.wrap .i64 ((m0 : Int) - 1)) - 1))) * 11)) + 2) + (Int.toNat gZ)) (iV x1) fun lu =>
 K (.tuple #[(.slice A5 k6 k7), (.bool true)]) lu) Kp)) :
 ae Tryz.prog 141 #[.slice B0 m0 c0, .int .i64 x1] M K Kp := vw [(5, .bH [0, 0, 2, 0, 0, 24, 56, 120, 0, 7, 519, 2047, 4095] (sy [0, 1, 2, 3, 4, 5, 6, 8, 9, 10, 7, 11, 12] .done))] Tryz.func141 h
theorem sv {iM : Option Addr} {iN iO : Nat} {x1 : Int} (h :
aO M (cl [(.slice iM iN iO)] 251) fun k1 M2 =>
aO M2 wN fun k3 M4 =>
rS M4 k1 0 fun A5 k6 k7 =>
rS M4 k1 0 fun A8 k9 eD =>
aO M4 (cl [] 3) fun eu wm =>
(True) ∧
aA 38 (some ⟨eu, 0, none⟩) 0 0 A5 k6 k7 wm (fun JT qh =>
aF (some JT) fun oQ fq fO =>
eS qh k1 0 A8 k9 eD ∧
aO qh (cl [(iV x1)] 3) fun fm mW =>
aA 38 oQ fq fO (some ⟨fm, 0, none⟩) 1 1 mW (fun v20 jD =>
aF (some v20) fun K2 gI nM =>
eS jD k1 0 A8 k9 eD ∧
sT jD k3 0 (.slice K2 gI nM) fun qk =>
eS qk k1 0 A8 k9 eD ∧
rS qk k3 0 fun WQ kF gS =>
K (.tuple #[(.agg #[(.slice WQ kF gS)]), (.bool ((k9 : Int) == 0))]) qk) Kp) Kp) :
 ae Tryz.prog 149 #[.agg #[.slice iM iN iO], .int .i64 x1] M K Kp := vw [(1, .bH [0, 0, 2, 7, 0, 16, 63, 127, 0, 256, 768, 1792, 255, 8191] (sy [1, 4, 8, 2] (.cQ 9 (sy [10, 11, 0] (.late 3 (sy [5, 6, 7, 12, 13] .done))))))] Tryz.func149 h
theorem sw {iM : Option Addr} {iN iO : Nat} {x1 : Int} (h :
aO M (cl [(.slice iM iN iO)] 251) fun k1 M2 =>
aO M2 wN fun k3 M4 =>
rS M4 k1 0 fun A5 k6 k7 =>
aM ((k6 : Int) == 0)
 (rS M4 k1 0 fun A8 k9 eD =>
 sT M4 k3 0 (.slice A8 k9 eD) fun iL =>
 rS iL k3 0 fun mX eA fz =>
 K (.tuple #[(.agg #[(.slice mX eA fz)]), (iV (-1)), (iV 5)]) iL)
 (rS M4 k1 0 fun oQ fq fO =>
 ((0 : Int) ≤ 0) ∧
 ((0 : Int) < fq) ∧
 aE oQ fun fm jC =>
 rI M4 fm (jC + 0) fun gC =>
 aM (gC != x1)
 (rS M4 k1 0 fun CM gf gI =>
 sT M4 k3 0 (.slice CM gf gI) fun ny =>
 rS ny k3 0 fun CL gH kF =>
 K (.tuple #[(.agg #[(.slice CL gH kF)]), (iV (-1)), (iV 5)]) ny)
 (rS M4 k1 0 fun zW gi jc =>
 aM ((gi : Int) == 1)
 (sT M4 k3 0 (.slice none 0 0) fun ud =>
 rS ud k3 0 fun A32 lg mK =>
 K (.tuple #[(.agg #[(.slice A32 lg mK)]), (iV (-1)), (iV 0)]) ud)
 (rS M4 k1 0 fun QN nP pC =>
 ((0 : Int) ≤ pC) ∧
 ((pC : Int) ≤ pC) ∧
 ((0 : Int) ≤ nP) ∧
 ((nP : Int) ≤ pC) ∧
 ((0 : Int) ≤ 1) ∧
 ((1 : Int) ≤ nP) ∧
 rS M4 k1 0 fun NP lH tY =>
 ((0 : Int) ≤ 1) ∧
 ((1 : Int) < lH) ∧
 aE NP fun mP jO =>
 rI M4 mP (jO + 1) fun xL =>
 aO M4 (cl [] 3) fun ym Im =>
 bj Tryz.prog (Go.Builtin.append_ #[38, 38] 38 #[(.slice (some ⟨ym, 0, none⟩) 0 0), (.slice (iZ QN 1 (Int.toNat (pC : Int)) 1) ((Int.toNat (nP : Int)) - 1) ((Int.toNat (pC : Int)) - 1))]) Im (fun WR wT =>
 aF (some WR) fun NW nC vt =>
 ((Mem.ld wT ⟨mP, (jO + 1), none⟩) = (some (iV xL))) ∧
 eS wT k1 0 NP lH tY ∧
 sT wT k3 0 (.slice NW nC vt) fun AA =>
 ((Mem.ld AA ⟨mP, (jO + 1), none⟩) = (some (iV xL))) ∧
 eS AA k1 0 NP lH tY ∧
 rS AA k3 0 fun HV kL wq =>
 K (.tuple #[(.agg #[(.slice HV kL wq)]), (iV xL), (iV 0)]) AA) Kp)))) :
 ae Tryz.prog 150 #[.agg #[.slice iM iN iO], .int .i64 x1] M K Kp := vw [(5, .bH [0, 0, 2, 6, 15, 31, 0, 64, 192, 448, 63, 2047, 4095] (sy [1, 6, 2, 3] (.cQ 7 (sy [8] (.cQ 9 (sy [0, 4, 5, 10, 11, 12] .done))))))] Tryz.func150 h
theorem sA {iM : Option Addr} {iN iO : Nat} {wS : Int} {x1 : Int} (h :
aO M (cl [(.slice iM iN iO), (.int .u64 wS)] 79) fun k1 M2 =>
aO M2 E7 fun k3 M4 =>
∃ I5 : IT, (∃ k6, I5 k6 [(iV 0)] M4) ∧
∀ (k7 : Nat) (_ : Nat → Value) (n9 : Int) (mO : Mem), (I5 k7 [(iV n9)] mO) → rS mO k1 0 fun Fu gF eA =>
aM (decide (n9 < gF))
 (rS mO k1 0 fun ua ju fq =>
 (0 ≤ n9) ∧
 (n9 < ju) ∧
 aE ua fun fO fm =>
 rU mO fO (fm + ((Int.toNat n9) * 3)) fun nN =>
 aM (decide (nN ≤ x1))
 (∃ fQ : Nat, (fQ < k7) ∧
 I5 fQ [(iV (IntKind.wrap .i64 (n9 + 1)))] mO)
 (rS mO k1 0 fun CM gf gI =>
 ((0 : Int) ≤ gI) ∧
 ((gI : Int) ≤ gI) ∧
 ((0 : Int) ≤ gf) ∧
 ((gf : Int) ≤ gI) ∧
 (0 ≤ n9) ∧
 (n9 ≤ gf) ∧
 rU mO k1 1 fun pY =>
 rS mO k1 0 fun CL gH kF =>
 ((0 : Int) ≤ kF) ∧
 ((kF : Int) ≤ kF) ∧
 (0 ≤ n9) ∧
 (n9 ≤ kF) ∧
 ((0 : Int) ≤ 0) ∧
 (0 ≤ n9) ∧
 aO mO (cl [] 241) fun gS pz =>
 bj Tryz.prog (Go.Builtin.append_ #[77, 77] 77 #[(.slice (some ⟨gS, 0, none⟩) 0 0), (.slice (iZ CM (Int.toNat n9) (Int.toNat (gI : Int)) 3) ((Int.toNat (gf : Int)) - (Int.toNat n9)) ((Int.toNat (gI : Int)) - (Int.toNat n9)))]) pz (fun v30 ud =>
 aF (some v30) fun A32 lg mK =>
 eS ud k1 0 CL gH kF ∧
 ((Mem.ld ud ⟨k1, 1, none⟩) = (some (.int .u64 pY))) ∧
 RN ud k3 (.slice A32 lg mK) (.int .u64 pY) fun pA =>
 eS pA k1 0 CL gH kF ∧
 ((Mem.ld pA ⟨k1, 1, none⟩) = (some (.int .u64 pY))) ∧
 rSU pA k3 0 fun z6 fB lH nQ =>
 K (.tuple #[(.agg #[(.slice z6 fB lH), (.int .u64 nQ)]), (.slice (iZ CL 0 (Int.toNat (kF : Int)) 3) ((Int.toNat n9) - 0) ((Int.toNat (kF : Int)) - 0))]) pA) Kp))
 (rS mO k1 0 fun O2 jO jF =>
 ((0 : Int) ≤ jF) ∧
 ((jF : Int) ≤ jF) ∧
 ((0 : Int) ≤ jO) ∧
 ((jO : Int) ≤ jF) ∧
 (0 ≤ n9) ∧
 (n9 ≤ jO) ∧
 rU mO k1 1 fun yA =>
 rS mO k1 0 fun K0 mV j9 =>
 ((0 : Int) ≤ j9) ∧
 ((j9 : Int) ≤ j9) ∧
 (0 ≤ n9) ∧
 (n9 ≤ j9) ∧
 ((0 : Int) ≤ 0) ∧
 (0 ≤ n9) ∧
 aO mO (cl [] 241) fun yx wQ =>
 bj Tryz.prog (Go.Builtin.append_ #[77, 77] 77 #[(.slice (some ⟨yx, 0, none⟩) 0 0), (.slice (iZ O2 (Int.toNat n9) (Int.toNat (jF : Int)) 3) ((Int.toNat (jO : Int)) - (Int.toNat n9)) ((Int.toNat (jF : Int)) - (Int.toNat n9)))]) wQ (fun v50 AA =>
 aF (some v50) fun HV kL wq =>
 eS AA k1 0 K0 mV j9 ∧
 ((Mem.ld AA ⟨k1, 1, none⟩) = (some (.int .u64 yA))) ∧
 RN AA k3 (.slice HV kL wq) (.int .u64 yA) fun JX =>
 eS JX k1 0 K0 mV j9 ∧
 ((Mem.ld JX ⟨k1, 1, none⟩) = (some (.int .u64 yA))) ∧
 rSU JX k3 0 fun QH D2 AB vp =>
 K (.tuple #[(.agg #[(.slice QH D2 AB), (.int .u64 vp)]), (.slice (iZ K0 0 (Int.toNat (j9 : Int)) 3) ((Int.toNat n9) - 0) ((Int.toNat (j9 : Int)) - 0))]) JX) Kp)) :
 ae Tryz.prog 108 #[.agg #[.slice iM iN iO, .int .u64 wS], .int .u64 x1] M K Kp := vw [(2000000, .loop [(6, .c (.int .i64))]), (4, .bH [0, 0, 2, 0, 14, 31, 0, 64, 255, 0, 512, 0, 3584, 511, 16383] (sy [1, 3, 6, 9, 11, 2, 4] (.cQ 7 (.cQ 10 (sy [12, 0, 5, 8, 13, 14] .done)))))] Tryz.func108 h
theorem sB {iM : Option Addr} {iN iO : Nat} {wS : Int} {x1 : Int} {x2 : Int} (h :
aO M (cl [(.slice iM iN iO), (.int .u64 wS)] 79) fun k1 M2 =>
aO M2 E7 fun k3 M4 =>
aO M4 (cl [] 241) fun k5 M6 =>
rU M6 k1 1 fun n7 =>
aO M6 tj fun k8 M9 =>
pb M9 k8 (.int .u64 x1) (.int .u64 n7) (iV x2) fun wm =>
rS wm k1 0 fun zu fz ju =>
∃ WO : IT, (∃ fO, WO fO [(.slice (some ⟨k5, 0, none⟩) 0 0), (.bool false), (iV 0)] wm) ∧
∀ (fm : Nat) (_ : Nat → Value) (WC : Option Addr) (lz : Nat) (gf : Nat) (t23 : Bool) (pY : Int) (qk : Mem), (WO fm [(.slice WC lz gf), (.bool t23), (iV pY)] qk) → aM (decide (pY < fz))
 ((0 ≤ pY) ∧
 (pY < fz) ∧
 aE zu fun gH kF =>
 OZ qk gH (kF + ((Int.toNat pY) * 3)) fun JV yu w6 =>
 aO qk tj fun iH mJ =>
 pb mJ iH (.int .u64 JV) (.int .u64 yu) (iV w6) fun u7 =>
 aM (!t23)
 (rU u7 iH 0 fun tC =>
 aM (decide (tC > x1))
 (rU u7 k8 0 fun xK =>
 rU u7 k8 1 fun mo =>
 rI u7 k8 2 fun yl =>
 aO u7 (cl [(.int .u64 xK), (.int .u64 mo), (iV yl)] 241) fun tY BF =>
 aA 77 WC lz gf (some ⟨tY, 0, none⟩) 1 1 BF (fun v42 wV =>
 aF (some v42) fun GW zq mV =>
 OZ wV iH 0 fun CX Fw Pe =>
 aO wV (cl [(.int .u64 CX), (.int .u64 Fw), (iV Pe)] 241) fun vt AA =>
 aA 77 GW zq mV (some ⟨vt, 0, none⟩) 1 1 AA (fun WE K4 =>
 aF (some WE) fun A54 WI xM =>
 ∃ wU : Nat, (wU < fm) ∧
 WO wU [(.slice A54 WI xM), (.bool true), (iV (IntKind.wrap .i64 (pY + 1)))] K4) Kp) Kp)
 (rU u7 iH 0 fun CW =>
 rU u7 iH 1 fun HU =>
 rI u7 iH 2 fun vp =>
 aO u7 (cl [(.int .u64 CW), (.int .u64 HU), (iV vp)] 241) fun tB NQ =>
 aA 77 WC lz gf (some ⟨tB, 0, none⟩) 1 1 NQ (fun BA qJ =>
 aF (some BA) fun QK HY G2 =>
 ∃ NT : Nat, (NT < fm) ∧
 WO NT [(.slice QK HY G2), (.bool t23), (iV (IntKind.wrap .i64 (pY + 1)))] qJ) Kp))
 (rU u7 iH 0 fun KP =>
 rU u7 iH 1 fun Ir =>
 rI u7 iH 2 fun VR =>
 aO u7 (cl [(.int .u64 KP), (.int .u64 Ir), (iV VR)] 241) fun G3 Iv =>
 aA 77 WC lz gf (some ⟨G3, 0, none⟩) 1 1 Iv (fun v74 SB =>
 aF (some v74) fun A76 zZ C4 =>
 ∃ NU : Nat, (NU < fm) ∧
 WO NU [(.slice A76 zZ C4), (.bool t23), (iV (IntKind.wrap .i64 (pY + 1)))] SB) Kp))
 (aM (!t23)
 (rU qk k8 0 fun G0 =>
 rU qk k8 1 fun QS =>
 rI qk k8 2 fun VN =>
 aO qk (cl [(.int .u64 G0), (.int .u64 QS), (iV VN)] 241) fun xN Zb =>
 aA 77 WC lz gf (some ⟨xN, 0, none⟩) 1 1 Zb (fun TF M86 =>
 aF (some TF) fun A87 Sz Sp =>
 rU M86 k1 1 fun zz =>
 RN M86 k3 (.slice A87 Sz Sp) (.int .u64 (IntKind.wrap .u64 (zz + 1))) fun M92 =>
 rSU M92 k3 0 fun QO HZ K6 Sa =>
 K (.agg #[(.slice QO HZ K6), (.int .u64 Sa)]) M92) Kp)
 (rU qk k1 1 fun n97 =>
 RN qk k3 (.slice WC lz gf) (.int .u64 (IntKind.wrap .u64 (n97 + 1))) fun M99 =>
 rSU M99 k3 0 fun Pn C7 z7 n103 =>
 K (.agg #[(.slice Pn C7 z7), (.int .u64 n103)]) M99))) :
 ae Tryz.prog 148 #[.agg #[.slice iM iN iO, .int .u64 wS], .int .u64 x1, .int .i64 x2] M K Kp := vw [(2000000, .loop [(7, .c .sl), (9, .c .bool), (21, .c (.int .i64))])] Tryz.func148 h
end Go.Proofs
namespace Go.Proofs
open Go.AF
set_option maxRecDepth 100000
theorem sC {B0 : Option Addr} {m0 c0 : Nat} {B1 : Option Addr} {m1 c1 : Nat} {M : Mem} {K : Value → Mem → Prop} {Kp : List PanicEntry → Mem → Prop} (h :
aM ((m0 : Int) != (m1 : Int))
 (K (iV (-1)) M)
 (∃ I1 : IT, (∃ k2, I1 k2 [(iV 0)] M) ∧
 ∀ (k3 : Nat) (_ : Nat → Value) (n5 : Int) (M6 : Mem), (I1 k3 [(iV n5)] M6) → aM (decide (n5 < m1))
 ((0 ≤ n5) ∧
 (n5 < m0) ∧
 aE B0 fun k7 k8 =>
 (0 ≤ n5) ∧
 (n5 < m1) ∧
 aE B1 fun k9 eD =>
 rI M6 k7 (k8 + (Int.toNat n5)) fun kY =>
 rI M6 k9 (eD + (Int.toNat n5)) fun gZ =>
 aM (kY != gZ)
 (K (iV (-1)) M6)
 (∃ eA : Nat, (eA < k3) ∧
 I1 eA [(iV (IntKind.wrap .i64 (n5 + 1)))] M6))
 (K (iV 0) M6))) :
 ae Tryz.prog 26 #[.slice B0 m0 c0, .slice B1 m1 c1] M K Kp := vw [(2000000, .loop [(13, .c (.int .i64))]), (6, .bH [0, 0, 3, 7, 0, 0, 48, 112, 255] (sy [0, 1, 2, 4, 5, 6, 3, 7, 8] .done))] Tryz.func26 h
end Go.Proofs
namespace Go.Proofs
open Go.AF
set_option maxRecDepth 100000
set_option maxHeartbeats 1000000
attribute [local irreducible] bF dG fa dP aF eY aE b7 aO bj bJ aM
theorem vO {A B : Option Addr} {m n ca cb : Nat} {l : List Int} {R : Mem} {L : List HP} {M : Mem} {K : Value → Mem → Prop} {Kp : List PanicEntry → Mem → Prop} (h : Hp R L M) (hA : Src R L A (bR.cells l)) (hB : Src R L B (bR.cells l)) (hm : m = l.length) (hn : n = l.length) (hs : l.length ≤ 1000000000) (k : ∀ M', Hp R L M' → K (.int .i64 0) M') :
  ae Tryz.prog 26 #[.slice A m ca, .slice B n cb] M K Kp := by
 subst hm
 subst hn
 refine sC ?_
 refine dJ.2 ⟨fun hn => absurd rfl hn, fun _ => ?_⟩
 refine ⟨fun d vs M => ∃ i : Nat, vs = [.int .i64 (i : Int)] ∧ d = l.length - i ∧ i ≤ l.length ∧ Hp R L M, ⟨_, 0, rfl, rfl, by omega, h⟩, ?_⟩
 clear h
 rintro d _ ii M ⟨i, he, hd, hi, h⟩
 simp only [List.cons.injEq, Value.int.injEq, and_true, true_and] at he
 subst he
 refine aH.2 ⟨fun hlt => ?_, fun hge => k _ h⟩
 obtain ⟨w, hw⟩ := aL (l := l) (i := i) (by omega)
 obtain ⟨b, o, rfl⟩ := hA.iK h (by omega) (by decide)
 obtain ⟨b', o', rfl⟩ := hB.iK h (by omega) (by decide)
 repeat (first|(refine ai h ?_;clear h;intro kb M h)|(refine ak h ?_;clear h;intro M h)|refine St.to h ?_|(apply Exists.intro;(repeat apply Exists.intro);refine And.intro rfl ?_)|refine ay ?_|refine aq ?_|refine au ?_)
 refine aj (hA.at h (j := 0) hw rfl (by simp [bR])) ?_
 refine aj (hB.at h (j := 0) hw rfl (by simp [bR])) ?_
 refine aD (by simp) ?_
 rw [aS (by omega)]
 exact ⟨l.length - (i + 1), by omega, i + 1, rfl, rfl, by omega, h⟩
end Go.Proofs
namespace Go.Proofs
open Go.AF
set_option maxRecDepth 100000
variable {M : Mem} {K : Value → Mem → Prop} {Kp : List PanicEntry → Mem → Prop}
theorem sD {B0 : Option Addr} {m0 c0 : Nat} {B1 : Option Addr} {m1 c1 : Nat} (h :
aM ((m0 : Int) != (m1 : Int))
 (K (iV (-1)) M)
 (∃ I1 : IT, (∃ k2, I1 k2 [(iV 0)] M) ∧
 ∀ (k3 : Nat) (_ : Nat → Value) (n5 : Int) (M6 : Mem), (I1 k3 [(iV n5)] M6) → aM (decide (n5 < m1))
 ((0 ≤ n5) ∧
 (n5 < m1) ∧
 aE B1 fun k7 k8 =>
 aY M6 k7 (k8 + ((Int.toNat n5) * 11)) fun n9 dI kY gZ mY jA kX nZ kN kM nN =>
 aO M6 c7 fun fQ jD =>
 pg jD fQ (iV n9) (iV dI) (iV kY) (iV gZ) (iV mY) (iV jA) (iV kX) (iV nZ) (iV kN) (iV kM) (iV nN) fun mJ =>
 (0 ≤ n5) ∧
 (n5 < m0) ∧
 aE B0 fun lg mK =>
 aY mJ lg (mK + ((Int.toNat n5) * 11)) fun yz tC xK mo yl nQ zA BH xL yA ue =>
 aY mJ fQ 0 fun Ij CX Fw Pe Ft CN Sw K3 vz J5 J4 =>
 aM (!((yz == Ij) && ((tC == CX) && (((xK == Fw) && ((mo == Pe) && ((yl == Ft) && ((nQ == CN) && ((zA == Sw) && ((BH == K3) && ((xL == vz) && ((yA == J5) && true)))))))) && ((ue == J4) && true)))))
 (K (iV (-1)) mJ)
 (∃ wU : Nat, (wU < k3) ∧
 I1 wU [(iV (IntKind.wrap .i64 (n5 + 1)))] mJ))
 (K (iV 0) M6))) :
 ae Tryz.prog 83 #[.slice B0 m0 c0, .slice B1 m1 c1] M K Kp := vw [(2000000, .loop [(14, .c (.int .i64))]), (6, .bH [0, 0, 3, 7, 0, 31] (sy [0, 1, 2, 3, 4, 5] .done))] Tryz.func83 h
theorem sE {b0 o0 : Nat} {y1 : List Value} (h :
aO M (.cells (y1.toArray) 81 (0, 0)) fun k1 M2 =>
ae Tryz.prog 60 #[(.pointer (some ⟨b0, o0, none⟩))] M2 (fun v3 M4 =>
∃ n5 n6 : Int, (v3 = (.tuple #[(iV n5), (iV n6)])) ∧
ae Tryz.prog 22 #[(.pointer (some ⟨b0, o0, none⟩))] M4 (fun v7 M8 =>
aF (some v7) fun A9 eD eu =>
rS M8 k1 4 fun mX eA fz =>
ae Tryz.prog 64 #[(.pointer (some ⟨b0, o0, none⟩))] M8 (fun Bu gh =>
bF (some Bu) .i64 fun kN =>
eS gh k1 4 mX eA fz ∧
aM (kN != (eA : Int))
 (eS gh k1 4 mX eA fz ∧
 eS gh k1 4 mX eA fz ∧
 eS gh k1 4 mX eA fz ∧
 K (iV (-1)) gh)
 (rI gh k1 11 fun kM =>
 aM (n5 != kM)
 (eS gh k1 4 mX eA fz ∧
 eS gh k1 4 mX eA fz ∧
 eS gh k1 4 mX eA fz ∧
 K (iV (-1)) gh)
 (rI gh k1 12 fun nN =>
 aM (n6 != nN)
 (eS gh k1 4 mX eA fz ∧
 eS gh k1 4 mX eA fz ∧
 eS gh k1 4 mX eA fz ∧
 K (iV (-1)) gh)
 (rU gh k1 5 fun gC =>
 ae Tryz.prog 81 #[(.pointer (some ⟨b0, o0, none⟩))] gh (fun Io c9 =>
 bF (some Io) .u64 fun nO =>
 ((Mem.ld c9 ⟨k1, 5, none⟩) = (some (.int .u64 gC))) ∧
 eS c9 k1 4 mX eA fz ∧
 aM (nO != gC)
 (((Mem.ld c9 ⟨k1, 5, none⟩) = (some (.int .u64 gC))) ∧
 eS c9 k1 4 mX eA fz ∧
 ((Mem.ld c9 ⟨k1, 5, none⟩) = (some (.int .u64 gC))) ∧
 eS c9 k1 4 mX eA fz ∧
 K (iV (-1)) c9)
 (rS c9 k1 10 fun CK jE gH =>
 aM ((eD : Int) != (jE : Int))
 (((Mem.ld c9 ⟨k1, 5, none⟩) = (some (.int .u64 gC))) ∧
 eS c9 k1 4 mX eA fz ∧
 ((Mem.ld c9 ⟨k1, 5, none⟩) = (some (.int .u64 gC))) ∧
 eS c9 k1 4 mX eA fz ∧
 K (iV (-1)) c9)
 (rS c9 k1 0 fun BE gS gi =>
 rS c9 k1 1 fun yp iH ie =>
 rI c9 k1 2 fun kK =>
 rS c9 k1 3 fun D6 ku nP =>
 rS c9 k1 4 fun z6 fB lH =>
 rU c9 k1 5 fun nQ =>
 rS c9 k1 6 fun O2 jO jF =>
 rS c9 k1 7 fun GW zq mV =>
 rS c9 k1 8 fun WH yx nC =>
 rU c9 k1 9 fun Ft =>
 rS c9 k1 10 fun JU tv kL =>
 rI c9 k1 11 fun vz =>
 rI c9 k1 12 fun J5 =>
 rS c9 k1 13 fun A56 wU D2 =>
 ae Tryz.prog 44 #[(.pointer (some ⟨b0, o0, none⟩))] c9 (fun K5 QI =>
 dG (some K5) fun t61 =>
 eW QI k1 BE gS gi yp iH ie kK D6 ku nP z6 fB lH nQ O2 jO jF GW zq mV WH yx nC Ft JU tv kL vz J5 A56 wU D2 ∧
 ((Mem.ld QI ⟨k1, 5, none⟩) = (some (.int .u64 gC))) ∧
 eS QI k1 4 mX eA fz ∧
 ae Tryz.prog 82 #[(.agg #[(.slice BE gS gi), (.slice yp iH ie), (iV kK), (.slice D6 ku nP), (.slice z6 fB lH), (.int .u64 nQ), (.slice O2 jO jF), (.slice GW zq mV), (.slice WH yx nC), (.int .u64 Ft), (.slice JU tv kL), (iV vz), (iV J5), (.slice A56 wU D2)])] QI (fun Fp Fe =>
 dG (some Fp) fun t64 =>
 eW Fe k1 BE gS gi yp iH ie kK D6 ku nP z6 fB lH nQ O2 jO jF GW zq mV WH yx nC Ft JU tv kL vz J5 A56 wU D2 ∧
 ((Mem.ld Fe ⟨k1, 5, none⟩) = (some (.int .u64 gC))) ∧
 eS Fe k1 4 mX eA fz ∧
 aM (!(t61 == t64))
 (K (iV (-1)) Fe)
 (rS Fe k1 10 fun QK HY G2 =>
 ∃ I68 : IT, (∃ VU, I68 VU [(iV 0)] Fe) ∧
 ∀ (D8 : Nat) (_ : Nat → Value) (Il : Int) (Iv : Mem), (I68 D8 [(iV Il)] Iv) → aM (decide (Il < HY))
 ((0 ≤ Il) ∧
 (Il < HY) ∧
 aE QK fun G5 Pf =>
 rI Iv G5 (Pf + (Int.toNat Il)) fun Wu =>
 (0 ≤ Il) ∧
 (Il < eD) ∧
 aE A9 fun zZ C4 =>
 rI Iv zZ (C4 + (Int.toNat Il)) fun Tg =>
 aM (Tg != Wu)
 (K (iV (-1)) Iv)
 (∃ Fk : Nat, (Fk < D8) ∧
 I68 Fk [(iV (IntKind.wrap .i64 (Il + 1)))] Iv))
 (rS Iv k1 4 fun Sf zX xN =>
 ∃ I84 : IT, (∃ QL, I84 QL [(iV 0)] Iv) ∧
 ∀ (N0 : Nat) (_ : Nat → Value) (J3 : Int) (J1 : Mem), (I84 N0 [(iV J3)] J1) → aM (decide (J3 < zX))
 ((0 ≤ J3) ∧
 (J3 < zX) ∧
 aE Sf fun O9 Sh =>
 gL J1 O9 (Sh + ((Int.toNat J3) * 6)) fun CY QO HZ K6 Sa n97 n98 VV =>
 aO J1 gu fun qo uc =>
 RO uc qo (iV CY) (.slice QO HZ K6) (iV Sa) (iV n97) (iV n98) (iV VV) fun qp =>
 rI qp qo 0 fun qs =>
 ae Tryz.prog 65 #[(.pointer (some ⟨b0, o0, none⟩)), (iV J3)] qp (fun B6 IV =>
 bF (some B6) .i64 fun SR =>
 eI IV qo 0 qs ∧
 aM (SR != qs)
 (eI IV qo 0 qs ∧
 eI IV qo 0 qs ∧
 K (iV (-1)) IV)
 (rS IV qo 1 fun SC K7 KW =>
 ae Tryz.prog 84 #[(.pointer (some ⟨b0, o0, none⟩)), (iV J3)] IV (fun yR Db =>
 aF (some yR) fun K8 zY ir =>
 eS Db qo 1 SC K7 KW ∧
 eI Db qo 0 qs ∧
 ae Tryz.prog 83 #[(.slice K8 zY ir), (.slice SC K7 KW)] Db (fun Ge iS =>
 bF (some Ge) .i64 fun FC =>
 eS iS qo 1 SC K7 KW ∧
 eI iS qo 0 qs ∧
 aM (FC != 0)
 (K (iV (-1)) iS)
 (∃ Ps : Nat, (Ps < N0) ∧
 I84 Ps [(iV (IntKind.wrap .i64 (J3 + 1)))] iS)) Kp) Kp)) Kp)
 (rS J1 k1 6 fun A124 Iq Fz =>
 ∃ I127 : IT, (∃ Dc, I127 Dc [(iV 0)] J1) ∧
 ∀ (BO : Nat) (_ : Nat → Value) (xo : Int) (oz : Mem), (I127 BO [(iV xo)] oz) → aM (decide (xo < Iq))
 ((0 ≤ xo) ∧
 (xo < Iq) ∧
 aE A124 fun uI yL =>
 cI oz uI (yL + ((Int.toNat xo) * 5)) fun xg Mp Gc oy Mq BN FD A142 SJ Ae t145 =>
 aO oz cZ fun XL XK =>
 Bn XK XL (iV xg) (.slice Mp Gc oy) (.slice Mq BN FD) (.slice A142 SJ Ae) (.bool t145) fun Gf =>
 cI Gf XL 0 fun Lw Tj yM LL PY yF xp A160 Dm Lb t163 =>
 ae Tryz.prog 86 #[(.pointer (some ⟨b0, o0, none⟩)), (iV xo)] Gf (fun T3 FX =>
 ∃ A166 : Option Addr, ∃ F4 z8 : Nat, ∃ PZ : Option Addr, ∃ IU Dq : Nat, ∃ P0 : Option Addr, ∃ z9 IE : Nat, ∃ t175 : Bool, (T3 = (.agg #[(.slice A166 F4 z8), (.slice PZ IU Dq), (.slice P0 z9 IE), (.bool t175)])) ∧
 ((Mem.fT FX ⟨XL, 0, none⟩ 0 5) = some [(iV Lw), (.slice Tj yM LL), (.slice PY yF xp), (.slice A160 Dm Lb), (.bool t163)]) ∧
 ae Tryz.prog 85 #[(.agg #[(.slice A166 F4 z8), (.slice PZ IU Dq), (.slice P0 z9 IE), (.bool t175)]), (.agg #[(iV Lw), (.slice Tj yM LL), (.slice PY yF xp), (.slice A160 Dm Lb), (.bool t163)])] FX (fun v176 Mj =>
 bF (some v176) .i64 fun PO =>
 ((Mem.fT Mj ⟨XL, 0, none⟩ 0 5) = some [(iV Lw), (.slice Tj yM LL), (.slice PY yF xp), (.slice A160 Dm Lb), (.bool t163)]) ∧
 aM (PO != 0)
 (K (iV (-1)) Mj)
 (∃ Le : Nat, (Le < BO) ∧
 I127 Le [(iV (IntKind.wrap .i64 (xo + 1)))] Mj)) Kp) Kp)
 (rW oz k1 fun l180 =>
 ae Tryz.prog 87 #[(.pointer (some ⟨b0, o0, none⟩)), (.agg (l180.toArray))] oz (fun v181 vN =>
 bF (some v181) .i64 fun uN =>
 K (iV uN) vN) Kp))))) Kp) Kp))) Kp)))) Kp) Kp) Kp) :
 ae Tryz.prog 40 #[.pointer (some ⟨b0, o0, none⟩), .agg y1.toArray] M K Kp := vw [(3, .bH [0, 1, 0, 4, 12, 31, 63, 127, 127, 383, 1023, 2047, 4095, 8191, 8191, 24575, 65535, 131071, 262143, 524287, 1048575, 524287, 2621439, 8388607, 16777215, 33554431, 67108863, 134217727, 67108863, 335544319, 872415231, 2147483647, 4294967295, 8589934591, 17179869183, 34359738367, 17179869183, 137438953471, 274877906943, 549755813887] (sy [0, 2] (.cQ 3 (sy [4, 1, 5, 6, 7, 8, 9, 10, 11, 12, 13, 14, 15, 16, 17, 18, 19, 21] (.cQ 22 (sy [20, 23, 24, 25, 26, 27, 28, 29, 30, 31, 32, 33, 34] (.cQ 36 (sy [35, 37, 38, 39] .done)))))))), (2000000, .loop [(64, .c (.int .i64))]), (2000002, .loop [(79, .c (.int .i64))]), (14, .bH [0, 0, 3, 0, 8, 31, 63, 127, 127, 511, 127, 1151, 4095, 8191, 16383] (sy [0, 1, 3] (.cQ 4 (sy [2, 5, 6, 7, 8, 10] (.cQ 11 (sy [9, 12, 13, 14] .done)))))), (2000004, .loop [(103, .c (.int .i64))]), (20, .bH [0, 0, 3, 0, 15, 31] (sy [0, 1] (.cQ 3 (sy [2, 4, 5] .done))))] Tryz.func40 h
theorem sF {b0 o0 : Nat} {y1 : List Value} (h :
aO M (.cells (y1.toArray) 81 (0, 0)) fun k1 M2 =>
rS M2 k1 7 fun A3 k4 k5 =>
∃ I6 : IT, (∃ k7, I6 k7 [(iV 0)] M2) ∧
∀ (k8 : Nat) (_ : Nat → Value) (dI : Int) (iL : Mem), (I6 k8 [(iV dI)] iL) → aM (decide (dI < k4))
 ((0 ≤ dI) ∧
 (dI < k4) ∧
 aE A3 fun gF eA =>
 rS iL gF (eA + (Int.toNat dI)) fun ua ju fq =>
 aO iL wN fun fO mq =>
 sT mq fO 0 (.slice ua ju fq) fun mW =>
 ae Tryz.prog 118 #[(.pointer (some ⟨b0, o0, none⟩)), (iV dI)] mW (fun v20 jD =>
 ∃ wP : Int, ∃ O3 : Option Addr, ∃ nM jE : Nat, (v20 = (.tuple #[(iV wP), (.slice O3 nM jE)])) ∧
 rS jD fO 0 fun WQ kF gS =>
 aM ((kF : Int) == 0)
 (aM (wP != (-1))
 (K (iV (-1)) jD)
 (aM ((nM : Int) != 0)
 (K (iV (-1)) jD)
 (∃ gi : Nat, (gi < k8) ∧
 I6 gi [(iV (IntKind.wrap .i64 (dI + 1)))] jD)))
 (rS jD fO 0 fun yp iH ie =>
 ((0 : Int) ≤ 0) ∧
 ((0 : Int) < iH) ∧
 aE yp fun lg mK =>
 rI jD lg (mK + 0) fun yz =>
 aM (wP != yz)
 (K (iV (-1)) jD)
 (rS jD fO 0 fun A36 pC fB =>
 ((0 : Int) ≤ fB) ∧
 ((fB : Int) ≤ fB) ∧
 ((0 : Int) ≤ pC) ∧
 ((pC : Int) ≤ fB) ∧
 ((0 : Int) ≤ 1) ∧
 ((1 : Int) ≤ pC) ∧
 ae Tryz.prog 26 #[(.slice O3 nM jE), (.slice (iZ A36 1 (Int.toNat (fB : Int)) 1) ((Int.toNat (pC : Int)) - 1) ((Int.toNat (fB : Int)) - 1))] jD (fun v39 Fv =>
 bF (some v39) .i64 fun zA =>
 aM (zA != 0)
 (K (iV (-1)) Fv)
 (∃ jO : Nat, (jO < k8) ∧
 I6 jO [(iV (IntKind.wrap .i64 (dI + 1)))] Fv)) Kp))) Kp)
 (ae Tryz.prog 24 #[(.pointer (some ⟨b0, o0, none⟩))] iL (fun v43 qm =>
 aF (some v43) fun K0 mV j9 =>
 rS qm k1 8 fun NW nC vt =>
 aM ((mV : Int) != (nC : Int))
 (K (iV (-1)) qm)
 (rS qm k1 8 fun JU tv kL =>
 ∃ I54 : IT, (∃ WI, I54 WI [(iV 0)] qm) ∧
 ∀ (xM : Nat) (_ : Nat → Value) (CW : Int) (eM : Mem), (I54 xM [(iV CW)] eM) → aM (decide (CW < tv))
 ((0 ≤ CW) ∧
 (CW < tv) ∧
 aE JU fun KO tB =>
 OZ eM KO (tB + ((Int.toNat CW) * 3)) fun n62 n63 n64 =>
 aO eM tj fun So NX =>
 pb NX So (.int .u64 n62) (.int .u64 n63) (iV n64) fun N1 =>
 (0 ≤ CW) ∧
 (CW < mV) ∧
 aE K0 fun D8 Fj =>
 OZ N1 D8 (Fj + ((Int.toNat CW) * 3)) fun Il O6 n74 =>
 OZ N1 So 0 fun RX Wu RY =>
 aM (!((Il == RX) && ((O6 == Wu) && ((n74 == RY) && true))))
 (K (iV (-1)) N1)
 (∃ C4 : Nat, (C4 < xM) ∧
 I54 C4 [(iV (IntKind.wrap .i64 (CW + 1)))] N1))
 (K (iV 0) eM))) Kp)) :
 ae Tryz.prog 87 #[.pointer (some ⟨b0, o0, none⟩), .agg y1.toArray] M K Kp := vw [(2000000, .loop [(15, .c (.int .i64))]), (2000002, .loop [(65, .c (.int .i64))]), (17, .bH [0, 0, 3, 7, 0, 31] (sy [0, 1, 2, 3, 4, 5] .done))] Tryz.func87 h
theorem sG {b0 o0 : Nat} {y1 : List Value} {q2_0 : Bool} {rq : Int} {om : Int} (h :
aO M (.cells (y1.toArray) 81 (0, 0)) fun k1 M2 =>
aO M2 (cl [(.bool q2_0), (iV rq), (iV om)] 106) fun k3 M4 =>
aO M4 aK fun k5 M6 =>
rB M6 k3 0 fun t7 =>
aM t7
 (rW M6 k1 fun l8 =>
 ae Tryz.prog 76 #[(.agg (l8.toArray))] M6 (fun v9 mO =>
 xW v9 fun v11 GV JT WD Bu Ii Sx Fc Pj v20 Io KG v23 v24 =>
 aO mO aK fun jE xO =>
 dO xO jE 0 [v11, GV, JT, WD, Bu, Ii, Sx, Fc, Pj, v20, Io, KG, v23, v24] 14 fun mZ =>
 kZ mZ jE 0 fun zW gi jc HT ie lg u6 QN nP pC NP lH tY zA Ff jF ym K0 mV j9 NW nC vt CN HV kL wq J5 J4 QH D2 AB =>
 rS mZ jE 13 fun VQ tB BC =>
 ae Tryz.prog 43 #[(.pointer (some ⟨b0, o0, none⟩))] mZ (fun BA qJ =>
 aF (some BA) fun QK HY G2 =>
 eS qJ jE 13 VQ tB BC ∧
 eW qJ jE zW gi jc HT ie lg u6 QN nP pC NP lH tY zA Ff jF ym K0 mV j9 NW nC vt CN HV kL wq J5 J4 QH D2 AB ∧
 ae Tryz.prog 26 #[(.slice QK HY G2), (.slice VQ tB BC)] qJ (fun Mc N1 =>
 bF (some Mc) .i64 fun Ir =>
 eS N1 jE 13 VQ tB BC ∧
 eW N1 jE zW gi jc HT ie lg u6 QN nP pC NP lH tY zA Ff jF ym K0 mV j9 NW nC vt CN HV kL wq J5 J4 QH D2 AB ∧
 Z7 N1 k5 zW gi jc HT ie lg u6 QN nP pC NP lH tY zA Ff jF ym K0 mV j9 NW nC vt CN HV kL wq J5 J4 QH D2 AB fun Da =>
 eS Da jE 13 VQ tB BC ∧
 eW Da jE zW gi jc HT ie lg u6 QN nP pC NP lH tY zA Ff jF ym K0 mV j9 NW nC vt CN HV kL wq J5 J4 QH D2 AB ∧
 rW Da k5 fun Xj =>
 K (.tuple #[(.agg (Xj.toArray)), (.bool (Ir == 0))]) Da) Kp) Kp) Kp)
 (rI M6 k3 2 fun O6 =>
 aO M6 Y6 fun G5 SB =>
 sT SB G5 0 (iV (IntKind.wrap .i64 (((Nat.bitwise and (BitVec.ofInt IntKind.i64.bits O6).toNat (BitVec.ofInt IntKind.i64.bits 65535).toNat) : Nat) : Int))) fun Ww =>
 aO Ww Y6 fun zZ M78 =>
 sT M78 zZ 0 (iV 0) fun Xf =>
 rI Xf k3 1 fun G0 =>
 rS Xf k1 4 fun Sf zX xN =>
 aM (decide (G0 ≥ 0))
 (∃ J84 : List Value → Mem → Prop, (aM (decide ((zX : Int) > 0))
 (∃ I85 : IT, (∃ N0, I85 N0 [(iV G0), (iV 0)] Xf) ∧
 ∀ (KT : Nat) (_ : Nat → Value) (G6 : Int) (zz : Int) (oa : Mem), (I85 KT [(iV G6), (iV zz)] oa) → aM (decide (zz < zX))
 (rI oa k3 1 fun CY =>
 ((zX : Int) ≠ 0) ∧
 rS oa k1 4 fun QO HZ K6 =>
 ((0 : Int) ≤ (Int.tmod (IntKind.wrap .i64 ((IntKind.wrap .i64 (((Nat.bitwise and (BitVec.ofInt IntKind.i64.bits CY).toNat (BitVec.ofInt IntKind.i64.bits 65535).toNat) : Nat) : Int)) + zz)) (zX : Int))) ∧
 (((Int.tmod (IntKind.wrap .i64 ((IntKind.wrap .i64 (((Nat.bitwise and (BitVec.ofInt IntKind.i64.bits CY).toNat (BitVec.ofInt IntKind.i64.bits 65535).toNat) : Nat) : Int)) + zz)) (zX : Int)) : Int) < (HZ : Int)) ∧
 aE QO fun WK KQ =>
 rI oa WK (KQ + ((Int.toNat (Int.tmod (IntKind.wrap .i64 ((IntKind.wrap .i64 (((Nat.bitwise and (BitVec.ofInt IntKind.i64.bits CY).toNat (BitVec.ofInt IntKind.i64.bits 65535).toNat) : Nat) : Int)) + zz)) (zX : Int))) * 6)) fun n98 =>
 aM (n98 == 1)
 (J84 [(iV (Int.tmod (IntKind.wrap .i64 ((IntKind.wrap .i64 (((Nat.bitwise and (BitVec.ofInt IntKind.i64.bits CY).toNat (BitVec.ofInt IntKind.i64.bits 65535).toNat) : Nat) : Int)) + zz)) (zX : Int)))] oa)
 (∃ QM : Nat, (QM < KT) ∧
 I85 QM [(iV G6), (iV (IntKind.wrap .i64 (zz + 1)))] oa))
 (J84 [(iV G6)] oa))
 (J84 [(iV G0)] Xf)) ∧
 ∀ junk100 : Nat → Value, ∀ vu : Int, ∀ H6 : Mem, (J84 [(iV vu)] H6) → ae Tryz.prog 41 #[(.pointer (some ⟨b0, o0, none⟩)), (iV vu), (.func (.func 77) #[] #[(.pointer (some ⟨zZ, 0, none⟩)), (.pointer (some ⟨G5, 0, none⟩))])] H6 (fun yP yE =>
 ∃ t105 : Bool, ∃ A106 : Option Addr, ∃ Ah Pc : Nat, (yP = (.agg #[(.bool t105), (.slice A106 Ah Pc)])) ∧
 aO yE qY fun Fm IV =>
 RN IV Fm (.bool t105) (.slice A106 Ah Pc) fun nB =>
 rW nB k1 fun l113 =>
 rI nB G5 0 fun Fh =>
 ae Tryz.prog 78 #[(.agg (l113.toArray)), (iV vu), (iV Fh)] nB (fun yR Db =>
 ∃ l117 : List Value, ((l117.length) = 14) ∧
 ∃ t118 : Bool, (yR = (.tuple #[(.agg (l117.toArray)), (.bool t118)])) ∧
 aO Db aK fun ir Mn =>
 dO Mn ir 0 l117 14 fun iS =>
 rB iS Fm 0 fun t122 =>
 aM (t122 == t118)
 (rS iS Fm 1 fun A123 k124 Iq =>
 rS iS ir 13 fun A126 Ib Dc =>
 kZ iS ir 0 fun Ul Ds Dd Um uI yL xg Mp Gc oy Mq BN FD yJ Un Ae Uo Is BP FE Up Dl Uq uM LP FG yM Gg Mo Ur xp rR =>
 ae Tryz.prog 26 #[(.slice A123 k124 Iq), (.slice A126 Ib Dc)] iS (fun T0 PV =>
 bF (some T0) .i64 fun Lx =>
 eW PV ir Ul Ds Dd Um uI yL xg Mp Gc oy Mq BN FD yJ Un Ae Uo Is BP FE Up Dl Uq uM LP FG yM Gg Mo Ur xp rR ∧
 aM (Lx == 0)
 (rI PV zZ 0 fun ID =>
 Z7 PV k5 Ul Ds Dd Um uI yL xg Mp Gc oy Mq BN FD yJ Un Ae Uo Is BP FE Up Dl Uq uM LP FG yM Gg Mo Ur xp rR fun FX =>
 eI FX zZ 0 ID ∧
 eW FX ir Ul Ds Dd Um uI yL xg Mp Gc oy Mq BN FD yJ Un Ae Uo Is BP FE Up Dl Uq uM LP FG yM Gg Mo Ur xp rR ∧
 rW FX k5 fun l166 =>
 K (.tuple #[(.agg (l166.toArray)), (.bool (decide (ID < 2)))]) FX)
 (Z7 PV k5 Ul Ds Dd Um uI yL xg Mp Gc oy Mq BN FD yJ Un Ae Uo Is BP FE Up Dl Uq uM LP FG yM Gg Mo Ur xp rR fun FY =>
 eW FY ir Ul Ds Dd Um uI yL xg Mp Gc oy Mq BN FD yJ Un Ae Uo Is BP FE Up Dl Uq uM LP FG yM Gg Mo Ur xp rR ∧
 rW FY k5 fun l168 =>
 K (.tuple #[(.agg (l168.toArray)), (.bool false)]) FY)) Kp)
 (rS iS ir 0 fun PZ IU Dq =>
 rS iS ir 1 fun P0 z9 IE =>
 rI iS ir 2 fun n175 =>
 rS iS ir 3 fun Tp oB Ld =>
 rS iS ir 4 fun A179 LM Uj =>
 rU iS ir 5 fun Af =>
 rS iS ir 6 fun A183 k184 Tm =>
 rS iS ir 7 fun A186 Iu k188 =>
 rS iS ir 8 fun A189 k190 k191 =>
 rU iS ir 9 fun LQ =>
 rS iS ir 10 fun Ts LR Tt =>
 rI iS ir 11 fun Lz =>
 rI iS ir 12 fun F0 =>
 rS iS ir 13 fun Lj Ll FH =>
 eW iS ir PZ IU Dq P0 z9 IE n175 Tp oB Ld A179 LM Uj Af A183 k184 Tm A186 Iu k188 A189 k190 k191 LQ Ts LR Tt Lz F0 Lj Ll FH ∧
 Z7 iS k5 PZ IU Dq P0 z9 IE n175 Tp oB Ld A179 LM Uj Af A183 k184 Tm A186 Iu k188 A189 k190 k191 LQ Ts LR Tt Lz F0 Lj Ll FH fun IN =>
 eW IN ir PZ IU Dq P0 z9 IE n175 Tp oB Ld A179 LM Uj Af A183 k184 Tm A186 Iu k188 A189 k190 k191 LQ Ts LR Tt Lz F0 Lj Ll FH ∧
 rW IN k5 fun l202 =>
 K (.tuple #[(.agg (l202.toArray)), (.bool false)]) IN)) Kp) Kp)
 (∃ J203 : List Value → Mem → Prop, (J203 [(iV G0)] Xf) ∧
 ∀ junk204 : Nat → Value, ∀ LS : Int, ∀ S0 : Mem, (J203 [(iV LS)] S0) → ae Tryz.prog 41 #[(.pointer (some ⟨b0, o0, none⟩)), (iV LS), (.func (.func 77) #[] #[(.pointer (some ⟨zZ, 0, none⟩)), (.pointer (some ⟨G5, 0, none⟩))])] S0 (fun v207 M208 =>
 ∃ t209 : Bool, ∃ Xt : Option Addr, ∃ Xu PI : Nat, (v207 = (.agg #[(.bool t209), (.slice Xt Xu PI)])) ∧
 aO M208 qY fun Tv M214 =>
 RN M214 Tv (.bool t209) (.slice Xt Xu PI) fun M216 =>
 rW M216 k1 fun l217 =>
 rI M216 G5 0 fun Tw =>
 ae Tryz.prog 78 #[(.agg (l217.toArray)), (iV LS), (iV Tw)] M216 (fun v219 W8 =>
 ∃ l221 : List Value, ((l221.length) = 14) ∧
 ∃ t222 : Bool, (v219 = (.tuple #[(.agg (l221.toArray)), (.bool t222)])) ∧
 aO W8 aK fun lJ PW =>
 dO PW lJ 0 l221 14 fun lK =>
 rB lK Tv 0 fun t226 =>
 aM (t226 == t222)
 (rS lK Tv 1 fun A227 W2 k229 =>
 rS lK lJ 13 fun A230 k231 Pw =>
 kZ lK lJ 0 fun FJ BS FK FL FM FN FO Lp Lq Lr Us Ut LU BV FP FQ FR FT FU FV Uu Uv Ls BW Uw Ux Uy LD F1 Uz UA UB =>
 ae Tryz.prog 26 #[(.slice A227 W2 k229), (.slice A230 k231 Pw)] lK (fun TN uP =>
 bF (some TN) .i64 fun n267 =>
 eW uP lJ FJ BS FK FL FM FN FO Lp Lq Lr Us Ut LU BV FP FQ FR FT FU FV Uu Uv Ls BW Uw Ux Uy LD F1 Uz UA UB ∧
 aM (n267 == 0)
 (rI uP zZ 0 fun Ix =>
 Z7 uP k5 FJ BS FK FL FM FN FO Lp Lq Lr Us Ut LU BV FP FQ FR FT FU FV Uu Uv Ls BW Uw Ux Uy LD F1 Uz UA UB fun XM =>
 eI XM zZ 0 Ix ∧
 eW XM lJ FJ BS FK FL FM FN FO Lp Lq Lr Us Ut LU BV FP FQ FR FT FU FV Uu Uv Ls BW Uw Ux Uy LD F1 Uz UA UB ∧
 rW XM k5 fun l270 =>
 K (.tuple #[(.agg (l270.toArray)), (.bool (decide (Ix < 2)))]) XM)
 (Z7 uP k5 FJ BS FK FL FM FN FO Lp Lq Lr Us Ut LU BV FP FQ FR FT FU FV Uu Uv Ls BW Uw Ux Uy LD F1 Uz UA UB fun M271 =>
 eW M271 lJ FJ BS FK FL FM FN FO Lp Lq Lr Us Ut LU BV FP FQ FR FT FU FV Uu Uv Ls BW Uw Ux Uy LD F1 Uz UA UB ∧
 rW M271 k5 fun l272 =>
 K (.tuple #[(.agg (l272.toArray)), (.bool false)]) M271)) Kp)
 (rS lK lJ 0 fun A273 Tx k275 =>
 rS lK lJ 1 fun A276 k277 k278 =>
 rI lK lJ 2 fun Uk =>
 rS lK lJ 3 fun A280 k281 k282 =>
 rS lK lJ 4 fun A283 k284 k285 =>
 rU lK lJ 5 fun S8 =>
 rS lK lJ 6 fun A287 Xv k289 =>
 rS lK lJ 7 fun A290 T4 k292 =>
 rS lK lJ 8 fun T5 T6 T7 =>
 rU lK lJ 9 fun LG =>
 rS lK lJ 10 fun A297 T8 k299 =>
 rI lK lJ 11 fun LH =>
 rI lK lJ 12 fun LI =>
 rS lK lJ 13 fun A302 IQ k304 =>
 eW lK lJ A273 Tx k275 A276 k277 k278 Uk A280 k281 k282 A283 k284 k285 S8 A287 Xv k289 A290 T4 k292 T5 T6 T7 LG A297 T8 k299 LH LI A302 IQ k304 ∧
 Z7 lK k5 A273 Tx k275 A276 k277 k278 Uk A280 k281 k282 A283 k284 k285 S8 A287 Xv k289 A290 T4 k292 T5 T6 T7 LG A297 T8 k299 LH LI A302 IQ k304 fun Pz =>
 eW Pz lJ A273 Tx k275 A276 k277 k278 Uk A280 k281 k282 A283 k284 k285 S8 A287 Xv k289 A290 T4 k292 T5 T6 T7 LG A297 T8 k299 LH LI A302 IQ k304 ∧
 rW Pz k5 fun l306 =>
 K (.tuple #[(.agg (l306.toArray)), (.bool false)]) Pz)) Kp) Kp))) :
 ae Tryz.prog 38 #[.pointer (some ⟨b0, o0, none⟩), .agg y1.toArray, .agg #[.bool q2_0, .int .i64 rq, .int .i64 om]] M K Kp := vw [(3, .bH [0, 0, 2, 0, 8, 30, 62, 63, 255] (sy [1, 3] (.cQ 0 (.cQ 4 (sy [2, 5, 6, 7, 8] .done))))), (3000042, .cut [(11, .c (.int .i64))]), (2000000, .loop [(11, .c (.int .i64)), (44, .c (.int .i64))]), (18, .bH [0, 0, 2, 0, 14, 30, 62, 126, 62, 318, 1022, 2046, 4094, 8190, 16382, 32766, 65534, 16383, 262143] (sy [1, 3, 2, 4, 5, 6, 8, 7, 9] (.cQ 0 (sy [10, 11, 12, 13] (.cQ 14 (sy [15, 16, 17, 18] .done))))))] Tryz.func38 h
theorem pH {x0 : Int} {x1 : Int} {b2 o2 : Nat} {b3 o3 : Nat} (h :
rI M b2 o2 fun n1 =>
sT M b2 o2 (iV (IntKind.wrap .i64 (n1 + 1))) fun M2 =>
rI M2 b3 o3 fun n3 =>
(((if (1 : Int) > x1 then 1 else x1) : Int) ≠ 0) ∧
K (iV (Int.tmod n3 (if (1 : Int) > x1 then 1 else x1))) M2) :
 ae Tryz.prog 77 #[.int .i64 x0, .int .i64 x1, .pointer (some ⟨b2, o2, none⟩), .pointer (some ⟨b3, o3, none⟩)] M K Kp := vw [] Tryz.func77 h
end Go.Proofs
namespace Go.Proofs
open Go.AF
set_option maxRecDepth 100000
theorem qE  {M : Mem} {K : Value → Mem → Prop} {Kp : List PanicEntry → Mem → Prop} (h :
aO M (cl [(iV 20), (iV 0), (iV 0), (iV 0), (iV 10), (iV 0), (iV 0), (iV 0)] 34) fun k1 M2 =>
aO M2 (cl [(.slice (some ⟨k1, 0, none⟩) 2 2)] 31) fun k3 M4 =>
ae Tryz.prog 36 #[(.agg #[(.slice (some ⟨k3, 0, none⟩) 1 1), (.slice none 0 0), (iV 0), (.slice none 0 0)])] M4 (fun v5 M6 =>
dP (some v5) fun A7 =>
aM (Option.isNone A7)
 (K (.bool false) M6)
 (ae Tryz.prog 41 #[(.pointer A7), (iV 0), (.func (.func 68) #[] #[])] M6 (fun v8 M9 =>
 ∃ t10 : Bool, ∃ Fu : Option Addr, ∃ gF eA : Nat, (v8 = (.agg #[(.bool t10), (.slice Fu gF eA)])) ∧
 ae Tryz.prog 41 #[(.pointer A7), (iV 0), (.func (.func 68) #[] #[])] M9 (fun WD Fo =>
 ∃ t16 : Bool, ∃ Ay : Option Addr, ∃ fm jC : Nat, (WD = (.agg #[(.bool t16), (.slice Ay fm jC)])) ∧
 aO Fo qY fun fQ jD =>
 aO jD qY fun gf mm =>
 RN mm fQ (.bool t10) (.slice Fu gF eA) fun qk =>
 RN qk gf (.bool t16) (.slice Ay fm jC) fun mZ =>
 ae Tryz.prog 60 #[(.pointer A7)] mZ (fun O8 pz =>
 ∃ w6 q9 : Int, (O8 = (.tuple #[(iV w6), (iV q9)])) ∧
 ae Tryz.prog 22 #[(.pointer A7)] pz (fun v32 pX =>
 aF (some v32) fun D6 ku nP =>
 rB pX fQ 0 fun t37 =>
 aM t37
 (rB pX gf 0 fun t38 =>
 aM (!t38)
 (aM (w6 == 1)
 (aM ((ku : Int) == 1)
 (((0 : Int) ≤ 0) ∧
 ((0 : Int) < ku) ∧
 aE D6 fun lH tY =>
 rI pX lH (tY + 0) fun zA =>
 aM (zA == 0)
 (ae Tryz.prog 65 #[(.pointer A7), (iV 0)] pX (fun v42 wV =>
 bF (some v42) .i64 fun yA =>
 K (.bool (yA == 4)) wV) Kp)
 (K (.bool false) pX))
 (K (.bool false) pX))
 (K (.bool false) pX))
 (K (.bool false) pX))
 (K (.bool false) pX)) Kp) Kp) Kp) Kp)) Kp) :
 ae Tryz.prog 34 #[] M K Kp := vw [] Tryz.func34 h
theorem mQ {iM : Option Addr} {iN iO : Nat} {iP : Option Addr} {iQ iR : Nat} {kO : Int} {jQ : Option Addr} {jR jS : Nat} {B1 : Option Addr} {m1 c1 : Nat} {x2 : Int} {M : Mem} {K : Value → Mem → Prop} {Kp : List PanicEntry → Mem → Prop} (h :
aO M (cl [(.slice iM iN iO), (.slice iP iQ iR), (iV kO), (.slice jQ jR jS)] 73) fun k1 M2 =>
ae Tryz.prog 34 #[] M2 (fun v3 M4 =>
dG (some v3) fun t5 =>
aM (!t5)
 (K (.bool false) M4)
 (rS M4 k1 0 fun A6 k7 k8 =>
 rS M4 k1 1 fun A9 eD eu =>
 rI M4 k1 2 fun gZ =>
 rS M4 k1 3 fun zu fz ju =>
 ae Tryz.prog 35 #[(.agg #[(.slice A6 k7 k8), (.slice A9 eD eu), (iV gZ), (.slice zu fz ju)])] M4 (fun Ii nA =>
 ∃ KX : Option Addr, ∃ jC fQ : Nat, ∃ CM : Option Addr, ∃ gf gI : Nat, ∃ pY : Int, ∃ CL : Option Addr, ∃ gH kF : Nat, (Ii = (.agg #[(.slice KX jC fQ), (.slice CM gf gI), (iV pY), (.slice CL gH kF)])) ∧
 aO nA yh fun gS pz =>
 mh pz gS (.slice KX jC fQ) (.slice CM gf gI) (iV pY) (.slice CL gH kF) fun pX =>
 rS pX gS 0 fun D6 ku nP =>
 ((0 : Int) ≤ 0) ∧
 ((0 : Int) < ku) ∧
 aE D6 fun pC fB =>
 rS pX pC (fB + 0) fun VM tY mP =>
 rS pX gS 0 fun Ff jF ym =>
 ((0 : Int) ≤ 0) ∧
 ((0 : Int) < jF) ∧
 aE Ff fun zq mV =>
 rS pX zq (mV + 0) fun WH yx nC =>
 rS pX gS 0 fun A50 D7 tv =>
 ((0 : Int) ≤ 0) ∧
 ((0 : Int) < D7) ∧
 aE A50 fun kL wq =>
 rS pX kL (wq + 0) fun Se xM wU =>
 ((0 : Int) ≤ xM) ∧
 ((xM : Int) ≤ mP) ∧
 ((0 : Int) ≤ yx) ∧
 ((yx : Int) ≤ xM) ∧
 ((0 : Int) ≤ 0) ∧
 ((0 : Int) ≤ yx) ∧
 rS pX gS 0 fun VP AB KO =>
 aO pX (cl [(iV 22), (iV (IntKind.wrap .i64 (((Nat.bitwise and (BitVec.ofInt IntKind.i64.bits x2).toNat (BitVec.ofInt IntKind.i64.bits 65535).toNat) : Nat) : Int))), (iV 0), (iV 0)] 109) fun tB NQ =>
 bj Tryz.prog (Go.Builtin.append_ #[115, 115] 115 #[(.slice (iZ VM 0 (Int.toNat (xM : Int)) 4) ((Int.toNat (yx : Int)) - 0) ((Int.toNat (xM : Int)) - 0)), (.slice (some ⟨tB, 0, none⟩) 1 1)]) NQ (fun BA qJ =>
 aF (some BA) fun QK HY G2 =>
 eS qJ gS 0 VP AB KO ∧
 ((0 : Int) ≤ 0) ∧
 ((0 : Int) < AB) ∧
 aE VP fun NT VU =>
 sT qJ NT (VU + 0) (.slice QK HY G2) fun NY =>
 eS NY gS 0 VP AB KO ∧
 Bo NY gS 0 fun Zh G3 JY A74 Pf K9 RY A78 NU Fk =>
 Bo NY gS 0 fun Sf zX xN A84 QL N0 SQ Wz Sp O9 =>
 (True) ∧
 ae Tryz.prog 29 #[(.agg #[(.slice Zh G3 JY), (.slice A74 Pf K9), (iV RY), (.slice A78 NU Fk)])] NY (fun v91 M92 =>
 ∃ QO : Option Addr, ∃ HZ K6 : Nat, ∃ A96 : Option Addr, ∃ KQ Si : Nat, ∃ VV : Int, ∃ Pn : Option Addr, ∃ C7 z7 : Nat, (v91 = (.agg #[(.slice QO HZ K6), (.slice A96 KQ Si), (iV VV), (.slice Pn C7 z7)])) ∧
 ((Mem.fT M92 ⟨gS, 0, none⟩ 0 4) = some [(.slice Sf zX xN), (.slice A84 QL N0), (iV SQ), (.slice Wz Sp O9)]) ∧
 (True) ∧
 ae Tryz.prog 36 #[(.agg #[(.slice QO HZ K6), (.slice A96 KQ Si), (iV VV), (.slice Pn C7 z7)])] M92 (fun yP yE =>
 dP (some yP) fun UC =>
 ((Mem.fT yE ⟨gS, 0, none⟩ 0 4) = some [(.slice Sf zX xN), (.slice A84 QL N0), (iV SQ), (.slice Wz Sp O9)]) ∧
 (True) ∧
 ae Tryz.prog 37 #[(.agg #[(.slice Sf zX xN), (.slice A84 QL N0), (iV SQ), (.slice Wz Sp O9)])] yE (fun BZ qp =>
 xW BZ fun B5 B6 yD yQ F9 yw Ga yR B7 Gb B8 Ml Ge Mm =>
 ((Mem.fT qp ⟨gS, 0, none⟩ 0 4) = some [(.slice Sf zX xN), (.slice A84 QL N0), (iV SQ), (.slice Wz Sp O9)]) ∧
 aO qp aK fun ox M123 =>
 dO M123 ox 0 [B5, B6, yD, yQ, F9, yw, Ga, yR, B7, Gb, B8, Ml, Ge, Mm] 14 fun z3 =>
 ((Mem.fT z3 ⟨gS, 0, none⟩ 0 4) = some [(.slice Sf zX xN), (.slice A84 QL N0), (iV SQ), (.slice Wz Sp O9)]) ∧
 ∃ XN : List Value → Mem → Prop, (∃ I126 : IT, (∃ Ib, I126 Ib [(iV 0)] z3) ∧
 ∀ (Dc : Nat) (_ : Nat → Value) (xn : Int) (IW : Mem), (I126 Dc [(iV xn)] IW) → aM (decide (xn < m1))
 (aM (decide (xn < 80))
 (rI IW ox 11 fun PM =>
 aM (PM == 0)
 ((0 ≤ xn) ∧
 (xn < m1) ∧
 aE B1 fun uI yL =>
 rW IW ox fun l135 =>
 rBII IW uI (yL + ((Int.toNat xn) * 3)) fun t136 xe Ad =>
 ae Tryz.prog 38 #[(.pointer UC), (.agg (l135.toArray)), (.agg #[(.bool t136), (iV xe), (iV Ad)])] IW (fun Ue M140 =>
 ∃ l141 : List Value, ((l141.length) = 14) ∧
 ∃ t142 : Bool, (Ue = (.tuple #[(.agg (l141.toArray)), (.bool t142)])) ∧
 dO M140 ox 0 l141 14 fun IM =>
 ∃ Ae : Nat, (Ae < Dc) ∧
 I126 Ae [(iV (IntKind.wrap .i64 (xn + 1)))] IM) Kp)
 (XN [] IW))
 (XN [] IW))
 (XN [] IW)) ∧
 ∀ WW : Nat → Value, ∀ PF : Mem, (XN [] PF) → rI PF ox 11 fun n147 =>
 aM (n147 == 0)
 (K (.bool true) PF)
 (∃ I148 : IT, (∃ k149, I148 k149 [(iV 0)] PF) ∧
 ∀ (Dl : Nat) (_ : Nat → Value) (uM : Int) (PG : Mem), (I148 Dl [(iV uM)] PG) → aM (decide (uM < 5))
 (ae Tryz.prog 41 #[(.pointer UC), (iV uM), (.func (.func 42) #[] #[])] PG (fun Mi M155 =>
 ∃ t156 : Bool, ∃ PY : Option Addr, ∃ yF xp : Nat, (Mi = (.agg #[(.bool t156), (.slice PY yF xp)])) ∧
 aO M155 qY fun rR BR =>
 RN BR rR (.bool t156) (.slice PY yF xp) fun Ca =>
 rB Ca rR 0 fun t164 =>
 aM t164
 (K (.bool false) Ca)
 (rS Ca rR 1 fun A165 Dg F4 =>
 aM ((Dg : Int) != 0)
 (K (.bool false) Ca)
 (ae Tryz.prog 43 #[(.pointer UC)] Ca (fun v168 Pt =>
 aF (some v168) fun A170 Dq Lc =>
 aM ((Dq : Int) != 0)
 (K (.bool false) Pt)
 (∃ z9 : Nat, (z9 < Dl) ∧
 I148 z9 [(iV (IntKind.wrap .i64 (uM + 1)))] Pt)) Kp))) Kp)
 (rW PG ox fun l174 =>
 ae Tryz.prog 40 #[(.pointer UC), (.agg (l174.toArray))] PG (fun v175 It =>
 bF (some v175) .i64 fun Dp =>
 aM (Dp == 0)
 (ae Tryz.prog 44 #[(.pointer UC)] It (fun v178 Ui =>
 dG (some v178) fun t180 =>
 K (.bool (!t180)) Ui) Kp)
 (K (.bool false) It)) Kp))) Kp) Kp) Kp) Kp) Kp)) Kp) :
 ae Tryz.prog 10 #[.agg #[.slice iM iN iO, .slice iP iQ iR, .int .i64 kO, .slice jQ jR jS], .slice B1 m1 c1, .int .i64 x2] M K Kp := vw [(4, .bH [0, 1, 0, 4, 12, 28, 0, 64, 192, 448, 960, 0, 2048, 6144, 14336, 30720, 65532, 0, 131072, 393216, 917504, 2097148, 4194303, 8388607] (sy [0, 2, 6, 11, 17, 18, 19, 3, 4, 5, 7, 8, 9, 10, 12, 13, 14, 15, 16] (.cQ 1 (sy [20, 21, 22, 23] .done)))), (5, .bH [0, 1, 3, 0, 15, 0, 63, 127] (sy [0] (.cQ 3 (.late 1 (.late 2 (.late 4 (sy [5, 6, 7] .done))))))), (1000000, .cut []), (2000000, .loop [(10, .c (.int .i64))]), (9, .bH [0, 0, 0, 0, 12, 28, 63, 127, 255, 255, 511] (sy [0, 2, 3, 4, 1, 5, 6, 7, 8, 9, 10] .done)), (2000002, .loop [(73, .c (.int .i64))])] Tryz.func10 h
end Go.Proofs
