/- A part of proofs about one program. -/
import Derived.Test.YtfjgcljdnhkmaaaGreatZWorldDry0
set_option linter.unusedVariables false
namespace Go.Proofs
open Go.AF
set_option maxRecDepth 100000
set_option maxHeartbeats 1000000
attribute [local irreducible] bG dF ff dP aF fa aE b7 aO bk bJ aM
theorem hU : bF Tryz.prog 188 289 3 24 [.int .i64 0, .int .i64 0, .int .i64 0] := bF.mk' (zv := .agg #[.int .i64 0, .int .i64 0, .int .i64 0]) (by kernel_rfl) (by kernel_rfl) rfl (by omega)
def kU (R : Mem) (vs : List Value) (c : aQ) : Prop := ∃ A ca B cb D cd, vs = [.int .i64 (c.room : Int), .slice A c.buf.length ca, .slice B c.snd.length cb, .slice D c.cH.length cd, .bool c.closed] ∧
 RS bS R A ca c.buf ∧ RS cC R B cb c.snd ∧ RS cC R D cd c.cH
theorem kU.le {R R' : Mem} {vs : List Value} {c : aQ} (h : kU R vs c) (hle : R.le R') : kU R' vs c := by
 obtain ⟨A, ca, B, cb, D, cd, e, h1, h2, h3⟩ := h
 exact ⟨A, ca, B, cb, D, cd, e, h1.le hle, h2.le hle, h3.le hle⟩
section
variable {R : Mem} {L L' : List HP} {M : Mem} {K : Value → Mem → Prop} {Kp : List PanicEntry → Mem → Prop} {c : aQ} {vs : List Value}
theorem Ew {room : Int} (h : Hp R L M) (k : ∀ vs M', Hp R L M' → kU R vs (.new room) → K (.agg vs.toArray) M') : ae Tryz.prog 75 #[.int .i64 room] M K Kp := by
 refine uS ?_
 repeat (first|(refine ai h ?_;clear h;intro kb M h)|(refine ak h ?_;clear h;intro M h)|refine St.to h ?_|(apply Exists.intro;(repeat apply Exists.intro);refine And.intro rfl ?_)|refine ay ?_|refine aq ?_|refine au ?_)
 have e : (if (if (16 : Int) < room then 16 else room) > 0 then (if (16 : Int) < room then 16 else room) else 0) = ((Bu room : Nat) : Int) := by unfold Bu; omega
 rw [e] at h ⊢
 exact k _ _ h.jf ⟨none, 0, none, 0, none, 0, rfl, RS.nil _ _, RS.nil _ _, RS.nil _ _⟩
theorem Cd {B : Option Addr} {n cc : Nat} {w : Wt} {r : List Wt} (h : Hp R L M) (hB : RS cC R B cc (w :: r)) (hn : n = r.length + 1) (hs : r.length ≤ 1000000000)
  (k : ∀ R' A' c' M', R.le R' → Hp R' L M' → RS cC R' A' c' r → K (.slice A' r.length c') M') : ae Tryz.prog 218 #[.slice B n cc] M K Kp := by
 subst hn
 have hc := hB.2
 simp only [List.length_cons] at hc
 refine si ?_
 repeat (first|(refine ai h ?_;clear h;intro kb M h)|(refine ak h ?_;clear h;intro M h)|refine St.to h ?_|(apply Exists.intro;(repeat apply Exists.intro);refine And.intro rfl ?_)|refine ay ?_|refine aq ?_|refine au ?_)
 simp only [Int.toNat_natCast]
 refine h.b6 cC hU r (hB.src.drop (m := 1) (c := cc) hB.2) (by omega) (by omega) ?_
 clear h
 intro A' c' M h
 repeat (first|(refine ai h ?_;clear h;intro kb M h)|(refine ak h ?_;clear h;intro M h)|refine St.to h ?_|(apply Exists.intro;(repeat apply Exists.intro);refine And.intro rfl ?_)|refine ay ?_|refine aq ?_|refine au ?_)
 obtain ⟨R', h1, h2, h3⟩ := h.bB A'
 exact k R' _ _ _ h1 h3 h2
theorem Mx {v : Int} (h : Hp R L M) (hc : kU R vs c) (hs : c.Small 1000000000) (k : ∀ R' vs' M', R.le R' → Hp R' L M' → kU R' vs' (c.send v).1 →
   K (.tuple #[.agg vs'.toArray, .agg #[.int .i64 (c.send v).2.1.g, .int .i64 (c.send v).2.1.cs, .int .i64 (c.send v).2.1.v], .bool (c.send v).2.2.1, .int .i64 (c.send v).2.2.2]) M') :
  ae Tryz.prog 187 #[.agg vs.toArray, .int .i64 v] M K Kp := by
 obtain ⟨room, buf, snd, cH, closed⟩ := c
 obtain ⟨h1, h2, h3⟩ := hs
 obtain ⟨A, ca, B, cb, D, cd, rfl, q1, q2, q3⟩ := hc
 dsimp only at h1 h2 h3 q1 q2 q3
 refine r7 ?_
 repeat (first|(refine ai h ?_;clear h;intro kb M h)|(refine ak h ?_;clear h;intro M h)|refine St.to h ?_|(apply Exists.intro;(repeat apply Exists.intro);refine And.intro rfl ?_)|refine ay ?_|refine aq ?_|refine au ?_)
 refine fL.2 ⟨fun hb => ?_, fun hb => ?_⟩
 ·subst hb
  repeat (first|(refine ai h ?_;clear h;intro kb M h)|(refine ak h ?_;clear h;intro M h)|refine St.to h ?_|(apply Exists.intro;(repeat apply Exists.intro);refine And.intro rfl ?_)|refine ay ?_|refine aq ?_|refine au ?_)
  exact k R _ _ (Mem.le_refl R) h.jf ⟨_, _, _, _, _, _, rfl, q1, q2, q3⟩
 subst hb
 repeat (first|(refine ai h ?_;clear h;intro kb M h)|(refine ak h ?_;clear h;intro M h)|refine St.to h ?_|(apply Exists.intro;(repeat apply Exists.intro);refine And.intro rfl ?_)|refine ay ?_|refine aq ?_|refine au ?_)
 refine aH.2 ⟨fun hr => ?_, fun hr => ?_⟩
 ·cases cH with
  | nil => simp at hr
  | cons w r =>
   obtain ⟨x, o, rfl⟩ := q3.some (by simp) (by decide)
   repeat (first|(refine ai h ?_;clear h;intro kb M h)|(refine ak h ?_;clear h;intro M h)|refine St.to h ?_|(apply Exists.intro;(repeat apply Exists.intro);refine And.intro rfl ?_)|refine ay ?_|refine aq ?_|refine au ?_)
   refine aj (q3.src.at h (i := 0) (j := 0) rfl rfl (by omega)) ?_
   refine aj (q3.src.at h (i := 0) (j := 1) rfl rfl (by omega)) ?_
   refine aj (q3.src.at h (i := 0) (j := 2) rfl rfl (by omega)) ?_
   repeat (first|(refine ai h ?_;clear h;intro kb M h)|(refine ak h ?_;clear h;intro M h)|refine St.to h ?_|(apply Exists.intro;(repeat apply Exists.intro);refine And.intro rfl ?_)|refine ay ?_|refine aq ?_|refine au ?_)
   refine Cd h q3 (by simp) (by simp at h3; omega) ?_
   clear h
   intro R' A' c' M g h q4
   repeat (first|(refine ai h ?_;clear h;intro kb M h)|(refine ak h ?_;clear h;intro M h)|refine St.to h ?_|(apply Exists.intro;(repeat apply Exists.intro);refine And.intro rfl ?_)|refine ay ?_|refine aq ?_|refine au ?_)
   exact k R' _ _ g h.jf ⟨_, _, _, _, _, _, rfl, q1.le g, q2.le g, q4⟩
 cases cH with
 | cons w r => simp at hr
 | nil =>
 simp only [aQ.send, Bool.false_eq_true, if_false] at k
 repeat (first|(refine ai h ?_;clear h;intro kb M h)|(refine ak h ?_;clear h;intro M h)|refine St.to h ?_|(apply Exists.intro;(repeat apply Exists.intro);refine And.intro rfl ?_)|refine ay ?_|refine aq ?_|refine au ?_)
 refine aH.2 ⟨fun hl => ?_, fun hl => ?_⟩
 ·dsimp only at hl
  rw [if_neg (by omega)] at k
  repeat (first|(refine ai h ?_;clear h;intro kb M h)|(refine ak h ?_;clear h;intro M h)|refine St.to h ?_|(apply Exists.intro;(repeat apply Exists.intro);refine And.intro rfl ?_)|refine ay ?_|refine aq ?_|refine au ?_)
  exact k R _ _ (Mem.le_refl R) h.jf ⟨_, _, _, _, _, _, rfl, q1, q2, q3⟩
 ·dsimp only at hl
  rw [if_pos (by omega)] at k
  repeat (first|(refine ai h ?_;clear h;intro kb M h)|(refine ak h ?_;clear h;intro M h)|refine St.to h ?_|(apply Exists.intro;(repeat apply Exists.intro);refine And.intro rfl ?_)|refine ay ?_|refine aq ?_|refine au ?_)
  refine h.b6 bS lC buf q1.src rfl (by omega) ?_
  clear h
  intro A' c' M h
  repeat (first|(refine ai h ?_;clear h;intro kb M h)|(refine ak h ?_;clear h;intro M h)|refine St.to h ?_|(apply Exists.intro;(repeat apply Exists.intro);refine And.intro rfl ?_)|refine ay ?_|refine aq ?_|refine au ?_)
  refine h.be lC [v] rfl rfl (by simp; omega) ?_
  clear h
  intro A' c' M h
  repeat (first|(refine ai h ?_;clear h;intro kb M h)|(refine ak h ?_;clear h;intro M h)|refine St.to h ?_|(apply Exists.intro;(repeat apply Exists.intro);refine And.intro rfl ?_)|refine ay ?_|refine aq ?_|refine au ?_)
  obtain ⟨R', g, q4, h⟩ := h.bB A'
  exact k R' _ _ g h.jf ⟨_, _, _, _, _, _, rfl, q4, q2.le g, q3.le g⟩
theorem My (h : Hp R L M) (hc : kU R vs c) (hs : c.Small 1000000000) (k : ∀ R' vs' M', R.le R' → Hp R' L M' → kU R' vs' c.recv.1 →
   K (.tuple #[.agg vs'.toArray, .int .i64 c.recv.2.1, .bool c.recv.2.2.1, .agg #[.int .i64 c.recv.2.2.2.1.g, .int .i64 c.recv.2.2.2.1.cs, .int .i64 c.recv.2.2.2.1.v], .bool c.recv.2.2.2.2.1, .int .i64 c.recv.2.2.2.2.2]) M') :
  ae Tryz.prog 189 #[.agg vs.toArray] M K Kp := by
 obtain ⟨room, buf, snd, cH, closed⟩ := c
 obtain ⟨h1, h2, h3⟩ := hs
 obtain ⟨A, ca, B, cb, D, cd, rfl, q1, q2, q3⟩ := hc
 dsimp only at h1 h2 h3 q1 q2 q3
 refine r9 ?_
 repeat (first|(refine ai h ?_;clear h;intro kb M h)|(refine ak h ?_;clear h;intro M h)|refine St.to h ?_|(apply Exists.intro;(repeat apply Exists.intro);refine And.intro rfl ?_)|refine ay ?_|refine aq ?_|refine au ?_)
 refine h.b6 bS lC buf q1.src rfl (by omega) ?_
 clear h
 intro A' c' M h
 repeat (first|(refine ai h ?_;clear h;intro kb M h)|(refine ak h ?_;clear h;intro M h)|refine St.to h ?_|(apply Exists.intro;(repeat apply Exists.intro);refine And.intro rfl ?_)|refine ay ?_|refine aq ?_|refine au ?_)
 refine aH.2 ⟨fun hr => ?_, fun hr => ?_⟩
 ·cases snd with
  | nil => simp at hr
  | cons w r =>
   obtain ⟨x, o, rfl⟩ := q2.some (by simp) (by decide)
   repeat (first|(refine ai h ?_;clear h;intro kb M h)|(refine ak h ?_;clear h;intro M h)|refine St.to h ?_|(apply Exists.intro;(repeat apply Exists.intro);refine And.intro rfl ?_)|refine ay ?_|refine aq ?_|refine au ?_)
   refine aj (q2.src.at h (i := 0) (j := 0) rfl rfl (by omega)) ?_
   refine aj (q2.src.at h (i := 0) (j := 1) rfl rfl (by omega)) ?_
   refine aj (q2.src.at h (i := 0) (j := 2) rfl rfl (by omega)) ?_
   repeat (first|(refine ai h ?_;clear h;intro kb M h)|(refine ak h ?_;clear h;intro M h)|refine St.to h ?_|(apply Exists.intro;(repeat apply Exists.intro);refine And.intro rfl ?_)|refine ay ?_|refine aq ?_|refine au ?_)
   refine h.be lC [w.v] rfl rfl (by simp; omega) ?_
   clear h
   intro A' c' M h
   repeat (first|(refine ai h ?_;clear h;intro kb M h)|(refine ak h ?_;clear h;intro M h)|refine St.to h ?_|(apply Exists.intro;(repeat apply Exists.intro);refine And.intro rfl ?_)|refine ay ?_|refine aq ?_|refine au ?_)
   refine Cd h q2 (by simp) (by simp at h2; omega) ?_
   clear h
   intro R' B' d' M g h q4
   repeat (first|(refine ai h ?_;clear h;intro kb M h)|(refine ak h ?_;clear h;intro M h)|refine St.to h ?_|(apply Exists.intro;(repeat apply Exists.intro);refine And.intro rfl ?_)|refine ay ?_|refine aq ?_|refine au ?_)
   refine aH.2 ⟨fun hl => ?_, fun hl => absurd hl (by simp)⟩
   obtain ⟨v, l, hv⟩ : ∃ v l, buf ++ [w.v] = v :: l := by cases buf <;> simp
   have dQ : l.length ≤ buf.length := by have := congrArg List.length hv; simp at this; omega
   simp only [aQ.recv, aQ.all, hv] at k
   have hcap := h.nF A'
   rw [hv] at h hcap hl ⊢
   obtain ⟨y, rfl⟩ := h.bU (A := A') (by simp) (by decide)
   repeat (first|(refine ai h ?_;clear h;intro kb M h)|(refine ak h ?_;clear h;intro M h)|refine St.to h ?_|(apply Exists.intro;(repeat apply Exists.intro);refine And.intro rfl ?_)|refine ay ?_|refine aq ?_|refine au ?_)
   have s0 := h.src (A := some ⟨y, 0, none⟩)
   refine aj (s0.at h (i := 0) (j := 0) rfl rfl (by omega)) ?_
   repeat (first|(refine ai h ?_;clear h;intro kb M h)|(refine ak h ?_;clear h;intro M h)|refine St.to h ?_|(apply Exists.intro;(repeat apply Exists.intro);refine And.intro rfl ?_)|refine ay ?_|refine aq ?_|refine au ?_)
   have s0 := h.src (A := some ⟨y, 0, none⟩)
   refine And.intro (s0.at h (i := 0) (j := 0) rfl rfl (by omega)) ?_
   repeat (first|(refine ai h ?_;clear h;intro kb M h)|(refine ak h ?_;clear h;intro M h)|refine St.to h ?_|(apply Exists.intro;(repeat apply Exists.intro);refine And.intro rfl ?_)|refine ay ?_|refine aq ?_|refine au ?_)
   have s0 := h.src (A := some ⟨y, 0, none⟩)
   refine And.intro (s0.at h (i := 0) (j := 0) rfl rfl (by omega)) ?_
   repeat (first|(refine ai h ?_;clear h;intro kb M h)|(refine ak h ?_;clear h;intro M h)|refine St.to h ?_|(apply Exists.intro;(repeat apply Exists.intro);refine And.intro rfl ?_)|refine ay ?_|refine aq ?_|refine au ?_)
   obtain ⟨R2, g2, q5, h⟩ := h.bB (some ⟨y, 0, none⟩)
   exact k R2 _ _ (Mem.le_trans g g2) h.jf ⟨_, _, _, _, _, _, rfl, q5.drop 1 (by omega), q4.le g2, (q3.le g).le g2⟩
 ·cases snd with
  | cons w r => simp at hr
  | nil =>
  have hcap := h.nF A'
  repeat (first|(refine ai h ?_;clear h;intro kb M h)|(refine ak h ?_;clear h;intro M h)|refine St.to h ?_|(apply Exists.intro;(repeat apply Exists.intro);refine And.intro rfl ?_)|refine ay ?_|refine aq ?_|refine au ?_)
  refine aH.2 ⟨fun hl => ?_, fun hl => ?_⟩
  ·cases buf with
   | nil => simp at hl
   | cons v l =>
    obtain ⟨y, rfl⟩ := h.bU (A := A') (by simp) (by decide)
    repeat (first|(refine ai h ?_;clear h;intro kb M h)|(refine ak h ?_;clear h;intro M h)|refine St.to h ?_|(apply Exists.intro;(repeat apply Exists.intro);refine And.intro rfl ?_)|refine ay ?_|refine aq ?_|refine au ?_)
    have s0 := h.src (A := some ⟨y, 0, none⟩)
    refine aj (s0.at h (i := 0) (j := 0) rfl rfl (by omega)) ?_
    repeat (first|(refine ai h ?_;clear h;intro kb M h)|(refine ak h ?_;clear h;intro M h)|refine St.to h ?_|(apply Exists.intro;(repeat apply Exists.intro);refine And.intro rfl ?_)|refine ay ?_|refine aq ?_|refine au ?_)
    have s0 := h.src (A := some ⟨y, 0, none⟩)
    refine And.intro (s0.at h (i := 0) (j := 0) rfl rfl (by omega)) ?_
    repeat (first|(refine ai h ?_;clear h;intro kb M h)|(refine ak h ?_;clear h;intro M h)|refine St.to h ?_|(apply Exists.intro;(repeat apply Exists.intro);refine And.intro rfl ?_)|refine ay ?_|refine aq ?_|refine au ?_)
    have s0 := h.src (A := some ⟨y, 0, none⟩)
    refine And.intro (s0.at h (i := 0) (j := 0) rfl rfl (by omega)) ?_
    repeat (first|(refine ai h ?_;clear h;intro kb M h)|(refine ak h ?_;clear h;intro M h)|refine St.to h ?_|(apply Exists.intro;(repeat apply Exists.intro);refine And.intro rfl ?_)|refine ay ?_|refine aq ?_|refine au ?_)
    obtain ⟨R2, g2, q5, h⟩ := h.bB (some ⟨y, 0, none⟩)
    exact k R2 _ _ g2 h.jf ⟨_, _, _, _, _, _, rfl, q5.drop 1 (by simp at hcap; omega), q2.le g2, q3.le g2⟩
  ·cases buf with
   | cons v l => simp at hl
   | nil =>
   repeat (first|(refine ai h ?_;clear h;intro kb M h)|(refine ak h ?_;clear h;intro M h)|refine St.to h ?_|(apply Exists.intro;(repeat apply Exists.intro);refine And.intro rfl ?_)|refine ay ?_|refine aq ?_|refine au ?_)
   refine fL.2 ⟨fun hb => ?_, fun hb => ?_⟩
   ·subst hb
    repeat (first|(refine ai h ?_;clear h;intro kb M h)|(refine ak h ?_;clear h;intro M h)|refine St.to h ?_|(apply Exists.intro;(repeat apply Exists.intro);refine And.intro rfl ?_)|refine ay ?_|refine aq ?_|refine au ?_)
    exact k R _ _ (Mem.le_refl R) h.jf ⟨_, _, _, _, _, _, rfl, q1, q2, q3⟩
   ·subst hb
    repeat (first|(refine ai h ?_;clear h;intro kb M h)|(refine ak h ?_;clear h;intro M h)|refine St.to h ?_|(apply Exists.intro;(repeat apply Exists.intro);refine And.intro rfl ?_)|refine ay ?_|refine aq ?_|refine au ?_)
    exact k R _ _ (Mem.le_refl R) h.jf ⟨_, _, _, _, _, _, rfl, q1, q2, q3⟩
theorem Jg (h : Hp R L M) (hc : kU R vs c) (k : ∀ vs' A ca B cb M', Hp R L M' → kU R vs' c.close.1 → RS cC R A ca c.close.2.1 → RS cC R B cb c.close.2.2.1 →
   K (.tuple #[.agg vs'.toArray, .slice A c.close.2.1.length ca, .slice B c.close.2.2.1.length cb, .int .i64 c.close.2.2.2]) M') :
  ae Tryz.prog 191 #[.agg vs.toArray] M K Kp := by
 obtain ⟨room, buf, snd, cH, closed⟩ := c
 obtain ⟨A, ca, B, cb, D, cd, rfl, q1, q2, q3⟩ := hc
 dsimp only at q1 q2 q3
 refine qD ?_
 repeat (first|(refine ai h ?_;clear h;intro kb M h)|(refine ak h ?_;clear h;intro M h)|refine St.to h ?_|(apply Exists.intro;(repeat apply Exists.intro);refine And.intro rfl ?_)|refine ay ?_|refine aq ?_|refine au ?_)
 refine fL.2 ⟨fun hb => ?_, fun hb => ?_⟩
 ·subst hb
  repeat (first|(refine ai h ?_;clear h;intro kb M h)|(refine ak h ?_;clear h;intro M h)|refine St.to h ?_|(apply Exists.intro;(repeat apply Exists.intro);refine And.intro rfl ?_)|refine ay ?_|refine aq ?_|refine au ?_)
  exact k _ none 0 none 0 _ h.jf ⟨_, _, _, _, _, _, rfl, q1, q2, q3⟩ (RS.nil _ _) (RS.nil _ _)
 ·subst hb
  repeat (first|(refine ai h ?_;clear h;intro kb M h)|(refine ak h ?_;clear h;intro M h)|refine St.to h ?_|(apply Exists.intro;(repeat apply Exists.intro);refine And.intro rfl ?_)|refine ay ?_|refine aq ?_|refine au ?_)
  exact k _ _ _ _ _ _ h.jf ⟨_, _, none, 0, none, 0, rfl, q1, RS.nil _ _, RS.nil _ _⟩ q3 q2
theorem Mz {g : Int} (h : Hp R L M) (hc : kU R vs c) (hs : c.Small 1000000000) (k : ∀ R' vs' M', R.le R' → Hp R' L M' → kU R' vs' (c.drop g) → K (.agg vs'.toArray) M') :
  ae Tryz.prog 224 #[.agg vs.toArray, .int .i64 g] M K Kp := by
 obtain ⟨room, buf, snd, cH, closed⟩ := c
 obtain ⟨h1, h2, h3⟩ := hs
 obtain ⟨A0, ca, B0, cb, D0, cd, rfl, q1, q2, q3⟩ := hc
 dsimp only at h1 h2 h3 q1 q2 q3 ⊢
 refine sg ?_
 refine ai h ?_
 clear h
 intro kc M h
 refine ai h ?_
 clear h
 intro ko M h
 refine ai h ?_
 clear h
 intro ka M h
 refine ai h ?_
 clear h
 intro kb M h
 repeat (first|(refine ai h ?_;clear h;intro kb M h)|(refine ak h ?_;clear h;intro M h)|refine St.to h ?_|(apply Exists.intro;(repeat apply Exists.intro);refine And.intro rfl ?_)|refine ay ?_|refine aq ?_|refine au ?_)
 have h := ((h.pt ka).g8 (E := cC) (l := []) rfl)
 refine ⟨fun d vs M => ∃ i A c, vs = [.slice A (wo g (snd.take i)).length c, .int .i64 (i : Int)] ∧ d = snd.length - i ∧ i ≤ snd.length ∧ Hp R (cw cC 289 A c (wo g (snd.take i)) :: pt kb [] 289 ::
   pt ko [.int .i64 0, .slice none 0 0, .slice none 0 0, .slice none 0 0, .bool false] 190 :: pt kc [.int .i64 (room : Int), .slice A0 buf.length ca, .slice B0 snd.length cb, .slice D0 cH.length cd, .bool closed] 190 :: L) M,
  ⟨_, 0, _, _, rfl, rfl, by omega, h⟩, ?_⟩
 clear h
 rintro d _ A n c' ii M ⟨i, _, _, he, hd, hi, h⟩
 simp only [List.cons.injEq, Value.slice.injEq, Value.int.injEq, and_true, true_and] at he
 obtain ⟨⟨rfl, rfl, rfl⟩, rfl⟩ := he
 refine aH.2 ⟨fun hlt => ?_, fun hge => ?_⟩
 ·obtain ⟨w, hw⟩ := aJ (l := snd) (i := i) (by omega)
  obtain ⟨b, o, rfl⟩ := q2.some (by omega) (by decide)
  have hl := Bv g (snd.take i)
  have dQ := List.length_take_le i snd
  rw [aS (by omega)]
  repeat (first|(refine ai h ?_;clear h;intro kb M h)|(refine ak h ?_;clear h;intro M h)|refine St.to h ?_|(apply Exists.intro;(repeat apply Exists.intro);refine And.intro rfl ?_)|refine ay ?_|refine aq ?_|refine au ?_)
  refine aj (q2.src.at h (j := 0) hw rfl (by simp [cC])) ?_
  refine aj (q2.src.at h (j := 1) hw rfl (by simp [cC]; omega)) ?_
  refine aj (q2.src.at h (j := 2) hw rfl (by simp [cC]; omega)) ?_
  repeat (first|(refine ai h ?_;clear h;intro kb M h)|(refine ak h ?_;clear h;intro M h)|refine St.to h ?_|(apply Exists.intro;(repeat apply Exists.intro);refine And.intro rfl ?_)|refine ay ?_|refine aq ?_|refine au ?_)
  refine cY.2 ⟨fun hne => ?_, fun heq => ?_⟩
  ·have e2 : wo g (snd.take (i + 1)) = wo g (snd.take i) ++ [w] := by rw [dw hw, yy]; simp [wo, hne]
   repeat (first|(refine ai h ?_;clear h;intro kb M h)|(refine ak h ?_;clear h;intro M h)|refine St.to h ?_|(apply Exists.intro;(repeat apply Exists.intro);refine And.intro rfl ?_)|refine ay ?_|refine aq ?_|refine au ?_)
   refine h.be hU [w] rfl rfl (by simp; omega) ?_
   clear h
   intro A' c' M h
   repeat (first|(refine ai h ?_;clear h;intro kb M h)|(refine ak h ?_;clear h;intro M h)|refine St.to h ?_|(apply Exists.intro;(repeat apply Exists.intro);refine And.intro rfl ?_)|refine ay ?_|refine aq ?_|refine au ?_)
   exact ⟨snd.length - (i + 1), by omega, i + 1, A', c', by rw [e2], rfl, by omega, by rw [e2]; exact h.cG⟩
  ·have e2 : wo g (snd.take (i + 1)) = wo g (snd.take i) := by rw [dw hw, yy]; simp [wo, heq]
   exact ⟨snd.length - (i + 1), by omega, i + 1, A, c', by rw [e2], rfl, by omega, by rw [e2]; exact h.jf⟩
 have : i = snd.length := by omega
 subst this
 rw [List.take_length] at h ⊢
 repeat (first|(refine ai h ?_;clear h;intro kb M h)|(refine ak h ?_;clear h;intro M h)|refine St.to h ?_|(apply Exists.intro;(repeat apply Exists.intro);refine And.intro rfl ?_)|refine ay ?_|refine aq ?_|refine au ?_)
 have h := ((h.pt kb).g8 (E := cC) (l := []) rfl)
 refine ⟨fun d vs M => ∃ i B e, vs = [.slice B (wo g (cH.take i)).length e, .int .i64 (i : Int)] ∧ d = cH.length - i ∧ i ≤ cH.length ∧ Hp R (cw cC 289 B e (wo g (cH.take i)) :: cw cC 289 A c' (wo g snd) ::
   pt ko [.int .i64 0, .slice none 0 0, .slice none 0 0, .slice none 0 0, .bool false] 190 :: pt kc [.int .i64 (room : Int), .slice A0 buf.length ca, .slice B0 snd.length cb, .slice D0 cH.length cd, .bool closed] 190 :: L) M,
  ⟨_, 0, _, _, rfl, rfl, by omega, h⟩, ?_⟩
 clear h
 rintro d _ B n e ii M ⟨i, _, _, he, hd, hi, h⟩
 simp only [List.cons.injEq, Value.slice.injEq, Value.int.injEq, and_true, true_and] at he
 obtain ⟨⟨rfl, rfl, rfl⟩, rfl⟩ := he
 refine aH.2 ⟨fun hlt => ?_, fun hge => ?_⟩
 ·obtain ⟨w, hw⟩ := aJ (l := cH) (i := i) (by omega)
  obtain ⟨b, o, rfl⟩ := q3.some (by omega) (by decide)
  have hl := Bv g (cH.take i)
  have dQ := List.length_take_le i cH
  rw [aS (by omega)]
  repeat (first|(refine ai h ?_;clear h;intro kb M h)|(refine ak h ?_;clear h;intro M h)|refine St.to h ?_|(apply Exists.intro;(repeat apply Exists.intro);refine And.intro rfl ?_)|refine ay ?_|refine aq ?_|refine au ?_)
  refine aj (q3.src.at h (j := 0) hw rfl (by simp [cC])) ?_
  refine aj (q3.src.at h (j := 1) hw rfl (by simp [cC]; omega)) ?_
  refine aj (q3.src.at h (j := 2) hw rfl (by simp [cC]; omega)) ?_
  repeat (first|(refine ai h ?_;clear h;intro kb M h)|(refine ak h ?_;clear h;intro M h)|refine St.to h ?_|(apply Exists.intro;(repeat apply Exists.intro);refine And.intro rfl ?_)|refine ay ?_|refine aq ?_|refine au ?_)
  refine cY.2 ⟨fun hne => ?_, fun heq => ?_⟩
  ·have e2 : wo g (cH.take (i + 1)) = wo g (cH.take i) ++ [w] := by rw [dw hw, yy]; simp [wo, hne]
   repeat (first|(refine ai h ?_;clear h;intro kb M h)|(refine ak h ?_;clear h;intro M h)|refine St.to h ?_|(apply Exists.intro;(repeat apply Exists.intro);refine And.intro rfl ?_)|refine ay ?_|refine aq ?_|refine au ?_)
   refine h.be hU [w] rfl rfl (by simp; omega) ?_
   clear h
   intro B' e' M h
   repeat (first|(refine ai h ?_;clear h;intro kb M h)|(refine ak h ?_;clear h;intro M h)|refine St.to h ?_|(apply Exists.intro;(repeat apply Exists.intro);refine And.intro rfl ?_)|refine ay ?_|refine aq ?_|refine au ?_)
   exact ⟨cH.length - (i + 1), by omega, i + 1, B', e', by rw [e2], rfl, by omega, by rw [e2]; exact h.cG⟩
  ·have e2 : wo g (cH.take (i + 1)) = wo g (cH.take i) := by rw [dw hw, yy]; simp [wo, heq]
   exact ⟨cH.length - (i + 1), by omega, i + 1, B, e, by rw [e2], rfl, by omega, by rw [e2]; exact h.jf⟩
 have : i = cH.length := by omega
 subst this
 rw [List.take_length] at h ⊢
 repeat (first|(refine ai h ?_;clear h;intro kb M h)|(refine ak h ?_;clear h;intro M h)|refine St.to h ?_|(apply Exists.intro;(repeat apply Exists.intro);refine And.intro rfl ?_)|refine ay ?_|refine aq ?_|refine au ?_)
 obtain ⟨R1, g1, p1, h⟩ := h.bB B
 obtain ⟨R2, g2, p2, h⟩ := h.bB A
 exact k R2 _ _ (Mem.le_trans g1 g2) h.jf ⟨_, _, _, _, _, _, rfl, (q1.le g1).le g2, p2, p1.le g2⟩
theorem zH {A B : Option Addr} {ca cb : Nat} {l : List Wt} (h : Hp R L M) (hA : Src R L A (cC.cells l)) (hB : Src R L B (cC.cells l)) (hs : l.length ≤ 1000000000) (k : ∀ M', Hp R L M' → K (.int .i64 0) M') :
  ae Tryz.prog 116 #[.slice A l.length ca, .slice B l.length cb] M K Kp := by
 refine qE ?_
 refine cY.2 ⟨fun hn => absurd rfl hn, fun _ => ?_⟩
 refine ⟨fun d vs M => ∃ i : Nat, vs = [.int .i64 (i : Int)] ∧ d = l.length - i ∧ i ≤ l.length ∧ Hp R L M, ⟨_, 0, rfl, rfl, by omega, h⟩, ?_⟩
 clear h
 rintro d _ ii M ⟨i, he, hd, hi, h⟩
 simp only [List.cons.injEq, Value.int.injEq, and_true, true_and] at he
 subst he
 refine aH.2 ⟨fun hlt => ?_, fun hge => k _ h⟩
 obtain ⟨w, hw⟩ := aJ (l := l) (i := i) (by omega)
 obtain ⟨b, o, rfl⟩ := hA.iP h (by omega) (by decide)
 obtain ⟨b', o', rfl⟩ := hB.iP h (by omega) (by decide)
 repeat (first|(refine ai h ?_;clear h;intro kb M h)|(refine ak h ?_;clear h;intro M h)|refine St.to h ?_|(apply Exists.intro;(repeat apply Exists.intro);refine And.intro rfl ?_)|refine ay ?_|refine aq ?_|refine au ?_)
 refine aj (hA.at h (j := 0) hw rfl (by simp [cC])) ?_
 refine aj (hA.at h (j := 1) hw rfl (by simp [cC]; omega)) ?_
 refine aj (hA.at h (j := 2) hw rfl (by simp [cC]; omega)) ?_
 refine aj (hB.at h (j := 0) hw rfl (by simp [cC])) ?_
 refine aj (hB.at h (j := 1) hw rfl (by simp [cC]; omega)) ?_
 refine aj (hB.at h (j := 2) hw rfl (by simp [cC]; omega)) ?_
 simp only [beq_self_eq_true, Bool.and_self, Bool.not_true]
 refine au ?_
 rw [aS (by omega)]
 exact ⟨l.length - (i + 1), by omega, i + 1, rfl, rfl, by omega, h⟩
theorem MA {A B D : Option Addr} {ca cb cd : Nat} (h : Hp R L M) (hc : kU R vs c) (hs : c.Small 1000000000) (hA : Src R L A (bS.cells c.buf)) (hB : Src R L B (cC.cells c.snd)) (hD : Src R L D (cC.cells c.cH)) (k : ∀ M', Hp R L M' → K (.int .i64 0) M') :
  ae Tryz.prog 85 #[.agg #[.slice A c.buf.length ca, .slice B c.snd.length cb, .slice D c.cH.length cd, .bool c.closed], .agg vs.toArray] M K Kp := by
 obtain ⟨room, buf, snd, cH, closed⟩ := c
 obtain ⟨h1, h2, h3⟩ := hs
 obtain ⟨A', ca', B', cb', D', cd', rfl, q1, q2, q3⟩ := hc
 dsimp only at h1 h2 h3 q1 q2 q3 hA hB hD ⊢
 refine sj ?_
 refine ai h ?_
 clear h
 intro ka M h
 refine ai h ?_
 clear h
 intro kb M h
 repeat (first|(refine ai h ?_;clear h;intro kb M h)|(refine ak h ?_;clear h;intro M h)|refine St.to h ?_|(apply Exists.intro;(repeat apply Exists.intro);refine And.intro rfl ?_)|refine ay ?_|refine aq ?_|refine au ?_)
 refine cY.2 ⟨fun hn => absurd rfl hn, fun _ => ?_⟩
 repeat (first|(refine ai h ?_;clear h;intro kb M h)|(refine ak h ?_;clear h;intro M h)|refine St.to h ?_|(apply Exists.intro;(repeat apply Exists.intro);refine And.intro rfl ?_)|refine ay ?_|refine aq ?_|refine au ?_)
 simp only [beq_self_eq_true, Bool.not_true]
 repeat (first|(refine ai h ?_;clear h;intro kb M h)|(refine ak h ?_;clear h;intro M h)|refine St.to h ?_|(apply Exists.intro;(repeat apply Exists.intro);refine And.intro rfl ?_)|refine ay ?_|refine aq ?_|refine au ?_)
 refine zH h hB.cons.cons q2.src h2 ?_
 clear h
 intro M h
 repeat (first|(refine ai h ?_;clear h;intro kb M h)|(refine ak h ?_;clear h;intro M h)|refine St.to h ?_|(apply Exists.intro;(repeat apply Exists.intro);refine And.intro rfl ?_)|refine ay ?_|refine aq ?_|refine au ?_)
 refine zH h hD.cons.cons q3.src h3 ?_
 clear h
 intro M h
 repeat (first|(refine ai h ?_;clear h;intro kb M h)|(refine ak h ?_;clear h;intro M h)|refine St.to h ?_|(apply Exists.intro;(repeat apply Exists.intro);refine And.intro rfl ?_)|refine ay ?_|refine aq ?_|refine au ?_)
 refine ⟨fun d vs M => ∃ i : Nat, vs = [.int .i64 (i : Int)] ∧ d = buf.length - i ∧ i ≤ buf.length ∧ Hp R (pt kb [.int .i64 (room : Int), .slice A' buf.length ca', .slice B' snd.length cb', .slice D' cH.length cd', .bool closed] 190 ::
  pt ka [.slice A buf.length ca, .slice B snd.length cb, .slice D cH.length cd, .bool closed] 201 :: L) M, ⟨_, 0, rfl, rfl, by omega, h⟩, ?_⟩
 clear h
 rintro d _ ii M ⟨i, he, hd, hi, h⟩
 simp only [List.cons.injEq, Value.int.injEq, and_true, true_and] at he
 subst he
 refine aH.2 ⟨fun hlt => ?_, fun hge => k _ h.jf⟩
 obtain ⟨w, hw⟩ := aJ (l := buf) (i := i) (by omega)
 obtain ⟨b, o, rfl⟩ := hA.cons.cons.iP h (by omega) (by decide)
 obtain ⟨b', o', rfl⟩ := q1.some (by omega) (by decide)
 repeat (first|(refine ai h ?_;clear h;intro kb M h)|(refine ak h ?_;clear h;intro M h)|refine St.to h ?_|(apply Exists.intro;(repeat apply Exists.intro);refine And.intro rfl ?_)|refine ay ?_|refine aq ?_|refine au ?_)
 refine aj (q1.src.at h (j := 0) hw rfl (by simp [bS])) ?_
 repeat (first|(refine ai h ?_;clear h;intro kb M h)|(refine ak h ?_;clear h;intro M h)|refine St.to h ?_|(apply Exists.intro;(repeat apply Exists.intro);refine And.intro rfl ?_)|refine ay ?_|refine aq ?_|refine au ?_)
 refine aj (hA.cons.cons.at h (j := 0) hw rfl (by simp [bS])) ?_
 refine cY.2 ⟨fun hn => absurd rfl hn, fun _ => ?_⟩
 rw [aS (by omega)]
 exact ⟨buf.length - (i + 1), by omega, i + 1, rfl, rfl, by omega, h⟩
end
structure RC where
 room : Int
 A : Option Addr
 na : Nat
 ca : Nat
 B : Option Addr
 nb : Nat
 cb : Nat
 D : Option Addr
 nd : Nat
 cd : Nat
 closed : Bool
def yb : jP RC := ⟨5, fun w => [.int .i64 w.room, .slice w.A w.na w.ca, .slice w.B w.nb w.cb, .slice w.D w.nd w.cd, .bool w.closed], fun _ => rfl, fun w v hv => by
 simp only [List.mem_cons, List.not_mem_nil, or_false] at hv; obtain rfl | rfl | rfl | rfl | rfl := hv <;> rfl⟩
def T9 (R : Mem) (r : RC) (c : aQ) : Prop := kU R (yb.f r) c
theorem T9.le {R R' : Mem} {r : RC} {c : aQ} (h : T9 R r c) (hle : R.le R') : T9 R' r c := kU.le h hle
theorem kU.rc {R : Mem} {vs : List Value} {c : aQ} (h : kU R vs c) : ∃ r, vs = yb.f r ∧ T9 R r c := by
 obtain ⟨A, ca, B, cb, D, cd, rfl, q1, q2, q3⟩ := id h
 exact ⟨⟨c.room, A, c.buf.length, ca, B, c.snd.length, cb, D, c.cH.length, cd, c.closed⟩, rfl, h⟩
theorem T9.eq {R : Mem} {r : RC} {c : aQ} (h : T9 R r c) : ∃ A ca B cb D cd, r = ⟨c.room, A, c.buf.length, ca, B, c.snd.length, cb, D, c.cH.length, cd, c.closed⟩ ∧ RS bS R A ca c.buf ∧ RS cC R B cb c.snd ∧ RS cC R D cd c.cH := by
 obtain ⟨A, ca, B, cb, D, cd, e, q1, q2, q3⟩ := h
 obtain ⟨e0, e1, e2, e3, e4, e5, e6, e7, e8, e9, Qk⟩ := r
 simp only [yb, List.cons.injEq, Value.int.injEq, Value.slice.injEq, Value.bool.injEq, and_true, true_and] at e
 obtain ⟨rfl, ⟨rfl, rfl, rfl⟩, ⟨rfl, rfl, rfl⟩, ⟨rfl, rfl, rfl⟩, rfl⟩ := e
 exact ⟨_, _, _, _, _, _, rfl, q1, q2, q3⟩
def yZ (R : Mem) (xs : List RC) (cs : List aQ) : Prop := xs.length = cs.length ∧ ∀ (i : Nat) (r : RC) (c : aQ), xs[i]? = some r → cs[i]? = some c → T9 R r c
theorem yZ.le {R R' : Mem} {xs : List RC} {cs : List aQ} (h : yZ R xs cs) (hle : R.le R') : yZ R' xs cs := ⟨h.1, fun i r c h1 h2 => (h.2 i r c h1 h2).le hle⟩
theorem yZ.nil (R : Mem) : yZ R [] [] := ⟨rfl, fun i r c h => by simp at h⟩
theorem yZ.snoc {R : Mem} {xs : List RC} {cs : List aQ} {r : RC} {c : aQ} (h : yZ R xs cs) (hr : T9 R r c) : yZ R (xs ++ [r]) (cs ++ [c]) := by
 refine ⟨by simp [h.1], fun i r' c' h1 h2 => ?_⟩
 rcases Nat.lt_or_ge i xs.length with hl | hl
 ·rw [List.getElem?_append_left hl] at h1; rw [List.getElem?_append_left (by rw [← h.1]; exact hl)] at h2; exact h.2 i _ _ h1 h2
 ·rw [List.getElem?_append_right hl] at h1; rw [List.getElem?_append_right (by rw [← h.1]; exact hl)] at h2
  have : i - xs.length = 0 := by
   obtain ⟨hh, _⟩ := List.getElem?_eq_some_iff.1 h1; simp at hh; omega
  rw [this] at h1; rw [← h.1, this] at h2
  cases h1; cases h2; exact hr
theorem yZ.set {R : Mem} {xs : List RC} {cs : List aQ} {r : RC} {c : aQ} (h : yZ R xs cs) (i : Nat) (hr : T9 R r c) : yZ R (xs.set i r) (cs.set i c) := by
 refine ⟨by simp [h.1], fun j r' c' h1 h2 => ?_⟩
 rw [List.getElem?_set] at h1 h2
 split at h1
 ·rename_i e; rw [if_pos e] at h2
  split at h1
  ·split at h2
   ·cases h1; cases h2; exact hr
   ·cases h2
  ·cases h1
 ·rename_i e; rw [if_neg e] at h2; exact h.2 j _ _ h1 h2
theorem XW {cs : List aQ} {x : aQ} {way bH : Int} {q : Nat} (hx : cs[q]? = some x) (h0 : 0 ≤ way) (h1 : way < 2) :
  can cs ⟨way, q, bH⟩ = true ↔ x.closed = true ∨ (way = 0 ∧ (0 < x.snd.length + x.buf.length)) ∨ (way = 1 ∧ (0 < x.cH.length ∨ x.buf.length < x.room)) := by
 have hxx : aX cs (q : Int) = x := by simp [aX, hx]
 have hw : way = 0 ∨ way = 1 := by omega
 simp only [can, hxx]
 obtain ⟨room, buf, snd, cH, closed⟩ := x
 rcases hw with rfl | rfl
 ·simp only [if_true, aQ.tw, Bool.or_eq_true]
  cases closed <;> cases snd <;> cases buf <;> simp <;> omega
 ·simp only [aQ.tv, Bool.or_eq_true]
  cases closed <;> cases cH <;> simp
section
variable {R : Mem} {L L' : List HP} {M : Mem} {K : Value → Mem → Prop} {Kp : List PanicEntry → Mem → Prop} {xs : List RC} {cs : List aQ}
theorem MB {B : Option Addr} {m cc : Nat} {cases : List nh} (h : Hp R L M) (hB : Src R L B (gT.cells cases)) (hm : m = cases.length) (hb : cases.length ≤ 1000000000)
  (k : ∀ M', Hp R L M' → K (.int .i64 (match els cases with | some i => (i : Int) | none => -1)) M') :
  ae Tryz.prog 193 #[.slice B m cc] M K Kp := by
 subst hm
 refine rF ⟨fun d ws M => ∃ i : Nat, ws = [.int .i64 (i : Int)] ∧ d = cases.length - i ∧ i ≤ cases.length ∧ (∀ j c, j < i → cases[j]? = some c → c.way ≠ 2) ∧ Hp R L M, ⟨_, 0, rfl, rfl, by omega, fun j c hj => by omega, h⟩, ?_⟩
 clear h
 rintro d _ ii M ⟨i, he, hd, hi, hp, h⟩
 simp only [List.cons.injEq, Value.int.injEq, and_true, true_and] at he
 subst he
 refine aH.2 ⟨fun hlt => ?_, fun hge => ?_⟩
 ·obtain ⟨c, hc⟩ := aJ (l := cases) (i := i) (by omega)
  obtain ⟨b, o, rfl⟩ := hB.iP h (by omega) (by decide)
  repeat (first|(refine ai h ?_;clear h;intro kb M h)|(refine ak h ?_;clear h;intro M h)|refine St.to h ?_|(apply Exists.intro;(repeat apply Exists.intro);refine And.intro rfl ?_)|refine ay ?_|refine aq ?_|refine au ?_)
  simp only [Int.toNat_natCast]
  refine aj (hB.at h (i := i) (j := 0) hc rfl rfl) ?_
  refine aj (hB.at h (i := i) (j := 1) hc rfl rfl) ?_
  refine aj (hB.at h (i := i) (j := 2) hc rfl rfl) ?_
  repeat (first|(refine ai h ?_;clear h;intro kb M h)|(refine ak h ?_;clear h;intro M h)|refine St.to h ?_|(apply Exists.intro;(repeat apply Exists.intro);refine And.intro rfl ?_)|refine ay ?_|refine aq ?_|refine au ?_)
  refine bh.2 ⟨fun e => ?_, fun e => ?_⟩
  ·have := Iz hc e hp
   rw [this] at k
   exact k _ h.jf
  ·rw [aS (by omega)]
   refine ⟨cases.length - (i + 1), by omega, i + 1, rfl, rfl, by omega, fun j c' hj xh => ?_, h.jf⟩
   rcases Nat.lt_or_ge j i with kC | kC
   ·exact hp j c' kC xh
   ·obtain rfl : j = i := by omega
    rw [hc] at xh; cases xh; exact e
 ·obtain rfl : i = cases.length := by omega
  rw [IA hp] at k
  exact k _ h
theorem DM {B A : Option Addr} {m cc n ca : Nat} {cases : List nh} (h : Hp R L M) (hB : Src R L B (gT.cells cases)) (hA : Src R L A (yb.cells xs)) (hx : yZ R xs cs) (hm : m = cases.length) (hn : n = cs.length)
  (hb : cases.length ≤ 1000000000) (hok : ∀ c ∈ cases, c.Ok cs.length) (hs : ∀ c ∈ cs, c.Small 1000000000)
  (k : ∀ A' c' M', Hp R (cw bS 3 A' c' (enabled cases cs) :: L) M' → K (.slice A' (enabled cases cs).length c') M') :
  ae Tryz.prog 192 #[.slice B m cc, .slice A n ca] M K Kp := by
 subst hm
 subst hn
 refine oz ?_
 repeat (first|(refine ai h ?_;clear h;intro kb M h)|(refine ak h ?_;clear h;intro M h)|refine St.to h ?_|(apply Exists.intro;(repeat apply Exists.intro);refine And.intro rfl ?_)|refine ay ?_|refine aq ?_|refine au ?_)
 replace h := (h.pt kb).g8 (E := bS) (l := []) rfl
 refine ⟨fun d ws M => ∃ (i : Nat) (X : Option Addr) (cx : Nat), ws = [.slice X (z9 cases cs i).length cx, .int .i64 (i : Int)] ∧ d = cases.length - i ∧ i ≤ cases.length ∧ Hp R (cw bS 3 X cx (z9 cases cs i) :: L) M, ⟨_, 0, _, _, rfl, rfl, by omega, h⟩, ?_⟩
 clear h
 rintro d _ X n1 cx ii M ⟨i, _, _, he, hd, hi, h⟩
 simp only [List.cons.injEq, Value.int.injEq, Value.slice.injEq, and_true, true_and] at he
 obtain ⟨⟨rfl, rfl, rfl⟩, rfl⟩ := he
 refine aH.2 ⟨fun hlt => ?_, fun hge => ?_⟩
 ·obtain ⟨c, hc⟩ := aJ (l := cases) (i := i) (by omega)
  obtain ⟨b, o, rfl⟩ := hB.cons.iP h (by omega) (by decide)
  obtain ⟨k0, k0', kk⟩ := hok c (List.mem_of_getElem? hc)
  have e := yJ (cs := cs) hc
  have hlen := BH cases cs i
  obtain ⟨way, ch, bH⟩ := c
  dsimp only at k0 k0' kk
  repeat (first|(refine ai h ?_;clear h;intro kb M h)|(refine ak h ?_;clear h;intro M h)|refine St.to h ?_|(apply Exists.intro;(repeat apply Exists.intro);refine And.intro rfl ?_)|refine ay ?_|refine aq ?_|refine au ?_)
  simp only [Int.toNat_natCast]
  refine aj (hB.cons.at h (i := i) (j := 0) hc rfl rfl) ?_
  refine aj (hB.cons.at h (i := i) (j := 1) hc rfl rfl) ?_
  refine aj (hB.cons.at h (i := i) (j := 2) hc rfl rfl) ?_
  dsimp only
  repeat (first|(refine ai h ?_;clear h;intro kb M h)|(refine ak h ?_;clear h;intro M h)|refine St.to h ?_|(apply Exists.intro;(repeat apply Exists.intro);refine And.intro rfl ?_)|refine ay ?_|refine aq ?_|refine au ?_)
  refine bh.2 ⟨fun hw => ?_, fun hw => ?_⟩
  ·have hcan : can cs ⟨way, ch, bH⟩ = false := by simp [can, hw]
   rw [hcan] at e
   simp only [Bool.false_eq_true, if_false, List.append_nil] at e
   rw [aS (by omega)]
   refine ⟨cases.length - (i + 1), by omega, i + 1, X, cx, by rw [e], rfl, by omega, ?_⟩
   rw [e]; exact h.jf
  obtain ⟨k1, k2, k3, k4⟩ := kk hw
  obtain ⟨q, rfl⟩ := Int.eq_ofNat_of_zero_le k1
  obtain ⟨x, Ua⟩ := aJ (l := cs) (i := q) (by omega)
  obtain ⟨r, C4⟩ := aJ (l := xs) (i := q) (by rw [hx.1]; omega)
  obtain ⟨A0, ca0, B0, cb0, D0, cd0, rfl, q1, q2, q3⟩ := (hx.2 q r x C4 Ua).eq
  obtain ⟨s1, s2, s3⟩ := hs x (List.mem_of_getElem? Ua)
  obtain ⟨b2, o2, rfl⟩ := hA.cons.cons.iP h (by rw [hx.1]; omega) (by decide)
  have hcan := XW (bH := bH) Ua k0 (by omega)
  repeat (first|(refine ai h ?_;clear h;intro kb M h)|(refine ak h ?_;clear h;intro M h)|refine St.to h ?_|(apply Exists.intro;(repeat apply Exists.intro);refine And.intro rfl ?_)|refine ay ?_|refine aq ?_|refine au ?_)
  simp only [Int.toNat_natCast]
  refine aj (hA.cons.cons.at h (i := q) (j := 0) C4 rfl rfl) ?_
  refine bu (hA.cons.cons.at h (i := q) (j := 1) C4 rfl rfl) ?_
  refine bu (hA.cons.cons.at h (i := q) (j := 2) C4 rfl rfl) ?_
  refine bu (hA.cons.cons.at h (i := q) (j := 3) C4 rfl rfl) ?_
  refine u9 (hA.cons.cons.at h (i := q) (j := 4) C4 rfl rfl) ?_
  dsimp only
  repeat (first|(refine ai h ?_;clear h;intro kb M h)|(refine ak h ?_;clear h;intro M h)|refine St.to h ?_|(apply Exists.intro;(repeat apply Exists.intro);refine And.intro rfl ?_)|refine ay ?_|refine aq ?_|refine au ?_)
  have hwr : IntKind.wrap .i64 (((x.snd.length : Nat) : Int) + ((x.buf.length : Nat) : Int)) = ((x.snd.length : Nat) : Int) + ((x.buf.length : Nat) : Int) := Of (by omega) (by omega)
  repeat' (first | (refine fL.2 ⟨fun _ => ?_, fun _ => ?_⟩) | (refine ai h ?_; clear h; intro kb M h) | (refine ak h ?_; clear h; intro M h) | refine St.to h ?_ | (apply Exists.intro; (repeat apply Exists.intro); refine And.intro rfl ?_) | refine ay ?_ | refine aq ?_ | refine au ?_)
  all_goals simp only [hwr, beq_iff_eq, beq_eq_false_iff_ne, decide_eq_true_eq, decide_eq_false_iff_not] at *
  all_goals first
   | (
     have hc1 : can cs ⟨way, (q : Int), bH⟩ = true := hcan.2 (by first | exact .inl ‹_› | exact .inr (.inl ⟨‹_›, by omega⟩) | exact .inr (.inr ⟨‹_›, by omega⟩))
     rw [if_pos hc1] at e
     refine h.be jR [(i : Int)] rfl rfl (by simp; omega) ?_
     clear h; intro A' c' M h
     refine aY ?_
     rw [aS (by omega)]
     rw [← e] at h
     refine ⟨cases.length - (i + 1), by omega, i + 1, A', c', ?_, rfl, by omega, h.cG⟩
     rw [e])
   | (
     have hc1 : ¬ can cs ⟨way, (q : Int), bH⟩ = true := fun hh => by
      rcases hcan.1 hh with h1 | h1 | h1
      ·simp_all
      ·omega
      ·omega
     rw [if_neg hc1, List.append_nil] at e
     rw [aS (by omega)]
     refine ⟨cases.length - (i + 1), by omega, i + 1, X, cx, by rw [e], rfl, by omega, ?_⟩
     rw [e]; exact h.jf)
 ·obtain rfl : i = cases.length := by omega
  exact k _ _ _ h
theorem MC : bF Tryz.prog 75 190 5 88 [.int .i64 0, .slice none 0 0, .slice none 0 0, .slice none 0 0, .bool false] := bF.mk' (zv := .agg #[.int .i64 0, .slice none 0 0, .slice none 0 0, .slice none 0 0, .bool false]) (by kernel_rfl) (by kernel_rfl) rfl (by omega)
theorem s_rc {b o T c q : Nat} {r r' : RC} {G : Mem → Prop} (h : Hp R L M) [hp : dG (some ⟨b, 0, none⟩) L RC yb T c xs L'] (hi : xs[q]? = some r) (e : o = q * 5)
  (k : ∀ M', Hp R (cw yb T (some ⟨b, 0, none⟩) c (xs.set q r') :: L') M' → G M') :
  b7 M ⟨b, o, none⟩ (.int .i64 r'.room) fun M => b7 M ⟨b, o + 1, none⟩ (.slice r'.A r'.na r'.ca) fun M => b7 M ⟨b, o + 2, none⟩ (.slice r'.B r'.nb r'.cb) fun M =>
  b7 M ⟨b, o + 3, none⟩ (.slice r'.D r'.nd r'.cd) fun M => b7 M ⟨b, o + 4, none⟩ (.bool r'.closed) fun M => G M := by
 subst e
 have hl := (List.getElem?_eq_some_iff.1 hi).1
 refine g9 q 0 h hi (by decide) (a' := { r with room := r'.room }) rfl rfl fun M1 h1 => ?_
 refine g9 q 1 h1 (a := { r with room := r'.room }) (by simp [hl]) (by decide) (a' := { r with room := r'.room, A := r'.A, na := r'.na, ca := r'.ca }) rfl rfl fun M2 h2 => ?_
 refine g9 q 2 h2 (a := { r with room := r'.room, A := r'.A, na := r'.na, ca := r'.ca }) (by simp [hl]) (by decide) (a' := { r with room := r'.room, A := r'.A, na := r'.na, ca := r'.ca, B := r'.B, nb := r'.nb, cb := r'.cb }) rfl rfl fun M3 h3 => ?_
 refine g9 q 3 h3 (a := { r with room := r'.room, A := r'.A, na := r'.na, ca := r'.ca, B := r'.B, nb := r'.nb, cb := r'.cb }) (by simp [hl]) (by decide) (a' := { r' with closed := r.closed }) rfl rfl fun M4 h4 => ?_
 refine g9 q 4 h4 (a := { r' with closed := r.closed }) (by simp [hl]) (by decide) (a' := r') rfl rfl fun M5 h5 => ?_
 simp only [List.set_set] at h5
 exact k _ h5
theorem Jh {g : Int} {A : Option Addr} {n ca : Nat} (h : Hp R L M) (hA : RS yb R A ca xs) (hx : yZ R xs cs) (hn : n = cs.length) (hb : cs.length ≤ 1000000) (hs : ∀ c ∈ cs, c.Small 1000000000)
  (k : ∀ R' X cx xs' M', R.le R' → Hp R' (cw yb 190 X cx xs' :: L) M' → yZ R' xs' (cs.map (·.drop g)) → K (.slice X cs.length cx) M') :
  ae Tryz.prog 219 #[.int .i64 g, .slice A n ca] M K Kp := by
 subst hn
 refine qw ?_
 repeat (first|(refine ai h ?_;clear h;intro kb M h)|(refine ak h ?_;clear h;intro M h)|refine St.to h ?_|(apply Exists.intro;(repeat apply Exists.intro);refine And.intro rfl ?_)|refine ay ?_|refine aq ?_|refine au ?_)
 replace h := (h.pt kb).g8 (E := yb) (l := []) rfl
 refine ⟨fun d ws M => ∃ (R' : Mem) (i : Nat) (X : Option Addr) (cx : Nat) (ys : List RC), ws = [.slice X ys.length cx, .int .i64 (i : Int)] ∧ d = cs.length - i ∧ i ≤ cs.length ∧ R.le R' ∧ yZ R' ys ((cs.take i).map (·.drop g)) ∧ Hp R' (cw yb 190 X cx ys :: L) M,
  ⟨_, R, 0, _, _, [], rfl, rfl, by omega, Mem.le_refl R, yZ.nil R, h⟩, ?_⟩
 clear h
 rintro d _ X n1 cx ii M ⟨R1, i, _, _, ys, he, hd, hi, g1, hy, h⟩
 simp only [List.cons.injEq, Value.int.injEq, Value.slice.injEq, and_true, true_and] at he
 obtain ⟨⟨rfl, rfl, rfl⟩, rfl⟩ := he
 have hyl : ys.length = i := by rw [hy.1]; simp; omega
 refine aH.2 ⟨fun hlt => ?_, fun hge => ?_⟩
 ·obtain ⟨x, Ua⟩ := aJ (l := cs) (i := i) (by omega)
  obtain ⟨r, C4⟩ := aJ (l := xs) (i := i) (by rw [hx.1]; omega)
  have Al := (hx.2 i r x C4 Ua).le g1
  obtain ⟨b2, o2, rfl⟩ := hA.some (by rw [hx.1]; omega) (by decide)
  have sr : ∀ L, Src R1 L (some ⟨b2, o2, none⟩) (yb.cells xs) := fun L => (hA.le g1).src
  repeat (first|(refine ai h ?_;clear h;intro kb M h)|(refine ak h ?_;clear h;intro M h)|refine St.to h ?_|(apply Exists.intro;(repeat apply Exists.intro);refine And.intro rfl ?_)|refine ay ?_|refine aq ?_|refine au ?_)
  simp only [Int.toNat_natCast]
  refine aj ((sr _).at h (i := i) (j := 0) C4 rfl rfl) ?_
  refine bu ((sr _).at h (i := i) (j := 1) C4 rfl rfl) ?_
  refine bu ((sr _).at h (i := i) (j := 2) C4 rfl rfl) ?_
  refine bu ((sr _).at h (i := i) (j := 3) C4 rfl rfl) ?_
  refine u9 ((sr _).at h (i := i) (j := 4) C4 rfl rfl) ?_
  repeat (first|(refine ai h ?_;clear h;intro kb M h)|(refine ak h ?_;clear h;intro M h)|refine St.to h ?_|(apply Exists.intro;(repeat apply Exists.intro);refine And.intro rfl ?_)|refine ay ?_|refine aq ?_|refine au ?_)
  refine Mz (g := g) h Al (hs x (List.mem_of_getElem? Ua)) ?_
  clear h
  intro R2 vs' M g2 h Ey
  obtain ⟨r2, rfl, hr3⟩ := Ey.rc
  repeat (first|(refine ai h ?_;clear h;intro kb M h)|(refine ak h ?_;clear h;intro M h)|refine St.to h ?_|(apply Exists.intro;(repeat apply Exists.intro);refine And.intro rfl ?_)|refine ay ?_|refine aq ?_|refine au ?_)
  refine h.be MC [r2] rfl rfl (by simp; omega) ?_
  clear h
  intro A' c' M h
  repeat (first|(refine ai h ?_;clear h;intro kb M h)|(refine ak h ?_;clear h;intro M h)|refine St.to h ?_|(apply Exists.intro;(repeat apply Exists.intro);refine And.intro rfl ?_)|refine ay ?_|refine aq ?_|refine au ?_)
  rw [aS (by omega)]
  refine ⟨cs.length - (i + 1), by omega, R2, i + 1, A', c', ys ++ [r2], ?_, rfl, by omega, Mem.le_trans g1 g2, ?_, h.cG⟩
  ·simp
  ·rw [dw Ua, List.map_append]
   exact (hy.le g2).snoc hr3
 ·obtain rfl : i = cs.length := by omega
  rw [hyl]
  rw [List.take_length] at hy
  exact k _ _ _ _ _ g1 h hy
theorem MD {g x0 x1 x2 x3 x4 x5 x6 x7 : Int} {B A : Option Addr} {m cc n ca : Nat} {cases : List nh} (h : Hp R L M) (hB : RS gT R B cc cases) (hA : RS yb R A ca xs) (hx : yZ R xs cs) (hm : m = cases.length) (hn : n = cs.length)
  (hb : cases.length ≤ 1000000) (Sd : cs.length ≤ 1000000) (hok : ∀ c ∈ cases, c.Ok cs.length) (hs : ∀ c ∈ cs, c.Small 1000000)
  (k : ∀ R' X cx xs' M', R.le R' → Hp R' (cw yb 190 X cx xs' :: L) M' → yZ R' xs' (dm g [x0, x1, x2, x3, x4, x5, x6, x7] cases cs cases.length) → K (.slice X cs.length cx) M') :
  ae Tryz.prog 194 #[.int .i64 g, .slice B m cc, .agg #[.int .i64 x0, .int .i64 x1, .int .i64 x2, .int .i64 x3, .int .i64 x4, .int .i64 x5, .int .i64 x6, .int .i64 x7], .slice A n ca] M K Kp := by
 subst hm
 subst hn
 generalize Ji : [x0, x1, x2, x3, x4, x5, x6, x7] = ei at k
 refine rG ?_
 have hlx := hx.1
 repeat (first|(refine ai h ?_;clear h;intro kb M h)|(refine ak h ?_;clear h;intro M h)|refine St.to h ?_|(apply Exists.intro;(repeat apply Exists.intro);refine And.intro rfl ?_)|refine ay ?_|refine aq ?_|refine au ?_)
 rename_i kr _
 refine h.b6 yb MC xs (hA.src) hlx.symm (by omega) ?_
 clear h
 intro A1 c1 M h
 rw [hlx]
 repeat (first|(refine ai h ?_;clear h;intro kb M h)|(refine ak h ?_;clear h;intro M h)|refine St.to h ?_|(apply Exists.intro;(repeat apply Exists.intro);refine And.intro rfl ?_)|refine ay ?_|refine aq ?_|refine au ?_)
 refine ⟨fun d ws M => ∃ (R' : Mem) (i : Nat) (ys : List RC), ws = [.int .i64 (i : Int)] ∧ d = cases.length - i ∧ i ≤ cases.length ∧ R.le R' ∧ yZ R' ys (dm g ei cases cs i) ∧ Hp R' (cw yb 190 A1 c1 ys :: pt kr [.int .i64 x0, .int .i64 x1, .int .i64 x2, .int .i64 x3, .int .i64 x4, .int .i64 x5, .int .i64 x6, .int .i64 x7] 112 :: L) M,
  ⟨_, R, 0, xs, rfl, rfl, by omega, Mem.le_refl R, hx, h⟩, ?_⟩
 clear h
 rintro d _ ii M ⟨R1, i, ys, he, hd, hi, g1, hy, h⟩
 simp only [List.cons.injEq, Value.int.injEq, and_true, true_and] at he
 subst he
 have hlen := jh g ei cases cs i
 refine aH.2 ⟨fun hlt => ?_, fun hge => ?_⟩
 ·obtain ⟨c, hc⟩ := aJ (l := cases) (i := i) (by omega)
  obtain ⟨k0, k0', kk⟩ := hok c (List.mem_of_getElem? hc)
  have rK := lS (g := g) (ei := ei) hs hok i
  have e : dm g ei cases cs (i + 1) = jb g ei i c (dm g ei cases cs i) := by rw [dm, hc]
  generalize hw : dm g ei cases cs i = ws at hy hlen rK e
  obtain ⟨way, ch, bH⟩ := c
  dsimp only at k0 k0' kk
  obtain ⟨b2, o2, rfl⟩ := hB.some (by omega) (by decide)
  have sr : ∀ L, Src R1 L (some ⟨b2, o2, none⟩) (gT.cells cases) := fun L => (hB.le g1).src
  repeat (first|(refine ai h ?_;clear h;intro kb M h)|(refine ak h ?_;clear h;intro M h)|refine St.to h ?_|(apply Exists.intro;(repeat apply Exists.intro);refine And.intro rfl ?_)|refine ay ?_|refine aq ?_|refine au ?_)
  simp only [Int.toNat_natCast]
  refine aj ((sr _).at h (i := i) (j := 0) hc rfl rfl) ?_
  refine aj ((sr _).at h (i := i) (j := 1) hc rfl rfl) ?_
  refine aj ((sr _).at h (i := i) (j := 2) hc rfl rfl) ?_
  dsimp only
  repeat (first|(refine ai h ?_;clear h;intro kb M h)|(refine ak h ?_;clear h;intro M h)|refine St.to h ?_|(apply Exists.intro;(repeat apply Exists.intro);refine And.intro rfl ?_)|refine ay ?_|refine aq ?_|refine au ?_)
  refine bh.2 ⟨fun cu => ?_, fun cu => ?_⟩
  ·unfold jb at e
   dsimp only at e
   rw [if_neg (by omega), if_neg (by omega)] at e
   rw [aS (by omega)]
   refine ⟨cases.length - (i + 1), by omega, R1, i + 1, ys, rfl, rfl, by omega, g1, by rw [e]; exact hy, h.jf⟩
  obtain ⟨k1, k2, k3, k4⟩ := kk cu
  obtain ⟨q, rfl⟩ := Int.eq_ofNat_of_zero_le k1
  obtain ⟨q2, rfl⟩ := Int.eq_ofNat_of_zero_le k3
  obtain ⟨x, Ua⟩ := aJ (l := ws) (i := q) (by omega)
  obtain ⟨r, C4⟩ := aJ (l := ys) (i := q) (by rw [hy.1]; omega)
  obtain ⟨v, hv⟩ := aJ (l := ei) (i := q2) (by rw [← Ji]; simp; omega)
  have hxx : aX ws (q : Int) = x := by simp [aX, Ua]
  have hvv : ei.getD q2 0 = v := by simp [hv]
  obtain ⟨s1, s2, s3⟩ := rK x (List.mem_of_getElem? Ua)
  simp only [jb, hxx, Int.toNat_natCast, hvv] at e
  obtain ⟨A0, ca0, B0, cb0, D0, cd0, hre, p1, p2, p3⟩ := (hy.2 q r x C4 Ua).eq
  obtain ⟨b3, rfl⟩ := h.bU (A := A1) (by rw [hy.1]; omega) (by decide)
  have hyl := hy.1
  have s0 := h.src (A := some ⟨b3, 0, none⟩)
  subst hre
  repeat (first|(refine ai h ?_;clear h;intro kb M h)|(refine ak h ?_;clear h;intro M h)|refine St.to h ?_|(apply Exists.intro;(repeat apply Exists.intro);refine And.intro rfl ?_)|refine ay ?_|refine aq ?_|refine au ?_)
  simp only [Int.toNat_natCast]
  refine aj (s0.at h (i := q) (j := 0) C4 rfl rfl) ?_
  refine bu (s0.at h (i := q) (j := 1) C4 rfl rfl) ?_
  refine bu (s0.at h (i := q) (j := 2) C4 rfl rfl) ?_
  refine bu (s0.at h (i := q) (j := 3) C4 rfl rfl) ?_
  refine u9 (s0.at h (i := q) (j := 4) C4 rfl rfl) ?_
  dsimp only
  repeat (first|(refine ai h ?_;clear h;intro kb M h)|(refine ak h ?_;clear h;intro M h)|refine St.to h ?_|(apply Exists.intro;(repeat apply Exists.intro);refine And.intro rfl ?_)|refine ay ?_|refine aq ?_|refine au ?_)
  refine bh.2 ⟨fun Jj => ?_, fun Jj => ?_⟩
  ·rw [if_pos Jj] at e
   repeat (first|(refine ai h ?_;clear h;intro kb M h)|(refine ak h ?_;clear h;intro M h)|refine St.to h ?_|(apply Exists.intro;(repeat apply Exists.intro);refine And.intro rfl ?_)|refine ay ?_|refine aq ?_|refine au ?_)
   refine h.b6 cC hU x.cH p3.src rfl (by omega) ?_
   clear h
   intro A2 c2 M h
   repeat (first|(refine ai h ?_;clear h;intro kb M h)|(refine ak h ?_;clear h;intro M h)|refine St.to h ?_|(apply Exists.intro;(repeat apply Exists.intro);refine And.intro rfl ?_)|refine ay ?_|refine aq ?_|refine au ?_)
   refine h.be hU [⟨g, i, 0⟩] rfl rfl (by simp; omega) ?_
   clear h
   intro A2 c2 M h
   repeat (first|(refine ai h ?_;clear h;intro kb M h)|(refine ak h ?_;clear h;intro M h)|refine St.to h ?_|(apply Exists.intro;(repeat apply Exists.intro);refine And.intro rfl ?_)|refine ay ?_|refine aq ?_|refine au ?_)
   simp only [Int.toNat_natCast]
   obtain ⟨R2, g2, p4, h⟩ := h.bB A2
   refine s_rc (q := q) (r' := ⟨x.room, A0, x.buf.length, ca0, B0, x.snd.length, cb0, A2, (x.cH ++ ([⟨g, (i : Int), 0⟩] : List Wt)).length, c2, x.closed⟩) h C4 (by omega) ?_
   clear h; intro M h
   rw [aS (by omega)]
   refine ⟨cases.length - (i + 1), by omega, R2, i + 1, _, rfl, rfl, by omega, Mem.le_trans g1 g2, ?_, h.cG⟩
   rw [e]
   exact (hy.le g2).set q ⟨_, _, _, _, _, _, rfl, p1.le g2, p2.le g2, p4⟩
  ·rw [if_neg Jj, if_pos (by omega)] at e
   repeat (first|(refine ai h ?_;clear h;intro kb M h)|(refine ak h ?_;clear h;intro M h)|refine St.to h ?_|(apply Exists.intro;(repeat apply Exists.intro);refine And.intro rfl ?_)|refine ay ?_|refine aq ?_|refine au ?_)
   refine aj ((show Src R1 _ (some ⟨kr, 0, none⟩) (bS.cells ei) from by rw [← Ji]; exact Src.pt (by repeat (first | exact .here | apply eA.there))).at h (i := q2) (j := 0) hv rfl (by simp [bS])) ?_
   repeat (first|(refine ai h ?_;clear h;intro kb M h)|(refine ak h ?_;clear h;intro M h)|refine St.to h ?_|(apply Exists.intro;(repeat apply Exists.intro);refine And.intro rfl ?_)|refine ay ?_|refine aq ?_|refine au ?_)
   refine h.b6 cC hU x.snd p2.src rfl (by omega) ?_
   clear h
   intro A2 c2 M h
   repeat (first|(refine ai h ?_;clear h;intro kb M h)|(refine ak h ?_;clear h;intro M h)|refine St.to h ?_|(apply Exists.intro;(repeat apply Exists.intro);refine And.intro rfl ?_)|refine ay ?_|refine aq ?_|refine au ?_)
   refine And.intro ((show Src R1 _ (some ⟨kr, 0, none⟩) (bS.cells ei) from by rw [← Ji]; exact Src.pt (by repeat (first | exact .here | apply eA.there))).at h (i := q2) (j := 0) hv rfl (by simp [bS])) ?_
   repeat (first|(refine ai h ?_;clear h;intro kb M h)|(refine ak h ?_;clear h;intro M h)|refine St.to h ?_|(apply Exists.intro;(repeat apply Exists.intro);refine And.intro rfl ?_)|refine ay ?_|refine aq ?_|refine au ?_)
   refine h.be hU [⟨g, i, v⟩] rfl rfl (by simp; omega) ?_
   clear h
   intro A2 c2 M h
   repeat (first|(refine ai h ?_;clear h;intro kb M h)|(refine ak h ?_;clear h;intro M h)|refine St.to h ?_|(apply Exists.intro;(repeat apply Exists.intro);refine And.intro rfl ?_)|refine ay ?_|refine aq ?_|refine au ?_)
   refine And.intro ((show Src R1 _ (some ⟨kr, 0, none⟩) (bS.cells ei) from by rw [← Ji]; exact Src.pt (by repeat (first | exact .here | apply eA.there))).at h (i := q2) (j := 0) hv rfl (by simp [bS])) ?_
   repeat (first|(refine ai h ?_;clear h;intro kb M h)|(refine ak h ?_;clear h;intro M h)|refine St.to h ?_|(apply Exists.intro;(repeat apply Exists.intro);refine And.intro rfl ?_)|refine ay ?_|refine aq ?_|refine au ?_)
   refine And.intro ((show Src R1 _ (some ⟨kr, 0, none⟩) (bS.cells ei) from by rw [← Ji]; exact Src.pt (by repeat (first | exact .here | apply eA.there))).at h (i := q2) (j := 0) hv rfl (by simp [bS])) ?_
   repeat (first|(refine ai h ?_;clear h;intro kb M h)|(refine ak h ?_;clear h;intro M h)|refine St.to h ?_|(apply Exists.intro;(repeat apply Exists.intro);refine And.intro rfl ?_)|refine ay ?_|refine aq ?_|refine au ?_)
   simp only [Int.toNat_natCast]
   obtain ⟨R2, g2, p4, h⟩ := h.bB A2
   refine s_rc (q := q) (r' := ⟨x.room, A0, x.buf.length, ca0, A2, (x.snd ++ ([⟨g, (i : Int), v⟩] : List Wt)).length, c2, D0, x.cH.length, cd0, x.closed⟩) h C4 (by omega) ?_
   clear h; intro M h
   rw [aS (by omega)]
   refine ⟨cases.length - (i + 1), by omega, R2, i + 1, _, rfl, rfl, by omega, Mem.le_trans g1 g2, ?_, h.cG⟩
   rw [e]
   exact (hy.le g2).set q ⟨_, _, _, _, _, _, rfl, p1.le g2, p4, p3.le g2⟩
 ·obtain rfl : i = cases.length := by omega
  exact k _ _ _ _ _ g1 h.cG hy
end
end Go.Proofs
namespace Go.Proofs
open Go.AF
set_option maxRecDepth 100000
variable {M : Mem} {K : Value → Mem → Prop} {Kp : List PanicEntry → Mem → Prop}
theorem sk {y0 : List Value} (h :
aO M (.cells (y0.toArray) 81 (0, 0)) fun k1 M2 =>
aO M2 aL fun k3 M4 =>
sT M4 k1 13 (.slice none 0 0) fun M5 =>
rI M5 k1 11 fun n6 =>
aM (n6 != 0)
 (rW M5 k1 fun l7 =>
 dO M5 k3 0 l7 14 fun M8 =>
 rW M8 k3 fun l9 =>
 K (.agg (l9.toArray)) M8)
 (rU M5 k1 5 fun dI =>
 sT M5 k1 5 (.int .u64 (IntKind.wrap .u64 (dI + 1))) fun iQ =>
 rS iQ k1 8 fun m8 eu fB =>
 rU iQ k1 (8 + 1) fun lj =>
 rU iQ k1 5 fun nI =>
 ae Tryz.prog 108 #[(.agg #[(.slice m8 eu fB), (.int .u64 lj)]), (.int .u64 nI)] iQ (fun Ta lR =>
 ∃ Hx : Option Addr, ∃ fV lH : Nat, ∃ w5 : Int, ∃ PG : Option Addr, ∃ nW jJ : Nat, (Ta = (.tuple #[(.agg #[(.slice Hx fV lH), (.int .u64 w5)]), (.slice PG nW jJ)])) ∧
 aO lR Fw fun gM ng =>
 Ws ng gM (.slice Hx fV lH) (.int .u64 w5) fun pG =>
 rSU pG gM 0 fun yG iM iy kP =>
 sT pG k1 8 (.slice yG iM iy) fun qO =>
 sT qO k1 (8 + 1) (.int .u64 kP) fun vj =>
 ∃ I36 : IT, (∃ qt, I36 qt [(iV 0)] vj) ∧
 ∀ (fE : Nat) (_ : Nat → Value) (ni : Int) (BJ : Mem), (I36 fE [(iV ni)] BJ) → aM (decide (ni < nW))
 ((0 ≤ ni) ∧
 (ni < nW) ∧
 aE PG fun jC jK =>
 PD BJ jC (jK + ((Int.toNat ni) * 3)) fun yL uk ID =>
 aO BJ tu fun kj Ep =>
 pA Ep kj (.int .u64 yL) (.int .u64 uk) (iV ID) fun AK =>
 rW AK k1 fun l52 =>
 rI AK kj 2 fun Lz =>
 ae Tryz.prog 109 #[(.agg (l52.toArray)), (iV Lz)] AK (fun Ti FM =>
 xW Ti fun XX Ub FL LB Ql Mm FJ Dp Uc PZ Ud Ue ME Lx =>
 dO FM k1 0 [XX, Ub, FL, LB, Ql, Mm, FJ, Dp, Uc, PZ, Ud, Ue, ME, Lx] 14 fun Ry =>
 ∃ FF : Nat, (FF < fE) ∧
 I36 FF [(iV (IntKind.wrap .i64 (ni + 1)))] Ry) Kp)
 (rW BJ k1 fun XY =>
 dO BJ k3 0 XY 14 fun IV =>
 rW IV k3 fun l74 =>
 K (.agg (l74.toArray)) IV)) Kp)) :
 ae Tryz.prog 76 #[.agg y0.toArray] M K Kp := vw [(2000000, .loop [(28, .c (.int .i64))])] Tryz.func76 h
theorem fR {y0 : List Value} {x1 : Int} {x2 : Int} (h :
aO M (.cells (y0.toArray) 81 (0, 0)) fun k1 M2 =>
aO M2 aL fun k3 M4 =>
sT M4 k1 13 (.slice none 0 0) fun M5 =>
aM (decide ((x1 : Int) < 0))
 (rW M5 k1 fun l6 =>
 dO M5 k3 0 l6 14 fun M7 =>
 rW M7 k3 fun l8 =>
 K (.tuple #[(.agg (l8.toArray)), (.bool false)]) M7)
 (rS M5 k1 4 fun A9 eB eo =>
 aM (decide ((x1 : Int) ≥ eB))
 (rW M5 k1 fun l12 =>
 dO M5 k3 0 l12 14 fun lG =>
 rW lG k3 fun l14 =>
 K (.tuple #[(.agg (l14.toArray)), (.bool false)]) lG)
 (rI M5 k1 11 fun lj =>
 aM (lj != 0)
 (rW M5 k1 fun l16 =>
 dO M5 k3 0 l16 14 fun mW =>
 rW mW k3 fun l18 =>
 K (.tuple #[(.agg (l18.toArray)), (.bool false)]) mW)
 (rS M5 k1 4 fun Hx fV lH =>
 ((0 : Int) ≤ x1) ∧
 ((x1 : Int) < fV) ∧
 aE Hx fun gi gN =>
 rI M5 gi (gN + ((Int.toNat x1) * 6)) fun qg =>
 aM (qg != 1)
 (rW M5 k1 fun l25 =>
 dO M5 k3 0 l25 14 fun xY =>
 rW xY k3 fun l27 =>
 K (.tuple #[(.agg (l27.toArray)), (.bool false)]) xY)
 (rS M5 k1 4 fun z5 gk jg =>
 ((0 : Int) ≤ x1) ∧
 ((x1 : Int) < gk) ∧
 aE z5 fun iM iy =>
 rS M5 iM ((iy + ((Int.toNat x1) * 6)) + 1) fun Kr mS kD =>
 ((0 : Int) ≤ (IntKind.wrap .i64 ((mS : Int) - 1))) ∧
 (((IntKind.wrap .i64 ((mS : Int) - 1)) : Int) < (mS : Int)) ∧
 aE Kr fun nK qt =>
 aU M5 nK (qt + ((Int.toNat (IntKind.wrap .i64 ((mS : Int) - 1))) * 11)) fun mE yC ni zG BL xV yL uk ID Dh FQ =>
 aO M5 cM fun mg Ht =>
 ou Ht mg (iV mE) (iV yC) (iV ni) (iV zG) (iV BL) (iV xV) (iV yL) (iV uk) (iV ID) (iV Dh) (iV FQ) fun z4 =>
 rI z4 mg 1 fun WE =>
 rS z4 k1 0 fun ZX WC Oz =>
 rI z4 mg 0 fun PJ =>
 (0 ≤ PJ) ∧
 (PJ < WC) ∧
 aE ZX fun Kt Rt =>
 rS z4 Kt (Rt + (Int.toNat PJ)) fun A69 Eu FF =>
 aM (decide (WE ≥ Eu))
 (rW z4 k1 fun XY =>
 ae Tryz.prog 110 #[(.agg (XY.toArray)), (iV (-7))] z4 (fun XZ Hz =>
 xW XZ fun SX Te Uf Ug LC Qm Uh Qn Ui PX Uj Uk SY Qa =>
 dO Hz k3 0 [SX, Te, Uf, Ug, LC, Qm, Uh, Qn, Ui, PX, Uj, Uk, SY, Qa] 14 fun Kw =>
 rW Kw k3 fun l90 =>
 K (.tuple #[(.agg (l90.toArray)), (.bool false)]) Kw) Kp)
 (rS z4 k1 0 fun A91 PN Xi =>
 rI z4 mg 0 fun SR =>
 (0 ≤ SR) ∧
 (SR < PN) ∧
 aE A91 fun OF Tc =>
 rS z4 OF (Tc + (Int.toNat SR)) fun A97 ZP Rw =>
 rI z4 mg 1 fun yD =>
 (0 ≤ yD) ∧
 (yD < ZP) ∧
 aE A97 fun LD FT =>
 bP z4 LD (FT + ((Int.toNat yD) * 4)) fun n103 n104 BQ yN =>
 aO z4 fU fun Am Gu =>
 mB Gu Am (iV n103) (iV n104) (iV BQ) (iV yN) fun nL =>
 aU nL mg 0 fun SV FD LW uT Ul n118 y5 LG LH FZ FV =>
 bP nL Am 0 fun B9 yS Mn Mr =>
 ae Tryz.prog 111 #[(.agg #[(iV SV), (iV FD), (iV LW), (iV uT), (iV Ul), (iV n118), (iV y5), (iV LG), (iV LH), (iV FZ), (iV FV)]), (.agg #[(iV B9), (iV yS), (iV Mn), (iV Mr)])] nL (fun v128 X0 =>
 ∃ Qi xD X1 XI Ag xw XJ xu Ai I7 Qo : Int, ∃ t141 : Bool, (v128 = (.tuple #[(.agg #[(iV Qi), (iV xD), (iV X1), (iV XI), (iV Ag), (iV xw), (iV XJ), (iV xu), (iV Ai), (iV I7), (iV Qo)]), (.bool t141)])) ∧
 aO X0 cM fun Um Qp =>
 ou Qp Um (iV Qi) (iV xD) (iV X1) (iV XI) (iV Ag) (iV xw) (iV XJ) (iV xu) (iV Ai) (iV I7) (iV Qo) fun Gv =>
 aM t141
 (rS Gv k1 4 fun A155 Mp XC =>
 ((0 : Int) ≤ x1) ∧
 ((x1 : Int) < Mp) ∧
 aE A155 fun lT Ce =>
 gy Gv lT (Ce + ((Int.toNat x1) * 6)) fun yR A161 LJ Tm Jb TW n166 n167 =>
 aO Gv fM fun Af M169 =>
 Rm M169 Af (iV yR) (.slice A161 LJ Tm) (iV Jb) (iV TW) (iV n166) (iV n167) fun Tw =>
 ((0 : Int) ≤ kD) ∧
 ((kD : Int) ≤ kD) ∧
 ((0 : Int) ≤ (IntKind.wrap .i64 ((mS : Int) - 1))) ∧
 (((IntKind.wrap .i64 ((mS : Int) - 1)) : Int) ≤ (kD : Int)) ∧
 ((0 : Int) ≤ 0) ∧
 ((0 : Int) ≤ (IntKind.wrap .i64 ((mS : Int) - 1))) ∧
 aU Tw Um 0 fun Gk I9 Qq X2 Jd Je Ak uR rZ IW Qr =>
 aO Tw (cl [] 114) fun IQ TY =>
 (True) ∧
 bk Tryz.prog (Go.Builtin.append_ #[107, 107] 107 #[(.slice (some ⟨IQ, 0, none⟩) 0 0), (.slice (jt Kr 0 (Int.toNat (kD : Int)) 11) ((Int.toNat (IntKind.wrap .i64 ((mS : Int) - 1))) - 0) ((Int.toNat (kD : Int)) - 0))]) TY (fun Un X3 =>
 aF (some Un) fun A191 P5 k193 =>
 ((Mem.fX X3 ⟨Um, 0, none⟩ 0 11) = some [(iV Gk), (iV I9), (iV Qq), (iV X2), (iV Jd), (iV Je), (iV Ak), (iV uR), (iV rZ), (iV IW), (iV Qr)]) ∧
 aO X3 (cl [(iV Gk), (iV I9), (iV Qq), (iV X2), (iV Jd), (iV Je), (iV Ak), (iV uR), (iV rZ), (iV IW), (iV Qr)] 114) fun Mv Cf =>
 aA 107 A191 P5 k193 (some ⟨Mv, 0, none⟩) 1 1 Cf (fun Uo P6 =>
 aF (some Uo) fun LR LS F6 =>
 ((Mem.fX P6 ⟨Um, 0, none⟩ 0 11) = some [(iV Gk), (iV I9), (iV Qq), (iV X2), (iV Jd), (iV Je), (iV Ak), (iV uR), (iV rZ), (iV IW), (iV Qr)]) ∧
 sT P6 Af 1 (.slice LR LS F6) fun Jk =>
 ((Mem.fX Jk ⟨Um, 0, none⟩ 0 11) = some [(iV Gk), (iV I9), (iV Qq), (iV X2), (iV Jd), (iV Je), (iV Ak), (iV uR), (iV rZ), (iV IW), (iV Qr)]) ∧
 rW Jk k1 fun l202 =>
 gy Jk Af 0 fun T4 A204 k205 To Md LU LV BW =>
 ae Tryz.prog 112 #[(.agg (l202.toArray)), (iV x1), (.agg #[(iV T4), (.slice A204 k205 To), (iV Md), (iV LU), (iV LV), (iV BW)])] Jk (fun v211 XL =>
 xW v211 fun v213 v214 v215 v216 v217 Up v219 v220 v221 v222 v223 v224 v225 v226 =>
 dO XL k3 0 [v213, v214, v215, v216, v217, Up, v219, v220, v221, v222, v223, v224, v225, v226] 14 fun M227 =>
 rW M227 k3 fun l228 =>
 K (.tuple #[(.agg (l228.toArray)), (.bool true)]) M227) Kp) Kp) Kp)
 (rW Gv k1 fun l229 =>
 bP Gv Am 0 fun Qs Qt Qu Ah =>
 ae Tryz.prog 114 #[(.agg (l229.toArray)), (iV x1)] Gv (fun v234 Gw =>
 xW v234 fun v236 v237 v238 v239 v240 v241 v242 v243 v244 v245 v246 TF v248 v249 =>
 ((Mem.fX Gw ⟨Am, 0, none⟩ 0 4) = some [(iV Qs), (iV Qt), (iV Qu), (iV Ah)]) ∧
 ae Tryz.prog 113 #[(.agg #[v236, v237, v238, v239, v240, v241, v242, v243, v244, v245, v246, TF, v248, v249]), (iV x1), (.agg #[(iV Qs), (iV Qt), (iV Qu), (iV Ah)]), (iV x2)] Gw (fun v250 XP =>
 xW v250 fun v252 v253 v254 v255 v256 v257 v258 v259 v260 v261 v262 v263 v264 Uq =>
 ((Mem.fX XP ⟨Am, 0, none⟩ 0 4) = some [(iV Qs), (iV Qt), (iV Qu), (iV Ah)]) ∧
 dO XP k1 0 [v252, v253, v254, v255, v256, v257, v258, v259, v260, v261, v262, v263, v264, Uq] 14 fun uU =>
 ((Mem.fX uU ⟨Am, 0, none⟩ 0 4) = some [(iV Qs), (iV Qt), (iV Qu), (iV Ah)]) ∧
 rW uU k1 fun X4 =>
 rI uU k1 11 fun IX =>
 aM (IX == 0)
 (rS uU k1 4 fun A269 k270 k271 =>
 ((0 : Int) ≤ x1) ∧
 ((x1 : Int) < k270) ∧
 aE A269 fun k272 k273 =>
 rI uU k272 (k273 + ((Int.toNat x1) * 6)) fun Gq =>
 aM (Gq == 1)
 (rI uU Am 0 fun Mh =>
 aM (Mh != 12)
 (rI uU Am 0 fun Qj =>
 dO uU k3 0 X4 14 fun Ur =>
 eI Ur Am 0 Qj ∧
 rW Ur k3 fun Us =>
 K (.tuple #[(.agg (Us.toArray)), (.bool (Qj != 17))]) Ur)
 (dO uU k3 0 X4 14 fun TH =>
 rW TH k3 fun l280 =>
 K (.tuple #[(.agg (l280.toArray)), (.bool false)]) TH))
 (dO uU k3 0 X4 14 fun X5 =>
 rW X5 k3 fun l282 =>
 K (.tuple #[(.agg (l282.toArray)), (.bool false)]) X5))
 (dO uU k3 0 X4 14 fun M283 =>
 rW M283 k3 fun l284 =>
 K (.tuple #[(.agg (l284.toArray)), (.bool false)]) M283)) Kp) Kp)) Kp)))))) :
 ae Tryz.prog 78 #[.agg y0.toArray, .int .i64 x1, .int .i64 x2] M K Kp := vw [(6, .bH [0, 1, 0, 4, 12, 0, 32, 124, 252, 508, 1023] (sy [0, 2, 3, 5, 1, 4, 6, 7, 8, 9, 10] .done)), (8, .bH [0, 1, 3, 0, 8, 31, 63, 0, 128, 511, 1023, 0, 4095] (sy [0, 1, 3, 7, 2, 4, 5, 6, 8, 9, 10, 11, 12] .done)), (12, .bH [0, 0, 0, 4, 12, 30, 63, 0, 128, 511, 1023, 2047] (sy [1, 2, 3, 4, 5] (.cS 7 (sy [0] (.late 6 (sy [8, 9, 10, 11] .done)))))), (14, .bH [0, 0, 3, 0, 0, 0, 63, 127] (sy [1, 3, 5, 0] (.cS 4 (sy [2, 6, 7] .done)))), (15, .bH [0, 0, 2, 6, 14, 30, 62, 30, 254, 510, 1022, 2046, 4094, 8190, 16382, 32766, 65534, 131070, 262142, 524286, 1048574, 2097150, 4194302, 524287, 16777215] (sy [1, 0, 2, 3, 4, 5, 7, 6, 8, 9, 10, 11, 12, 13, 14, 15, 16, 17, 18, 19] (.cS 20 (sy [21, 22, 23, 24] .done))))] Tryz.func78 h
theorem qF {y0 : List Value} (h :
aO M (.cells (y0.toArray) 81 (0, 0)) fun k1 M2 =>
rS M2 k1 4 fun A3 k4 k5 =>
∃ I6 : IT, (∃ k7, I6 k7 [(iV 0)] M2) ∧
∀ (k8 : Nat) (_ : Nat → Value) (dI : Int) (iQ : Mem), (I6 k8 [(iV dI)] iQ) → aM (decide (dI < k4))
 ((0 ≤ dI) ∧
 (dI < k4) ∧
 aE A3 fun gI eu =>
 gy iQ gI (eu + ((Int.toNat dI) * 6)) fun jD oW fx fT kQ nX gF vb =>
 aO iQ fM fun gi mD =>
 Rm mD gi (iV jD) (.slice oW fx fT) (iV kQ) (iV nX) (iV gF) (iV vb) fun pG =>
 rI pG gi 0 fun xl =>
 aM (xl == 1)
 (K (.bool false) pG)
 (rI pG gi 0 fun ry =>
 aM (ry == 3)
 (K (.bool false) pG)
 (∃ iy : Nat, (iy < k8) ∧
 I6 iy [(iV (IntKind.wrap .i64 (dI + 1)))] pG)))
 (rI iQ k1 11 fun kP =>
 K (.bool (kP == 0)) iQ)) :
 ae Tryz.prog 82 #[.agg y0.toArray] M K Kp := vw [(2000000, .loop [(8, .c (.int .i64))])] Tryz.func82 h
theorem so {y0 : List Value} {x1 : Int} (h :
aO M (.cells (y0.toArray) 81 (0, 0)) fun k1 M2 =>
aO M2 aL fun k3 M4 =>
rW M4 k1 fun l5 =>
ae Tryz.prog 139 #[(.agg (l5.toArray)), (iV x1), (iV 1), (.agg #[(iV 0), (iV 0), (iV 0), (iV 0)])] M4 (fun v6 M7 =>
xW v6 fun v8 v9 v10 v11 Hs Kn Xn By IC Ta FA PW v20 II =>
dO M7 k1 0 [v8, v9, v10, v11, Hs, Kn, Xn, By, IC, Ta, FA, PW, v20, II] 14 fun c9 =>
aO c9 (cl [] 3) fun gN nJ =>
rS nJ k1 13 fun CY gM kK =>
aA 38 (some ⟨gN, 0, none⟩) 0 0 CY gM kK nJ (fun PM pG =>
aF (some PM) fun yG iM iy =>
aO pG (cl [(iV x1)] 3) fun lz qO =>
aA 38 yG iM iy (some ⟨lz, 0, none⟩) 1 1 qO (fun v35 pH =>
aF (some v35) fun yM fE lA =>
sT pH k1 13 (.slice yM fE lA) fun FP =>
rW FP k1 fun l41 =>
dO FP k3 0 l41 14 fun OD =>
rW OD k3 fun l43 =>
K (.agg (l43.toArray)) OD) Kp) Kp) Kp) :
 ae Tryz.prog 109 #[.agg y0.toArray, .int .i64 x1] M K Kp := vw [] Tryz.func109 h
theorem su {y0 : List Value} {x1 : Int} (h :
aO M (.cells (y0.toArray) 81 (0, 0)) fun k1 M2 =>
aO M2 aL fun k3 M4 =>
sT M4 k1 11 (iV 2) fun M5 =>
sT M5 k1 12 (iV x1) fun M6 =>
rW M6 k1 fun l7 =>
dO M6 k3 0 l7 14 fun M8 =>
rW M8 k3 fun l9 =>
K (.agg (l9.toArray)) M8) :
 ae Tryz.prog 110 #[.agg y0.toArray, .int .i64 x1] M K Kp := vw [] Tryz.func110 h
theorem sv {y0 : List Value} {x1 : Int} {oB : Int} {Ut : Option Addr} {Uu Uv : Nat} {oD : Int} {rJ : Int} {S0 : Int} {S1 : Int} (h :
aO M (.cells (y0.toArray) 81 (0, 0)) fun k1 M2 =>
aO M2 (cl [(iV oB), (.slice Ut Uu Uv), (iV oD), (iV rJ), (iV S0), (iV S1)] 111) fun k3 M4 =>
aO M4 aL fun k5 M6 =>
aO M6 (cl [] 111) fun k7 M8 =>
rS M8 k1 4 fun A9 eB eo =>
aA 74 (some ⟨k7, 0, none⟩) 0 0 A9 eB eo M8 (fun Hs lG =>
aF (some Hs) fun ue jy fx =>
sT lG k1 4 (.slice ue jy fx) fun mW =>
rS mW k1 4 fun Lt jH fV =>
gy mW k3 0 fun vb Ly gN nW yH Iw Ll Ko =>
((0 : Int) ≤ x1) ∧
((x1 : Int) < jH) ∧
aE Lt fun gk jg =>
sT mW gk (jg + ((Int.toNat x1) * 6)) (iV vb) fun uj =>
sT uj gk ((jg + ((Int.toNat x1) * 6)) + 1) (.slice Ly gN nW) fun mR =>
sT mR gk ((jg + ((Int.toNat x1) * 6)) + 2) (iV yH) fun uf =>
sT uf gk ((jg + ((Int.toNat x1) * 6)) + 3) (iV Iw) fun qO =>
sT qO gk ((jg + ((Int.toNat x1) * 6)) + 4) (iV Ll) fun vj =>
sT vj gk ((jg + ((Int.toNat x1) * 6)) + 5) (iV Ko) fun pH =>
rW pH k1 fun l37 =>
dO pH k5 0 l37 14 fun lB =>
rW lB k5 fun l39 =>
K (.agg (l39.toArray)) lB) Kp) :
 ae Tryz.prog 112 #[.agg y0.toArray, .int .i64 x1, .agg #[.int .i64 oB, .slice Ut Uu Uv, .int .i64 oD, .int .i64 rJ, .int .i64 S0, .int .i64 S1]] M K Kp := vw [] Tryz.func112 h
theorem bn {y0 : List Value} {x1 : Int} {oB : Int} {rH : Int} {oD : Int} {rJ : Int} {x3 : Int} (h :
aO M (.cells (y0.toArray) 81 (0, 0)) fun k1 M2 =>
aO M2 (cl [(iV oB), (iV rH), (iV oD), (iV rJ)] 109) fun k3 M4 =>
aO M4 aL fun k5 M6 =>
rS M6 k1 4 fun A7 k8 k9 =>
((0 : Int) ≤ x1) ∧
((x1 : Int) < k8) ∧
aE A7 fun eB eo =>
gy M6 eB (eo + ((Int.toNat x1) * 6)) fun hG zA fB jy nI kS kQ nX =>
aO M6 fM fun fV jI =>
Rm jI fV (iV hG) (.slice zA fB jy) (iV nI) (iV kS) (iV kQ) (iV nX) fun ng =>
rS ng fV 1 fun z5 gk jg =>
rS ng fV 1 fun Io iy lz =>
((0 : Int) ≤ (IntKind.wrap .i64 ((iy : Int) - 1))) ∧
(((IntKind.wrap .i64 ((iy : Int) - 1)) : Int) < (gk : Int)) ∧
aE z5 fun mS kD =>
aU ng mS (kD + ((Int.toNat (IntKind.wrap .i64 ((iy : Int) - 1))) * 11)) fun tH xU mE yC ni zG BL xV yL uk ID =>
aO ng cM fun kj Ep =>
ou Ep kj (iV tH) (iV xU) (iV mE) (iV yC) (iV ni) (iV zG) (iV BL) (iV xV) (iV yL) (iV uk) (iV ID) fun eL =>
rI eL k3 0 fun vA =>
aM (vA == 9)
 (rS eL fV 1 fun Xr BG Kv =>
 rI eL k3 1 fun n64 =>
 rI eL k3 2 fun Hv =>
 (0 ≤ Hv) ∧
 (Hv < 8) ∧
 rI eL kj (2 + (Int.toNat Hv)) fun PJ =>
 rI eL k3 3 fun IE =>
 ae Tryz.prog 140 #[(.slice Xr BG Kv), (iV n64), (iV PJ), (iV IE)] eL (fun ME OH =>
 ∃ A70 : Option Addr, ∃ FF Ku : Nat, ∃ t73 : Bool, (ME = (.tuple #[(.slice A70 FF Ku), (.bool t73)])) ∧
 aM (!t73)
 (rW OH k1 fun l74 =>
 ae Tryz.prog 110 #[(.agg (l74.toArray)), (iV (-4))] OH (fun SX Xg =>
 xW SX fun Uf Ug LC Qm Uh Qn Ui PX Uj Uk SY Qa v89 PY =>
 dO Xg k5 0 [Uf, Ug, LC, Qm, Uh, Qn, Ui, PX, Uj, Uk, SY, Qa, v89, PY] 14 fun ov =>
 rW ov k5 fun l92 =>
 K (.agg (l92.toArray)) ov) Kp)
 (sT OH fV 1 (.slice A70 FF Ku) fun M93 =>
 rW M93 k1 fun l94 =>
 gy M93 fV 0 fun SS A96 Rv ZP XA yD vE BA =>
 ae Tryz.prog 112 #[(.agg (l94.toArray)), (iV x1), (.agg #[(iV SS), (.slice A96 Rv ZP), (iV XA), (iV yD), (iV vE), (iV BA)])] M93 (fun Cg DA =>
 xW Cg fun Gx Gy Gz GB GC BR Ch MF BE MG Ci GD MH GF =>
 dO DA k5 0 [Gx, Gy, Gz, GB, GC, BR, Ch, MF, BE, MG, Ci, GD, MH, GF] 14 fun Gg =>
 rW Gg k5 fun l120 =>
 K (.agg (l120.toArray)) Gg) Kp)) Kp)
 (aM (vA == 10)
 (rS eL fV 1 fun A121 yP IM =>
 rI eL k3 1 fun B9 =>
 (0 ≤ B9) ∧
 (B9 < 8) ∧
 rI eL kj (2 + (Int.toNat B9)) fun yS =>
 ae Tryz.prog 141 #[(.slice A121 yP IM), (iV yS)] eL (fun LX yT =>
 ∃ A128 : Option Addr, ∃ uN DN : Nat, ∃ t131 : Bool, (LX = (.tuple #[(.slice A128 uN DN), (.bool t131)])) ∧
 aM t131
 (sT yT fV 1 (.slice A128 uN DN) fun oI =>
 rW oI k1 fun Uw =>
 gy oI fV 0 fun Ag A135 xq GG Ai I7 Qo Ms =>
 ae Tryz.prog 112 #[(.agg (Uw.toArray)), (iV x1), (.agg #[(iV Ag), (.slice A135 xq GG), (iV Ai), (iV I7), (iV Qo), (iV Ms)])] oI (fun Ux Qp =>
 xW Ux fun Uy Gr MI MJ MK ML F2 MM TR Uz UA UB UC UD =>
 dO Qp k5 0 [Uy, Gr, MI, MJ, MK, ML, F2, MM, TR, Uz, UA, UB, UC, UD] 14 fun M158 =>
 rW M158 k5 fun l159 =>
 K (.agg (l159.toArray)) M158) Kp)
 (rW yT k1 fun l160 =>
 ae Tryz.prog 139 #[(.agg (l160.toArray)), (iV x1), (iV 4), (.agg #[(iV 0), (iV 0), (iV 0), (iV 0)])] yT (fun UE Qv =>
 xW UE fun v163 UF v165 v166 v167 v168 v169 v170 v171 v172 v173 v174 v175 v176 =>
 dO Qv k1 0 [v163, UF, v165, v166, v167, v168, v169, v170, v171, v172, v173, v174, v175, v176] 14 fun MN =>
 aM (x1 == 0)
 (sT MN k1 11 (iV 1) fun XK =>
 rW XK k1 fun l179 =>
 dO XK k5 0 l179 14 fun M180 =>
 rW M180 k5 fun l181 =>
 K (.agg (l181.toArray)) M180)
 (rW MN k1 fun l182 =>
 dO MN k5 0 l182 14 fun M183 =>
 rW M183 k5 fun l184 =>
 K (.agg (l184.toArray)) M183)) Kp)) Kp)
 (aM (vA == 11)
 (rS eL k1 4 fun A185 LO IQ =>
 aM (decide ((LO : Int) > 99))
 (rW eL k1 fun l188 =>
 ae Tryz.prog 110 #[(.agg (l188.toArray)), (iV (-5))] eL (fun Un X3 =>
 xW Un fun v191 v192 v193 UG v195 Uo v197 UH v199 v200 v201 v202 v203 v204 =>
 dO X3 k5 0 [v191, v192, v193, UG, v195, Uo, v197, UH, v199, v200, v201, v202, v203, v204] 14 fun M205 =>
 rW M205 k5 fun l206 =>
 K (.agg (l206.toArray)) M205) Kp)
 (rS eL k1 4 fun A207 X6 k209 =>
 rS eL k1 4 fun X7 Qw Jf =>
 rI eL k3 1 fun Gm =>
 rI eL k3 2 fun uO =>
 (0 ≤ uO) ∧
 (uO < 8) ∧
 rI eL kj (2 + (Int.toNat uO)) fun DG =>
 aO eL (cl [] 111) fun XR M217 =>
 aA 74 (some ⟨XR, 0, none⟩) 0 0 X7 Qw Jf M217 (fun Up F8 =>
 aF (some Up) fun A220 k221 k222 =>
 ((Mem.ld F8 ⟨kj, (2 + (Int.toNat uO)), none⟩) = (some (iV DG))) ∧
 eI F8 k3 2 uO ∧
 eI F8 k3 1 Gm ∧
 ae Tryz.prog 74 #[(iV Gm), (iV DG)] F8 (fun v223 Qx =>
 aF (some v223) fun A225 k226 k227 =>
 ((Mem.ld Qx ⟨kj, (2 + (Int.toNat uO)), none⟩) = (some (iV DG))) ∧
 eI Qx k3 2 uO ∧
 eI Qx k3 1 Gm ∧
 aO Qx (cl [(iV 0), (.slice A225 k226 k227), (iV 0), (iV 0), (iV 0), (iV 0)] 111) fun XH M229 =>
 aA 74 A220 k221 k222 (some ⟨XH, 0, none⟩) 1 1 M229 (fun v230 P8 =>
 aF (some v230) fun A232 k233 BX =>
 ((Mem.ld P8 ⟨kj, (2 + (Int.toNat uO)), none⟩) = (some (iV DG))) ∧
 eI P8 k3 2 uO ∧
 eI P8 k3 1 Gm ∧
 sT P8 k1 4 (.slice A232 k233 BX) fun Gw =>
 ((Mem.ld Gw ⟨kj, (2 + (Int.toNat uO)), none⟩) = (some (iV DG))) ∧
 eI Gw k3 2 uO ∧
 eI Gw k3 1 Gm ∧
 rW Gw k1 fun l236 =>
 rI Gw k3 3 fun An =>
 ae Tryz.prog 109 #[(.agg (l236.toArray)), (iV (X6 : Int))] Gw (fun v238 XO =>
 xW v238 fun v240 v241 v242 v243 v244 v245 v246 TF v248 v249 v250 v251 v252 v253 =>
 eI XO k3 3 An ∧
 ae Tryz.prog 142 #[(.agg #[v240, v241, v242, v243, v244, v245, v246, TF, v248, v249, v250, v251, v252, v253]), (iV x1), (iV An), (iV (X6 : Int))] XO (fun v254 yX =>
 xW v254 fun v256 v257 v258 v259 v260 v261 v262 v263 v264 Uq v266 v267 v268 v269 =>
 eI yX k3 3 An ∧
 dO yX k5 0 [v256, v257, v258, v259, v260, v261, v262, v263, v264, Uq, v266, v267, v268, v269] 14 fun M270 =>
 eI M270 k3 3 An ∧
 rW M270 k5 fun l271 =>
 K (.agg (l271.toArray)) M270) Kp) Kp) Kp) Kp) Kp))
 (aM (vA == 13)
 (rW eL k1 fun l272 =>
 rI eL k3 1 fun n273 =>
 rI eL k3 2 fun Gq =>
 (0 ≤ Gq) ∧
 (Gq < 8) ∧
 rI eL kj (2 + (Int.toNat Gq)) fun Mh =>
 (True) ∧
 ae Tryz.prog 143 #[(.agg (l272.toArray)), (iV n273), (iV Mh)] eL (fun v276 Ur =>
 ∃ Us : List Value, ((Us.length) = 14) ∧
 ∃ t279 : Bool, (v276 = (.tuple #[(.agg (Us.toArray)), (.bool t279)])) ∧
 aO Ur aL fun k280 X5 =>
 dO X5 k280 0 Us 14 fun Qy =>
 aM t279
 (rW Qy k280 fun l283 =>
 dO Qy k5 0 l283 14 fun M284 =>
 rW M284 k5 fun l285 =>
 K (.agg (l285.toArray)) M284)
 (rS Qy k1 6 fun A286 k287 X8 =>
 rI Qy k3 1 fun TJ =>
 (0 ≤ TJ) ∧
 (TJ < k287) ∧
 aE A286 fun k290 UI =>
 cI Qy k290 (UI + ((Int.toNat TJ) * 5)) fun n292 UJ UK UL A296 k297 UM A299 k300 k301 t302 =>
 aO Qy c7 fun Jl M304 =>
 Bs M304 Jl (iV n292) (.slice UJ UK UL) (.slice A296 k297 UM) (.slice A299 k300 k301) (.bool t302) fun X9 =>
 rS X9 Jl 2 fun A310 k311 k312 =>
 rI X9 k3 2 fun Cj =>
 (0 ≤ Cj) ∧
 (Cj < 8) ∧
 rI X9 kj (2 + (Int.toNat Cj)) fun IY =>
 aO X9 (cl [] 289) fun k315 M316 =>
 (True) ∧
 aA 188 (some ⟨k315, 0, none⟩) 0 0 A310 k311 k312 M316 (fun v317 M318 =>
 aF (some v317) fun A319 k320 k321 =>
 ((Mem.ld M318 ⟨kj, (2 + (Int.toNat Cj)), none⟩) = (some (iV IY))) ∧
 eI M318 k3 2 Cj ∧
 aO M318 (cl [(iV x1), (iV 0), (iV IY)] 289) fun k322 M323 =>
 aA 188 A319 k320 k321 (some ⟨k322, 0, none⟩) 1 1 M323 (fun v324 M325 =>
 aF (some v324) fun A326 k327 k328 =>
 ((Mem.ld M325 ⟨kj, (2 + (Int.toNat Cj)), none⟩) = (some (iV IY))) ∧
 eI M325 k3 2 Cj ∧
 sT M325 Jl 2 (.slice A326 k327 k328) fun MO =>
 ((Mem.ld MO ⟨kj, (2 + (Int.toNat Cj)), none⟩) = (some (iV IY))) ∧
 eI MO k3 2 Cj ∧
 rW MO k1 fun l330 =>
 rI MO k3 1 fun TL =>
 cI MO Jl 0 fun n332 A333 k334 k335 A336 k337 k338 A339 k340 k341 t342 =>
 bP MO k3 0 fun IZ I0 Qe I2 =>
 ae Tryz.prog 144 #[(.agg (l330.toArray)), (iV TL), (.agg #[(iV n332), (.slice A333 k334 k335), (.slice A336 k337 k338), (.slice A339 k340 k341), (.bool t342)])] MO (fun v347 M348 =>
 xW v347 fun v349 v350 v351 v352 v353 v354 v355 v356 v357 v358 v359 v360 v361 v362 =>
 ((Mem.fX M348 ⟨k3, 0, none⟩ 0 4) = some [(iV IZ), (iV I0), (iV Qe), (iV I2)]) ∧
 ae Tryz.prog 139 #[(.agg #[v349, v350, v351, v352, v353, v354, v355, v356, v357, v358, v359, v360, v361, v362]), (iV x1), (iV 2), (.agg #[(iV IZ), (iV I0), (iV Qe), (iV I2)])] M348 (fun v363 M364 =>
 xW v363 fun v365 v366 v367 v368 v369 v370 v371 v372 v373 v374 v375 v376 v377 v378 =>
 ((Mem.fX M364 ⟨k3, 0, none⟩ 0 4) = some [(iV IZ), (iV I0), (iV Qe), (iV I2)]) ∧
 dO M364 k5 0 [v365, v366, v367, v368, v369, v370, v371, v372, v373, v374, v375, v376, v377, v378] 14 fun M379 =>
 ((Mem.fX M379 ⟨k3, 0, none⟩ 0 4) = some [(iV IZ), (iV I0), (iV Qe), (iV I2)]) ∧
 rW M379 k5 fun l380 =>
 K (.agg (l380.toArray)) M379) Kp) Kp) Kp) Kp)) Kp)
 (aM (vA == 14)
 (rW eL k1 fun l381 =>
 rI eL k3 1 fun TN =>
 ae Tryz.prog 145 #[(.agg (l381.toArray)), (iV TN)] eL (fun v383 M384 =>
 ∃ l385 : List Value, ((l385.length) = 14) ∧
 ∃ Ya Qf : Int, ∃ t388 : Bool, (v383 = (.tuple #[(.agg (l385.toArray)), (iV Ya), (iV Qf), (.bool t388)])) ∧
 aO M384 aL fun k389 M390 =>
 dO M390 k389 0 l385 14 fun Jm =>
 aM t388
 (rW Jm k389 fun l392 =>
 rI Jm k3 2 fun n393 =>
 rI Jm k3 3 fun Ml =>
 ae Tryz.prog 142 #[(.agg (l392.toArray)), (iV x1), (iV n393), (iV Ya)] Jm (fun v395 M396 =>
 xW v395 fun v397 v398 v399 v400 v401 v402 v403 v404 v405 v406 v407 v408 v409 v410 =>
 eI M396 k3 3 Ml ∧
 ae Tryz.prog 142 #[(.agg #[v397, v398, v399, v400, v401, v402, v403, v404, v405, v406, v407, v408, v409, v410]), (iV x1), (iV Ml), (iV Qf)] M396 (fun v411 M412 =>
 xW v411 fun v413 v414 v415 v416 v417 v418 v419 v420 v421 v422 v423 v424 v425 v426 =>
 eI M412 k3 3 Ml ∧
 dO M412 k5 0 [v413, v414, v415, v416, v417, v418, v419, v420, v421, v422, v423, v424, v425, v426] 14 fun M427 =>
 eI M427 k3 3 Ml ∧
 rW M427 k5 fun l428 =>
 K (.agg (l428.toArray)) M427) Kp) Kp)
 (rS Jm k1 6 fun A429 k430 k431 =>
 rI Jm k3 1 fun n432 =>
 (0 ≤ n432) ∧
 (n432 < k430) ∧
 aE A429 fun k433 k434 =>
 cI Jm k433 (k434 + ((Int.toNat n432) * 5)) fun n435 A436 k437 k438 A439 k440 k441 A442 k443 k444 t445 =>
 aO Jm c7 fun Yb M447 =>
 Bs M447 Yb (iV n435) (.slice A436 k437 k438) (.slice A439 k440 k441) (.slice A442 k443 k444) (.bool t445) fun M452 =>
 aO M452 (cl [] 289) fun k453 M454 =>
 rS M454 Yb 3 fun A455 k456 k457 =>
 aA 188 (some ⟨k453, 0, none⟩) 0 0 A455 k456 k457 M454 (fun v458 M459 =>
 aF (some v458) fun A460 k461 k462 =>
 aO M459 (cl [(iV x1), (iV 0), (iV 0)] 289) fun k463 M464 =>
 aA 188 A460 k461 k462 (some ⟨k463, 0, none⟩) 1 1 M464 (fun v465 M466 =>
 aF (some v465) fun A467 k468 k469 =>
 sT M466 Yb 3 (.slice A467 k468 k469) fun UN =>
 rW UN k1 fun l471 =>
 rI UN k3 1 fun n472 =>
 cI UN Yb 0 fun n473 A474 k475 k476 A477 k478 k479 A480 k481 k482 t483 =>
 bP UN k3 0 fun Qg Qh Yc Yd =>
 ae Tryz.prog 144 #[(.agg (l471.toArray)), (iV n472), (.agg #[(iV n473), (.slice A474 k475 k476), (.slice A477 k478 k479), (.slice A480 k481 k482), (.bool t483)])] UN (fun v488 M489 =>
 xW v488 fun v490 v491 v492 v493 v494 v495 v496 v497 v498 v499 v500 v501 v502 v503 =>
 ((Mem.fX M489 ⟨k3, 0, none⟩ 0 4) = some [(iV Qg), (iV Qh), (iV Yc), (iV Yd)]) ∧
 ae Tryz.prog 139 #[(.agg #[v490, v491, v492, v493, v494, v495, v496, v497, v498, v499, v500, v501, v502, v503]), (iV x1), (iV 2), (.agg #[(iV Qg), (iV Qh), (iV Yc), (iV Yd)])] M489 (fun v504 M505 =>
 xW v504 fun v506 v507 v508 v509 v510 v511 v512 v513 v514 v515 v516 v517 v518 v519 =>
 ((Mem.fX M505 ⟨k3, 0, none⟩ 0 4) = some [(iV Qg), (iV Qh), (iV Yc), (iV Yd)]) ∧
 dO M505 k5 0 [v506, v507, v508, v509, v510, v511, v512, v513, v514, v515, v516, v517, v518, v519] 14 fun M520 =>
 ((Mem.fX M520 ⟨k3, 0, none⟩ 0 4) = some [(iV Qg), (iV Qh), (iV Yc), (iV Yd)]) ∧
 rW M520 k5 fun l521 =>
 K (.agg (l521.toArray)) M520) Kp) Kp) Kp) Kp)) Kp)
 (aM (vA == 15)
 (rW eL k1 fun l522 =>
 rI eL k3 1 fun n523 =>
 ae Tryz.prog 146 #[(.agg (l522.toArray)), (iV n523)] eL (fun v524 M525 =>
 xW v524 fun v526 v527 v528 v529 v530 v531 v532 v533 v534 v535 v536 v537 v538 v539 =>
 dO M525 k5 0 [v526, v527, v528, v529, v530, v531, v532, v533, v534, v535, v536, v537, v538, v539] 14 fun M540 =>
 rW M540 k5 fun l541 =>
 K (.agg (l541.toArray)) M540) Kp)
 (aM (vA == 16)
 (rW eL k1 fun l542 =>
 bP eL k3 0 fun n543 n544 n545 n546 =>
 ae Tryz.prog 147 #[(.agg (l542.toArray)), (iV x1), (.agg #[(iV n543), (iV n544), (iV n545), (iV n546)]), (iV x3)] eL (fun v547 M548 =>
 xW v547 fun v549 v550 v551 v552 v553 v554 v555 v556 v557 v558 v559 v560 v561 v562 =>
 dO M548 k5 0 [v549, v550, v551, v552, v553, v554, v555, v556, v557, v558, v559, v560, v561, v562] 14 fun M563 =>
 rW M563 k5 fun l564 =>
 K (.agg (l564.toArray)) M563) Kp)
 (aM (vA == 17)
 (rI eL k3 1 fun n565 =>
 (0 ≤ n565) ∧
 (n565 < 8) ∧
 rI eL kj (2 + (Int.toNat n565)) fun Ye =>
 aM (decide (((if (1048576 : Int) < Ye then 1048576 else Ye) : Int) > 0))
 (rS eL k1 8 fun A567 k568 k569 =>
 rU eL k1 (8 + 1) fun n570 =>
 rU eL k1 5 fun n571 =>
 ae Tryz.prog 148 #[(.agg #[(.slice A567 k568 k569), (.int .u64 n570)]), (.int .u64 (IntKind.wrap .u64 (n571 + (IntKind.wrap .u64 (if (1048576 : Int) < Ye then 1048576 else Ye))))), (iV x1)] eL (fun v572 M573 =>
 ∃ A574 : Option Addr, ∃ k575 k576 : Nat, ∃ n577 : Int, (v572 = (.agg #[(.slice A574 k575 k576), (.int .u64 n577)])) ∧
 sT M573 k1 8 (.slice A574 k575 k576) fun M578 =>
 sT M578 k1 (8 + 1) (.int .u64 n577) fun M579 =>
 rW M579 k1 fun l580 =>
 ae Tryz.prog 139 #[(.agg (l580.toArray)), (iV x1), (iV 3), (.agg #[(iV 0), (iV 0), (iV 0), (iV 0)])] M579 (fun v581 M582 =>
 xW v581 fun v583 v584 v585 v586 v587 v588 v589 v590 v591 v592 v593 v594 v595 v596 =>
 dO M582 k5 0 [v583, v584, v585, v586, v587, v588, v589, v590, v591, v592, v593, v594, v595, v596] 14 fun M597 =>
 rW M597 k5 fun l598 =>
 K (.agg (l598.toArray)) M597) Kp) Kp)
 (rW eL k1 fun l599 =>
 dO eL k5 0 l599 14 fun M600 =>
 rW M600 k5 fun l601 =>
 K (.agg (l601.toArray)) M600))
 (aM (vA == 18)
 (rS eL k1 7 fun A602 k603 k604 =>
 rI eL k3 1 fun n605 =>
 (0 ≤ n605) ∧
 (n605 < k603) ∧
 aE A602 fun k606 k607 =>
 rS eL k606 (k607 + (Int.toNat n605)) fun A608 k609 k610 =>
 ae Tryz.prog 149 #[(.agg #[(.slice A608 k609 k610)]), (iV x1)] eL (fun v611 M612 =>
 ∃ A613 : Option Addr, ∃ k614 k615 : Nat, ∃ t616 : Bool, (v611 = (.tuple #[(.agg #[(.slice A613 k614 k615)]), (.bool t616)])) ∧
 aO M612 wV fun k617 M618 =>
 sT M618 k617 0 (.slice A613 k614 k615) fun M619 =>
 aO M619 (cl [] 251) fun k620 M621 =>
 rS M621 k1 7 fun A622 k623 k624 =>
 aA 76 (some ⟨k620, 0, none⟩) 0 0 A622 k623 k624 M621 (fun v625 M626 =>
 aF (some v625) fun A627 k628 k629 =>
 sT M626 k1 7 (.slice A627 k628 k629) fun Yf =>
 rS Yf k1 7 fun A631 k632 k633 =>
 rI Yf k3 1 fun n634 =>
 rS Yf k617 0 fun A635 k636 k637 =>
 (0 ≤ n634) ∧
 (n634 < k632) ∧
 aE A631 fun k638 k639 =>
 sT Yf k638 (k639 + (Int.toNat n634)) (.slice A635 k636 k637) fun UO =>
 aM (!t616)
 (rW UO k1 fun l641 =>
 bP UO k3 0 fun n642 n643 n644 n645 =>
 ae Tryz.prog 139 #[(.agg (l641.toArray)), (iV x1), (iV 2), (.agg #[(iV n642), (iV n643), (iV n644), (iV n645)])] UO (fun v646 M647 =>
 xW v646 fun v648 v649 v650 v651 v652 v653 v654 v655 v656 v657 v658 v659 v660 v661 =>
 dO M647 k5 0 [v648, v649, v650, v651, v652, v653, v654, v655, v656, v657, v658, v659, v660, v661] 14 fun M662 =>
 rW M662 k5 fun l663 =>
 K (.agg (l663.toArray)) M662) Kp)
 (rW UO k1 fun l664 =>
 dO UO k5 0 l664 14 fun M665 =>
 rW M665 k5 fun l666 =>
 K (.agg (l666.toArray)) M665)) Kp) Kp)
 (aM (vA == 19)
 (rS eL k1 7 fun A667 k668 k669 =>
 rI eL k3 1 fun n670 =>
 (0 ≤ n670) ∧
 (n670 < k668) ∧
 aE A667 fun k671 k672 =>
 rS eL k671 (k672 + (Int.toNat n670)) fun A673 k674 k675 =>
 ae Tryz.prog 150 #[(.agg #[(.slice A673 k674 k675)]), (iV x1)] eL (fun v676 M677 =>
 ∃ A678 : Option Addr, ∃ k679 k680 : Nat, ∃ n681 n682 : Int, (v676 = (.tuple #[(.agg #[(.slice A678 k679 k680)]), (iV n681), (iV n682)])) ∧
 aO M677 wV fun k683 M684 =>
 sT M684 k683 0 (.slice A678 k679 k680) fun M685 =>
 aM (n682 != 0)
 (rW M685 k1 fun l686 =>
 ae Tryz.prog 110 #[(.agg (l686.toArray)), (iV (-3))] M685 (fun v687 M688 =>
 xW v687 fun v689 v690 v691 v692 v693 v694 v695 v696 v697 v698 v699 v700 v701 v702 =>
 dO M688 k5 0 [v689, v690, v691, v692, v693, v694, v695, v696, v697, v698, v699, v700, v701, v702] 14 fun M703 =>
 rW M703 k5 fun l704 =>
 K (.agg (l704.toArray)) M703) Kp)
 (aO M685 (cl [] 251) fun k705 M706 =>
 rS M706 k1 7 fun A707 k708 k709 =>
 aA 76 (some ⟨k705, 0, none⟩) 0 0 A707 k708 k709 M706 (fun v710 M711 =>
 aF (some v710) fun A712 k713 k714 =>
 sT M711 k1 7 (.slice A712 k713 k714) fun Yg =>
 rS Yg k1 7 fun A716 k717 k718 =>
 rI Yg k3 1 fun n719 =>
 rS Yg k683 0 fun A720 k721 k722 =>
 (0 ≤ n719) ∧
 (n719 < k717) ∧
 aE A716 fun k723 k724 =>
 sT Yg k723 (k724 + (Int.toNat n719)) (.slice A720 k721 k722) fun Yh =>
 aM (decide (n681 ≥ 0))
 (rW Yh k1 fun l726 =>
 ae Tryz.prog 109 #[(.agg (l726.toArray)), (iV n681)] Yh (fun v727 M728 =>
 xW v727 fun v729 v730 v731 v732 v733 v734 v735 v736 v737 v738 v739 v740 v741 v742 =>
 dO M728 k5 0 [v729, v730, v731, v732, v733, v734, v735, v736, v737, v738, v739, v740, v741, v742] 14 fun M743 =>
 rW M743 k5 fun l744 =>
 K (.agg (l744.toArray)) M743) Kp)
 (rW Yh k1 fun l745 =>
 dO Yh k5 0 l745 14 fun M746 =>
 rW M746 k5 fun l747 =>
 K (.agg (l747.toArray)) M746)) Kp)) Kp)
 (aM (vA == 20)
 (rS eL k1 10 fun A748 k749 k750 =>
 aM (decide ((k749 : Int) > 999))
 (rW eL k1 fun l751 =>
 ae Tryz.prog 110 #[(.agg (l751.toArray)), (iV (-6))] eL (fun v752 M753 =>
 xW v752 fun v754 v755 v756 v757 v758 v759 v760 v761 v762 v763 v764 v765 v766 v767 =>
 dO M753 k5 0 [v754, v755, v756, v757, v758, v759, v760, v761, v762, v763, v764, v765, v766, v767] 14 fun M768 =>
 rW M768 k5 fun l769 =>
 K (.agg (l769.toArray)) M768) Kp)
 (rS eL k1 10 fun A770 k771 k772 =>
 rI eL k3 1 fun GH =>
 (0 ≤ GH) ∧
 (GH < 8) ∧
 rI eL kj (2 + (Int.toNat GH)) fun Yi =>
 aO eL (cl [] 2) fun k775 M776 =>
 (True) ∧
 aA 59 (some ⟨k775, 0, none⟩) 0 0 A770 k771 k772 M776 (fun v777 M778 =>
 aF (some v777) fun A779 k780 k781 =>
 ((Mem.ld M778 ⟨kj, (2 + (Int.toNat GH)), none⟩) = (some (iV Yi))) ∧
 eI M778 k3 1 GH ∧
 aO M778 (cl [(iV Yi)] 2) fun k782 M783 =>
 aA 59 A779 k780 k781 (some ⟨k782, 0, none⟩) 1 1 M783 (fun v784 M785 =>
 aF (some v784) fun A786 k787 k788 =>
 ((Mem.ld M785 ⟨kj, (2 + (Int.toNat GH)), none⟩) = (some (iV Yi))) ∧
 eI M785 k3 1 GH ∧
 sT M785 k1 10 (.slice A786 k787 k788) fun Yj =>
 ((Mem.ld Yj ⟨kj, (2 + (Int.toNat GH)), none⟩) = (some (iV Yi))) ∧
 eI Yj k3 1 GH ∧
 rW Yj k1 fun l790 =>
 dO Yj k5 0 l790 14 fun M791 =>
 rW M791 k5 fun l792 =>
 K (.agg (l792.toArray)) M791) Kp) Kp))
 (aM (vA == 21)
 (rW eL k1 fun l793 =>
 rI eL k3 1 fun n794 =>
 rI eL k3 2 fun n795 =>
 ((n795 : Int) ≠ 0) ∧
 ae Tryz.prog 142 #[(.agg (l793.toArray)), (iV x1), (iV n794), (iV (Int.tmod x3 n795))] eL (fun v796 M797 =>
 xW v796 fun v798 v799 v800 v801 v802 v803 v804 v805 v806 v807 v808 v809 v810 v811 =>
 dO M797 k5 0 [v798, v799, v800, v801, v802, v803, v804, v805, v806, v807, v808, v809, v810, v811] 14 fun M812 =>
 rW M812 k5 fun l813 =>
 K (.agg (l813.toArray)) M812) Kp)
 (aM (vA == 22)
 (rW eL k1 fun l814 =>
 rI eL k3 1 fun n815 =>
 ae Tryz.prog 110 #[(.agg (l814.toArray)), (iV n815)] eL (fun v816 M817 =>
 xW v816 fun v818 v819 v820 v821 v822 v823 v824 v825 v826 v827 v828 v829 v830 v831 =>
 dO M817 k5 0 [v818, v819, v820, v821, v822, v823, v824, v825, v826, v827, v828, v829, v830, v831] 14 fun M832 =>
 rW M832 k5 fun l833 =>
 K (.agg (l833.toArray)) M832) Kp)
 (rW eL k1 fun l834 =>
 dO eL k5 0 l834 14 fun M835 =>
 rW M835 k5 fun l836 =>
 K (.agg (l836.toArray)) M835)))))))))))))) :
 ae Tryz.prog 113 #[.agg y0.toArray, .int .i64 x1, .agg #[.int .i64 oB, .int .i64 rH, .int .i64 oD, .int .i64 rJ], .int .i64 x3] M K Kp := vw [(5, .bH [0, 1, 0, 4, 0, 16, 0, 112, 240, 0, 512, 2047, 4095, 8191, 8191, 16383, 65535] (sy [0, 2, 4, 6, 9, 1, 3, 5, 7, 8, 10, 11, 12, 13, 14, 15, 16] .done)), (11, .bH [0, 1, 0, 4, 0, 28, 60, 127, 255, 511, 511, 1023, 4095] (sy [0, 2, 4, 1, 3, 5, 6, 7, 8, 9, 10, 11, 12] .done)), (23, .bH [0, 0, 2, 7, 0, 16, 0, 64, 0, 448, 960, 2047, 4095, 8191, 16383, 32767, 65535] (sy [1, 4, 6, 8, 2] (.cS 5 (.cS 7 (sy [9] (.cS 10 (sy [0, 3, 11, 12, 13, 14, 15, 16] .done))))))), (24, .bH [0, 0, 3, 0, 0, 16, 0, 127, 255] (sy [1, 3, 4, 6, 0] (.cS 5 (sy [2, 7, 8] .done)))), (26, .bH [0, 0, 2, 0, 8, 0, 56, 120, 255, 511, 1023, 1023, 0, 6143, 16383] (sy [1, 3, 5, 0, 2, 4, 6, 7] (.late 8 (sy [9, 10, 11, 12, 13, 14] .done)))), (30, .bH [0, 0, 2, 7, 0, 0, 32, 0, 224, 480, 1008, 2032, 4095, 8191, 16383] (sy [1, 4, 5, 7, 2] (.cS 6 (sy [8] (.cS 9 (sy [10, 0] (.late 3 (sy [11, 12, 13, 14] .done)))))))), (31, .bH [0, 0, 2, 0, 15, 0, 0, 127, 255] (sy [1, 5, 0, 2, 3] (.cS 6 (sy [4, 7, 8] .done)))), (35, .bH [0, 0, 0, 4, 0, 31, 0, 0, 128, 0, 1023, 2047] (sy [1, 2, 4, 6, 7, 9, 0, 3] (.cS 8 (sy [5, 10, 11] .done)))), (38, .bH [0, 0, 2, 0, 15, 0, 0, 127, 255] (sy [1, 5, 0, 2, 3] (.cS 6 (sy [4, 7, 8] .done)))), (65, .bH [0, 0, 2, 7, 0, 16, 0, 112, 240, 496, 1023, 2047, 4095] (sy [1, 4, 6, 2] (.cS 5 (sy [7] (.cS 8 (sy [0] (.late 3 (sy [9, 10, 11, 12] .done)))))))), (67, .bH [0, 0, 0, 4, 0, 0, 32, 112, 255, 511] (sy [1, 2, 4, 5, 0, 3, 6, 7, 8, 9] .done))] Tryz.func113 h
theorem sw {y0 : List Value} {x1 : Int} (h :
aO M (.cells (y0.toArray) 81 (0, 0)) fun k1 M2 =>
aO M2 aL fun k3 M4 =>
rS M4 k1 4 fun A5 k6 k7 =>
((0 : Int) ≤ x1) ∧
((x1 : Int) < k6) ∧
aE A5 fun k8 k9 =>
gy M4 k8 (k9 + ((Int.toNat x1) * 6)) fun dI FO gI eu jD lj nI kS =>
aO M4 fM fun fq m7 =>
Rm m7 fq (iV dI) (.slice FO gI eu) (iV jD) (iV lj) (iV nI) (iV kS) fun qo =>
aO qo (cl [] 114) fun gM ng =>
rS ng fq 1 fun z5 gk jg =>
aA 107 (some ⟨gM, 0, none⟩) 0 0 z5 gk jg ng (fun SP mR =>
aF (some SP) fun Kr mS kD =>
sT mR fq 1 (.slice Kr mS kD) fun pH =>
rS pH fq 1 fun yM fE lA =>
rS pH fq 1 fun A40 nH jC =>
((0 : Int) ≤ (IntKind.wrap .i64 ((nH : Int) - 1))) ∧
(((IntKind.wrap .i64 ((nH : Int) - 1)) : Int) < (fE : Int)) ∧
aE yM fun jK zB =>
rI pH jK ((zB + ((Int.toNat (IntKind.wrap .i64 ((nH : Int) - 1))) * 11)) + 1) fun uk =>
((0 : Int) ≤ (IntKind.wrap .i64 ((nH : Int) - 1))) ∧
(((IntKind.wrap .i64 ((nH : Int) - 1)) : Int) < (fE : Int)) ∧
aE yM fun me kj =>
sT pH me ((kj + ((Int.toNat (IntKind.wrap .i64 ((nH : Int) - 1))) * 11)) + 1) (iV (IntKind.wrap .i64 (uk + 1))) fun Ep =>
rW Ep k1 fun l49 =>
gy Ep fq 0 fun Aa CX pI j8 vG KA Kz Xp =>
ae Tryz.prog 112 #[(.agg (l49.toArray)), (iV x1), (.agg #[(iV Aa), (.slice CX pI j8), (iV vG), (iV KA), (iV Kz), (iV Xp)])] Ep (fun FL eL =>
xW FL fun Ql Mm FJ Dp Uc PZ Ud Ue ME Lx Yk v71 XU XZ =>
dO eL k3 0 [Ql, Mm, FJ, Dp, Uc, PZ, Ud, Ue, ME, Lx, Yk, v71, XU, XZ] 14 fun Hz =>
rW Hz k3 fun l75 =>
K (.agg (l75.toArray)) Hz) Kp) Kp) :
 ae Tryz.prog 114 #[.agg y0.toArray, .int .i64 x1] M K Kp := vw [] Tryz.func114 h
theorem pK {y0 : List Value} {x1 : Int} {x2 : Int} {fN : Int} {fO : Int} {fP : Int} {fQ : Int} (h :
aO M (.cells (y0.toArray) 81 (0, 0)) fun k1 M2 =>
aO M2 (cl [(iV fN), (iV fO), (iV fP), (iV fQ)] 109) fun k3 M4 =>
aO M4 aL fun k5 M6 =>
rS M6 k1 4 fun A7 k8 k9 =>
((0 : Int) ≤ x1) ∧
((x1 : Int) < k8) ∧
aE A7 fun eB eo =>
gy M6 eB (eo + ((Int.toNat x1) * 6)) fun hG zA fB jy nI kS kQ nX =>
aO M6 fM fun fV jI =>
Rm jI fV (iV hG) (.slice zA fB jy) (iV nI) (iV kS) (iV kQ) (iV nX) fun ng =>
sT ng fV 0 (iV x2) fun Df =>
bP Df k3 0 fun yI xl ry n32 =>
sT Df fV 2 (iV yI) fun uf =>
sT uf fV (2 + 1) (iV xl) fun qO =>
sT qO fV (2 + 2) (iV ry) fun vj =>
sT vj fV (2 + 3) (iV n32) fun pH =>
rW pH k1 fun l37 =>
gy pH fV 0 fun mE ZL va nH BL xV yL uk =>
ae Tryz.prog 112 #[(.agg (l37.toArray)), (iV x1), (.agg #[(iV mE), (.slice ZL va nH), (iV BL), (iV xV), (iV yL), (iV uk)])] pH (fun Xy w9 =>
xW Xy fun v48 Xd v50 v51 Xo v53 Ti Lf XX Ub FL LB Ql Mm =>
dO w9 k5 0 [v48, Xd, v50, v51, Xo, v53, Ti, Lf, XX, Ub, FL, LB, Ql, Mm] 14 fun Rp =>
rW Rp k5 fun l63 =>
K (.agg (l63.toArray)) Rp) Kp) :
 ae Tryz.prog 139 #[.agg y0.toArray, .int .i64 x1, .int .i64 x2, .agg #[.int .i64 fN, .int .i64 fO, .int .i64 fP, .int .i64 fQ]] M K Kp := vw [] Tryz.func139 h
theorem uV {y0 : List Value} {x1 : Int} {x2 : Int} {x3 : Int} (h :
aO M (.cells (y0.toArray) 81 (0, 0)) fun k1 M2 =>
aO M2 aL fun k3 M4 =>
rS M4 k1 4 fun A5 k6 k7 =>
((0 : Int) ≤ x1) ∧
((x1 : Int) < k6) ∧
aE A5 fun k8 k9 =>
gy M4 k8 (k9 + ((Int.toNat x1) * 6)) fun dI FO gI eu jD lj nI kS =>
aO M4 fM fun fq m7 =>
Rm m7 fq (iV dI) (.slice FO gI eu) (iV jD) (iV lj) (iV nI) (iV kS) fun qo =>
aO qo (cl [] 114) fun gM ng =>
rS ng fq 1 fun z5 gk jg =>
aA 107 (some ⟨gM, 0, none⟩) 0 0 z5 gk jg ng (fun SP mR =>
aF (some SP) fun Kr mS kD =>
sT mR fq 1 (.slice Kr mS kD) fun pH =>
rS pH fq 1 fun yM fE lA =>
rS pH fq 1 fun A40 nH jC =>
((0 : Int) ≤ (IntKind.wrap .i64 ((nH : Int) - 1))) ∧
(((IntKind.wrap .i64 ((nH : Int) - 1)) : Int) < (fE : Int)) ∧
aE yM fun jK zB =>
((0 : Int) ≤ x2) ∧
((x2 : Int) < 8) ∧
sT pH jK (((zB + ((Int.toNat (IntKind.wrap .i64 ((nH : Int) - 1))) * 11)) + 2) + (Int.toNat x2)) (iV x3) fun IG =>
rW IG k1 fun l46 =>
gy IG fq 0 fun Dh OB mg vD C3 S9 Lz vG =>
ae Tryz.prog 112 #[(.agg (l46.toArray)), (iV x1), (.agg #[(iV Dh), (.slice OB mg vD), (iV C3), (iV S9), (iV Lz), (iV vG)])] IG (fun Lf Ks =>
xW Lf fun Ub FL LB Ql Mm FJ Dp Uc PZ Ud Ue ME Lx Yk =>
dO Ks k3 0 [Ub, FL, LB, Ql, Mm, FJ, Dp, Uc, PZ, Ud, Ue, ME, Lx, Yk] 14 fun Dy =>
rW Dy k3 fun XY =>
K (.agg (XY.toArray)) Dy) Kp) Kp) :
 ae Tryz.prog 142 #[.agg y0.toArray, .int .i64 x1, .int .i64 x2, .int .i64 x3] M K Kp := vw [] Tryz.func142 h
theorem uW {y0 : List Value} {x1 : Int} {x2 : Int} (h :
aO M (.cells (y0.toArray) 81 (0, 0)) fun k1 M2 =>
aO M2 aL fun k3 M4 =>
rS M4 k1 6 fun A5 k6 k7 =>
((0 : Int) ≤ x1) ∧
((x1 : Int) < k6) ∧
aE A5 fun k8 k9 =>
cI M4 k8 (k9 + ((Int.toNat x1) * 5)) fun dI FO gI eu ue jy fx AI fq jH t20 =>
ae Tryz.prog 187 #[(.agg #[(iV dI), (.slice FO gI eu), (.slice ue jy fx), (.slice AI fq jH), (.bool t20)]), (iV x2)] M4 (fun II c9 =>
∃ nY : Int, ∃ CW : Option Addr, ∃ jJ gM : Nat, ∃ BI : Option Addr, ∃ gV gk : Nat, ∃ yG : Option Addr, ∃ iM iy : Nat, ∃ t33 : Bool, ∃ vg yK tH : Int, ∃ t37 : Bool, ∃ mE : Int, (II = (.tuple #[(.agg #[(iV nY), (.slice CW jJ gM), (.slice BI gV gk), (.slice yG iM iy), (.bool t33)]), (.agg #[(iV vg), (iV yK), (iV tH)]), (.bool t37), (iV mE)])) ∧
aO c9 c7 fun lA FP =>
aO FP iC fun nH OD =>
Bs OD lA (iV nY) (.slice CW jJ gM) (.slice BI gV gk) (.slice yG iM iy) (.bool t33) fun w9 =>
pA w9 nH (iV vg) (iV yK) (iV tH) fun Ht =>
aM (mE == 10)
 (rW Ht k1 fun l51 =>
 ae Tryz.prog 110 #[(.agg (l51.toArray)), (iV (-1))] Ht (fun Xo LA =>
 xW Xo fun Ti Lf XX Ub FL LB Ql Mm FJ Dp Uc PZ Ud Ue =>
 dO LA k3 0 [Ti, Lf, XX, Ub, FL, LB, Ql, Mm, FJ, Dp, Uc, PZ, Ud, Ue] 14 fun M68 =>
 rW M68 k3 fun l69 =>
 K (.tuple #[(.agg (l69.toArray)), (.bool true)]) M68) Kp)
 (rW Ht k1 fun l70 =>
 cI Ht lA 0 fun WD A72 Ov HA A75 P1 z8 A78 Ru Iu t81 =>
 ae Tryz.prog 144 #[(.agg (l70.toArray)), (iV x1), (.agg #[(iV WD), (.slice A72 Ov HA), (.slice A75 P1 z8), (.slice A78 Ru Iu), (.bool t81)])] Ht (fun Qn M83 =>
 xW Qn fun PX Uj Uk SY Qa v89 PY v91 v92 v93 v94 v95 v96 Xz =>
 dO M83 k1 0 [PX, Uj, Uk, SY, Qa, v89, PY, v91, v92, v93, v94, v95, v96, Xz] 14 fun Kx =>
 aM t37
 (rW Kx k1 fun l99 =>
 eT Kx nH 0 fun yD vE BA =>
 ae Tryz.prog 188 #[(.agg (l99.toArray)), (.agg #[(iV yD), (iV vE), (iV BA)]), (iV 1)] Kx (fun Cg DA =>
 xW Cg fun Gx Gy Gz GB GC BR Ch MF BE MG Ci GD MH GF =>
 dO DA k1 0 [Gx, Gy, Gz, GB, GC, BR, Ch, MF, BE, MG, Ci, GD, MH, GF] 14 fun Gg =>
 rW Gg k1 fun l120 =>
 dO Gg k3 0 l120 14 fun iY =>
 rW iY k3 fun l122 =>
 K (.tuple #[(.agg (l122.toArray)), (.bool (mE == 0))]) iY) Kp)
 (rW Kx k1 fun Yl =>
 dO Kx k3 0 Yl 14 fun FK =>
 rW FK k3 fun l125 =>
 K (.tuple #[(.agg (l125.toArray)), (.bool (mE == 0))]) FK)) Kp)) Kp) :
 ae Tryz.prog 143 #[.agg y0.toArray, .int .i64 x1, .int .i64 x2] M K Kp := vw [] Tryz.func143 h
theorem oJ {y0 : List Value} {x1 : Int} {oB : Int} {Ut : Option Addr} {Uu Uv : Nat} {B2_2 : Option Addr} {m2_2 c2_2 : Nat} {B2_3 : Option Addr} {m2_3 c2_3 : Nat} {q2_4 : Bool} (h :
aO M (.cells (y0.toArray) 81 (0, 0)) fun k1 M2 =>
aO M2 (cl [(iV oB), (.slice Ut Uu Uv), (.slice B2_2 m2_2 c2_2), (.slice B2_3 m2_3 c2_3), (.bool q2_4)] 190) fun k3 M4 =>
aO M4 aL fun k5 M6 =>
aO M6 (cl [] 190) fun k7 M8 =>
rS M8 k1 6 fun A9 eB eo =>
aA 75 (some ⟨k7, 0, none⟩) 0 0 A9 eB eo M8 (fun Hs lG =>
aF (some Hs) fun ue jy fx =>
sT lG k1 6 (.slice ue jy fx) fun mW =>
rS mW k1 6 fun Lt jH fV =>
cI mW k3 0 fun vb Ly gN nW CY gM kK z5 gk jg t31 =>
((0 : Int) ≤ x1) ∧
((x1 : Int) < jH) ∧
aE Lt fun iy lz =>
sT mW iy (lz + ((Int.toNat x1) * 5)) (iV vb) fun qO =>
sT qO iy ((lz + ((Int.toNat x1) * 5)) + 1) (.slice Ly gN nW) fun vj =>
sT vj iy ((lz + ((Int.toNat x1) * 5)) + 2) (.slice CY gM kK) fun pH =>
sT pH iy ((lz + ((Int.toNat x1) * 5)) + 3) (.slice z5 gk jg) fun Ro =>
sT Ro iy ((lz + ((Int.toNat x1) * 5)) + 4) (.bool t31) fun lB =>
rW lB k1 fun l39 =>
dO lB k5 0 l39 14 fun FP =>
rW FP k5 fun l41 =>
K (.agg (l41.toArray)) FP) Kp) :
 ae Tryz.prog 144 #[.agg y0.toArray, .int .i64 x1, .agg #[.int .i64 oB, .slice Ut Uu Uv, .slice B2_2 m2_2 c2_2, .slice B2_3 m2_3 c2_3, .bool q2_4]] M K Kp := vw [] Tryz.func144 h
theorem uX {y0 : List Value} {x1 : Int} (h :
aO M (.cells (y0.toArray) 81 (0, 0)) fun k1 M2 =>
aO M2 aL fun k3 M4 =>
rS M4 k1 6 fun A5 k6 k7 =>
((0 : Int) ≤ x1) ∧
((x1 : Int) < k6) ∧
aE A5 fun k8 k9 =>
cI M4 k8 (k9 + ((Int.toNat x1) * 5)) fun dI FO gI eu ue jy fx AI fq jH t20 =>
ae Tryz.prog 189 #[(.agg #[(iV dI), (.slice FO gI eu), (.slice ue jy fx), (.slice AI fq jH), (.bool t20)])] M4 (fun II c9 =>
∃ nY : Int, ∃ CW : Option Addr, ∃ jJ gM : Nat, ∃ BI : Option Addr, ∃ gV gk : Nat, ∃ yG : Option Addr, ∃ iM iy : Nat, ∃ t33 : Bool, ∃ vg : Int, ∃ t35 : Bool, ∃ tH xU mE : Int, ∃ t39 : Bool, ∃ ni : Int, (II = (.tuple #[(.agg #[(iV nY), (.slice CW jJ gM), (.slice BI gV gk), (.slice yG iM iy), (.bool t33)]), (iV vg), (.bool t35), (.agg #[(iV tH), (iV xU), (iV mE)]), (.bool t39), (iV ni)])) ∧
aO c9 c7 fun nH OD =>
aO OD iC fun jK qs =>
Bs qs nH (iV nY) (.slice CW jJ gM) (.slice BI gV gk) (.slice yG iM iy) (.bool t33) fun w6 =>
pA w6 jK (iV tH) (iV xU) (iV mE) fun ya =>
rW ya k1 fun l53 =>
cI ya nH 0 fun vG Wx C0 vH A58 Er Lm Xr BG Kv t64 =>
ae Tryz.prog 144 #[(.agg (l53.toArray)), (iV x1), (.agg #[(iV vG), (.slice Wx C0 vH), (.slice A58 Er Lm), (.slice Xr BG Kv), (.bool t64)])] ya (fun PZ OC =>
xW PZ fun Ue ME Lx Yk v71 XU XZ Ym SX Te Uf Ug LC Qm =>
dO OC k1 0 [Ue, ME, Lx, Yk, v71, XU, XZ, Ym, SX, Te, Uf, Ug, LC, Qm] 14 fun IJ =>
aM t39
 (rS IJ k1 4 fun A82 C2 Xu =>
 rI IJ jK 0 fun RA =>
 (0 ≤ RA) ∧
 (RA < C2) ∧
 aE A82 fun ZY Lq =>
 rI IJ ZY ((Lq + ((Int.toNat RA) * 6)) + 2) fun Ky =>
 aM (Ky == 16)
 (rW IJ k1 fun l89 =>
 rII IJ jK 0 fun zF Ix =>
 ae Tryz.prog 190 #[(.agg (l89.toArray)), (iV zF), (iV Ix)] IJ (fun v92 M93 =>
 xW v92 fun v94 v95 v96 Xz v98 v99 FY FH Lr Cg UP Gx Gy Gz =>
 dO M93 k1 0 [v94, v95, v96, Xz, v98, v99, FY, FH, Lr, Cg, UP, Gx, Gy, Gz] 14 fun Gu =>
 rW Gu k1 fun l109 =>
 rI Gu jK 0 fun FC =>
 ae Tryz.prog 109 #[(.agg (l109.toArray)), (iV FC)] Gu (fun Ch nL =>
 xW Ch fun BE MG Ci GD MH GF UQ MP UR US UT v124 Tk LX =>
 dO nL k1 0 [BE, MG, Ci, GD, MH, GF, UQ, MP, UR, US, UT, v124, Tk, LX] 14 fun yT =>
 aM t35
 (rW yT k1 fun l128 =>
 dO yT k3 0 l128 14 fun X0 =>
 rW X0 k3 fun l130 =>
 K (.tuple #[(.agg (l130.toArray)), (iV vg), (iV 1), (.bool true)]) X0)
 (rW yT k1 fun l131 =>
 dO yT k3 0 l131 14 fun oI =>
 rW oI k3 fun Uw =>
 K (.tuple #[(.agg (Uw.toArray)), (iV 0), (iV 0), (.bool (ni == 0))]) oI)) Kp) Kp)
 (rW IJ k1 fun l134 =>
 rI IJ jK 0 fun xw =>
 ae Tryz.prog 109 #[(.agg (l134.toArray)), (iV xw)] IJ (fun v136 M137 =>
 xW v136 fun v138 v139 UU v141 Ux UW Uy Gr MI MJ MK ML F2 MM =>
 dO M137 k1 0 [v138, v139, UU, v141, Ux, UW, Uy, Gr, MI, MJ, MK, ML, F2, MM] 14 fun GI =>
 aM t35
 (rW GI k1 fun l153 =>
 dO GI k3 0 l153 14 fun Gv =>
 rW Gv k3 fun l155 =>
 K (.tuple #[(.agg (l155.toArray)), (iV vg), (iV 1), (.bool true)]) Gv)
 (rW GI k1 fun l156 =>
 dO GI k3 0 l156 14 fun TT =>
 rW TT k3 fun l158 =>
 K (.tuple #[(.agg (l158.toArray)), (iV 0), (iV 0), (.bool (ni == 0))]) TT)) Kp))
 (aM t35
 (rW IJ k1 fun l159 =>
 dO IJ k3 0 l159 14 fun UX =>
 rW UX k3 fun l161 =>
 K (.tuple #[(.agg (l161.toArray)), (iV vg), (iV 1), (.bool true)]) UX)
 (rW IJ k1 fun l162 =>
 dO IJ k3 0 l162 14 fun UY =>
 rW UY k3 fun l164 =>
 K (.tuple #[(.agg (l164.toArray)), (iV 0), (iV 0), (.bool (ni == 0))]) UY))) Kp) Kp) :
 ae Tryz.prog 145 #[.agg y0.toArray, .int .i64 x1] M K Kp := vw [] Tryz.func145 h
theorem sA {y0 : List Value} {x1 : Int} (h :
aO M (.cells (y0.toArray) 81 (0, 0)) fun k1 M2 =>
aO M2 aL fun k3 M4 =>
rS M4 k1 6 fun A5 k6 k7 =>
((0 : Int) ≤ x1) ∧
((x1 : Int) < k6) ∧
aE A5 fun k8 k9 =>
cI M4 k8 (k9 + ((Int.toNat x1) * 5)) fun dI FO gI eu ue jy fx AI fq jH t20 =>
ae Tryz.prog 191 #[(.agg #[(iV dI), (.slice FO gI eu), (.slice ue jy fx), (.slice AI fq jH), (.bool t20)])] M4 (fun II c9 =>
∃ nY : Int, ∃ CW : Option Addr, ∃ jJ gM : Nat, ∃ BI : Option Addr, ∃ gV gk : Nat, ∃ yG : Option Addr, ∃ iM iy : Nat, ∃ t33 : Bool, ∃ Et : Option Addr, ∃ kD nK : Nat, ∃ yM : Option Addr, ∃ fE lA : Nat, ∃ ni : Int, (II = (.tuple #[(.agg #[(iV nY), (.slice CW jJ gM), (.slice BI gV gk), (.slice yG iM iy), (.bool t33)]), (.slice Et kD nK), (.slice yM fE lA), (iV ni)])) ∧
aO c9 c7 fun nH OD =>
Bs OD nH (iV nY) (.slice CW jJ gM) (.slice BI gV gk) (.slice yG iM iy) (.bool t33) fun w9 =>
aM (ni != 0)
 (rW w9 k1 fun l48 =>
 ae Tryz.prog 110 #[(.agg (l48.toArray)), (iV (-2))] w9 (fun Xd Ht =>
 xW Xd fun v51 Xo v53 Ti Lf XX Ub FL LB Ql Mm FJ Dp Uc =>
 dO Ht k3 0 [v51, Xo, v53, Ti, Lf, XX, Ub, FL, LB, Ql, Mm, FJ, Dp, Uc] 14 fun XT =>
 rW XT k3 fun l66 =>
 K (.agg (l66.toArray)) XT) Kp)
 (rW w9 k1 fun l67 =>
 cI w9 nH 0 fun xe A69 Eu FF A72 Ov HA A75 P1 z8 t78 =>
 ae Tryz.prog 144 #[(.agg (l67.toArray)), (iV x1), (.agg #[(iV xe), (.slice A69 Eu FF), (.slice A72 Ov HA), (.slice A75 P1 z8), (.bool t78)])] w9 (fun LC WH =>
 xW LC fun Uh Qn Ui PX Uj Uk SY Qa v89 PY v91 v92 v93 v94 =>
 dO WH k1 0 [Uh, Qn, Ui, PX, Uj, Uk, SY, Qa, v89, PY, v91, v92, v93, v94] 14 fun P2 =>
 aM (decide ((fE : Int) > 0))
 (rW P2 k1 fun l96 =>
 ae Tryz.prog 110 #[(.agg (l96.toArray)), (iV (-1))] P2 (fun Xz Kx =>
 xW Xz fun v99 FY FH Lr Cg UP Gx Gy Gz GB GC BR Ch MF =>
 dO Kx k3 0 [v99, FY, FH, Lr, Cg, UP, Gx, Gy, Gz, GB, GC, BR, Ch, MF] 14 fun XB =>
 rW XB k3 fun l114 =>
 K (.agg (l114.toArray)) XB) Kp)
 (∃ Yn : IT, (∃ Iv, Yn Iv [(iV 0)] P2) ∧
 ∀ (Lp : Nat) (_ : Nat → Value) (y5 : Int) (MQ : Mem), (Yn Lp [(iV y5)] MQ) → aM (decide (y5 < kD))
 ((0 ≤ y5) ∧
 (y5 < kD) ∧
 aE Et fun BF yP =>
 eT MQ BF (yP + ((Int.toNat y5) * 3)) fun FV B9 yS =>
 aO MQ iC fun FW yT =>
 pA yT FW (iV FV) (iV B9) (iV yS) fun Ae =>
 rS Ae k1 4 fun Tg FX xp =>
 rI Ae FW 0 fun Ag =>
 (0 ≤ Ag) ∧
 (Ag < FX) ∧
 aE Tg fun Dx xq =>
 rI Ae Dx (xq + ((Int.toNat Ag) * 6)) fun xu =>
 aM (xu == 2)
 (sT Ae FW 2 (iV 0) fun M138 =>
 rW M138 k1 fun l139 =>
 eT M138 FW 0 fun Qo Ms yU =>
 ae Tryz.prog 188 #[(.agg (l139.toArray)), (.agg #[(iV Qo), (iV Ms), (iV yU)]), (iV 0)] M138 (fun UW DE =>
 xW UW fun Gr MI MJ MK ML F2 MM TR Uz UA UB UC UD v158 =>
 dO DE k1 0 [Gr, MI, MJ, MK, ML, F2, MM, TR, Uz, UA, UB, UC, UD, v158] 14 fun Qb =>
 ∃ Aj : Nat, (Aj < Lp) ∧
 Yn Aj [(iV (IntKind.wrap .i64 (y5 + 1)))] Qb) Kp)
 (∃ DL : Nat, (DL < Lp) ∧
 Yn DL [(iV (IntKind.wrap .i64 (y5 + 1)))] Ae))
 (rW MQ k1 fun l162 =>
 dO MQ k3 0 l162 14 fun UY =>
 rW UY k3 fun l164 =>
 K (.agg (l164.toArray)) UY))) Kp)) Kp) :
 ae Tryz.prog 146 #[.agg y0.toArray, .int .i64 x1] M K Kp := vw [(2000000, .loop [(37, .c (.int .i64))])] Tryz.func146 h
theorem pL {y0 : List Value} {x1 : Int} {oB : Int} {rH : Int} {oD : Int} {rJ : Int} {x3 : Int} (h :
aO M (.cells (y0.toArray) 81 (0, 0)) fun k1 M2 =>
aO M2 (cl [(iV oB), (iV rH), (iV oD), (iV rJ)] 109) fun k3 M4 =>
aO M4 aL fun k5 M6 =>
rS M6 k1 3 fun A7 k8 k9 =>
rI M6 k3 1 fun dI =>
rI M6 k3 1 fun lp =>
rI M6 k3 2 fun hG =>
((0 : Int) ≤ k9) ∧
((k9 : Int) ≤ k9) ∧
((0 : Int) ≤ (IntKind.wrap .i64 (lp + hG))) ∧
(((IntKind.wrap .i64 (lp + hG)) : Int) ≤ (k9 : Int)) ∧
(0 ≤ dI) ∧
((dI : Int) ≤ (IntKind.wrap .i64 (lp + hG))) ∧
rS M6 k1 4 fun zA fB jy =>
((0 : Int) ≤ x1) ∧
((x1 : Int) < fB) ∧
aE zA fun fx fT =>
rS M6 fx ((fT + ((Int.toNat x1) * 6)) + 1) fun Lt jH fV =>
rS M6 k1 4 fun CZ gi gN =>
((0 : Int) ≤ x1) ∧
((x1 : Int) < gi) ∧
aE CZ fun nW jJ =>
rS M6 nW ((jJ + ((Int.toNat x1) * 6)) + 1) fun Xx kK gV =>
((0 : Int) ≤ (IntKind.wrap .i64 ((kK : Int) - 1))) ∧
(((IntKind.wrap .i64 ((kK : Int) - 1)) : Int) < (jH : Int)) ∧
aE Lt fun gk jg =>
aU M6 gk (jg + ((Int.toNat (IntKind.wrap .i64 ((kK : Int) - 1))) * 11)) fun ry n32 kP vg yK tH xU mE yC ni zG =>
aO M6 cM fun jC xd =>
ou xd jC (iV ry) (iV n32) (iV kP) (iV vg) (iV yK) (iV tH) (iV xU) (iV mE) (iV yC) (iV ni) (iV zG) fun PI =>
rS PI k1 6 fun Wx C0 vH =>
ae Tryz.prog 192 #[(.slice (jt A7 (Int.toNat dI) (Int.toNat (k9 : Int)) 3) ((Int.toNat (IntKind.wrap .i64 (lp + hG))) - (Int.toNat dI)) ((Int.toNat (k9 : Int)) - (Int.toNat dI))), (.slice Wx C0 vH)] PI (fun FL eL =>
aF (some FL) fun Wz ve BG =>
aM ((ve : Int) == 0)
 (ae Tryz.prog 193 #[(.slice (jt A7 (Int.toNat dI) (Int.toNat (k9 : Int)) 3) ((Int.toNat (IntKind.wrap .i64 (lp + hG))) - (Int.toNat dI)) ((Int.toNat (k9 : Int)) - (Int.toNat dI)))] eL (fun Dp ug =>
 bG (some Dp) .i64 fun Hv =>
 aM (decide (Hv ≥ 0))
 (rW ug k1 fun l66 =>
 rI ug k3 3 fun IE =>
 ae Tryz.prog 142 #[(.agg (l66.toArray)), (iV x1), (iV IE), (iV Hv)] ug (fun ME OH =>
 xW ME fun Yk v71 XU XZ Ym SX Te Uf Ug LC Qm Uh Qn Ui =>
 dO OH k5 0 [Yk, v71, XU, XZ, Ym, SX, Te, Uf, Ug, LC, Qm, Uh, Qn, Ui] 14 fun ZQ =>
 rW ZQ k5 fun l85 =>
 K (.agg (l85.toArray)) ZQ) Kp)
 (rI ug jC 2 fun n86 =>
 rI ug jC (2 + 1) fun n87 =>
 rI ug jC (2 + 2) fun Ky =>
 rI ug jC (2 + 3) fun HB =>
 rI ug jC (2 + 4) fun zF =>
 rI ug jC (2 + 5) fun Ix =>
 rI ug jC (2 + 6) fun Di =>
 rI ug jC (2 + 7) fun Dz =>
 rS ug k1 6 fun A94 OF Tc =>
 ae Tryz.prog 194 #[(iV x1), (.slice (jt A7 (Int.toNat dI) (Int.toNat (k9 : Int)) 3) ((Int.toNat (IntKind.wrap .i64 (lp + hG))) - (Int.toNat dI)) ((Int.toNat (k9 : Int)) - (Int.toNat dI))), (.agg #[(iV n86), (iV n87), (iV Ky), (iV HB), (iV zF), (iV Ix), (iV Di), (iV Dz)]), (.slice A94 OF Tc)] ug (fun Xz Kx =>
 aF (some Xz) fun A99 qu LD =>
 sT Kx k1 6 (.slice A99 qu LD) fun Dr =>
 rW Dr k1 fun UZ =>
 bP Dr k3 0 fun n104 BQ yN yO =>
 ae Tryz.prog 139 #[(.agg (UZ.toArray)), (iV x1), (iV 2), (.agg #[(iV n104), (iV BQ), (iV yN), (iV yO)])] Dr (fun GB PL =>
 xW GB fun BR Ch MF BE MG Ci GD MH GF UQ MP UR US UT =>
 dO PL k5 0 [BR, Ch, MF, BE, MG, Ci, GD, MH, GF, UQ, MP, UR, US, UT] 14 fun FK =>
 rW FK k5 fun l125 =>
 K (.agg (l125.toArray)) FK) Kp) Kp)) Kp)
 (((ve : Int) ≠ 0) ∧
 ((0 : Int) ≤ (Int.tmod x3 (ve : Int))) ∧
 (((Int.tmod x3 (ve : Int)) : Int) < (ve : Int)) ∧
 aE Wz fun FW PU =>
 rI eL FW (PU + (Int.toNat (Int.tmod x3 (ve : Int)))) fun lD =>
 (0 ≤ lD) ∧
 ((lD : Int) < ((((Int.toNat (IntKind.wrap .i64 (lp + hG))) - (Int.toNat dI)) : Nat) : Int)) ∧
 aE (jt A7 (Int.toNat dI) (Int.toNat (k9 : Int)) 3) fun uN DN =>
 rI eL uN (DN + ((Int.toNat lD) * 3)) fun xD =>
 aM (xD == 1)
 ((0 ≤ lD) ∧
 ((lD : Int) < ((((Int.toNat (IntKind.wrap .i64 (lp + hG))) - (Int.toNat dI)) : Nat) : Int)) ∧
 aE (jt A7 (Int.toNat dI) (Int.toNat (k9 : Int)) 3) fun FX xp =>
 (0 ≤ lD) ∧
 ((lD : Int) < ((((Int.toNat (IntKind.wrap .i64 (lp + hG))) - (Int.toNat dI)) : Nat) : Int)) ∧
 aE (jt A7 (Int.toNat dI) (Int.toNat (k9 : Int)) 3) fun Cc Dx =>
 rW eL k1 fun l136 =>
 rI eL FX ((xp + ((Int.toNat lD) * 3)) + 1) fun xu =>
 rI eL Cc ((Dx + ((Int.toNat lD) * 3)) + 2) fun Ai =>
 (0 ≤ Ai) ∧
 (Ai < 8) ∧
 rI eL jC (2 + (Int.toNat Ai)) fun I7 =>
 ae Tryz.prog 143 #[(.agg (l136.toArray)), (iV xu), (iV I7)] eL (fun UU LY =>
 ∃ l142 : List Value, ((l142.length) = 14) ∧
 ∃ t143 : Bool, (UU = (.tuple #[(.agg (l142.toArray)), (.bool t143)])) ∧
 dO LY k1 0 l142 14 fun DE =>
 rI DE k1 11 fun Tr =>
 aM (Tr != 0)
 (rW DE k1 fun l146 =>
 dO DE k5 0 l146 14 fun Yo =>
 rW Yo k5 fun l148 =>
 K (.agg (l148.toArray)) Yo)
 (rW DE k1 fun l149 =>
 rI DE k3 3 fun U0 =>
 ae Tryz.prog 142 #[(.agg (l149.toArray)), (iV x1), (iV U0), (iV lD)] DE (fun MM GI =>
 xW MM fun Uz UA UB UC UD v158 v159 v160 UE v162 v163 UF v165 v166 =>
 dO GI k5 0 [Uz, UA, UB, UC, UD, v158, v159, v160, UE, v162, v163, UF, v165, v166] 14 fun Gj =>
 rW Gj k5 fun l168 =>
 K (.agg (l168.toArray)) Gj) Kp)) Kp)
 ((0 ≤ lD) ∧
 ((lD : Int) < ((((Int.toNat (IntKind.wrap .i64 (lp + hG))) - (Int.toNat dI)) : Nat) : Int)) ∧
 aE (jt A7 (Int.toNat dI) (Int.toNat (k9 : Int)) 3) fun k169 Jn =>
 rW eL k1 fun l171 =>
 rI eL k169 ((Jn + ((Int.toNat lD) * 3)) + 1) fun n172 =>
 ae Tryz.prog 145 #[(.agg (l171.toArray)), (iV n172)] eL (fun v173 XD =>
 ∃ l175 : List Value, ((l175.length) = 14) ∧
 ∃ Gk I9 : Int, ∃ t178 : Bool, (v173 = (.tuple #[(.agg (l175.toArray)), (iV Gk), (iV I9), (.bool t178)])) ∧
 dO XD k1 0 l175 14 fun M179 =>
 (0 ≤ lD) ∧
 ((lD : Int) < ((((Int.toNat (IntKind.wrap .i64 (lp + hG))) - (Int.toNat dI)) : Nat) : Int)) ∧
 aE (jt A7 (Int.toNat dI) (Int.toNat (k9 : Int)) 3) fun Ja U1 =>
 rW M179 k1 fun l182 =>
 rI M179 Ja ((U1 + ((Int.toNat lD) * 3)) + 2) fun uR =>
 ae Tryz.prog 142 #[(.agg (l182.toArray)), (iV x1), (iV uR), (iV Gk)] M179 (fun v184 LN =>
 xW v184 fun v186 v187 v188 Un v190 v191 v192 v193 UG v195 Uo v197 UH v199 =>
 dO LN k1 0 [v186, v187, v188, Un, v190, v191, v192, v193, UG, v195, Uo, v197, UH, v199] 14 fun M200 =>
 rW M200 k1 fun l201 =>
 rI M200 k3 3 fun Tz =>
 ae Tryz.prog 142 #[(.agg (l201.toArray)), (iV x1), (iV Tz), (iV lD)] M200 (fun v203 M204 =>
 xW v203 fun v205 v206 v207 v208 v209 v210 v211 v212 v213 v214 v215 v216 v217 Up =>
 dO M204 k5 0 [v205, v206, v207, v208, v209, v210, v211, v212, v213, v214, v215, v216, v217, Up] 14 fun F8 =>
 rW F8 k5 fun l220 =>
 K (.agg (l220.toArray)) F8) Kp) Kp) Kp))) Kp) :
 ae Tryz.prog 147 #[.agg y0.toArray, .int .i64 x1, .agg #[.int .i64 oB, .int .i64 rH, .int .i64 oD, .int .i64 rJ], .int .i64 x3] M K Kp := vw [(2, .bH [0, 1, 0, 7, 15, 31, 0, 64, 0, 448, 960, 1984, 4032, 8128, 16383, 32767, 0, 131071] (sy [0, 2, 6, 8, 1, 3, 4, 5, 7, 9, 10, 11, 12, 13, 14, 15, 16, 17] .done)), (12, .bH [0, 0, 0, 6, 14, 30, 0, 0, 192, 448, 960, 0, 4032, 8128, 16383, 32767, 65535, 65535, 131071] (sy [1, 2, 3, 4, 6, 7, 8, 9, 11, 0, 5, 10, 12, 13, 14, 15, 16, 17, 18] .done)), (16, .bH [0, 0, 0, 6, 14, 30, 63, 127, 255, 255, 255, 255, 511, 5119] (sy [1, 2, 3, 4, 0, 5, 6, 7, 8, 9, 10, 11, 12, 13] .done)), (17, .bH [0, 0, 0, 0, 12, 28, 60, 0, 255, 511] (sy [1, 2, 3, 4, 5, 7, 0, 6, 8, 9] .done))] Tryz.func147 h
theorem nM {y0 : List Value} {dS : Int} {eD : Int} {eE : Int} {x2 : Int} (h :
aO M (.cells (y0.toArray) 81 (0, 0)) fun k1 M2 =>
aO M2 (cl [(iV dS), (iV eD), (iV eE)] 289) fun k3 M4 =>
aO M4 aL fun k5 M6 =>
rS M6 k1 4 fun A7 k8 k9 =>
rI M6 k3 0 fun dI =>
(0 ≤ dI) ∧
(dI < k8) ∧
aE A7 fun eo gI =>
bP M6 eo ((gI + ((Int.toNat dI) * 6)) + 2) fun m9 jD lj nI =>
aO M6 fU fun fT lR =>
mB lR fT (iV m9) (iV jD) (iV lj) (iV nI) fun c9 =>
rI c9 fT 0 fun nY =>
aM (nY == 16)
 (rW c9 k1 fun l24 =>
 rI c9 k3 0 fun yH =>
 rS c9 k1 3 fun Xx kK gV =>
 rI c9 fT 1 fun yI =>
 rI c9 k3 1 fun xl =>
 ((0 : Int) ≤ (IntKind.wrap .i64 (yI + xl))) ∧
 (((IntKind.wrap .i64 (yI + xl)) : Int) < (kK : Int)) ∧
 aE Xx fun iM iy =>
 rI c9 iM ((iy + ((Int.toNat (IntKind.wrap .i64 (yI + xl))) * 3)) + 2) fun kP =>
 rI c9 k3 2 fun vg =>
 ae Tryz.prog 142 #[(.agg (l24.toArray)), (iV yH), (iV kP), (iV vg)] c9 (fun v35 pH =>
 xW v35 fun v37 v38 v39 S8 v41 v42 v43 v44 v45 Xy v47 v48 Xd v50 =>
 dO pH k1 0 [v37, v38, v39, S8, v41, v42, v43, v44, v45, Xy, v47, v48, Xd, v50] 14 fun AK =>
 rW AK k1 fun l52 =>
 rII AK k3 0 fun Lz vG =>
 ae Tryz.prog 190 #[(.agg (l52.toArray)), (iV Lz), (iV vG)] AK (fun Lf Ks =>
 xW Lf fun Ub FL LB Ql Mm FJ Dp Uc PZ Ud Ue ME Lx Yk =>
 dO Ks k1 0 [Ub, FL, LB, Ql, Mm, FJ, Dp, Uc, PZ, Ud, Ue, ME, Lx, Yk] 14 fun Dy =>
 rW Dy k1 fun XY =>
 rI Dy k3 0 fun PK =>
 ae Tryz.prog 109 #[(.agg (XY.toArray)), (iV PK)] Dy (fun Ym Td =>
 xW Ym fun Te Uf Ug LC Qm Uh Qn Ui PX Uj Uk SY Qa v89 =>
 dO Td k5 0 [Te, Uf, Ug, LC, Qm, Uh, Qn, Ui, PX, Uj, Uk, SY, Qa, v89] 14 fun M90 =>
 rW M90 k5 fun l91 =>
 K (.agg (l91.toArray)) M90) Kp) Kp) Kp)
 (rW c9 k1 fun l92 =>
 rI c9 k3 0 fun Dz =>
 rI c9 fT 2 fun SR =>
 rI c9 k3 2 fun SS =>
 ae Tryz.prog 142 #[(.agg (l92.toArray)), (iV Dz), (iV SR), (iV SS)] c9 (fun v96 ZV =>
 xW v96 fun v98 v99 FY FH Lr Cg UP Gx Gy Gz GB GC BR Ch =>
 dO ZV k1 0 [v98, v99, FY, FH, Lr, Cg, UP, Gx, Gy, Gz, GB, GC, BR, Ch] 14 fun nL =>
 rW nL k1 fun l113 =>
 rI nL k3 0 fun FD =>
 rI nL fT 3 fun LW =>
 ae Tryz.prog 142 #[(.agg (l113.toArray)), (iV FD), (iV LW), (iV x2)] nL (fun GD Qz =>
 xW GD fun GF UQ MP UR US UT v124 Tk LX v127 v128 v129 v130 v131 =>
 dO Qz k1 0 [GF, UQ, MP, UR, US, UT, v124, Tk, LX, v127, v128, v129, v130, v131] 14 fun oI =>
 rW oI k1 fun Uw =>
 rI oI k3 0 fun Ag =>
 ae Tryz.prog 109 #[(.agg (Uw.toArray)), (iV Ag)] oI (fun v135 DO =>
 xW v135 fun v137 v138 v139 UU v141 Ux UW Uy Gr MI MJ MK ML F2 =>
 dO DO k5 0 [v137, v138, v139, UU, v141, Ux, UW, Uy, Gr, MI, MJ, MK, ML, F2] 14 fun BT =>
 rW BT k5 fun l152 =>
 K (.agg (l152.toArray)) BT) Kp) Kp) Kp)) :
 ae Tryz.prog 188 #[.agg y0.toArray, .agg #[.int .i64 dS, .int .i64 eD, .int .i64 eE], .int .i64 x2] M K Kp := vw [(3, .bH [0, 0, 2, 0, 8, 24, 0, 64, 0, 256, 960, 2040, 4088, 8184, 0, 16384, 65535, 131071] (sy [1, 3, 4, 6, 8, 14, 0, 2, 5, 7, 9, 10, 11, 12, 13, 15, 16, 17] .done))] Tryz.func188 h
theorem pM {y0 : List Value} {x1 : Int} {x2 : Int} (h :
aO M (.cells (y0.toArray) 81 (0, 0)) fun k1 M2 =>
aO M2 aL fun k3 M4 =>
rW M4 k1 fun l5 =>
rS M4 k1 4 fun A6 k7 k8 =>
((0 : Int) ≤ x1) ∧
((x1 : Int) < k7) ∧
aE A6 fun k9 eB =>
rI M4 k9 (((eB + ((Int.toNat x1) * 6)) + 2) + 3) fun lp =>
ae Tryz.prog 142 #[(.agg (l5.toArray)), (iV x1), (iV lp), (iV x2)] M4 (fun Hs lG =>
xW Hs fun Xn By IC Ta FA PW v20 II Lc v23 v24 v25 v26 v27 =>
dO lG k1 0 [Xn, By, IC, Ta, FA, PW, v20, II, Lc, v23, v24, v25, v26, v27] 14 fun Df =>
rS Df k1 6 fun A29 jg iM =>
ae Tryz.prog 219 #[(iV x1), (.slice A29 jg iM)] Df (fun v32 uf =>
aF (some v32) fun Et kD nK =>
sT uf k1 6 (.slice Et kD nK) fun Ro =>
rW Ro k1 fun l38 =>
dO Ro k3 0 l38 14 fun FE =>
rW FE k3 fun l40 =>
K (.agg (l40.toArray)) FE) Kp) Kp) :
 ae Tryz.prog 190 #[.agg y0.toArray, .int .i64 x1, .int .i64 x2] M K Kp := vw [(1, .bH [0, 0, 0, 4, 0, 28, 60, 124, 252, 0, 1023, 2047] (sy [1, 2, 4, 9, 0, 3, 5, 6, 7, 8, 10, 11] .done))] Tryz.func190 h
end Go.Proofs
namespace Go.Proofs
open Go.AF
set_option maxRecDepth 100000
theorem qG {x0 : Int} {x1 : Int} {M : Mem} {K : Value → Mem → Prop} {Kp : List PanicEntry → Mem → Prop} (h :
aO M cM fun k1 M2 =>
ou M2 k1 (iV x0) (iV 0) (iV 0) (iV 0) (iV 0) (iV 0) (iV 0) (iV 0) (iV 0) (iV 0) (iV 0) fun lG =>
((0 : Int) ≤ 0) ∧
((0 : Int) < 8) ∧
sT lG k1 (2 + 0) (iV x1) fun ql =>
aU ql k1 0 fun lj nI kS kQ nX gF vb w5 nY qg yH =>
aO ql (cl [(iV lj), (iV nI), (iV kS), (iV kQ), (iV nX), (iV gF), (iV vb), (iV w5), (iV nY), (iV qg), (iV yH)] 114) fun gM ng =>
K (.slice (some ⟨gM, 0, none⟩) 1 1) ng) :
 ae Tryz.prog 74 #[.int .i64 x0, .int .i64 x1] M K Kp := vw [] Tryz.func74 h
theorem uY {iR : Option Addr} {iS iT : Nat} {iU : Option Addr} {iW iX : Nat} {kT : Int} {jS : Option Addr} {jT jU : Nat} {M : Mem} {K : Value → Mem → Prop} {Kp : List PanicEntry → Mem → Prop} (h :
aO M (cl [(.slice iR iS iT), (.slice iU iW iX), (iV kT), (.slice jS jT jU)] 73) fun k1 M2 =>
aO M2 aL fun k3 M4 =>
Bt M4 k1 0 fun A5 k6 k7 A8 k9 eB lp m8 eu fB =>
(True) ∧
ae Tryz.prog 74 #[(iV 0), (iV 0)] M4 (fun By gj =>
aF (some By) fun AI fq jH =>
((Mem.fX gj ⟨k1, 0, none⟩ 0 4) = some [(.slice A5 k6 k7), (.slice A8 k9 eB), (iV lp), (.slice m8 eu fB)]) ∧
aO gj (cl [(iV 1), (.slice AI fq jH), (iV 0), (iV 0), (iV 0), (iV 0)] 111) fun fV jI =>
aO jI aL fun gi mD =>
dO mD gi 0 [(.slice A5 k6 k7), (.slice A8 k9 eB), (iV lp), (.slice m8 eu fB), (.slice (some ⟨fV, 0, none⟩) 1 1), (.int .u64 0), (.slice none 0 0), (.slice none 0 0), (.slice none 0 0), (.int .u64 0), (.slice none 0 0), (iV 0), (iV 0), (.slice none 0 0)] 14 fun nJ =>
((Mem.fX nJ ⟨k1, 0, none⟩ 0 4) = some [(.slice A5 k6 k7), (.slice A8 k9 eB), (iV lp), (.slice m8 eu fB)]) ∧
rS nJ k1 1 fun CY gM kK =>
∃ I28 : IT, (∃ gk, I28 gk [(iV 0)] nJ) ∧
∀ (jg : Nat) (_ : Nat → Value) (n32 : Int) (uf : Mem), (I28 jg [(iV n32)] uf) → aM (decide (n32 < gM))
 ((0 ≤ n32) ∧
 (n32 < gM) ∧
 aE CY fun mS kD =>
 rI uf mS (kD + (Int.toNat n32)) fun tH =>
 ∃ J37 : List Value → Mem → Prop, ((rS uf gi 6 fun Oq lA va =>
 ae Tryz.prog 75 #[(iV tH)] uf (fun v41 OD =>
 ∃ xV : Int, ∃ AJ : Option Addr, ∃ wI me : Nat, ∃ OE : Option Addr, ∃ xZ mg : Nat, ∃ A50 : Option Addr, ∃ Hy pI : Nat, ∃ t53 : Bool, (v41 = (.agg #[(iV xV), (.slice AJ wI me), (.slice OE xZ mg), (.slice A50 Hy pI), (.bool t53)])) ∧
 aO OD (cl [(iV xV), (.slice AJ wI me), (.slice OE xZ mg), (.slice A50 Hy pI), (.bool t53)] 190) fun xX FM =>
 aA 75 Oq lA va (some ⟨xX, 0, none⟩) 1 1 FM (fun XX Hu =>
 aF (some XX) fun A58 Er Lm =>
 sT Hu gi 6 (.slice A58 Er Lm) fun z4 =>
 J37 [] z4) Kp) Kp) ∧
 (ae Tryz.prog 75 #[(iV tH)] uf (fun FJ FB =>
 ∃ n64 : Int, ∃ Wy : Option Addr, ∃ Ln Kt : Nat, ∃ WI : Option Addr, ∃ ZW Eu : Nat, ∃ A71 : Option Addr, ∃ Ku Ov : Nat, ∃ t74 : Bool, (FJ = (.agg #[(iV n64), (.slice Wy Ln Kt), (.slice WI ZW Eu), (.slice A71 Ku Ov), (.bool t74)])) ∧
 rS FB gi 6 fun A75 P1 z8 =>
 aO FB (cl [(iV n64), (.slice Wy Ln Kt), (.slice WI ZW Eu), (.slice A71 Ku Ov), (.bool t74)] 190) fun Dq XV =>
 aA 75 A75 P1 z8 (some ⟨Dq, 0, none⟩) 1 1 XV (fun Qm IJ =>
 aF (some Qm) fun A82 C2 Xu =>
 sT IJ gi 6 (.slice A82 C2 Xu) fun ZR =>
 J37 [] ZR) Kp) Kp) ∧
 True) ∧
 ∀ junk86 : Nat → Value, ∀ OG : Mem, (J37 [] OG) → ∃ Tb : Nat, (Tb < jg) ∧
 I28 Tb [(iV (IntKind.wrap .i64 (n32 + 1)))] OG)
 (rI uf k1 2 fun HB =>
 bk Tryz.prog (Go.Instr.makeSlice 76 (iV HB) (iV HB)) uf (fun PY ov =>
 aF (some PY) fun A92 Xi Oy =>
 sT ov gi 7 (.slice A92 Xi Oy) fun P2 =>
 rW P2 gi fun l96 =>
 dO P2 k3 0 l96 14 fun ZV =>
 rW ZV k3 fun l98 =>
 K (.agg (l98.toArray)) ZV) Kp)) Kp) :
 ae Tryz.prog 37 #[.agg #[.slice iR iS iT, .slice iU iW iX, .int .i64 kT, .slice jS jT jU]] M K Kp := vw [(1, .bH [0, 0, 2, 6, 15, 0, 63] (.cS 0 (.late 1 (sy [2, 3, 4, 5, 6] .done)))), (2000000, .loop [(14, .c (.int .i64))]), (5, .Pv [0, 1, 0, 4, 12, 31, 63, 127] (sy [0, 2] (.fork 1 (sy [3, 4, 5, 6, 7] .done) (.fork 3 (sy [1, 4, 5, 6, 7] .done) .dead))) [])] Tryz.func37 h
variable {M : Mem} {K : Value → Mem → Prop} {Kp : List PanicEntry → Mem → Prop}
theorem sB {oy : Int} {w8 : Int} {kT : Int} {x0_3 : Int} {x0_4 : Int} {x0_5 : Int} {x0_6 : Int} {x0_7 : Int} {x0_8 : Int} {x0_9 : Int} {ZZ : Int} {dS : Int} {eD : Int} {eE : Int} {hO : Int} (h :
aO M (cl [(iV oy), (iV w8), (iV kT), (iV x0_3), (iV x0_4), (iV x0_5), (iV x0_6), (iV x0_7), (iV x0_8), (iV x0_9), (iV ZZ)] 114) fun k1 M2 =>
aO M2 (cl [(iV dS), (iV eD), (iV eE), (iV hO)] 109) fun k3 M4 =>
aO M4 cM fun k5 M6 =>
rI M6 k1 1 fun n7 =>
sT M6 k1 1 (iV (IntKind.wrap .i64 (n7 + 1))) fun M8 =>
rI M8 k3 0 fun n9 =>
aM (n9 == 0)
 (rI M8 k1 0 fun dI =>
 rI M8 k1 1 fun lp =>
 rI M8 k1 2 fun hG =>
 rI M8 k1 3 fun m9 =>
 rI M8 k1 4 fun jD =>
 rI M8 k1 5 fun lj =>
 rI M8 k1 6 fun nI =>
 rI M8 k1 7 fun kS =>
 rI M8 k1 8 fun kQ =>
 rI M8 k1 9 fun nX =>
 rI M8 k1 10 fun gF =>
 ou M8 k5 (iV dI) (iV lp) (iV hG) (iV m9) (iV jD) (iV lj) (iV nI) (iV kS) (iV kQ) (iV nX) (iV gF) fun uj =>
 aU uj k5 0 fun n32 kP vg yK tH xU mE yC ni zG BL =>
 K (.tuple #[(.agg #[(iV n32), (iV kP), (iV vg), (iV yK), (iV tH), (iV xU), (iV mE), (iV yC), (iV ni), (iV zG), (iV BL)]), (.bool true)]) uj)
 (aM (n9 == 1)
 (rI M8 k3 1 fun xV =>
 rI M8 k3 2 fun yL =>
 (0 ≤ xV) ∧
 (xV < 8) ∧
 sT M8 k1 (2 + (Int.toNat xV)) (iV yL) fun IG =>
 aU IG k1 0 fun ID Dh FQ PT Aa C3 S9 Lz vG KA Kz =>
 ou IG k5 (iV ID) (iV Dh) (iV FQ) (iV PT) (iV Aa) (iV C3) (iV S9) (iV Lz) (iV vG) (iV KA) (iV Kz) fun S2 =>
 aU S2 k5 0 fun xe Lo IL WD IF PK n74 SQ Xe Xf n78 =>
 K (.tuple #[(.agg #[(iV xe), (iV Lo), (iV IL), (iV WD), (iV IF), (iV PK), (iV n74), (iV SQ), (iV Xe), (iV Xf), (iV n78)]), (.bool true)]) S2)
 (aM (n9 == 2)
 (rI M8 k3 1 fun TQ =>
 rI M8 k3 2 fun Hw =>
 (0 ≤ Hw) ∧
 (Hw < 8) ∧
 rI M8 k1 (2 + (Int.toNat Hw)) fun Rz =>
 (0 ≤ TQ) ∧
 (TQ < 8) ∧
 sT M8 k1 (2 + (Int.toNat TQ)) (iV Rz) fun M82 =>
 aU M82 k1 0 fun Ww Rs RA n86 n87 Ky HB zF Ix Di Dz =>
 ou M82 k5 (iV Ww) (iV Rs) (iV RA) (iV n86) (iV n87) (iV Ky) (iV HB) (iV zF) (iV Ix) (iV Di) (iV Dz) fun DA =>
 aU DA k5 0 fun BQ yN yO qv S5 FC Tp Lg SV FD LW =>
 K (.tuple #[(.agg #[(iV BQ), (iV yN), (iV yO), (iV qv), (iV S5), (iV FC), (iV Tp), (iV Lg), (iV SV), (iV FD), (iV LW)]), (.bool true)]) DA)
 (aM (n9 == 3)
 (rI M8 k3 1 fun uT =>
 rI M8 k3 2 fun Ul =>
 (0 ≤ Ul) ∧
 (Ul < 8) ∧
 rI M8 k1 (2 + (Int.toNat Ul)) fun n118 =>
 rI M8 k3 3 fun y5 =>
 (0 ≤ y5) ∧
 (y5 < 8) ∧
 rI M8 k1 (2 + (Int.toNat y5)) fun LG =>
 (0 ≤ uT) ∧
 (uT < 8) ∧
 sT M8 k1 (2 + (Int.toNat uT)) (iV (IntKind.wrap .i64 (n118 + LG))) fun iY =>
 aU iY k1 0 fun FZ FV B9 yS Mn Mr lD n129 Qi xD X1 =>
 ou iY k5 (iV FZ) (iV FV) (iV B9) (iV yS) (iV Mn) (iV Mr) (iV lD) (iV n129) (iV Qi) (iV xD) (iV X1) fun Qp =>
 aU Qp k5 0 fun n144 Tr n146 n147 n148 n149 U0 Ts yV Gh Tt =>
 K (.tuple #[(.agg #[(iV n144), (iV Tr), (iV n146), (iV n147), (iV n148), (iV n149), (iV U0), (iV Ts), (iV yV), (iV Gh), (iV Tt)]), (.bool true)]) Qp)
 (aM (n9 == 4)
 (rI M8 k3 1 fun LZ =>
 rI M8 k3 2 fun Ck =>
 (0 ≤ Ck) ∧
 (Ck < 8) ∧
 rI M8 k1 (2 + (Int.toNat Ck)) fun GJ =>
 rI M8 k3 3 fun TU =>
 (0 ≤ TU) ∧
 (TU < 8) ∧
 rI M8 k1 (2 + (Int.toNat TU)) fun n159 =>
 (0 ≤ LZ) ∧
 (LZ < 8) ∧
 sT M8 k1 (2 + (Int.toNat LZ)) (iV (IntKind.wrap .i64 (GJ - n159))) fun UX =>
 aU UX k1 0 fun n161 n162 Ma Jb TW n166 n167 n168 Tu n170 Tv =>
 ou UX k5 (iV n161) (iV n162) (iV Ma) (iV Jb) (iV TW) (iV n166) (iV n167) (iV n168) (iV Tu) (iV n170) (iV Tv) fun vW =>
 aU vW k5 0 fun uR rZ IW Qr n187 LP LQ BV n191 Mu Yp =>
 K (.tuple #[(.agg #[(iV uR), (iV rZ), (iV IW), (iV Qr), (iV n187), (iV LP), (iV LQ), (iV BV), (iV n191), (iV Mu), (iV Yp)]), (.bool true)]) vW)
 (aM (n9 == 5)
 (rI M8 k3 1 fun n194 =>
 rI M8 k3 2 fun Tx =>
 (0 ≤ Tx) ∧
 (Tx < 8) ∧
 rI M8 k1 (2 + (Int.toNat Tx)) fun Mc =>
 rI M8 k3 3 fun Gl =>
 (0 ≤ Gl) ∧
 (Gl < 8) ∧
 rI M8 k1 (2 + (Int.toNat Gl)) fun n198 =>
 (0 ≤ n194) ∧
 (n194 < 8) ∧
 sT M8 k1 (2 + (Int.toNat n194)) (iV (IntKind.wrap .i64 (Mc * n198))) fun Cl =>
 aU Cl k1 0 fun Ty n201 Tz T4 F7 Mw n206 Md LU LV BW =>
 ou Cl k5 (iV Ty) (iV n201) (iV Tz) (iV T4) (iV F7) (iV Mw) (iV n206) (iV Md) (iV LU) (iV LV) (iV BW) fun XF =>
 aU XF k5 0 fun n222 Me n224 n225 TB n227 n228 n229 Qs Qt Qu =>
 K (.tuple #[(.agg #[(iV n222), (iV Me), (iV n224), (iV n225), (iV TB), (iV n227), (iV n228), (iV n229), (iV Qs), (iV Qt), (iV Qu)]), (.bool true)]) XF)
 (aM (n9 == 6)
 (rI M8 k3 2 fun Ah =>
 (0 ≤ Ah) ∧
 (Ah < 8) ∧
 rI M8 k1 (2 + (Int.toNat Ah)) fun n234 =>
 rI M8 k3 3 fun TC =>
 (0 ≤ TC) ∧
 (TC < 8) ∧
 rI M8 k1 (2 + (Int.toNat TC)) fun n236 =>
 aM (decide (n234 < n236))
 (rI M8 k3 1 fun An =>
 (0 ≤ An) ∧
 (An < 8) ∧
 sT M8 k1 (2 + (Int.toNat An)) (iV 1) fun XN =>
 aU XN k1 0 fun Gc n240 TD TE Gn n244 n245 yW n247 n248 n249 =>
 ou XN k5 (iV Gc) (iV n240) (iV TD) (iV TE) (iV Gn) (iV n244) (iV n245) (iV yW) (iV n247) (iV n248) (iV n249) fun M260 =>
 aU M260 k5 0 fun Gp n262 n263 n264 n265 n266 n267 IX n269 n270 n271 =>
 K (.tuple #[(.agg #[(iV Gp), (iV n262), (iV n263), (iV n264), (iV n265), (iV n266), (iV n267), (iV IX), (iV n269), (iV n270), (iV n271)]), (.bool true)]) M260)
 (rI M8 k3 1 fun TG =>
 (0 ≤ TG) ∧
 (TG < 8) ∧
 sT M8 k1 (2 + (Int.toNat TG)) (iV 0) fun M273 =>
 aU M273 k1 0 fun Gq Mh Qj n277 n278 U2 n280 n281 n282 n283 n284 =>
 ou M273 k5 (iV Gq) (iV Mh) (iV Qj) (iV n277) (iV n278) (iV U2) (iV n280) (iV n281) (iV n282) (iV n283) (iV n284) fun M295 =>
 aU M295 k5 0 fun Mi n297 n298 n299 Mj Mk n302 n303 n304 n305 n306 =>
 K (.tuple #[(.agg #[(iV Mi), (iV n297), (iV n298), (iV n299), (iV Mj), (iV Mk), (iV n302), (iV n303), (iV n304), (iV n305), (iV n306)]), (.bool true)]) M295))
 (aM (n9 == 7)
 (rI M8 k3 1 fun n307 =>
 sT M8 k1 1 (iV n307) fun M308 =>
 aU M308 k1 0 fun n309 n310 n311 n312 Cj IY n315 n316 n317 n318 TK =>
 ou M308 k5 (iV n309) (iV n310) (iV n311) (iV n312) (iV Cj) (iV IY) (iV n315) (iV n316) (iV n317) (iV n318) (iV TK) fun DJ =>
 aU DJ k5 0 fun TL n332 n333 n334 n335 n336 n337 n338 n339 n340 n341 =>
 K (.tuple #[(.agg #[(iV TL), (iV n332), (iV n333), (iV n334), (iV n335), (iV n336), (iV n337), (iV n338), (iV n339), (iV n340), (iV n341)]), (.bool true)]) DJ)
 (aM (n9 == 8)
 (rI M8 k3 1 fun TM =>
 (0 ≤ TM) ∧
 (TM < 8) ∧
 rI M8 k1 (2 + (Int.toNat TM)) fun IZ =>
 aM (IZ != 0)
 (rI M8 k3 2 fun I0 =>
 sT M8 k1 1 (iV I0) fun M345 =>
 aU M345 k1 0 fun I2 n347 n348 n349 n350 n351 n352 n353 n354 n355 n356 =>
 ou M345 k5 (iV I2) (iV n347) (iV n348) (iV n349) (iV n350) (iV n351) (iV n352) (iV n353) (iV n354) (iV n355) (iV n356) fun M367 =>
 aU M367 k5 0 fun n368 n369 n370 n371 n372 n373 n374 n375 n376 n377 n378 =>
 K (.tuple #[(.agg #[(iV n368), (iV n369), (iV n370), (iV n371), (iV n372), (iV n373), (iV n374), (iV n375), (iV n376), (iV n377), (iV n378)]), (.bool true)]) M367)
 (rI M8 k1 0 fun n379 =>
 rI M8 k1 1 fun n380 =>
 rI M8 k1 2 fun n381 =>
 rI M8 k1 3 fun TN =>
 rI M8 k1 4 fun n383 =>
 rI M8 k1 5 fun n384 =>
 rI M8 k1 6 fun n385 =>
 rI M8 k1 7 fun Ya =>
 rI M8 k1 8 fun Qf =>
 rI M8 k1 9 fun n388 =>
 rI M8 k1 10 fun n389 =>
 ou M8 k5 (iV n379) (iV n380) (iV n381) (iV TN) (iV n383) (iV n384) (iV n385) (iV Ya) (iV Qf) (iV n388) (iV n389) fun M400 =>
 aU M400 k5 0 fun n401 n402 n403 n404 n405 n406 n407 n408 n409 n410 n411 =>
 K (.tuple #[(.agg #[(iV n401), (iV n402), (iV n403), (iV n404), (iV n405), (iV n406), (iV n407), (iV n408), (iV n409), (iV n410), (iV n411)]), (.bool true)]) M400))
 (rI M8 k1 1 fun n412 =>
 sT M8 k1 1 (iV (IntKind.wrap .i64 (n412 - 1))) fun M413 =>
 aU M413 k1 0 fun n414 n415 n416 n417 TO n419 n420 n421 n422 n423 n424 =>
 ou M413 k5 (iV n414) (iV n415) (iV n416) (iV n417) (iV TO) (iV n419) (iV n420) (iV n421) (iV n422) (iV n423) (iV n424) fun M435 =>
 aU M435 k5 0 fun n436 n437 n438 n439 n440 TP n442 n443 n444 n445 n446 =>
 K (.tuple #[(.agg #[(iV n436), (iV n437), (iV n438), (iV n439), (iV n440), (iV TP), (iV n442), (iV n443), (iV n444), (iV n445), (iV n446)]), (.bool false)]) M435)))))))))) :
 ae Tryz.prog 111 #[.agg #[.int .i64 oy, .int .i64 w8, .int .i64 kT, .int .i64 x0_3, .int .i64 x0_4, .int .i64 x0_5, .int .i64 x0_6, .int .i64 x0_7, .int .i64 x0_8, .int .i64 x0_9, .int .i64 ZZ], .agg #[.int .i64 dS, .int .i64 eD, .int .i64 eE, .int .i64 hO]] M K Kp := vw [(9, .bH [0, 1, 0, 4, 0, 28, 60, 0, 255, 511] (sy [0, 2, 4, 7, 1, 3, 5, 6, 8, 9] .done)), (11, .bH [0, 1, 0, 4, 0, 28, 60, 0, 128, 0, 896, 1920, 4092, 0, 16383, 32767] (sy [0, 2, 4, 7, 9, 13, 1, 3, 5, 6, 8, 10, 11, 12, 14, 15] .done)), (13, .bH [0, 1, 0, 4, 0, 28, 60, 0, 128, 0, 896, 1920, 4092, 0, 16383, 32767] (sy [0, 2, 4, 7, 9, 13, 1, 3, 5, 6, 8, 10, 11, 12, 14, 15] .done)), (15, .bH [0, 1, 0, 4, 0, 28, 60, 0, 128, 0, 896, 1920, 4092, 0, 16383, 32767] (sy [0, 2, 4, 7, 9, 13, 1, 3, 5, 6, 8, 10, 11, 12, 14, 15] .done)), (18, .bH [0, 1, 0, 7, 15, 0, 32, 0, 224, 480, 1023] (sy [0, 2, 5, 7, 1, 3, 4, 6, 8, 9, 10] .done))] Tryz.func111 h
theorem sC {B0 : Option Addr} {m0 c0 : Nat} {x1 : Int} {x2 : Int} {x3 : Int} (h :
aM (decide ((m0 : Int) > 15))
 (K (.tuple #[(.slice B0 m0 c0), (.bool false)]) M)
 (ae Tryz.prog 74 #[(iV x1), (iV x2)] M (fun v1 M2 =>
 aF (some v1) fun A3 k4 k5 =>
 ((0 : Int) ≤ 0) ∧
 ((0 : Int) < k4) ∧
 aE A3 fun k6 k7 =>
 aU M2 k6 (k7 + 0) fun n8 n9 dI lp hG m9 jD lj nI kS kQ =>
 aO M2 cM fun jH vC =>
 ou vC jH (iV n8) (iV n9) (iV dI) (iV lp) (iV hG) (iV m9) (iV jD) (iV lj) (iV nI) (iV kS) (iV kQ) fun uj =>
 sT uj jH 10 (iV x3) fun mR =>
 aU mR jH 0 fun kP vg yK tH xU mE yC ni zG BL xV =>
 aO mR (cl [] 114) fun zB IG =>
 (True) ∧
 aA 107 (some ⟨zB, 0, none⟩) 0 0 B0 m0 c0 IG (fun Xy w9 =>
 aF (some Xy) fun OB mg vD =>
 ((Mem.fX w9 ⟨jH, 0, none⟩ 0 11) = some [(iV kP), (iV vg), (iV yK), (iV tH), (iV xU), (iV mE), (iV yC), (iV ni), (iV zG), (iV BL), (iV xV)]) ∧
 aO w9 (cl [(iV kP), (iV vg), (iV yK), (iV tH), (iV xU), (iV mE), (iV yC), (iV ni), (iV zG), (iV BL), (iV xV)] 114) fun Hy ya =>
 aA 107 OB mg vD (some ⟨Hy, 0, none⟩) 1 1 ya (fun v53 PI =>
 aF (some v53) fun Wx C0 vH =>
 ((Mem.fX PI ⟨jH, 0, none⟩ 0 11) = some [(iV kP), (iV vg), (iV yK), (iV tH), (iV xU), (iV mE), (iV yC), (iV ni), (iV zG), (iV BL), (iV xV)]) ∧
 K (.tuple #[(.slice Wx C0 vH), (.bool true)]) PI) Kp) Kp) Kp)) :
 ae Tryz.prog 140 #[.slice B0 m0 c0, .int .i64 x1, .int .i64 x2, .int .i64 x3] M K Kp := vw [(5, .bH [0, 0, 3, 0, 8, 31, 63, 127] (sy [1] (.cS 3 (sy [0] (.late 2 (sy [4, 5, 6, 7] .done))))))] Tryz.func140 h
theorem pN {B0 : Option Addr} {m0 c0 : Nat} {x1 : Int} (h :
aM (decide (((IntKind.wrap .i64 ((m0 : Int) - 1)) : Int) < 1))
 (K (.tuple #[(.slice none 0 0), (.bool false)]) M)
 (aO M (cl [] 114) fun k1 M2 =>
 ((0 : Int) ≤ c0) ∧
 ((c0 : Int) ≤ c0) ∧
 ((0 : Int) ≤ (IntKind.wrap .i64 ((m0 : Int) - 1))) ∧
 (((IntKind.wrap .i64 ((m0 : Int) - 1)) : Int) ≤ (c0 : Int)) ∧
 ((0 : Int) ≤ 0) ∧
 ((0 : Int) ≤ (IntKind.wrap .i64 ((m0 : Int) - 1))) ∧
 bk Tryz.prog (Go.Builtin.append_ #[107, 107] 107 #[(.slice (some ⟨k1, 0, none⟩) 0 0), (.slice (jt B0 0 (Int.toNat (c0 : Int)) 11) ((Int.toNat (IntKind.wrap .i64 ((m0 : Int) - 1))) - 0) ((Int.toNat (c0 : Int)) - 0))]) M2 (fun v3 M4 =>
 aF (some v3) fun A5 k6 k7 =>
 ((0 : Int) ≤ (IntKind.wrap .i64 ((m0 : Int) - 1))) ∧
 (((IntKind.wrap .i64 ((m0 : Int) - 1)) : Int) < (m0 : Int)) ∧
 aE B0 fun k8 k9 =>
 ((0 : Int) ≤ (IntKind.wrap .i64 ((IntKind.wrap .i64 ((m0 : Int) - 1)) - 1))) ∧
 (((IntKind.wrap .i64 ((IntKind.wrap .i64 ((m0 : Int) - 1)) - 1)) : Int) < (k6 : Int)) ∧
 aE A5 fun eB eo =>
 rI M4 k8 ((k9 + ((Int.toNat (IntKind.wrap .i64 ((m0 : Int) - 1))) * 11)) + 10) fun hG =>
 (0 ≤ hG) ∧
 (hG < 8) ∧
 sT M4 eB (((eo + ((Int.toNat (IntKind.wrap .i64 ((IntKind.wrap .i64 ((m0 : Int) - 1)) - 1))) * 11)) + 2) + (Int.toNat hG)) (iV x1) fun lG =>
 K (.tuple #[(.slice A5 k6 k7), (.bool true)]) lG) Kp)) :
 ae Tryz.prog 141 #[.slice B0 m0 c0, .int .i64 x1] M K Kp := vw [(5, .bH [0, 0, 2, 0, 0, 24, 56, 120, 0, 7, 519, 2047, 4095] (sy [0, 1, 2, 3, 4, 5, 6, 8, 9, 10, 7, 11, 12] .done))] Tryz.func141 h
theorem sD {iR : Option Addr} {iS iT : Nat} {x1 : Int} (h :
aO M (cl [(.slice iR iS iT)] 251) fun k1 M2 =>
aO M2 wV fun k3 M4 =>
rS M4 k1 0 fun A5 k6 k7 =>
rS M4 k1 0 fun A8 k9 eB =>
aO M4 (cl [] 3) fun eo wJ =>
(True) ∧
aA 38 (some ⟨eo, 0, none⟩) 0 0 A5 k6 k7 wJ (fun Kn ql =>
aF (some Kn) fun oW fx fT =>
eS ql k1 0 A8 k9 eB ∧
aO ql (cl [(iV x1)] 3) fun fq m7 =>
aA 38 oW fx fT (some ⟨fq, 0, none⟩) 1 1 m7 (fun v20 jI =>
aF (some v20) fun Ly gN nW =>
eS jI k1 0 A8 k9 eB ∧
sT jI k3 0 (.slice Ly gN nW) fun qo =>
eS qo k1 0 A8 k9 eB ∧
rS qo k3 0 fun Xx kK gV =>
K (.tuple #[(.agg #[(.slice Xx kK gV)]), (.bool ((k9 : Int) == 0))]) qo) Kp) Kp) :
 ae Tryz.prog 149 #[.agg #[.slice iR iS iT], .int .i64 x1] M K Kp := vw [(1, .bH [0, 0, 2, 7, 0, 16, 63, 127, 0, 256, 768, 1792, 255, 8191] (sy [1, 4, 8, 2] (.cS 9 (sy [10, 11, 0] (.late 3 (sy [5, 6, 7, 12, 13] .done))))))] Tryz.func149 h
theorem sE {iR : Option Addr} {iS iT : Nat} {x1 : Int} (h :
aO M (cl [(.slice iR iS iT)] 251) fun k1 M2 =>
aO M2 wV fun k3 M4 =>
rS M4 k1 0 fun A5 k6 k7 =>
aM ((k6 : Int) == 0)
 (rS M4 k1 0 fun A8 k9 eB =>
 sT M4 k3 0 (.slice A8 k9 eB) fun iQ =>
 rS iQ k3 0 fun m8 eu fB =>
 K (.tuple #[(.agg #[(.slice m8 eu fB)]), (iV (-1)), (iV 5)]) iQ)
 (rS M4 k1 0 fun oW fx fT =>
 ((0 : Int) ≤ 0) ∧
 ((0 : Int) < fx) ∧
 aE oW fun fq jH =>
 rI M4 fq (jH + 0) fun gF =>
 aM (gF != x1)
 (rS M4 k1 0 fun CZ gi gN =>
 sT M4 k3 0 (.slice CZ gi gN) fun nJ =>
 rS nJ k3 0 fun CY gM kK =>
 K (.tuple #[(.agg #[(.slice CY gM kK)]), (iV (-1)), (iV 5)]) nJ)
 (rS M4 k1 0 fun z5 gk jg =>
 aM ((gk : Int) == 1)
 (sT M4 k3 0 (.slice none 0 0) fun uj =>
 rS uj k3 0 fun A32 lz mS =>
 K (.tuple #[(.agg #[(.slice A32 lz mS)]), (iV (-1)), (iV 0)]) uj)
 (rS M4 k1 0 fun Rx nK qt =>
 ((0 : Int) ≤ qt) ∧
 ((qt : Int) ≤ qt) ∧
 ((0 : Int) ≤ nK) ∧
 ((nK : Int) ≤ qt) ∧
 ((0 : Int) ≤ 1) ∧
 ((1 : Int) ≤ nK) ∧
 rS M4 k1 0 fun Oq lA va =>
 ((0 : Int) ≤ 1) ∧
 ((1 : Int) < lA) ∧
 aE Oq fun nH jC =>
 rI M4 nH (jC + 1) fun xV =>
 aO M4 (cl [] 3) fun zB IG =>
 bk Tryz.prog (Go.Builtin.append_ #[38, 38] 38 #[(.slice (some ⟨zB, 0, none⟩) 0 0), (.slice (jt Rx 1 (Int.toNat (qt : Int)) 1) ((Int.toNat (nK : Int)) - 1) ((Int.toNat (qt : Int)) - 1))]) IG (fun Xy w9 =>
 aF (some Xy) fun OB mg vD =>
 ((Mem.ld w9 ⟨nH, (jC + 1), none⟩) = (some (iV xV))) ∧
 eS w9 k1 0 Oq lA va ∧
 sT w9 k3 0 (.slice OB mg vD) fun AK =>
 ((Mem.ld AK ⟨nH, (jC + 1), none⟩) = (some (iV xV))) ∧
 eS AK k1 0 Oq lA va ∧
 rS AK k3 0 fun Ir j8 xX =>
 K (.tuple #[(.agg #[(.slice Ir j8 xX)]), (iV xV), (iV 0)]) AK) Kp)))) :
 ae Tryz.prog 150 #[.agg #[.slice iR iS iT], .int .i64 x1] M K Kp := vw [(5, .bH [0, 0, 2, 6, 15, 31, 0, 64, 192, 448, 63, 2047, 4095] (sy [1, 6, 2, 3] (.cS 7 (sy [8] (.cS 9 (sy [0, 4, 5, 10, 11, 12] .done))))))] Tryz.func150 h
theorem sF {iR : Option Addr} {iS iT : Nat} {w8 : Int} {x1 : Int} (h :
aO M (cl [(.slice iR iS iT), (.int .u64 w8)] 79) fun k1 M2 =>
aO M2 Fw fun k3 M4 =>
∃ I5 : IT, (∃ k6, I5 k6 [(iV 0)] M4) ∧
∀ (k7 : Nat) (_ : Nat → Value) (n9 : Int) (mV : Mem), (I5 k7 [(iV n9)] mV) → rS mV k1 0 fun FO gI eu =>
aM (decide (n9 < gI))
 (rS mV k1 0 fun ue jy fx =>
 (0 ≤ n9) ∧
 (n9 < jy) ∧
 aE ue fun fT fq =>
 rU mV fT (fq + ((Int.toNat n9) * 3)) fun nX =>
 aM (decide (nX ≤ x1))
 (∃ fV : Nat, (fV < k7) ∧
 I5 fV [(iV (IntKind.wrap .i64 (n9 + 1)))] mV)
 (rS mV k1 0 fun CZ gi gN =>
 ((0 : Int) ≤ gN) ∧
 ((gN : Int) ≤ gN) ∧
 ((0 : Int) ≤ gi) ∧
 ((gi : Int) ≤ gN) ∧
 (0 ≤ n9) ∧
 (n9 ≤ gi) ∧
 rU mV k1 1 fun qg =>
 rS mV k1 0 fun CY gM kK =>
 ((0 : Int) ≤ kK) ∧
 ((kK : Int) ≤ kK) ∧
 (0 ≤ n9) ∧
 (n9 ≤ kK) ∧
 ((0 : Int) ≤ 0) ∧
 (0 ≤ n9) ∧
 aO mV (cl [] 241) fun gV pG =>
 bk Tryz.prog (Go.Builtin.append_ #[77, 77] 77 #[(.slice (some ⟨gV, 0, none⟩) 0 0), (.slice (jt CZ (Int.toNat n9) (Int.toNat (gN : Int)) 3) ((Int.toNat (gi : Int)) - (Int.toNat n9)) ((Int.toNat (gN : Int)) - (Int.toNat n9)))]) pG (fun v30 uj =>
 aF (some v30) fun A32 lz mS =>
 eS uj k1 0 CY gM kK ∧
 ((Mem.ld uj ⟨k1, 1, none⟩) = (some (.int .u64 qg))) ∧
 Ws uj k3 (.slice A32 lz mS) (.int .u64 qg) fun pH =>
 eS pH k1 0 CY gM kK ∧
 ((Mem.ld pH ⟨k1, 1, none⟩) = (some (.int .u64 qg))) ∧
 rSU pH k3 0 fun yM fE lA ni =>
 K (.tuple #[(.agg #[(.slice yM fE lA), (.int .u64 ni)]), (.slice (jt CY 0 (Int.toNat (kK : Int)) 3) ((Int.toNat n9) - 0) ((Int.toNat (kK : Int)) - 0))]) pH) Kp))
 (rS mV k1 0 fun Ld jC jK =>
 ((0 : Int) ≤ jK) ∧
 ((jK : Int) ≤ jK) ∧
 ((0 : Int) ≤ jC) ∧
 ((jC : Int) ≤ jK) ∧
 (0 ≤ n9) ∧
 (n9 ≤ jC) ∧
 rU mV k1 1 fun yL =>
 rS mV k1 0 fun Lw me kj =>
 ((0 : Int) ≤ kj) ∧
 ((kj : Int) ≤ kj) ∧
 (0 ≤ n9) ∧
 (n9 ≤ kj) ∧
 ((0 : Int) ≤ 0) ∧
 (0 ≤ n9) ∧
 aO mV (cl [] 241) fun xZ w6 =>
 bk Tryz.prog (Go.Builtin.append_ #[77, 77] 77 #[(.slice (some ⟨xZ, 0, none⟩) 0 0), (.slice (jt Ld (Int.toNat n9) (Int.toNat (jK : Int)) 3) ((Int.toNat (jC : Int)) - (Int.toNat n9)) ((Int.toNat (jK : Int)) - (Int.toNat n9)))]) w6 (fun v50 AK =>
 aF (some v50) fun Ir j8 xX =>
 eS AK k1 0 Lw me kj ∧
 ((Mem.ld AK ⟨k1, 1, none⟩) = (some (.int .u64 yL))) ∧
 Ws AK k3 (.slice Ir j8 xX) (.int .u64 yL) fun Ks =>
 eS Ks k1 0 Lw me kj ∧
 ((Mem.ld Ks ⟨k1, 1, none⟩) = (some (.int .u64 yL))) ∧
 rSU Ks k3 0 fun Rq Bz Er vA =>
 K (.tuple #[(.agg #[(.slice Rq Bz Er), (.int .u64 vA)]), (.slice (jt Lw 0 (Int.toNat (kj : Int)) 3) ((Int.toNat n9) - 0) ((Int.toNat (kj : Int)) - 0))]) Ks) Kp)) :
 ae Tryz.prog 108 #[.agg #[.slice iR iS iT, .int .u64 w8], .int .u64 x1] M K Kp := vw [(2000000, .loop [(6, .c (.int .i64))]), (4, .bH [0, 0, 2, 0, 14, 31, 0, 64, 255, 0, 512, 0, 3584, 511, 16383] (sy [1, 3, 6, 9, 11, 2, 4] (.cS 7 (.cS 10 (sy [12, 0, 5, 8, 13, 14] .done)))))] Tryz.func108 h
theorem sG {iR : Option Addr} {iS iT : Nat} {w8 : Int} {x1 : Int} {x2 : Int} (h :
aO M (cl [(.slice iR iS iT), (.int .u64 w8)] 79) fun k1 M2 =>
aO M2 Fw fun k3 M4 =>
aO M4 (cl [] 241) fun k5 M6 =>
rU M6 k1 1 fun n7 =>
aO M6 tu fun k8 M9 =>
pA M9 k8 (.int .u64 x1) (.int .u64 n7) (iV x2) fun wJ =>
rS wJ k1 0 fun zA fB jy =>
∃ Xw : IT, (∃ fT, Xw fT [(.slice (some ⟨k5, 0, none⟩) 0 0), (.bool false), (iV 0)] wJ) ∧
∀ (fq : Nat) (_ : Nat → Value) (Xm : Option Addr) (lH : Nat) (gi : Nat) (t23 : Bool) (qg : Int) (qo : Mem), (Xw fq [(.slice Xm lH gi), (.bool t23), (iV qg)] qo) → aM (decide (qg < fB))
 ((0 ≤ qg) ∧
 (qg < fB) ∧
 aE zA fun gM kK =>
 PD qo gM (kK + ((Int.toNat qg) * 3)) fun Ko yI xl =>
 aO qo tu fun iM mR =>
 pA mR iM (.int .u64 Ko) (.int .u64 yI) (iV xl) fun vj =>
 aM (!t23)
 (rU vj iM 0 fun tH =>
 aM (decide (tH > x1))
 (rU vj k8 0 fun xU =>
 rU vj k8 1 fun mE =>
 rI vj k8 2 fun yC =>
 aO vj (cl [(.int .u64 xU), (.int .u64 mE), (iV yC)] 241) fun va BJ =>
 aA 77 Xm lH gi (some ⟨va, 0, none⟩) 1 1 BJ (fun v42 xd =>
 aF (some v42) fun AJ wI me =>
 PD xd iM 0 fun Dh FQ PT =>
 aO xd (cl [(.int .u64 Dh), (.int .u64 FQ), (iV PT)] 241) fun vD AK =>
 aA 77 AJ wI me (some ⟨vD, 0, none⟩) 1 1 AK (fun Xo LA =>
 aF (some Xo) fun A54 Xq C0 =>
 ∃ vH : Nat, (vH < fq) ∧
 Xw vH [(.slice A54 Xq C0), (.bool true), (iV (IntKind.wrap .i64 (qg + 1)))] LA) Kp) Kp)
 (rU vj iM 0 fun Dg =>
 rU vj iM 1 fun Ip =>
 rI vj iM 2 fun vA =>
 aO vj (cl [(.int .u64 Dg), (.int .u64 Ip), (iV vA)] 241) fun ve Rp =>
 aA 77 Xm lH gi (some ⟨ve, 0, none⟩) 1 1 Rp (fun Dp ug =>
 aF (some Dp) fun Wy Ln Kt =>
 ∃ Rt : Nat, (Rt < fq) ∧
 Xw Rt [(.slice Wy Ln Kt), (.bool t23), (iV (IntKind.wrap .i64 (qg + 1)))] ug) Kp))
 (rU vj iM 0 fun Lo =>
 rU vj iM 1 fun IL =>
 rI vj iM 2 fun WD =>
 aO vj (cl [(.int .u64 Lo), (.int .u64 IL), (iV WD)] 241) fun Ku IV =>
 aA 77 Xm lH gi (some ⟨Ku, 0, none⟩) 1 1 IV (fun Ym Td =>
 aF (some Ym) fun A76 z8 Dq =>
 ∃ Ru : Nat, (Ru < fq) ∧
 Xw Ru [(.slice A76 z8 Dq), (.bool t23), (iV (IntKind.wrap .i64 (qg + 1)))] Td) Kp))
 (aM (!t23)
 (rU qo k8 0 fun Hw =>
 rU qo k8 1 fun Rz =>
 rI qo k8 2 fun Wv =>
 aO qo (cl [(.int .u64 Hw), (.int .u64 Rz), (iV Wv)] 241) fun C2 ZQ =>
 aA 77 Xm lH gi (some ⟨C2, 0, none⟩) 1 1 ZQ (fun Uj ZO =>
 aF (some Uj) fun A87 Tb k89 =>
 rU ZO k1 1 fun zF =>
 Ws ZO k3 (.slice A87 Tb k89) (.int .u64 (IntKind.wrap .u64 (zF + 1))) fun M92 =>
 rSU M92 k3 0 fun Xs Oy OF SU =>
 K (.agg #[(.slice Xs Oy OF), (.int .u64 SU)]) M92) Kp)
 (rU qo k1 1 fun n97 =>
 Ws qo k3 (.slice Xm lH gi) (.int .u64 (IntKind.wrap .u64 (n97 + 1))) fun M99 =>
 rSU M99 k3 0 fun A100 LD FT n103 =>
 K (.agg #[(.slice A100 LD FT), (.int .u64 n103)]) M99))) :
 ae Tryz.prog 148 #[.agg #[.slice iR iS iT, .int .u64 w8], .int .u64 x1, .int .i64 x2] M K Kp := vw [(2000000, .loop [(7, .c .sl), (9, .c .bool), (21, .c (.int .i64))])] Tryz.func148 h
end Go.Proofs
namespace Go.Proofs
open Go.AF
set_option maxRecDepth 100000
theorem sH {B0 : Option Addr} {m0 c0 : Nat} {B1 : Option Addr} {m1 c1 : Nat} {M : Mem} {K : Value → Mem → Prop} {Kp : List PanicEntry → Mem → Prop} (h :
aM ((m0 : Int) != (m1 : Int))
 (K (iV (-1)) M)
 (∃ I1 : IT, (∃ k2, I1 k2 [(iV 0)] M) ∧
 ∀ (k3 : Nat) (_ : Nat → Value) (n5 : Int) (M6 : Mem), (I1 k3 [(iV n5)] M6) → aM (decide (n5 < m1))
 ((0 ≤ n5) ∧
 (n5 < m0) ∧
 aE B0 fun k7 k8 =>
 (0 ≤ n5) ∧
 (n5 < m1) ∧
 aE B1 fun k9 eB =>
 rI M6 k7 (k8 + (Int.toNat n5)) fun lp =>
 rI M6 k9 (eB + (Int.toNat n5)) fun hG =>
 aM (lp != hG)
 (K (iV (-1)) M6)
 (∃ eu : Nat, (eu < k3) ∧
 I1 eu [(iV (IntKind.wrap .i64 (n5 + 1)))] M6))
 (K (iV 0) M6))) :
 ae Tryz.prog 26 #[.slice B0 m0 c0, .slice B1 m1 c1] M K Kp := vw [(2000000, .loop [(13, .c (.int .i64))]), (6, .bH [0, 0, 3, 7, 0, 0, 48, 112, 255] (sy [0, 1, 2, 4, 5, 6, 3, 7, 8] .done))] Tryz.func26 h
end Go.Proofs
namespace Go.Proofs
open Go.AF
set_option maxRecDepth 100000
set_option maxHeartbeats 1000000
attribute [local irreducible] bG dF ff dP aF fa aE b7 aO bk bJ aM
theorem vY {A B : Option Addr} {m n ca cb : Nat} {l : List Int} {R : Mem} {L : List HP} {M : Mem} {K : Value → Mem → Prop} {Kp : List PanicEntry → Mem → Prop} (h : Hp R L M) (hA : Src R L A (bS.cells l)) (hB : Src R L B (bS.cells l)) (hm : m = l.length) (hn : n = l.length) (hs : l.length ≤ 1000000000) (k : ∀ M', Hp R L M' → K (.int .i64 0) M') :
  ae Tryz.prog 26 #[.slice A m ca, .slice B n cb] M K Kp := by
 subst hm
 subst hn
 refine sH ?_
 refine cY.2 ⟨fun hn => absurd rfl hn, fun _ => ?_⟩
 refine ⟨fun d vs M => ∃ i : Nat, vs = [.int .i64 (i : Int)] ∧ d = l.length - i ∧ i ≤ l.length ∧ Hp R L M, ⟨_, 0, rfl, rfl, by omega, h⟩, ?_⟩
 clear h
 rintro d _ ii M ⟨i, he, hd, hi, h⟩
 simp only [List.cons.injEq, Value.int.injEq, and_true, true_and] at he
 subst he
 refine aH.2 ⟨fun hlt => ?_, fun hge => k _ h⟩
 obtain ⟨w, hw⟩ := aJ (l := l) (i := i) (by omega)
 obtain ⟨b, o, rfl⟩ := hA.iP h (by omega) (by decide)
 obtain ⟨b', o', rfl⟩ := hB.iP h (by omega) (by decide)
 repeat (first|(refine ai h ?_;clear h;intro kb M h)|(refine ak h ?_;clear h;intro M h)|refine St.to h ?_|(apply Exists.intro;(repeat apply Exists.intro);refine And.intro rfl ?_)|refine ay ?_|refine aq ?_|refine au ?_)
 refine aj (hA.at h (j := 0) hw rfl (by simp [bS])) ?_
 refine aj (hB.at h (j := 0) hw rfl (by simp [bS])) ?_
 refine aD (by simp) ?_
 rw [aS (by omega)]
 exact ⟨l.length - (i + 1), by omega, i + 1, rfl, rfl, by omega, h⟩
end Go.Proofs
namespace Go.Proofs
open Go.AF
set_option maxRecDepth 100000
variable {M : Mem} {K : Value → Mem → Prop} {Kp : List PanicEntry → Mem → Prop}
theorem sI {B0 : Option Addr} {m0 c0 : Nat} {B1 : Option Addr} {m1 c1 : Nat} (h :
aM ((m0 : Int) != (m1 : Int))
 (K (iV (-1)) M)
 (∃ I1 : IT, (∃ k2, I1 k2 [(iV 0)] M) ∧
 ∀ (k3 : Nat) (_ : Nat → Value) (n5 : Int) (M6 : Mem), (I1 k3 [(iV n5)] M6) → aM (decide (n5 < m1))
 ((0 ≤ n5) ∧
 (n5 < m1) ∧
 aE B1 fun k7 k8 =>
 aU M6 k7 (k8 + ((Int.toNat n5) * 11)) fun n9 dI lp hG m9 jD lj nI kS kQ nX =>
 aO M6 cM fun fV jI =>
 ou jI fV (iV n9) (iV dI) (iV lp) (iV hG) (iV m9) (iV jD) (iV lj) (iV nI) (iV kS) (iV kQ) (iV nX) fun mR =>
 (0 ≤ n5) ∧
 (n5 < m0) ∧
 aE B0 fun lz mS =>
 aU mR lz (mS + ((Int.toNat n5) * 11)) fun yK tH xU mE yC ni zG BL xV yL uk =>
 aU mR fV 0 fun ID Dh FQ PT Aa C3 S9 Lz vG KA Kz =>
 aM (!((yK == ID) && ((tH == Dh) && (((xU == FQ) && ((mE == PT) && ((yC == Aa) && ((ni == C3) && ((zG == S9) && ((BL == Lz) && ((xV == vG) && ((yL == KA) && true)))))))) && ((uk == Kz) && true)))))
 (K (iV (-1)) mR)
 (∃ vH : Nat, (vH < k3) ∧
 I1 vH [(iV (IntKind.wrap .i64 (n5 + 1)))] mR))
 (K (iV 0) M6))) :
 ae Tryz.prog 83 #[.slice B0 m0 c0, .slice B1 m1 c1] M K Kp := vw [(2000000, .loop [(14, .c (.int .i64))]), (6, .bH [0, 0, 3, 7, 0, 31] (sy [0, 1, 2, 3, 4, 5] .done))] Tryz.func83 h
theorem sJ {b0 o0 : Nat} {y1 : List Value} (h :
aO M (.cells (y1.toArray) 81 (0, 0)) fun k1 M2 =>
ae Tryz.prog 60 #[(.pointer (some ⟨b0, o0, none⟩))] M2 (fun v3 M4 =>
∃ n5 n6 : Int, (v3 = (.tuple #[(iV n5), (iV n6)])) ∧
ae Tryz.prog 22 #[(.pointer (some ⟨b0, o0, none⟩))] M4 (fun v7 M8 =>
aF (some v7) fun A9 eB eo =>
rS M8 k1 4 fun m8 eu fB =>
ae Tryz.prog 64 #[(.pointer (some ⟨b0, o0, none⟩))] M8 (fun By gj =>
bG (some By) .i64 fun kS =>
eS gj k1 4 m8 eu fB ∧
aM (kS != (eu : Int))
 (eS gj k1 4 m8 eu fB ∧
 eS gj k1 4 m8 eu fB ∧
 eS gj k1 4 m8 eu fB ∧
 K (iV (-1)) gj)
 (rI gj k1 11 fun kQ =>
 aM (n5 != kQ)
 (eS gj k1 4 m8 eu fB ∧
 eS gj k1 4 m8 eu fB ∧
 eS gj k1 4 m8 eu fB ∧
 K (iV (-1)) gj)
 (rI gj k1 12 fun nX =>
 aM (n6 != nX)
 (eS gj k1 4 m8 eu fB ∧
 eS gj k1 4 m8 eu fB ∧
 eS gj k1 4 m8 eu fB ∧
 K (iV (-1)) gj)
 (rU gj k1 5 fun gF =>
 ae Tryz.prog 81 #[(.pointer (some ⟨b0, o0, none⟩))] gj (fun II c9 =>
 bG (some II) .u64 fun nY =>
 ((Mem.ld c9 ⟨k1, 5, none⟩) = (some (.int .u64 gF))) ∧
 eS c9 k1 4 m8 eu fB ∧
 aM (nY != gF)
 (((Mem.ld c9 ⟨k1, 5, none⟩) = (some (.int .u64 gF))) ∧
 eS c9 k1 4 m8 eu fB ∧
 ((Mem.ld c9 ⟨k1, 5, none⟩) = (some (.int .u64 gF))) ∧
 eS c9 k1 4 m8 eu fB ∧
 K (iV (-1)) c9)
 (rS c9 k1 10 fun CW jJ gM =>
 aM ((eB : Int) != (jJ : Int))
 (((Mem.ld c9 ⟨k1, 5, none⟩) = (some (.int .u64 gF))) ∧
 eS c9 k1 4 m8 eu fB ∧
 ((Mem.ld c9 ⟨k1, 5, none⟩) = (some (.int .u64 gF))) ∧
 eS c9 k1 4 m8 eu fB ∧
 K (iV (-1)) c9)
 (rS c9 k1 0 fun BI gV gk =>
 rS c9 k1 1 fun yG iM iy =>
 rI c9 k1 2 fun kP =>
 rS c9 k1 3 fun Et kD nK =>
 rS c9 k1 4 fun yM fE lA =>
 rU c9 k1 5 fun ni =>
 rS c9 k1 6 fun Ld jC jK =>
 rS c9 k1 7 fun AJ wI me =>
 rS c9 k1 8 fun OE xZ mg =>
 rU c9 k1 9 fun Aa =>
 rS c9 k1 10 fun CX pI j8 =>
 rI c9 k1 11 fun vG =>
 rI c9 k1 12 fun KA =>
 rS c9 k1 13 fun WB vH Bz =>
 ae Tryz.prog 44 #[(.pointer (some ⟨b0, o0, none⟩))] c9 (fun LB Rr =>
 dF (some LB) fun t61 =>
 eW Rr k1 BI gV gk yG iM iy kP Et kD nK yM fE lA ni Ld jC jK AJ wI me OE xZ mg Aa CX pI j8 vG KA WB vH Bz ∧
 ((Mem.ld Rr ⟨k1, 5, none⟩) = (some (.int .u64 gF))) ∧
 eS Rr k1 4 m8 eu fB ∧
 ae Tryz.prog 82 #[(.agg #[(.slice BI gV gk), (.slice yG iM iy), (iV kP), (.slice Et kD nK), (.slice yM fE lA), (.int .u64 ni), (.slice Ld jC jK), (.slice AJ wI me), (.slice OE xZ mg), (.int .u64 Aa), (.slice CX pI j8), (iV vG), (iV KA), (.slice WB vH Bz)])] Rr (fun FJ FB =>
 dF (some FJ) fun t64 =>
 eW FB k1 BI gV gk yG iM iy kP Et kD nK yM fE lA ni Ld jC jK AJ wI me OE xZ mg Aa CX pI j8 vG KA WB vH Bz ∧
 ((Mem.ld FB ⟨k1, 5, none⟩) = (some (.int .u64 gF))) ∧
 eS FB k1 4 m8 eu fB ∧
 aM (!(t61 == t64))
 (K (iV (-1)) FB)
 (rS FB k1 10 fun Wy Ln Kt =>
 ∃ I68 : IT, (∃ ZW, I68 ZW [(iV 0)] FB) ∧
 ∀ (Eu : Nat) (_ : Nat → Value) (IF : Int) (IV : Mem), (I68 Eu [(iV IF)] IV) → aM (decide (IF < Ln))
 ((0 ≤ IF) ∧
 (IF < Ln) ∧
 aE Wy fun HA S3 =>
 rI IV HA (S3 + (Int.toNat IF)) fun Xe =>
 (0 ≤ IF) ∧
 (IF < eB) ∧
 aE A9 fun z8 Dq =>
 rI IV z8 (Dq + (Int.toNat IF)) fun TQ =>
 aM (TQ != Xe)
 (K (iV (-1)) IV)
 (∃ Iu : Nat, (Iu < Eu) ∧
 I68 Iu [(iV (IntKind.wrap .i64 (IF + 1)))] IV))
 (rS IV k1 4 fun A81 FG C2 =>
 ∃ I84 : IT, (∃ Ow, I84 Ow [(iV 0)] IV) ∧
 ∀ (ZY : Nat) (_ : Nat → Value) (Ky : Int) (Kw : Mem), (I84 ZY [(iV Ky)] Kw) → aM (decide (Ky < FG))
 ((0 ≤ Ky) ∧
 (Ky < FG) ∧
 aE A81 fun Xh Ox =>
 gy Kw Xh (Ox + ((Int.toNat Ky) * 6)) fun Di Xs Oy OF SU n97 n98 XA =>
 aO Kw fM fun qu uh =>
 Rm uh qu (iV Di) (.slice Xs Oy OF) (iV SU) (iV n97) (iV n98) (iV XA) fun vI =>
 rI vI qu 0 fun qv =>
 ae Tryz.prog 65 #[(.pointer (some ⟨b0, o0, none⟩)), (iV Ky)] vI (fun GC Jo =>
 bG (some GC) .i64 fun Tp =>
 eI Jo qu 0 qv ∧
 aM (Tp != qv)
 (eI Jo qu 0 qv ∧
 eI Jo qu 0 qv ∧
 K (iV (-1)) Jo)
 (rS Jo qu 1 fun Tf FU Du =>
 ae Tryz.prog 84 #[(.pointer (some ⟨b0, o0, none⟩)), (iV Ky)] Jo (fun Ci DB =>
 aF (some Ci) fun LF z7 gS =>
 eS DB qu 1 Tf FU Du ∧
 eI DB qu 0 qv ∧
 ae Tryz.prog 83 #[(.slice LF z7 gS), (.slice Tf FU Du)] DB (fun MP iY =>
 bG (some MP) .i64 fun FZ =>
 eS iY qu 1 Tf FU Du ∧
 eI iY qu 0 qv ∧
 aM (FZ != 0)
 (K (iV (-1)) iY)
 (∃ IM : Nat, (IM < ZY) ∧
 I84 IM [(iV (IntKind.wrap .i64 (Ky + 1)))] iY)) Kp) Kp)) Kp)
 (rS Kw k1 6 fun A124 IK FW =>
 ∃ I127 : IT, (∃ LI, I127 LI [(iV 0)] Kw) ∧
 ∀ (uN : Nat) (_ : Nat → Value) (xD : Int) (oI : Mem), (I127 uN [(iV xD)] oI) → aM (decide (xD < IK))
 ((0 ≤ xD) ∧
 (xD < IK) ∧
 aE A124 fun xp Cc =>
 cI oI xp (Cc + ((Int.toNat xD) * 5)) fun xw MR GG oH GK yQ DD XQ F0 DK t145 =>
 aO oI c7 fun QA Yo =>
 Bs Yo QA (iV xw) (.slice MR GG oH) (.slice GK yQ DD) (.slice XQ F0 DK) (.bool t145) fun GI =>
 cI GI QA 0 fun Gh TS yY Mp A157 lT Ce A160 DL LJ t163 =>
 ae Tryz.prog 86 #[(.pointer (some ⟨b0, o0, none⟩)), (iV xD)] GI (fun UF Gi =>
 ∃ A166 : Option Addr, ∃ I8 Af : Nat, ∃ QB : Option Addr, ∃ Jn Jc : Nat, ∃ Jp : Option Addr, ∃ BU Gs : Nat, ∃ t175 : Bool, (UF = (.agg #[(.slice A166 I8 Af), (.slice QB Jn Jc), (.slice Jp BU Gs), (.bool t175)])) ∧
 ((Mem.fX Gi ⟨QA, 0, none⟩ 0 5) = some [(iV Gh), (.slice TS yY Mp), (.slice A157 lT Ce), (.slice A160 DL LJ), (.bool t163)]) ∧
 ae Tryz.prog 85 #[(.agg #[(.slice A166 I8 Af), (.slice QB Jn Jc), (.slice Jp BU Gs), (.bool t175)]), (.agg #[(iV Gh), (.slice TS yY Mp), (.slice A157 lT Ce), (.slice A160 DL LJ), (.bool t163)])] Gi (fun v176 MN =>
 bG (some v176) .i64 fun Qq =>
 ((Mem.fX MN ⟨QA, 0, none⟩ 0 5) = some [(iV Gh), (.slice TS yY Mp), (.slice A157 lT Ce), (.slice A160 DL LJ), (.bool t163)]) ∧
 aM (Qq != 0)
 (K (iV (-1)) MN)
 (∃ F5 : Nat, (F5 < uN) ∧
 I127 F5 [(iV (IntKind.wrap .i64 (xD + 1)))] MN)) Kp) Kp)
 (rW oI k1 fun l180 =>
 ae Tryz.prog 87 #[(.pointer (some ⟨b0, o0, none⟩)), (.agg (l180.toArray))] oI (fun v181 vW =>
 bG (some v181) .i64 fun uR =>
 K (iV uR) vW) Kp))))) Kp) Kp))) Kp)))) Kp) Kp) Kp) :
 ae Tryz.prog 40 #[.pointer (some ⟨b0, o0, none⟩), .agg y1.toArray] M K Kp := vw [(3, .bH [0, 1, 0, 4, 12, 31, 63, 127, 127, 383, 1023, 2047, 4095, 8191, 8191, 24575, 65535, 131071, 262143, 524287, 1048575, 524287, 2621439, 8388607, 16777215, 33554431, 67108863, 134217727, 67108863, 335544319, 872415231, 2147483647, 4294967295, 8589934591, 17179869183, 34359738367, 17179869183, 137438953471, 274877906943, 549755813887] (sy [0, 2] (.cS 3 (sy [4, 1, 5, 6, 7, 8, 9, 10, 11, 12, 13, 14, 15, 16, 17, 18, 19, 21] (.cS 22 (sy [20, 23, 24, 25, 26, 27, 28, 29, 30, 31, 32, 33, 34] (.cS 36 (sy [35, 37, 38, 39] .done)))))))), (2000000, .loop [(64, .c (.int .i64))]), (2000002, .loop [(79, .c (.int .i64))]), (14, .bH [0, 0, 3, 0, 8, 31, 63, 127, 127, 511, 127, 1151, 4095, 8191, 16383] (sy [0, 1, 3] (.cS 4 (sy [2, 5, 6, 7, 8, 10] (.cS 11 (sy [9, 12, 13, 14] .done)))))), (2000004, .loop [(103, .c (.int .i64))]), (20, .bH [0, 0, 3, 0, 15, 31] (sy [0, 1] (.cS 3 (sy [2, 4, 5] .done))))] Tryz.func40 h
theorem sK {b0 o0 : Nat} {y1 : List Value} (h :
aO M (.cells (y1.toArray) 81 (0, 0)) fun k1 M2 =>
rS M2 k1 7 fun A3 k4 k5 =>
∃ I6 : IT, (∃ k7, I6 k7 [(iV 0)] M2) ∧
∀ (k8 : Nat) (_ : Nat → Value) (dI : Int) (iQ : Mem), (I6 k8 [(iV dI)] iQ) → aM (decide (dI < k4))
 ((0 ≤ dI) ∧
 (dI < k4) ∧
 aE A3 fun gI eu =>
 rS iQ gI (eu + (Int.toNat dI)) fun ue jy fx =>
 aO iQ wV fun fT lR =>
 sT lR fT 0 (.slice ue jy fx) fun m7 =>
 ae Tryz.prog 118 #[(.pointer (some ⟨b0, o0, none⟩)), (iV dI)] m7 (fun v20 jI =>
 ∃ w5 : Int, ∃ PG : Option Addr, ∃ nW jJ : Nat, (v20 = (.tuple #[(iV w5), (.slice PG nW jJ)])) ∧
 rS jI fT 0 fun Xx kK gV =>
 aM ((kK : Int) == 0)
 (aM (w5 != (-1))
 (K (iV (-1)) jI)
 (aM ((nW : Int) != 0)
 (K (iV (-1)) jI)
 (∃ gk : Nat, (gk < k8) ∧
 I6 gk [(iV (IntKind.wrap .i64 (dI + 1)))] jI)))
 (rS jI fT 0 fun yG iM iy =>
 ((0 : Int) ≤ 0) ∧
 ((0 : Int) < iM) ∧
 aE yG fun lz mS =>
 rI jI lz (mS + 0) fun yK =>
 aM (w5 != yK)
 (K (iV (-1)) jI)
 (rS jI fT 0 fun A36 qt fE =>
 ((0 : Int) ≤ fE) ∧
 ((fE : Int) ≤ fE) ∧
 ((0 : Int) ≤ qt) ∧
 ((qt : Int) ≤ fE) ∧
 ((0 : Int) ≤ 1) ∧
 ((1 : Int) ≤ qt) ∧
 ae Tryz.prog 26 #[(.slice PG nW jJ), (.slice (jt A36 1 (Int.toNat (fE : Int)) 1) ((Int.toNat (qt : Int)) - 1) ((Int.toNat (fE : Int)) - 1))] jI (fun v39 FP =>
 bG (some v39) .i64 fun zG =>
 aM (zG != 0)
 (K (iV (-1)) FP)
 (∃ jC : Nat, (jC < k8) ∧
 I6 jC [(iV (IntKind.wrap .i64 (dI + 1)))] FP)) Kp))) Kp)
 (ae Tryz.prog 24 #[(.pointer (some ⟨b0, o0, none⟩))] iQ (fun v43 qs =>
 aF (some v43) fun Lw me kj =>
 rS qs k1 8 fun OB mg vD =>
 aM ((me : Int) != (mg : Int))
 (K (iV (-1)) qs)
 (rS qs k1 8 fun CX pI j8 =>
 ∃ I54 : IT, (∃ Xq, I54 Xq [(iV 0)] qs) ∧
 ∀ (C0 : Nat) (_ : Nat → Value) (Dg : Int) (eL : Mem), (I54 C0 [(iV Dg)] eL) → aM (decide (Dg < pI))
 ((0 ≤ Dg) ∧
 (Dg < pI) ∧
 aE CX fun Lm ve =>
 PD eL Lm (ve + ((Int.toNat Dg) * 3)) fun WE n63 n64 =>
 aO eL tu fun Oz OC =>
 pA OC Oz (.int .u64 WE) (.int .u64 n63) (iV n64) fun OH =>
 (0 ≤ Dg) ∧
 (Dg < me) ∧
 aE Lw fun Eu FF =>
 PD OH Eu (FF + ((Int.toNat Dg) * 3)) fun IF PK n74 =>
 PD OH Oz 0 fun SQ Xe Xf =>
 aM (!((IF == SQ) && ((PK == Xe) && ((n74 == Xf) && true))))
 (K (iV (-1)) OH)
 (∃ Dq : Nat, (Dq < C0) ∧
 I54 Dq [(iV (IntKind.wrap .i64 (Dg + 1)))] OH))
 (K (iV 0) eL))) Kp)) :
 ae Tryz.prog 87 #[.pointer (some ⟨b0, o0, none⟩), .agg y1.toArray] M K Kp := vw [(2000000, .loop [(15, .c (.int .i64))]), (2000002, .loop [(65, .c (.int .i64))]), (17, .bH [0, 0, 3, 7, 0, 31] (sy [0, 1, 2, 3, 4, 5] .done))] Tryz.func87 h
theorem sL {b0 o0 : Nat} {y1 : List Value} {q2_0 : Bool} {rH : Int} {oD : Int} (h :
aO M (.cells (y1.toArray) 81 (0, 0)) fun k1 M2 =>
aO M2 (cl [(.bool q2_0), (iV rH), (iV oD)] 106) fun k3 M4 =>
aO M4 aL fun k5 M6 =>
rB M6 k3 0 fun t7 =>
aM t7
 (rW M6 k1 fun l8 =>
 ae Tryz.prog 76 #[(.agg (l8.toArray))] M6 (fun v9 mV =>
 xW v9 fun v11 Hs Kn Xn By IC Ta FA PW v20 II Lc v23 v24 =>
 aO mV aL fun jJ xY =>
 dO xY jJ 0 [v11, Hs, Kn, Xn, By, IC, Ta, FA, PW, v20, II, Lc, v23, v24] 14 fun ng =>
 lu ng jJ 0 fun z5 gk jg Io iy lz vg Rx nK qt Oq lA va zG Iq jK zB Lw me kj OB mg vD C3 Ir j8 xX KA Kz Rq Bz Er =>
 rS ng jJ 13 fun Wz ve BG =>
 ae Tryz.prog 43 #[(.pointer (some ⟨b0, o0, none⟩))] ng (fun Dp ug =>
 aF (some Dp) fun Wy Ln Kt =>
 eS ug jJ 13 Wz ve BG ∧
 eW ug jJ z5 gk jg Io iy lz vg Rx nK qt Oq lA va zG Iq jK zB Lw me kj OB mg vD C3 Ir j8 xX KA Kz Rq Bz Er ∧
 ae Tryz.prog 26 #[(.slice Wy Ln Kt), (.slice Wz ve BG)] ug (fun ME OH =>
 bG (some ME) .i64 fun IL =>
 eS OH jJ 13 Wz ve BG ∧
 eW OH jJ z5 gk jg Io iy lz vg Rx nK qt Oq lA va zG Iq jK zB Lw me kj OB mg vD C3 Ir j8 xX KA Kz Rq Bz Er ∧
 tW2 OH k5 z5 gk jg Io iy lz vg Rx nK qt Oq lA va zG Iq jK zB Lw me kj OB mg vD C3 Ir j8 xX KA Kz Rq Bz Er fun Dy =>
 eS Dy jJ 13 Wz ve BG ∧
 eW Dy jJ z5 gk jg Io iy lz vg Rx nK qt Oq lA va zG Iq jK zB Lw me kj OB mg vD C3 Ir j8 xX KA Kz Rq Bz Er ∧
 rW Dy k5 fun XY =>
 K (.tuple #[(.agg (XY.toArray)), (.bool (IL == 0))]) Dy) Kp) Kp) Kp)
 (rI M6 k3 2 fun PK =>
 aO M6 ZK fun HA Td =>
 sT Td HA 0 (iV (IntKind.wrap .i64 (((Nat.bitwise and (BitVec.ofInt IntKind.i64.bits PK).toNat (BitVec.ofInt IntKind.i64.bits 65535).toNat) : Nat) : Int))) fun Xg =>
 aO Xg ZK fun z8 M78 =>
 sT M78 z8 0 (iV 0) fun XV =>
 rI XV k3 1 fun Hw =>
 rS XV k1 4 fun A81 FG C2 =>
 aM (decide (Hw ≥ 0))
 (∃ J84 : List Value → Mem → Prop, (aM (decide ((FG : Int) > 0))
 (∃ I85 : IT, (∃ ZY, I85 ZY [(iV Hw), (iV 0)] XV) ∧
 ∀ (Lq : Nat) (_ : Nat → Value) (HB : Int) (zF : Int) (ov : Mem), (I85 Lq [(iV HB), (iV zF)] ov) → aM (decide (zF < FG))
 (rI ov k3 1 fun Di =>
 ((FG : Int) ≠ 0) ∧
 rS ov k1 4 fun Xs Oy OF =>
 ((0 : Int) ≤ (Int.tmod (IntKind.wrap .i64 ((IntKind.wrap .i64 (((Nat.bitwise and (BitVec.ofInt IntKind.i64.bits Di).toNat (BitVec.ofInt IntKind.i64.bits 65535).toNat) : Nat) : Int)) + zF)) (FG : Int))) ∧
 (((Int.tmod (IntKind.wrap .i64 ((IntKind.wrap .i64 (((Nat.bitwise and (BitVec.ofInt IntKind.i64.bits Di).toNat (BitVec.ofInt IntKind.i64.bits 65535).toNat) : Nat) : Int)) + zF)) (FG : Int)) : Int) < (Oy : Int)) ∧
 aE Xs fun Tc Rv =>
 rI ov Tc (Rv + ((Int.toNat (Int.tmod (IntKind.wrap .i64 ((IntKind.wrap .i64 (((Nat.bitwise and (BitVec.ofInt IntKind.i64.bits Di).toNat (BitVec.ofInt IntKind.i64.bits 65535).toNat) : Nat) : Int)) + zF)) (FG : Int))) * 6)) fun n98 =>
 aM (n98 == 1)
 (J84 [(iV (Int.tmod (IntKind.wrap .i64 ((IntKind.wrap .i64 (((Nat.bitwise and (BitVec.ofInt IntKind.i64.bits Di).toNat (BitVec.ofInt IntKind.i64.bits 65535).toNat) : Nat) : Int)) + zF)) (FG : Int)))] ov)
 (∃ Rw : Nat, (Rw < Lq) ∧
 I85 Rw [(iV HB), (iV (IntKind.wrap .i64 (zF + 1)))] ov))
 (J84 [(iV HB)] ov))
 (J84 [(iV Hw)] XV)) ∧
 ∀ junk100 : Nat → Value, ∀ vE : Int, ∀ Dr : Mem, (J84 [(iV vE)] Dr) → ae Tryz.prog 41 #[(.pointer (some ⟨b0, o0, none⟩)), (iV vE), (.func (.func 77) #[] #[(.pointer (some ⟨z8, 0, none⟩)), (.pointer (some ⟨HA, 0, none⟩))])] Dr (fun Cg DA =>
 ∃ t105 : Bool, ∃ A106 : Option Addr, ∃ Am PR : Nat, (Cg = (.agg #[(.bool t105), (.slice A106 Am PR)])) ∧
 aO DA wW fun FI Jo =>
 Ws Jo FI (.bool t105) (.slice A106 Am PR) fun nL =>
 rW nL k1 fun l113 =>
 rI nL HA 0 fun FD =>
 ae Tryz.prog 78 #[(.agg (l113.toArray)), (iV vE), (iV FD)] nL (fun Ci DB =>
 ∃ l117 : List Value, ((l117.length) = 14) ∧
 ∃ t118 : Bool, (Ci = (.tuple #[(.agg (l117.toArray)), (.bool t118)])) ∧
 aO DB aL fun gS MQ =>
 dO MQ gS 0 l117 14 fun iY =>
 rB iY FI 0 fun t122 =>
 aM (t122 == t118)
 (rS iY FI 1 fun A123 TV IK =>
 rS iY gS 13 fun A126 PU LI =>
 lu iY gS 0 fun U3 DN DC U4 xp Cc xw MR GG oH GK yQ DD yU U5 DK MS IN BS F1 U6 Mo U7 yV Mt F3 yY Ck GJ U8 Ce Aj =>
 ae Tryz.prog 26 #[(.slice A123 TV IK), (.slice A126 PU LI)] iY (fun UE Qv =>
 bG (some UE) .i64 fun Ma =>
 eW Qv gS U3 DN DC U4 xp Cc xw MR GG oH GK yQ DD yU U5 DK MS IN BS F1 U6 Mo U7 yV Mt F3 yY Ck GJ U8 Ce Aj ∧
 aM (Ma == 0)
 (rI Qv z8 0 fun Jb =>
 tW2 Qv k5 U3 DN DC U4 xp Cc xw MR GG oH GK yQ DD yU U5 DK MS IN BS F1 U6 Mo U7 yV Mt F3 yY Ck GJ U8 Ce Aj fun Gi =>
 eI Gi z8 0 Jb ∧
 eW Gi gS U3 DN DC U4 xp Cc xw MR GG oH GK yQ DD yU U5 DK MS IN BS F1 U6 Mo U7 yV Mt F3 yY Ck GJ U8 Ce Aj ∧
 rW Gi k5 fun l166 =>
 K (.tuple #[(.agg (l166.toArray)), (.bool (decide (Jb < 2)))]) Gi)
 (tW2 Qv k5 U3 DN DC U4 xp Cc xw MR GG oH GK yQ DD yU U5 DK MS IN BS F1 U6 Mo U7 yV Mt F3 yY Ck GJ U8 Ce Aj fun Gj =>
 eW Gj gS U3 DN DC U4 xp Cc xw MR GG oH GK yQ DD yU U5 DK MS IN BS F1 U6 Mo U7 yV Mt F3 yY Ck GJ U8 Ce Aj ∧
 rW Gj k5 fun l168 =>
 K (.tuple #[(.agg (l168.toArray)), (.bool false)]) Gj)) Kp)
 (rS iY gS 0 fun QB Jn Jc =>
 rS iY gS 1 fun Jp BU Gs =>
 rI iY gS 2 fun MT =>
 rS iY gS 3 fun TX mX LK =>
 rS iY gS 4 fun A179 Ja U1 =>
 rU iY gS 5 fun Ak =>
 rS iY gS 6 fun A183 k184 Mq =>
 rS iY gS 7 fun A186 IQ U9 =>
 rS iY gS 8 fun A189 k190 Va =>
 rU iY gS 9 fun Mu =>
 rS iY gS 10 fun T0 Mv T3 =>
 rI iY gS 11 fun Mc =>
 rI iY gS 12 fun Gl =>
 rS iY gS 13 fun LR LS F6 =>
 eW iY gS QB Jn Jc Jp BU Gs MT TX mX LK A179 Ja U1 Ak A183 k184 Mq A186 IQ U9 A189 k190 Va Mu T0 Mv T3 Mc Gl LR LS F6 ∧
 tW2 iY k5 QB Jn Jc Jp BU Gs MT TX mX LK A179 Ja U1 Ak A183 k184 Mq A186 IQ U9 A189 k190 Va Mu T0 Mv T3 Mc Gl LR LS F6 fun Jk =>
 eW Jk gS QB Jn Jc Jp BU Gs MT TX mX LK A179 Ja U1 Ak A183 k184 Mq A186 IQ U9 A189 k190 Va Mu T0 Mv T3 Mc Gl LR LS F6 ∧
 rW Jk k5 fun l202 =>
 K (.tuple #[(.agg (l202.toArray)), (.bool false)]) Jk)) Kp) Kp)
 (∃ J203 : List Value → Mem → Prop, (J203 [(iV Hw)] XV) ∧
 ∀ junk204 : Nat → Value, ∀ Mw : Int, ∀ TA : Mem, (J203 [(iV Mw)] TA) → ae Tryz.prog 41 #[(.pointer (some ⟨b0, o0, none⟩)), (iV Mw), (.func (.func 77) #[] #[(.pointer (some ⟨z8, 0, none⟩)), (.pointer (some ⟨HA, 0, none⟩))])] TA (fun v207 M208 =>
 ∃ t209 : Bool, ∃ X7 : Option Addr, ∃ Qw Jf : Nat, (v207 = (.agg #[(.bool t209), (.slice X7 Qw Jf)])) ∧
 aO M208 wW fun T5 M214 =>
 Ws M214 T5 (.bool t209) (.slice X7 Qw Jf) fun M216 =>
 rW M216 k1 fun l217 =>
 rI M216 HA 0 fun T6 =>
 ae Tryz.prog 78 #[(.agg (l217.toArray)), (iV Mw), (iV T6)] M216 (fun v219 XM =>
 ∃ l221 : List Value, ((l221.length) = 14) ∧
 ∃ t222 : Bool, (v219 = (.tuple #[(.agg (l221.toArray)), (.bool t222)])) ∧
 aO XM aL fun lU Qx =>
 dO Qx lU 0 l221 14 fun lV =>
 rB lV T5 0 fun t226 =>
 aM (t226 == t222)
 (rS lV T5 1 fun A227 XH k229 =>
 rS lV lU 13 fun A230 k231 P9 =>
 lu lV lU 0 fun F9 BX BY Ga Gb BZ Gc Gd Ge IS Vb MU Gt yW B5 B6 DH Gf B7 B8 MV MW IU vX Vc MX Vd Mg Gp Ve Vf Vg =>
 ae Tryz.prog 26 #[(.slice A227 XH k229), (.slice A230 k231 P9)] lV (fun Uq uU =>
 bG (some Uq) .i64 fun n267 =>
 eW uU lU F9 BX BY Ga Gb BZ Gc Gd Ge IS Vb MU Gt yW B5 B6 DH Gf B7 B8 MV MW IU vX Vc MX Vd Mg Gp Ve Vf Vg ∧
 aM (n267 == 0)
 (rI uU z8 0 fun IX =>
 tW2 uU k5 F9 BX BY Ga Gb BZ Gc Gd Ge IS Vb MU Gt yW B5 B6 DH Gf B7 B8 MV MW IU vX Vc MX Vd Mg Gp Ve Vf Vg fun Yq =>
 eI Yq z8 0 IX ∧
 eW Yq lU F9 BX BY Ga Gb BZ Gc Gd Ge IS Vb MU Gt yW B5 B6 DH Gf B7 B8 MV MW IU vX Vc MX Vd Mg Gp Ve Vf Vg ∧
 rW Yq k5 fun l270 =>
 K (.tuple #[(.agg (l270.toArray)), (.bool (decide (IX < 2)))]) Yq)
 (tW2 uU k5 F9 BX BY Ga Gb BZ Gc Gd Ge IS Vb MU Gt yW B5 B6 DH Gf B7 B8 MV MW IU vX Vc MX Vd Mg Gp Ve Vf Vg fun M271 =>
 eW M271 lU F9 BX BY Ga Gb BZ Gc Gd Ge IS Vb MU Gt yW B5 B6 DH Gf B7 B8 MV MW IU vX Vc MX Vd Mg Gp Ve Vf Vg ∧
 rW M271 k5 fun l272 =>
 K (.tuple #[(.agg (l272.toArray)), (.bool false)]) M271)) Kp)
 (rS lV lU 0 fun A273 T8 k275 =>
 rS lV lU 1 fun A276 k277 k278 =>
 rI lV lU 2 fun U2 =>
 rS lV lU 3 fun A280 k281 k282 =>
 rS lV lU 4 fun A283 k284 k285 =>
 rU lV lU 5 fun TI =>
 rS lV lU 6 fun A287 X8 k289 =>
 rS lV lU 7 fun A290 UI k292 =>
 rS lV lU 8 fun UJ UK UL =>
 rU lV lU 9 fun Mi =>
 rS lV lU 10 fun A297 UM k299 =>
 rI lV lU 11 fun Mj =>
 rI lV lU 12 fun Mk =>
 rS lV lU 13 fun A302 Jl k304 =>
 eW lV lU A273 T8 k275 A276 k277 k278 U2 A280 k281 k282 A283 k284 k285 TI A287 X8 k289 A290 UI k292 UJ UK UL Mi A297 UM k299 Mj Mk A302 Jl k304 ∧
 tW2 lV k5 A273 T8 k275 A276 k277 k278 U2 A280 k281 k282 A283 k284 k285 TI A287 X8 k289 A290 UI k292 UJ UK UL Mi A297 UM k299 Mj Mk A302 Jl k304 fun Qd =>
 eW Qd lU A273 T8 k275 A276 k277 k278 U2 A280 k281 k282 A283 k284 k285 TI A287 X8 k289 A290 UI k292 UJ UK UL Mi A297 UM k299 Mj Mk A302 Jl k304 ∧
 rW Qd k5 fun l306 =>
 K (.tuple #[(.agg (l306.toArray)), (.bool false)]) Qd)) Kp) Kp))) :
 ae Tryz.prog 38 #[.pointer (some ⟨b0, o0, none⟩), .agg y1.toArray, .agg #[.bool q2_0, .int .i64 rH, .int .i64 oD]] M K Kp := vw [(3, .bH [0, 0, 2, 0, 8, 30, 62, 63, 255] (sy [1, 3] (.cS 0 (.cS 4 (sy [2, 5, 6, 7, 8] .done))))), (3000042, .cut [(11, .c (.int .i64))]), (2000000, .loop [(11, .c (.int .i64)), (44, .c (.int .i64))]), (18, .bH [0, 0, 2, 0, 14, 30, 62, 126, 62, 318, 1022, 2046, 4094, 8190, 16382, 32766, 65534, 16383, 262143] (sy [1, 3, 2, 4, 5, 6, 8, 7, 9] (.cS 0 (sy [10, 11, 12, 13] (.cS 14 (sy [15, 16, 17, 18] .done))))))] Tryz.func38 h
theorem pO {x0 : Int} {x1 : Int} {b2 o2 : Nat} {b3 o3 : Nat} (h :
rI M b2 o2 fun n1 =>
sT M b2 o2 (iV (IntKind.wrap .i64 (n1 + 1))) fun M2 =>
rI M2 b3 o3 fun n3 =>
(((if (1 : Int) > x1 then 1 else x1) : Int) ≠ 0) ∧
K (iV (Int.tmod n3 (if (1 : Int) > x1 then 1 else x1))) M2) :
 ae Tryz.prog 77 #[.int .i64 x0, .int .i64 x1, .pointer (some ⟨b2, o2, none⟩), .pointer (some ⟨b3, o3, none⟩)] M K Kp := vw [] Tryz.func77 h
end Go.Proofs
namespace Go.Proofs
open Go.AF
set_option maxRecDepth 100000
theorem qH  {M : Mem} {K : Value → Mem → Prop} {Kp : List PanicEntry → Mem → Prop} (h :
aO M (cl [(iV 20), (iV 0), (iV 0), (iV 0), (iV 10), (iV 0), (iV 0), (iV 0)] 34) fun k1 M2 =>
aO M2 (cl [(.slice (some ⟨k1, 0, none⟩) 2 2)] 31) fun k3 M4 =>
ae Tryz.prog 36 #[(.agg #[(.slice (some ⟨k3, 0, none⟩) 1 1), (.slice none 0 0), (iV 0), (.slice none 0 0)])] M4 (fun v5 M6 =>
dP (some v5) fun A7 =>
aM (Option.isNone A7)
 (K (.bool false) M6)
 (ae Tryz.prog 41 #[(.pointer A7), (iV 0), (.func (.func 68) #[] #[])] M6 (fun v8 M9 =>
 ∃ t10 : Bool, ∃ FO : Option Addr, ∃ gI eu : Nat, (v8 = (.agg #[(.bool t10), (.slice FO gI eu)])) ∧
 ae Tryz.prog 41 #[(.pointer A7), (iV 0), (.func (.func 68) #[] #[])] M9 (fun Xn Dt =>
 ∃ t16 : Bool, ∃ AI : Option Addr, ∃ fq jH : Nat, (Xn = (.agg #[(.bool t16), (.slice AI fq jH)])) ∧
 aO Dt wW fun fV jI =>
 aO jI wW fun gi mD =>
 Ws mD fV (.bool t10) (.slice FO gI eu) fun qo =>
 Ws qo gi (.bool t16) (.slice AI fq jH) fun ng =>
 ae Tryz.prog 60 #[(.pointer A7)] ng (fun PM pG =>
 ∃ xl ry : Int, (PM = (.tuple #[(iV xl), (iV ry)])) ∧
 ae Tryz.prog 22 #[(.pointer A7)] pG (fun v32 uf =>
 aF (some v32) fun Et kD nK =>
 rB uf fV 0 fun t37 =>
 aM t37
 (rB uf gi 0 fun t38 =>
 aM (!t38)
 (aM (xl == 1)
 (aM ((kD : Int) == 1)
 (((0 : Int) ≤ 0) ∧
 ((0 : Int) < kD) ∧
 aE Et fun lA va =>
 rI uf lA (va + 0) fun zG =>
 aM (zG == 0)
 (ae Tryz.prog 65 #[(.pointer A7), (iV 0)] uf (fun v42 xd =>
 bG (some v42) .i64 fun yL =>
 K (.bool (yL == 4)) xd) Kp)
 (K (.bool false) uf))
 (K (.bool false) uf))
 (K (.bool false) uf))
 (K (.bool false) uf))
 (K (.bool false) uf)) Kp) Kp) Kp) Kp)) Kp) :
 ae Tryz.prog 34 #[] M K Kp := vw [] Tryz.func34 h
theorem qI {x0 : Int} {x1 : Int} {M : Mem} {K : Value → Mem → Prop} {Kp : List PanicEntry → Mem → Prop} (h :
Kp [{ v := (.iface 9 (.string ({ data := #[100, 114, 121] }))), recovered := false }] M) :
 ae Tryz.prog 80 #[.int .i64 x0, .int .i64 x1] M K Kp := vw [] Tryz.func80 h
theorem nN {iR : Option Addr} {iS iT : Nat} {iU : Option Addr} {iW iX : Nat} {kT : Int} {jS : Option Addr} {jT jU : Nat} {B1 : Option Addr} {m1 c1 : Nat} {M : Mem} {K : Value → Mem → Prop} {Kp : List PanicEntry → Mem → Prop} (h :
aO M (cl [(.slice iR iS iT), (.slice iU iW iX), (iV kT), (.slice jS jT jU)] 73) fun k1 M2 =>
ae Tryz.prog 34 #[] M2 (fun v3 M4 =>
dF (some v3) fun t5 =>
aM (!t5)
 (K (.bool false) M4)
 (rS M4 k1 0 fun A6 k7 k8 =>
 rS M4 k1 1 fun A9 eB eo =>
 rI M4 k1 2 fun hG =>
 rS M4 k1 3 fun zA fB jy =>
 ae Tryz.prog 35 #[(.agg #[(.slice A6 k7 k8), (.slice A9 eB eo), (iV hG), (.slice zA fB jy)])] M4 (fun IC mW =>
 ∃ Lt : Option Addr, ∃ jH fV : Nat, ∃ CZ : Option Addr, ∃ gi gN : Nat, ∃ qg : Int, ∃ CY : Option Addr, ∃ gM kK : Nat, (IC = (.agg #[(.slice Lt jH fV), (.slice CZ gi gN), (iV qg), (.slice CY gM kK)])) ∧
 aO mW yx fun gV pG =>
 mB pG gV (.slice Lt jH fV) (.slice CZ gi gN) (iV qg) (.slice CY gM kK) fun uf =>
 Bt uf gV 0 fun Et kD nK yM fE lA ni Ld jC jK =>
 Bt uf gV 0 fun AJ wI me OE xZ mg Aa CX pI j8 =>
 (True) ∧
 ae Tryz.prog 29 #[(.agg #[(.slice Et kD nK), (.slice yM fE lA), (iV ni), (.slice Ld jC jK)])] uf (fun Ti FM =>
 ∃ WB : Option Addr, ∃ vH Bz : Nat, ∃ A59 : Option Addr, ∃ Lm ve : Nat, ∃ WE : Int, ∃ ZX : Option Addr, ∃ WC Oz : Nat, (Ti = (.agg #[(.slice WB vH Bz), (.slice A59 Lm ve), (iV WE), (.slice ZX WC Oz)])) ∧
 ((Mem.fX FM ⟨gV, 0, none⟩ 0 4) = some [(.slice AJ wI me), (.slice OE xZ mg), (iV Aa), (.slice CX pI j8)]) ∧
 (True) ∧
 ae Tryz.prog 36 #[(.agg #[(.slice WB vH Bz), (.slice A59 Lm ve), (iV WE), (.slice ZX WC Oz)])] FM (fun Ud S2 =>
 dP (some Ud) fun WI =>
 ((Mem.fX S2 ⟨gV, 0, none⟩ 0 4) = some [(.slice AJ wI me), (.slice OE xZ mg), (iV Aa), (.slice CX pI j8)]) ∧
 (True) ∧
 ae Tryz.prog 37 #[(.agg #[(.slice AJ wI me), (.slice OE xZ mg), (iV Aa), (.slice CX pI j8)])] S2 (fun Lx Ry =>
 xW Lx fun v71 XU XZ Ym SX Te Uf Ug LC Qm Uh Qn Ui PX =>
 ((Mem.fX Ry ⟨gV, 0, none⟩ 0 4) = some [(.slice AJ wI me), (.slice OE xZ mg), (iV Aa), (.slice CX pI j8)]) ∧
 aO Ry aL fun Ow ZO =>
 dO ZO Ow 0 [v71, XU, XZ, Ym, SX, Te, Uf, Ug, LC, Qm, Uh, Qn, Ui, PX] 14 fun OG =>
 ((Mem.fX OG ⟨gV, 0, none⟩ 0 4) = some [(.slice AJ wI me), (.slice OE xZ mg), (iV Aa), (.slice CX pI j8)]) ∧
 ∃ J88 : List Value → Mem → Prop, (∃ I89 : IT, (∃ Xh, I89 Xh [(iV 0)] OG) ∧
 ∀ (Ox : Nat) (_ : Nat → Value) (Dz : Int) (S4 : Mem), (I89 Ox [(iV Dz)] S4) → aM (decide (Dz < m1))
 (aM (decide (Dz < 40))
 ((0 ≤ Dz) ∧
 (Dz < m1) ∧
 aE B1 fun OF Tc =>
 rW S4 Ow fun l97 =>
 rBII S4 OF (Tc + ((Int.toNat Dz) * 3)) fun t98 XA yD =>
 ae Tryz.prog 38 #[(.pointer WI), (.agg (l97.toArray)), (.agg #[(.bool t98), (iV XA), (iV yD)])] S4 (fun FH Dr =>
 ∃ UZ : List Value, ((UZ.length) = 14) ∧
 ∃ t104 : Bool, (FH = (.tuple #[(.agg (UZ.toArray)), (.bool t104)])) ∧
 dO Dr Ow 0 UZ 14 fun Xt =>
 ∃ z6 : Nat, (z6 < Ox) ∧
 I89 z6 [(iV (IntKind.wrap .i64 (Dz + 1)))] Xt) Kp)
 (J88 [] S4))
 (J88 [] S4)) ∧
 ∀ junk107 : Nat → Value, ∀ Gu : Mem, (J88 [] Gu) → rS Gu Ow 4 fun A109 Tj Xj =>
 ∃ I112 : IT, (∃ FU, I112 FU [(iV 0)] Gu) ∧
 ∀ (Du : Nat) (_ : Nat → Value) (uT : Int) (Qz : Mem), (I112 Du [(iV uT)] Qz) → aM (decide (uT < Tj))
 (∃ GL : List Value → Mem → Prop, ((0 ≤ uT) ∧
 (uT < Tj) ∧
 aE A109 fun gS Ds =>
 gy Qz gS (Ds + ((Int.toNat uT) * 6)) fun LH A122 IM TV yS Mn Mr lD =>
 aO Qz fM fun uN Ae =>
 Rm Ae uN (iV LH) (.slice A122 IM TV) (iV yS) (iV Mn) (iV Mr) (iV lD) fun DO =>
 rI DO uN 0 fun xu =>
 aM (xu != 1)
 (GL [] DO)
 (rI DO Ow 11 fun Ai =>
 aM (Ai != 0)
 (GL [] DO)
 (rS DO uN 1 fun GK yQ DD =>
 rS DO uN 1 fun XQ F0 DK =>
 ((0 : Int) ≤ (IntKind.wrap .i64 ((F0 : Int) - 1))) ∧
 (((IntKind.wrap .i64 ((F0 : Int) - 1)) : Int) < (yQ : Int)) ∧
 aE GK fun MS QA =>
 aU DO MS (QA + ((Int.toNat (IntKind.wrap .i64 ((F0 : Int) - 1))) * 11)) fun n147 n148 n149 U0 Ts yV Gh Tt LZ Ck GJ =>
 aO DO cM fun lT Qb =>
 ou Qb lT (iV n147) (iV n148) (iV n149) (iV U0) (iV Ts) (iV yV) (iV Gh) (iV Tt) (iV LZ) (iV Ck) (iV GJ) fun y6 =>
 rI y6 lT 1 fun Tv =>
 rS y6 gV 0 fun Jp BU Gs =>
 rI y6 lT 0 fun MT =>
 (0 ≤ MT) ∧
 (MT < BU) ∧
 aE Jp fun k176 mX =>
 rS y6 k176 (mX + (Int.toNat MT)) fun A178 F5 Ja =>
 aM (decide (Tv ≥ F5))
 (GL [] y6)
 (rS y6 gV 0 fun LL LM P4 =>
 rI y6 lT 0 fun rZ =>
 (0 ≤ rZ) ∧
 (rZ < LM) ∧
 aE LL fun Mq LO =>
 rS y6 Mq (LO + (Int.toNat rZ)) fun A187 U9 k189 =>
 rI y6 lT 1 fun BV =>
 (0 ≤ BV) ∧
 (BV < U9) ∧
 aE A187 fun Va P5 =>
 rI y6 Va (P5 + ((Int.toNat BV) * 4)) fun Yp =>
 aM (Yp != 16)
 (aM (Yp != 21)
 (GL [] y6)
 (ae Tryz.prog 39 #[(.pointer WI), (iV uT)] y6 (fun UG Cf =>
 dF (some UG) fun t196 =>
 aM t196
 (rW Cf Ow fun l197 =>
 ae Tryz.prog 40 #[(.pointer WI), (.agg (l197.toArray))] Cf (fun UH Cl =>
 bG (some UH) .i64 fun Ty =>
 aM (Ty != 0)
 (K (.bool false) Cl)
 (aM (!t196)
 (rS Cl gV 0 fun A201 k202 k203 =>
 rI Cl lT 0 fun F7 =>
 (0 ≤ F7) ∧
 (F7 < k202) ∧
 aE A201 fun k205 To =>
 rS Cl k205 (To + (Int.toNat F7)) fun A207 X6 k209 =>
 rI Cl lT 1 fun BW =>
 (0 ≤ BW) ∧
 (BW < X6) ∧
 aE A207 fun Qw Jf =>
 rI Cl Qw (Jf + ((Int.toNat BW) * 4)) fun Gm =>
 K (.bool (Gm == 16)) Cl)
 (GL [] Cl))) Kp)
 (aM (!t196)
 (rS Cf gV 0 fun A214 k215 XR =>
 rI Cf lT 0 fun P7 =>
 (0 ≤ P7) ∧
 (P7 < k215) ∧
 aE A214 fun k218 k219 =>
 rS Cf k218 (k219 + (Int.toNat P7)) fun A220 k221 k222 =>
 rI Cf lT 1 fun Me =>
 (0 ≤ Me) ∧
 (Me < k221) ∧
 aE A220 fun k224 XG =>
 rI Cf k224 (XG + ((Int.toNat Me) * 4)) fun TB =>
 K (.bool (TB == 16)) Cf)
 (GL [] Cf))) Kp))
 (ae Tryz.prog 39 #[(.pointer WI), (iV uT)] y6 (fun v227 xC =>
 dF (some v227) fun t229 =>
 aM t229
 (rW xC Ow fun l230 =>
 ae Tryz.prog 40 #[(.pointer WI), (.agg (l230.toArray))] xC (fun v231 Ca =>
 bG (some v231) .i64 fun Ah =>
 aM (Ah != 0)
 (K (.bool false) Ca)
 (aM (!t229)
 (rS Ca gV 0 fun A234 BY k236 =>
 rI Ca lT 0 fun An =>
 (0 ≤ An) ∧
 (An < BY) ∧
 aE A234 fun BZ k239 =>
 rS Ca BZ (k239 + (Int.toNat An)) fun Gd Ge IS =>
 rI Ca lT 1 fun Gn =>
 (0 ≤ Gn) ∧
 (Gn < Ge) ∧
 aE Gd fun MU Gt =>
 rI Ca MU (Gt + ((Int.toNat Gn) * 4)) fun yW =>
 K (.bool (yW == 16)) Ca)
 (GL [] Ca))) Kp)
 (aM (!t229)
 (rS xC gV 0 fun B5 B6 DH =>
 rI xC lT 0 fun n250 =>
 (0 ≤ n250) ∧
 (n250 < B6) ∧
 aE B5 fun B7 B8 =>
 rS xC B7 (B8 + (Int.toNat n250)) fun MV MW IU =>
 rI xC lT 1 fun vX =>
 (0 ≤ vX) ∧
 (vX < MW) ∧
 aE MV fun k257 MX =>
 rI xC k257 (MX + ((Int.toNat vX) * 4)) fun n259 =>
 K (.bool (n259 == 16)) xC)
 (GL [] xC))) Kp))))) ∧
 ∀ junk260 : Nat → Value, ∀ T7 : Mem, (GL [] T7) → ∃ k262 : Nat, (k262 < Du) ∧
 I112 k262 [(iV (IntKind.wrap .i64 (uT + 1)))] T7)
 (K (.bool true) Qz)) Kp) Kp) Kp) Kp)) Kp) :
 ae Tryz.prog 9 #[.agg #[.slice iR iS iT, .slice iU iW iX, .int .i64 kT, .slice jS jT jU], .slice B1 m1 c1] M K Kp := vw [(4, .bH [0, 1, 3, 0, 15, 0, 63, 127] (sy [0] (.cS 3 (.late 1 (.late 2 (.late 4 (sy [5, 6, 7] .done))))))), (1000000, .cut []), (2000000, .loop [(8, .c (.int .i64))]), (8, .bH [0, 0, 0, 0, 12, 28, 63, 127, 255, 255, 511] (sy [0, 2, 3, 4, 1, 5, 6, 7, 8, 9, 10] .done)), (2000002, .loop [(46, .c (.int .i64))]), (1000003, .cut []), (14, .bH [0, 1, 0, 4, 0, 16, 60, 124, 252, 511] (sy [0, 2, 4, 1, 3, 5, 6, 7, 8, 9] .done)), (15, .bH [0, 1, 0, 4, 15, 31, 0, 64, 255, 511, 1023, 2047] (sy [0, 2, 6, 1, 3, 4, 5, 7, 8, 9, 10, 11] .done)), (21, .bH [0, 1, 0, 4, 15, 31, 0, 64, 255, 511, 1023, 2047, 4095] (sy [0, 2, 6, 1, 3, 4, 5, 7, 8, 9, 10, 11, 12] .done))] Tryz.func9 h
end Go.Proofs
